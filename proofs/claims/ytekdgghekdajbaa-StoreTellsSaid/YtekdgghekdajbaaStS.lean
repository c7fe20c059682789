/- DERIVED. Layer 10 (store): the document's store: contract of Put, the way on which a packet is put. -/
import Derived.Test.YtekdgghekdajbaaStR
set_option linter.unusedVariables false
set_option linter.unusedSimpArgs false
set_option maxRecDepth 100000
namespace Go.Proofs.Ytekdgghekdajbaa.St
open Go.RowKit Go.Proofs.Ytekdgghekdajbaa Go.Proofs.Ytekdgghekdajbaa.Ar
section
variable {P : Program} {ops : Array Oper} {o : Oper} {a : Act} {Q : Exit → Act → World → Prop}
/-- append of a row that lies anywhere, in a region that draws its order -/
theorem step_app_RR {E : Prop} {K : Act → World → Prop} (w : World) (hgd : o.guard = none) (s x : Operand) (t e : TypeId) (z : Value) (size bytes : Nat)
    (ho : o.op = .call { callee := .builtin .append, args := #[s, x], argTypes := #[t, t] })
    (ht : P.underlying t = some (.slice e)) (hinfo : (P.info? e).map (fun i => (i.zero, i.size, i.bytes)) = some (some z, size, bytes)) (hz : z.cells.size = size) (hs0 : 0 < size)
    (v1 : Value) (n : Nat) (xs : List Value) (hs : a.eval s = v1) (HO : ownsR w e size v1 n xs) (v2 : Value) (m : Nat) (ys : List Value) (hx : a.eval x = v2) (hv : ownsR w e size v2 m ys) (h1 : ∀ u ∈ ys, u.oneCell' = true)
    (hl : n + m ≤ maxLen) (hl2 : (n + m) * bytes ≤ 140737488355328)
    (h : ∀ v3 w1, ownsR w1 e size v3 (n + m) (xs ++ ys) → w.grownBy w1 v1.ownBlock → Moved w v1 v3 → K (a.put o.dst v3) w1) :
    if Region.wanted o (yielded ops a.tmps) = true then Oper.wp P o a w K Q else E := by
  have hv' := hv
  rcases hv.2 with ⟨rfl, rfl⟩ | ⟨g, cap, cur, rfl, hg, hnc, hcm, hcs, htake⟩
  · have hys : ys = [] := List.eq_nil_of_length_eq_zero (by simpa using hv.1)
    subst hys
    have hw : Region.wanted o (yielded ops a.tmps) = true := by simp [Region.wanted, hgd]
    rw [if_pos hw]
    obtain ⟨i0, hi, hzz⟩ := Option.map_eq_some_iff.1 hinfo
    have hr : (Builtin.append_ #[t, t] o.type #[v1, .slice none 0 0]).run P w = .ok v1 w := by
      rcases HO.2 with ⟨rfl, rfl⟩ | ⟨g, cap, cur, rfl, hg, hnc, hcm, hcs, htake⟩
      · simp [Builtin.append_, run_underlying ht, sizeOf, typeInfo, hi, Builtin.lenOf, Builtin.firstCells, loadCells, loadCellsFrom]
      · simp [Builtin.append_, run_underlying ht, sizeOf, typeInfo, hi, Builtin.lenOf, Builtin.firstCells, loadCells, loadCellsFrom, hnc, storeCells]
    unfold Oper.wp execOp
    simp only [ho, resolve, invoke, builtin, Sem.run_bind, Sem.run_pure, Result.andThen_ok, List.map_toArray, List.map_cons, List.map_nil, hs, hx, hr]
    refine h _ _ ?_ ⟨rfl, rfl, rfl, Nat.le_refl _, fun _ _ _ => rfl⟩ (.inl rfl)
    rw [List.append_nil, Nat.add_zero]
    exact HO
  · exact step_app_R w hgd s x t e z size bytes ho ht hinfo hz hs0 _ n xs hs ⟨g, 0, none⟩ m cap ys hx hv.1 (fun j u hj => by rw [add_plain]; exact (hv'.cells rfl j u hj).1) h1 HO hl hl2 h
end
theorem o8c_one (h : Int) (k c len pr at_ nx now : Int) : ∀ u ∈ ([.int .u64 h, .int .u64 k, .int .u64 c, .int .i64 len, .int .u8 pr, .int .u64 at_, .int .u64 nx, .int .u64 now] : List Value), u.oneCell' = true := by
  intro u hu
  simp only [List.mem_cons, List.not_mem_nil, or_false] at hu
  rcases hu with rfl | rfl | rfl | rfl | rfl | rfl | rfl | rfl <;> rfl
section
variable {ops : Array Oper} {o : Oper} {a : Act} {Q : Exit → Act → World → Prop} {E' : Prop} {K : Act → World → Prop}
theorem _root_.Go.Proofs.Ytekdgghekdajbaa.Own.eighth {P0 P1 P2 P3 P4 P5 P6 P7 : HP} {l : List HP} {w : World} (h : Own (P0 :: P1 :: P2 :: P3 :: P4 :: P5 :: P6 :: P7 :: l) w) : Own (P7 :: P0 :: P1 :: P2 :: P3 :: P4 :: P5 :: P6 :: l) w := Own.re 8 [7, 0, 1, 2, 3, 4, 5, 6] rfl h
theorem st_first (W : World) (hgd : o.guard = none) (ho : o.op = .call { callee := .builtin .append, args := #[.tmp 29, .tmp 31], argTypes := #[77, 77] }) (k : Nat) (hs : a.eval (.tmp 29) = .slice (some ⟨k, 0, none⟩) 0 0) {aL : Option Addr} {n cL : Nat} {E : List HE} (hx : a.eval (.tmp 31) = .slice aL n cL) {L' : List HP} (h : Own (RowR 106 8 (.slice (some ⟨k, 0, none⟩) 0 0) 0 [] :: L') W) (hD : ownsR W 106 8 (.slice aL n cL) n (E.flatMap o8)) (bn : n ≤ 60000)
    (hK : ∀ x5 k5 w1, Own (DH (.slice x5 n k5) n E :: L') w1 → K (a.put o.dst (.slice x5 n k5)) w1) : if Region.wanted o (yielded ops a.tmps) = true then Oper.wp Try.prog o a W K Q else E' := by
  refine step_app_RR W hgd (.tmp 29) (.tmp 31) _ _ _ 8 64 ho Try.underlying77 infoOne rfl (by omega) _ 0 [] hs h.rowR _ n (E.flatMap o8) hx hD (o8_one E) (by simp only [maxLen]; omega) (by omega) ?_
  intro v5 w5 hown hgrow hmv
  rw [Nat.zero_add, List.nil_append] at hown
  obtain ⟨x5, k5, rfl⟩ := hown.slice
  exact hK _ _ _ (h.rowRGrown hown rfl hgrow hmv)
/-- one more, behind the copy -/
theorem st_second (W : World) (hgd : o.guard = none) (ho : o.op = .call { callee := .builtin .append, args := #[.tmp 32, .tmp 40], argTypes := #[77, 77] }) {x5 : Option Addr} {n k5 : Nat} {E : List HE} (hs : a.eval (.tmp 32) = .slice x5 n k5) {L' : List HP} (h : Own (DH (.slice x5 n k5) n E :: L') W) (kk : Nat) (hx : a.eval (.tmp 40) = .slice (some ⟨kk, 0, none⟩) 1 1) (p : HE) (hD : W.heap[kk]? = some (.cells (o8 p).toArray 106 (0, 0))) (bn : n ≤ 60000)
    (hK : ∀ x6 k6 w1, Own (DH (.slice x6 (n + 1) k6) (n + 1) (E ++ [p]) :: L') w1 → K (a.put o.dst (.slice x6 (n + 1) k6)) w1) : if Region.wanted o (yielded ops a.tmps) = true then Oper.wp Try.prog o a W K Q else E' := by
  refine step_app_R W hgd (.tmp 32) (.tmp 40) _ _ _ 8 64 ho Try.underlying77 infoOne rfl (by omega) _ n (E.flatMap o8) hs ⟨kk, 0, none⟩ 1 1 (o8 p) hx rfl (by simpa using World.news_of_block (cs := (o8 p).toArray) (t := 106) (fr := (0, 0)) hD) (o8c_one _ _ _ _ _ _ _ _) h.rowR (by simp only [maxLen]; omega) (by omega) ?_
  intro v6 w6 hown hgrow hmv
  have e : E.flatMap o8 ++ o8 p = (E ++ [p]).flatMap o8 := by rw [List.flatMap_append]; simp
  rw [e] at hown
  obtain ⟨x6, k6, rfl⟩ := hown.slice
  exact hK _ _ _ (h.rowRGrown hown rfl hgrow hmv)
end
section
variable {N : Nat} {X : A} {v1 v2 v3 vL : Value} {r : Nat} {nx : Int} {n : Nat} {E : List HE} {l : List HP} {w : World}
set_option maxHeartbeats 8000000 in
theorem rsput_ok (h : Own (RT X v1 :: RB X v2 :: RK X v3 :: DH vL n E :: l) w) (hL : E.length = n) (bn : n ≤ 60000) (ho : Ok N X) (hN : N < 4294967294) (hr : r = X.room) (hu : X.used < X.room) (k c len pr at_ now : Int) (hb : bad len pr = false) (n0 : 0 ≤ nx) (n1 : nx ≤ 100000000000) :
    Calls Try.prog 36 #[sv v1 v2 v3 r vL nx, pk k c len pr at_, .int .u64 now] w fun e w' => ∃ u1 u2 u3 uL, e = .returned (.tuple #[sv u1 u2 u3 r uL (nx + 1), .int .u64 ((hdl (tk X) (tq X) : Nat) : Int), .int .i64 0]) ∧ Own (RT (tk X) u1 :: RB (tk X) u2 :: RK (tk X) u3 :: DH uL (n + 1) (E ++ [(hdl (tk X) (tq X), ⟨k, c, len, pr, at_, nx, now⟩)]) :: l) w' := by
  obtain ⟨a1, c1, rfl⟩ := h.rowR.slice
  obtain ⟨a2, c2, rfl⟩ := h.swap.rowR.slice
  obtain ⟨a3, c3, rfl⟩ := h.third.rowR.slice
  obtain ⟨aL, cL, rfl⟩ := h.fourth.rowR.slice
  obtain ⟨b, hb0⟩ : ∃ b, w.heap.size = b := ⟨_, rfl⟩
  obtain ⟨W1, hW1, hs1, h1⟩ := boxN h hb0 #[.slice a1 X.st.length c1, .slice a2 X.st.length c2, .slice a3 X.bk.length c3, .int .i64 (r : Int), .slice aL n cL, .int .u64 nx] 79
  obtain ⟨W2, hW2, hs2, h2⟩ := boxN h1 hs1 #[.int .u64 k, .int .u64 c, .int .i64 len, .int .u8 pr, .int .u64 at_] 69
  obtain ⟨W3, hW3, hs3, h3⟩ := boxN h2 hs2 #[nilv, nilv, nilv, .int .i64 0, nilv, .int .u64 0] 79
  obtain ⟨p0, p1, p2, p3, p4⟩ := Own.blk5 h3 (b := b + 1) (x := .int .u64 k) (y := .int .u64 c) (z := .int .i64 len) (u := .int .u8 pr) (t' := .int .u64 at_) (t := 69) (.tail _ (.head _))
  obtain ⟨LX, hLX⟩ : ∃ LX, LX = DH (.slice aL n cL) n E :: BZ (b + 1 + 1) :: BP (b + 1) k c len pr at_ :: BS b (.slice a1 X.st.length c1) (.slice a2 X.st.length c2) (.slice a3 X.bk.length c3) (r : Int) (.slice aL n cL) nx :: l := ⟨_, rfl⟩
  have h4 : Own (RT X (.slice a1 X.st.length c1) :: RB X (.slice a2 X.st.length c2) :: RK X (.slice a3 X.bk.length c3) :: LX) W3 := by
    rw [hLX]; exact Own.re 7 [3, 4, 5, 6, 0, 1, 2] rfl h3
  have HM := Lib.hid (rmay_any h4 k c len pr at_)
  rw [hb] at HM
  obtain ⟨Y, hY⟩ : ∃ Y, Y = tk X := ⟨_, rfl⟩
  obtain ⟨K, hK⟩ : ∃ K, K = hdl (tk X) (tq X) := ⟨_, rfl⟩
  have hne : ¬ X.used = X.room := by omega
  have HTK : Hid (∀ W, Own (RT X (.slice a1 X.st.length c1) :: RB X (.slice a2 X.st.length c2) :: RK X (.slice a3 X.bk.length c3) :: LX) W → Calls Try.prog 23 #[.agg #[.slice a1 X.st.length c1, .slice a2 X.st.length c2, .slice a3 X.bk.length c3, .int .i64 (r : Int)]] W fun e w' => ∃ u1 d1 u2 d2 u3 d3, e = .returned (.tuple #[.agg #[.slice u1 Y.st.length d1, .slice u2 Y.st.length d2, .slice u3 Y.bk.length d3, .int .i64 (r : Int)], .int .u64 (K : Int), .int .i64 0]) ∧ Own (RT Y (.slice u1 Y.st.length d1) :: RB Y (.slice u2 Y.st.length d2) :: RK Y (.slice u3 Y.bk.length d3) :: LX) w') := Lib.hid fun W hW => by
    have hc := rtake_any hW ho hN
    rw [← hr] at hc
    refine hc.mono ?_
    rintro e w' ⟨u1, u2, u3, rfl, h5⟩
    have e1 : tkH X = K := by unfold tkH; rw [if_neg hne, hK]
    have e2 : tkE X = 0 := by unfold tkE; rw [if_neg hne]
    have e3 : tkA X = Y := by unfold tkA; rw [if_neg hne, hY]
    have e4 : Y.room = r := by rw [hY, hr]; rfl
    rw [e1, e2, e3, e4]
    rw [e3] at h5
    obtain ⟨x1, y1, rfl⟩ := h5.rowR.slice
    obtain ⟨x2, y2, rfl⟩ := h5.swap.rowR.slice
    obtain ⟨x3, y3, rfl⟩ := h5.third.rowR.slice
    exact ⟨_, _, _, _, _, _, rfl, h5⟩
  rw [← hK, ← hY]
  have HLX := Lib.hid hLX
  have HB := Lib.hid hb0
  have HW1 := Lib.hid hW1
  have HW2 := Lib.hid hW2
  have HW3 := Lib.hid hW3
  have HL := Lib.hid hL
  clear h h1 h2 h3 h4 hb hb0 hW1 hW2 hW3 hs1 hs2 hs3 hLX ho hr hu hN hne hY hK hL
  go_enter Try.func36, Try.ntmps36
  go_upto_region 1 with fail
  rw [HB.out, HW1.out, HW2.out, HW3.out]
  clear HB HW1 HW2 HW3
  go_wp2_with fail
  (with_reducible refine (HM.out).mono ?_)
  rintro e w4 ⟨rfl, h4⟩
  have H4 := Lib.hid h4
  rw [HLX.out] at h4
  obtain ⟨c0, c1', c2', c3', c4, c5, -⟩ := bs_cells (b := b) (v1 := .slice a1 X.st.length c1) (v2 := .slice a2 X.st.length c2) (v3 := .slice a3 X.bk.length c3) (r := (r : Int)) (vL := .slice aL n cL) (nx := nx) h4 (by simp)
  clear h4 HM p0 p1 p2 p3 p4
  go_wp2_with fail
  (with_reducible refine (HTK.out _ H4.out).mono ?_)
  rintro e w5 ⟨u1, d1, u2, d2, u3, d3, rfl, h5⟩
  obtain ⟨b5, hb5⟩ : ∃ b5, w5.heap.size = b5 := ⟨_, rfl⟩
  obtain ⟨W6, hW6, -, h6⟩ := boxN h5 hb5 #[.slice u1 Y.st.length d1, .slice u2 Y.st.length d2, .slice u3 Y.bk.length d3, .int .i64 (r : Int)] 48
  rw [HLX.out] at h6
  obtain ⟨x0, x1, x2, x3, -, -, -, -⟩ := bx_cells (b := b5) h6 (.head _)
  obtain ⟨c0, c1', c2', c3', c4, c5, f0, f1, f2, f3, f4, f5⟩ := bs_cells (b := b) (v1 := .slice a1 X.st.length c1) (v2 := .slice a2 X.st.length c2) (v3 := .slice a3 X.bk.length c3) (r := (r : Int)) (vL := .slice aL n cL) (nx := nx) h6 (by simp)
  have h7 := Own.re (L := Go.Proofs.Ytekdgghekdajbaa.Blk b5 #[.slice u1 Y.st.length d1, .slice u2 Y.st.length d2, .slice u3 Y.bk.length d3, .int .i64 (r : Int)] 48 :: RT Y (.slice u1 Y.st.length d1) :: RB Y (.slice u2 Y.st.length d2) :: RK Y (.slice u3 Y.bk.length d3) :: DH (.slice aL n cL) n E :: BZ (b + 1 + 1) :: BP (b + 1) k c len pr at_ :: BS b (.slice a1 X.st.length c1) (.slice a2 X.st.length c2) (.slice a3 X.bk.length c3) (r : Int) (.slice aL n cL) nx :: l) 8 [7, 0, 6, 5, 1, 2, 3, 4] rfl h6
  obtain ⟨w7, e7, h8⟩ := Own.bsA (b := b) (v1 := .slice a1 X.st.length c1) (v2 := .slice a2 X.st.length c2) (v3 := .slice a3 X.bk.length c3) (r := (r : Int)) (vL := .slice aL n cL) (nx := nx) (v1' := .slice u1 Y.st.length d1) (v2' := .slice u2 Y.st.length d2) (v3' := .slice u3 Y.bk.length d3) (r' := (r : Int)) h7
  have H8 := Lib.hid (show Own (BS b (.slice u1 Y.st.length d1) (.slice u2 Y.st.length d2) (.slice u3 Y.bk.length d3) (r : Int) (.slice aL n cL) nx :: Go.Proofs.Ytekdgghekdajbaa.Blk b5 #[.slice u1 Y.st.length d1, .slice u2 Y.st.length d2, .slice u3 Y.bk.length d3, .int .i64 (r : Int)] 48 :: BP (b + 1) k c len pr at_ :: BZ (b + 1 + 1) :: RT Y (.slice u1 Y.st.length d1) :: RB Y (.slice u2 Y.st.length d2) :: RK Y (.slice u3 Y.bk.length d3) :: DH (.slice aL n cL) n E :: l) w7 from h8)
  have HB5 := Lib.hid hb5
  have HW6 := Lib.hid hW6
  clear h5 h6 h7 h8 hb5 hW6 HTK
  go_upto_region 4 with fail
  rw [HB5.out, HW6.out]
  clear HW6 HB5
  go_upto_region 7 with fail
  obtain ⟨c0, c1', c2', c3', c4, c5, f0, f1, f2, f3, f4, f5⟩ := bs_cells (b := b) (v1 := .slice u1 Y.st.length d1) (v2 := .slice u2 Y.st.length d2) (v3 := .slice u3 Y.bk.length d3) (r := (r : Int)) (vL := .slice aL n cL) (nx := nx) H8.out (.head _)
  obtain ⟨p0, p1, p2, p3, p4⟩ := Own.blk5 H8.out (b := b + 1) (x := .int .u64 k) (y := .int .u64 c) (z := .int .i64 len) (u := .int .u8 pr) (t' := .int .u64 at_) (t := 69) (.tail _ (.tail _ (.head _)))
  obtain ⟨L8, hL8⟩ : ∃ L8, L8 = (BS b (.slice u1 Y.st.length d1) (.slice u2 Y.st.length d2) (.slice u3 Y.bk.length d3) (r : Int) (.slice aL n cL) nx :: Go.Proofs.Ytekdgghekdajbaa.Blk b5 #[.slice u1 Y.st.length d1, .slice u2 Y.st.length d2, .slice u3 Y.bk.length d3, .int .i64 (r : Int)] 48 :: BP (b + 1) k c len pr at_ :: BZ (b + 1 + 1) :: RT Y (.slice u1 Y.st.length d1) :: RB Y (.slice u2 Y.st.length d2) :: RK Y (.slice u3 Y.bk.length d3) :: DH (.slice aL n cL) n E :: l) := ⟨_, rfl⟩
  have H9 : Hid (Own L8 w7) := Lib.hid (by rw [hL8]; exact H8.out)
  have HS8 : Hid (∀ W, Own L8 W → (W.cell? ⟨b, 4, none⟩ = some (.slice aL n cL) ∧ W.cell? ⟨b, 5, none⟩ = some (.int .u64 nx) ∧ W.cell? ⟨b + 1, 0, none⟩ = some (.int .u64 k) ∧ W.cell? ⟨b + 1, 1, none⟩ = some (.int .u64 c) ∧ W.cell? ⟨b + 1, 2, none⟩ = some (.int .i64 len) ∧ W.cell? ⟨b + 1, 3, none⟩ = some (.int .u8 pr) ∧ W.cell? ⟨b + 1, 4, none⟩ = some (.int .u64 at_)) ∧ ownsR W 106 8 (.slice aL n cL) n (E.flatMap o8)) := Lib.hid fun W h => by
    rw [hL8] at h
    obtain ⟨c0, c1', c2', c3', c4, c5, -⟩ := bs_cells (b := b) (v1 := .slice u1 Y.st.length d1) (v2 := .slice u2 Y.st.length d2) (v3 := .slice u3 Y.bk.length d3) (r := (r : Int)) (vL := .slice aL n cL) (nx := nx) h (.head _)
    obtain ⟨p0, p1, p2, p3, p4⟩ := Own.blk5 h (b := b + 1) (x := .int .u64 k) (y := .int .u64 c) (z := .int .i64 len) (u := .int .u8 pr) (t' := .int .u64 at_) (t := 69) (.tail _ (.tail _ (.head _)))
    exact ⟨⟨c4, c5, p0, p1, p2, p3, p4⟩, h.eighth.rowR⟩
  have HWB : Hid (∀ (P : HP) (u : Value) W, Own (P :: L8) W → W.cell? ⟨b, 4, none⟩ = some (.slice aL n cL) ∧ W.frozen? ⟨b, 4, none⟩ = false ∧ ∃ w2, W.setCell ⟨b, 4, none⟩ u = w2 ∧ Own (BS b (.slice u1 Y.st.length d1) (.slice u2 Y.st.length d2) (.slice u3 Y.bk.length d3) (r : Int) u nx :: P :: Go.Proofs.Ytekdgghekdajbaa.Blk b5 #[.slice u1 Y.st.length d1, .slice u2 Y.st.length d2, .slice u3 Y.bk.length d3, .int .i64 (r : Int)] 48 :: BP (b + 1) k c len pr at_ :: BZ (b + 1 + 1) :: RT Y (.slice u1 Y.st.length d1) :: RB Y (.slice u2 Y.st.length d2) :: RK Y (.slice u3 Y.bk.length d3) :: DH (.slice aL n cL) n E :: l) w2) := Lib.hid fun P u W h => by
    rw [hL8] at h
    obtain ⟨c0, c1', c2', c3', c4, c5, f0, f1, f2, f3, f4, f5⟩ := bs_cells (b := b) (v1 := .slice u1 Y.st.length d1) (v2 := .slice u2 Y.st.length d2) (v3 := .slice u3 Y.bk.length d3) (r := (r : Int)) (vL := .slice aL n cL) (nx := nx) h (.tail _ (.head _))
    obtain ⟨w2, e2, h2⟩ := Own.bsL (vL' := u) h.swap
    exact ⟨c4, f4, w2, e2, h2⟩
  have HSB : Hid (∀ (P : HP) (u : Value) W, Own (BS b (.slice u1 Y.st.length d1) (.slice u2 Y.st.length d2) (.slice u3 Y.bk.length d3) (r : Int) u nx :: P :: Go.Proofs.Ytekdgghekdajbaa.Blk b5 #[.slice u1 Y.st.length d1, .slice u2 Y.st.length d2, .slice u3 Y.bk.length d3, .int .i64 (r : Int)] 48 :: BP (b + 1) k c len pr at_ :: BZ (b + 1 + 1) :: RT Y (.slice u1 Y.st.length d1) :: RB Y (.slice u2 Y.st.length d2) :: RK Y (.slice u3 Y.bk.length d3) :: DH (.slice aL n cL) n E :: l) W → W.cell? ⟨b, 5, none⟩ = some (.int .u64 nx) ∧ W.cell? ⟨b + 1, 0, none⟩ = some (.int .u64 k) ∧ W.cell? ⟨b + 1, 1, none⟩ = some (.int .u64 c) ∧ W.cell? ⟨b + 1, 2, none⟩ = some (.int .i64 len) ∧ W.cell? ⟨b + 1, 3, none⟩ = some (.int .u8 pr) ∧ W.cell? ⟨b + 1, 4, none⟩ = some (.int .u64 at_)) := Lib.hid fun P u W h => by
    obtain ⟨c0, c1', c2', c3', c4, c5, -⟩ := bs_cells (b := b) (v1 := .slice u1 Y.st.length d1) (v2 := .slice u2 Y.st.length d2) (v3 := .slice u3 Y.bk.length d3) (r := (r : Int)) (vL := u) (nx := nx) h (.head _)
    obtain ⟨p0, p1, p2, p3, p4⟩ := Own.blk5 h (b := b + 1) (x := .int .u64 k) (y := .int .u64 c) (z := .int .i64 len) (u := .int .u8 pr) (t' := .int .u64 at_) (t := 69) (.tail _ (.tail _ (.tail _ (.head _))))
    exact ⟨c5, p0, p1, p2, p3, p4⟩
  have HL8 := Lib.hid hL8
  clear hL8
  go_cut [41] (fun s41 wx => ∃ x6 k6, s41 = .slice x6 (n + 1) k6 ∧ Own (BS b (.slice u1 Y.st.length d1) (.slice u2 Y.st.length d2) (.slice u3 Y.bk.length d3) (r : Int) (.slice x6 (n + 1) k6) nx :: DH (.slice x6 (n + 1) k6) (n + 1) (E ++ [(K, ⟨k, c, len, pr, at_, nx, now⟩)]) :: Go.Proofs.Ytekdgghekdajbaa.Blk b5 #[.slice u1 Y.st.length d1, .slice u2 Y.st.length d2, .slice u3 Y.bk.length d3, .int .i64 (r : Int)] 48 :: BP (b + 1) k c len pr at_ :: BZ (b + 1 + 1) :: RT Y (.slice u1 Y.st.length d1) :: RB Y (.slice u2 Y.st.length d2) :: RK Y (.slice u3 Y.bk.length d3) :: DH (.slice aL n cL) n E :: l) wx)
  case first =>
    have HEC : Hid (Own (RowR 106 8 (.slice (some ⟨w7.heap.size, 0, none⟩) 0 0) 0 [] :: Go.Proofs.Ytekdgghekdajbaa.Blk (w7.heap.size + 1) #[.int .u64 (K : Int), .int .u64 k, .int .u64 c, .int .i64 len, .int .u8 pr, .int .u64 at_, .int .u64 nx, .int .u64 now] 106 :: L8) ((w7.alloc (.cells #[] 106)).alloc (.cells #[.int .u64 (K : Int), .int .u64 k, .int .u64 c, .int .i64 len, .int .u8 pr, .int .u64 at_, .int .u64 nx, .int .u64 now] 106)).drew) := Lib.hid (by have h := (Go.Proofs.Ytekdgghekdajbaa.Own.blkNew (Own.emptyNew 106 8 H9.out) #[.int .u64 (K : Int), .int .u64 k, .int .u64 c, .int .i64 len, .int .u8 pr, .int .u64 at_, .int .u64 nx, .int .u64 now] 106).swap.step (Ext.refl _).drew; rw [World.size_alloc] at h; exact h)
    have HCE : Hid (Own (RowR 106 8 (.slice (some ⟨w7.heap.size + 1, 0, none⟩) 0 0) 0 [] :: Go.Proofs.Ytekdgghekdajbaa.Blk w7.heap.size #[.int .u64 (K : Int), .int .u64 k, .int .u64 c, .int .i64 len, .int .u8 pr, .int .u64 at_, .int .u64 nx, .int .u64 now] 106 :: L8) ((w7.alloc (.cells #[.int .u64 (K : Int), .int .u64 k, .int .u64 c, .int .i64 len, .int .u8 pr, .int .u64 at_, .int .u64 nx, .int .u64 now] 106)).alloc (.cells #[] 106)).drew) := Lib.hid (by have h := (Own.emptyNew 106 8 (Go.Proofs.Ytekdgghekdajbaa.Own.blkNew H9.out #[.int .u64 (K : Int), .int .u64 k, .int .u64 c, .int .i64 len, .int .u8 pr, .int .u64 at_, .int .u64 nx, .int .u64 now] 106)).step (Ext.refl _).drew; rw [World.size_alloc] at h; exact h)
    have gw : (w7.drew).cell? ⟨b, 4, none⟩ = some (.slice aL n cL) := ((Ext.refl w7).drew).cell c4
    have gwE : ((w7.alloc (.cells #[] 106)).drew).cell? ⟨b, 4, none⟩ = some (.slice aL n cL) := (((Ext.refl w7).alloc _).drew).cell c4
    have gwC : ((w7.alloc (.cells #[.int .u64 (K : Int), .int .u64 k, .int .u64 c, .int .i64 len, .int .u8 pr, .int .u64 at_, .int .u64 nx, .int .u64 now] 106)).drew).cell? ⟨b, 4, none⟩ = some (.slice aL n cL) := (((Ext.refl w7).alloc _).drew).cell c4
    have gwEC : (((w7.alloc (.cells #[] 106)).alloc (.cells #[.int .u64 (K : Int), .int .u64 k, .int .u64 c, .int .i64 len, .int .u8 pr, .int .u64 at_, .int .u64 nx, .int .u64 now] 106)).drew).cell? ⟨b, 4, none⟩ = some (.slice aL n cL) := ((((Ext.refl w7).alloc _).alloc _).drew).cell c4
    have gwCE : (((w7.alloc (.cells #[.int .u64 (K : Int), .int .u64 k, .int .u64 c, .int .i64 len, .int .u8 pr, .int .u64 at_, .int .u64 nx, .int .u64 now] 106)).alloc (.cells #[] 106)).drew).cell? ⟨b, 4, none⟩ = some (.slice aL n cL) := ((((Ext.refl w7).alloc _).alloc _).drew).cell c4
    refine wp_region_held_drew (S := (fun w' => w'.cell? ⟨b, 5, none⟩ = some (.int .u64 nx) ∧ w'.cell? ⟨b + 1, 0, none⟩ = some (.int .u64 k) ∧ w'.cell? ⟨b + 1, 1, none⟩ = some (.int .u64 c) ∧ w'.cell? ⟨b + 1, 2, none⟩ = some (.int .i64 len) ∧ w'.cell? ⟨b + 1, 3, none⟩ = some (.int .u8 pr) ∧ w'.cell? ⟨b + 1, 4, none⟩ = some (.int .u64 at_))) (by kernel_rfl) ?_ (fun hHeld => ?_)
    · exact ⟨c5, p0, p1, p2, p3, p4⟩
    refine wpAnyH_take (i := 1) (v := ?_) rfl (by kernel_rfl) (by kernel_rfl) (by kernel_rfl) (fun _ _ _ h => h) (Or.inl ⟨by rfl, ?_⟩) (by assumption) ?_
    rotate_left
    · intro w' hSw
      try dsimp only at hSw
      go_simp
      try with_reducible rfl
    try simp only [Act.put, List.setIfInBounds_toArray, List.set_cons_zero, List.set_cons_succ, List.getElem_toArray, List.getElem_cons_succ, List.getElem_cons_zero]
    refine wpAnyH_take (i := 4) (v := ?_) rfl (by kernel_rfl) (by kernel_rfl) (by kernel_rfl) (fun _ _ _ h => h) (Or.inl ⟨by rfl, ?_⟩) (by assumption) ?_
    rotate_left
    · intro w' hSw
      try dsimp only at hSw
      go_simp
      try with_reducible rfl
    try simp only [Act.put, List.setIfInBounds_toArray, List.set_cons_zero, List.set_cons_succ, List.getElem_toArray, List.getElem_cons_succ, List.getElem_cons_zero]
    refine wpAnyH_take (i := 5) (v := ?_) rfl (by kernel_rfl) (by kernel_rfl) (by kernel_rfl) (fun _ _ _ h => h) (Or.inl ⟨by rfl, ?_⟩) (by assumption) ?_
    rotate_left
    · intro w' hSw
      try dsimp only at hSw
      go_simp
      try with_reducible rfl
    try simp only [Act.put, List.setIfInBounds_toArray, List.set_cons_zero, List.set_cons_succ, List.getElem_toArray, List.getElem_cons_succ, List.getElem_cons_zero]
    refine wpAnyH_take (i := 6) (v := ?_) rfl (by kernel_rfl) (by kernel_rfl) (by kernel_rfl) (fun _ _ _ h => h) (Or.inl ⟨by rfl, ?_⟩) (by assumption) ?_
    rotate_left
    · intro w' hSw
      try dsimp only at hSw
      go_simp
      try with_reducible rfl
    try simp only [Act.put, List.setIfInBounds_toArray, List.set_cons_zero, List.set_cons_succ, List.getElem_toArray, List.getElem_cons_succ, List.getElem_cons_zero]
    refine wpAnyH_take (i := 7) (v := ?_) rfl (by kernel_rfl) (by kernel_rfl) (by kernel_rfl) (fun _ _ _ h => h) (Or.inl ⟨by rfl, ?_⟩) (by assumption) ?_
    rotate_left
    · intro w' hSw
      try dsimp only at hSw
      go_simp
      try with_reducible rfl
    try simp only [Act.put, List.setIfInBounds_toArray, List.set_cons_zero, List.set_cons_succ, List.getElem_toArray, List.getElem_cons_succ, List.getElem_cons_zero]
    refine wpAnyH_take (i := 8) (v := ?_) rfl (by kernel_rfl) (by kernel_rfl) (by kernel_rfl) (fun _ _ _ h => h) (Or.inl ⟨by rfl, ?_⟩) (by assumption) ?_
    rotate_left
    · intro w' hSw
      try dsimp only at hSw
      go_simp
      try with_reducible rfl
    try simp only [Act.put, List.setIfInBounds_toArray, List.set_cons_zero, List.set_cons_succ, List.getElem_toArray, List.getElem_cons_succ, List.getElem_cons_zero]
    refine wpAnyH_take (i := 9) (v := ?_) rfl (by kernel_rfl) (by kernel_rfl) (by kernel_rfl) (fun _ _ _ h => h) (Or.inl ⟨by rfl, ?_⟩) (by assumption) ?_
    rotate_left
    · intro w' hSw
      try dsimp only at hSw
      go_simp
      try with_reducible rfl
    try simp only [Act.put, List.setIfInBounds_toArray, List.set_cons_zero, List.set_cons_succ, List.getElem_toArray, List.getElem_cons_succ, List.getElem_cons_zero]
    refine wpAnyH_take (i := 10) (v := ?_) rfl (by kernel_rfl) (by kernel_rfl) (by kernel_rfl) (fun _ _ _ h => h) (Or.inl ⟨by rfl, ?_⟩) (by assumption) ?_
    rotate_left
    · intro w' hSw
      try dsimp only at hSw
      go_simp
      try with_reducible rfl
    try simp only [Act.put, List.setIfInBounds_toArray, List.set_cons_zero, List.set_cons_succ, List.getElem_toArray, List.getElem_cons_succ, List.getElem_cons_zero]
    refine wpAnyH_ready (rs := [0, 2, 11]) (by kernel_rfl) (by simp) ?_
    refine AllReadyH.cons rfl (fun KK hK => ?_) ?_
    · go_simp
      refine hK.out _ _ (by go_keep) (fun hHeld => ?_)
      clear hK KK
      try simp only [Act.put, List.setIfInBounds_toArray, List.set_cons_zero, List.set_cons_succ, List.getElem_toArray, List.getElem_cons_succ, List.getElem_cons_zero]
      refine wpAnyH_ready (rs := [2, 11]) (by kernel_rfl) (by simp) ?_
      refine AllReadyH.cons rfl (fun KK hK => ?_) ?_
      · go_simp
        refine hK.out _ _ (by assumption) (fun hHeld => ?_)
        clear hK KK
        try simp only [Act.put, List.setIfInBounds_toArray, List.set_cons_zero, List.set_cons_succ, List.getElem_toArray, List.getElem_cons_succ, List.getElem_cons_zero]
        refine wpAnyH_ready (rs := [3, 11]) (by kernel_rfl) (by simp) ?_
        refine AllReadyH.cons rfl (fun KK hK => ?_) ?_
        · refine st_first (E := E) (L' := L8) _ rfl rfl _ rfl rfl ((Own.emptyNew 106 8 H9.out).step (Ext.refl _).drew) (HS8.out _ ((H9.out.step ((Ext.refl _).alloc _)).step (Ext.refl _).drew)).2 bn ?_
          intro x5 k5 w9 h9
          have hS9 := (HS8.out _ h9.drop).1.2
          have h10 := h9.step ((Ext.refl w9).alloc (.cells #[.int .u64 (K : Int), .int .u64 k, .int .u64 c, .int .i64 len, .int .u8 pr, .int .u64 at_, .int .u64 nx, .int .u64 now] 106))
          refine hK.out _ _ (by assumption) (fun hHeld => ?_)
          clear hK KK
          try simp only [Act.put, List.setIfInBounds_toArray, List.set_cons_zero, List.set_cons_succ, List.getElem_toArray, List.getElem_cons_succ, List.getElem_cons_zero]
          refine wpAnyH_ready (rs := [11]) (by kernel_rfl) (by simp) ?_
          refine AllReadyH.cons rfl (fun KK hK => ?_) ?_
          · go_simp
            refine hK.out _ _ (by go_keep) (fun hHeld => ?_)
            clear hK KK
            try simp only [Act.put, List.setIfInBounds_toArray, List.set_cons_zero, List.set_cons_succ, List.getElem_toArray, List.getElem_cons_succ, List.getElem_cons_zero]
            refine wpAnyH_ready (rs := [12]) (by kernel_rfl) (by simp) ?_
            refine AllReadyH.cons rfl (fun KK hK => ?_) ?_
            · refine st_second (E := E) (L' := L8) _ rfl rfl rfl h10 _ rfl (K, ⟨k, c, len, pr, at_, nx, now⟩) (heap_alloc_new w9 _) bn ?_
              intro x6 k6 w11 h11
              obtain ⟨b4, fb4, w12, e12, h12⟩ := HWB.out _ (.slice x6 (n + 1) k6) _ h11
              clear hS9
              have hS9 := (HS8.out _ h11.drop).1.2
              have hS12 := HSB.out _ _ _ h12
              refine hK.out _ _ (by assumption) (fun hHeld => ?_)
              clear hK KK
              try simp only [Act.put, List.setIfInBounds_toArray, List.set_cons_zero, List.set_cons_succ, List.getElem_toArray, List.getElem_cons_succ, List.getElem_cons_zero]
              refine wpAnyH_take (i := 13) (v := ?_) rfl (by kernel_rfl) (by kernel_rfl) (by kernel_rfl) (fun _ _ _ h => h) (Or.inl ⟨by rfl, ?_⟩) (by assumption) ?_
              rotate_left
              · intro w' hSw
                try dsimp only at hSw
                go_simp
                try with_reducible rfl
              try simp only [Act.put, List.setIfInBounds_toArray, List.set_cons_zero, List.set_cons_succ, List.getElem_toArray, List.getElem_cons_succ, List.getElem_cons_zero]
              refine wpAnyH_ready (rs := [14]) (by kernel_rfl) (by simp) ?_
              refine AllReadyH.cons rfl (fun KK hK => ?_) AllReadyH.nil
              go_simp
              refine hK.out _ _ (by assumption) (fun hHeld => ?_)
              clear hK KK
              try simp only [Act.put, List.setIfInBounds_toArray, List.set_cons_zero, List.set_cons_succ, List.getElem_toArray, List.getElem_cons_succ, List.getElem_cons_zero]
              refine wpAnyH_done (by kernel_rfl) ?_ _
              have HX := Lib.hid h12
              clear gw gwE gwC gwEC gwCE c0 c1' c2' c3' c4 c5 f0 f1 f2 f3 f4 f5 p0 p1 p2 p3 p4 h9 h11 h12 hS9 hS12 hHeld
              go_step
              go_step
              go_meet
              exact ⟨x6, k6, rfl, HX.out⟩
            exact AllReadyH.nil
          exact AllReadyH.nil
        refine AllReadyH.cons rfl (fun KK hK => ?_) ?_
        · go_simp
          refine hK.out _ _ (by go_keep) (fun hHeld => ?_)
          clear hK KK
          try simp only [Act.put, List.setIfInBounds_toArray, List.set_cons_zero, List.set_cons_succ, List.getElem_toArray, List.getElem_cons_succ, List.getElem_cons_zero]
          refine wpAnyH_ready (rs := [3]) (by kernel_rfl) (by simp) ?_
          refine AllReadyH.cons rfl (fun KK hK => ?_) ?_
          · refine st_first (E := E) (L' := Go.Proofs.Ytekdgghekdajbaa.Blk (w7.heap.size + 1) #[.int .u64 (K : Int), .int .u64 k, .int .u64 c, .int .i64 len, .int .u8 pr, .int .u64 at_, .int .u64 nx, .int .u64 now] 106 :: L8) _ rfl rfl _ rfl rfl (HEC.out) (HS8.out _ (((Own.emptyNew 106 8 H9.out).drop.step ((Ext.refl _).alloc _)).step (Ext.refl _).drew)).2 bn ?_
            intro x5 k5 w9 h9
            have hS9 := (HS8.out _ h9.drop.drop).1.2
            refine hK.out _ _ (by assumption) (fun hHeld => ?_)
            clear hK KK
            try simp only [Act.put, List.setIfInBounds_toArray, List.set_cons_zero, List.set_cons_succ, List.getElem_toArray, List.getElem_cons_succ, List.getElem_cons_zero]
            refine wpAnyH_ready (rs := [12]) (by kernel_rfl) (by simp) ?_
            refine AllReadyH.cons rfl (fun KK hK => ?_) ?_
            · refine st_second (E := E) (L' := _ :: L8) _ rfl rfl rfl h9 _ rfl (K, ⟨k, c, len, pr, at_, nx, now⟩) (Go.Proofs.Ytekdgghekdajbaa.Own.blk h9 (.tail _ (.head _))) bn ?_
              intro x6 k6 w11 h11'
              have h11 := h11'.swap.drop
              obtain ⟨b4, fb4, w12, e12, h12⟩ := HWB.out _ (.slice x6 (n + 1) k6) _ h11
              clear hS9
              have hS9 := (HS8.out _ h11.drop).1.2
              have hS12 := HSB.out _ _ _ h12
              refine hK.out _ _ (by assumption) (fun hHeld => ?_)
              clear hK KK
              try simp only [Act.put, List.setIfInBounds_toArray, List.set_cons_zero, List.set_cons_succ, List.getElem_toArray, List.getElem_cons_succ, List.getElem_cons_zero]
              refine wpAnyH_take (i := 13) (v := ?_) rfl (by kernel_rfl) (by kernel_rfl) (by kernel_rfl) (fun _ _ _ h => h) (Or.inl ⟨by rfl, ?_⟩) (by assumption) ?_
              rotate_left
              · intro w' hSw
                try dsimp only at hSw
                go_simp
                try with_reducible rfl
              try simp only [Act.put, List.setIfInBounds_toArray, List.set_cons_zero, List.set_cons_succ, List.getElem_toArray, List.getElem_cons_succ, List.getElem_cons_zero]
              refine wpAnyH_ready (rs := [14]) (by kernel_rfl) (by simp) ?_
              refine AllReadyH.cons rfl (fun KK hK => ?_) AllReadyH.nil
              go_simp
              refine hK.out _ _ (by assumption) (fun hHeld => ?_)
              clear hK KK
              try simp only [Act.put, List.setIfInBounds_toArray, List.set_cons_zero, List.set_cons_succ, List.getElem_toArray, List.getElem_cons_succ, List.getElem_cons_zero]
              refine wpAnyH_done (by kernel_rfl) ?_ _
              have HX := Lib.hid h12
              clear gw gwE gwC gwEC gwCE c0 c1' c2' c3' c4 c5 f0 f1 f2 f3 f4 f5 p0 p1 p2 p3 p4 h9 h11 h12 hS9 hS12 hHeld
              go_step
              go_step
              go_meet
              exact ⟨x6, k6, rfl, HX.out⟩
            exact AllReadyH.nil
          exact AllReadyH.nil
        exact AllReadyH.nil
      refine AllReadyH.cons rfl (fun KK hK => ?_) ?_
      · go_simp
        refine hK.out _ _ (by go_keep) (fun hHeld => ?_)
        clear hK KK
        try simp only [Act.put, List.setIfInBounds_toArray, List.set_cons_zero, List.set_cons_succ, List.getElem_toArray, List.getElem_cons_succ, List.getElem_cons_zero]
        refine wpAnyH_ready (rs := [2]) (by kernel_rfl) (by simp) ?_
        refine AllReadyH.cons rfl (fun KK hK => ?_) ?_
        · go_simp
          refine hK.out _ _ (by assumption) (fun hHeld => ?_)
          clear hK KK
          try simp only [Act.put, List.setIfInBounds_toArray, List.set_cons_zero, List.set_cons_succ, List.getElem_toArray, List.getElem_cons_succ, List.getElem_cons_zero]
          refine wpAnyH_ready (rs := [3]) (by kernel_rfl) (by simp) ?_
          refine AllReadyH.cons rfl (fun KK hK => ?_) ?_
          · refine st_first (E := E) (L' := Go.Proofs.Ytekdgghekdajbaa.Blk (w7.heap.size + 1) #[.int .u64 (K : Int), .int .u64 k, .int .u64 c, .int .i64 len, .int .u8 pr, .int .u64 at_, .int .u64 nx, .int .u64 now] 106 :: L8) _ rfl rfl _ rfl rfl (HEC.out) (HS8.out _ (((Own.emptyNew 106 8 H9.out).drop.step ((Ext.refl _).alloc _)).step (Ext.refl _).drew)).2 bn ?_
            intro x5 k5 w9 h9
            have hS9 := (HS8.out _ h9.drop.drop).1.2
            refine hK.out _ _ (by assumption) (fun hHeld => ?_)
            clear hK KK
            try simp only [Act.put, List.setIfInBounds_toArray, List.set_cons_zero, List.set_cons_succ, List.getElem_toArray, List.getElem_cons_succ, List.getElem_cons_zero]
            refine wpAnyH_ready (rs := [12]) (by kernel_rfl) (by simp) ?_
            refine AllReadyH.cons rfl (fun KK hK => ?_) ?_
            · refine st_second (E := E) (L' := _ :: L8) _ rfl rfl rfl h9 _ rfl (K, ⟨k, c, len, pr, at_, nx, now⟩) (Go.Proofs.Ytekdgghekdajbaa.Own.blk h9 (.tail _ (.head _))) bn ?_
              intro x6 k6 w11 h11'
              have h11 := h11'.swap.drop
              obtain ⟨b4, fb4, w12, e12, h12⟩ := HWB.out _ (.slice x6 (n + 1) k6) _ h11
              clear hS9
              have hS9 := (HS8.out _ h11.drop).1.2
              have hS12 := HSB.out _ _ _ h12
              refine hK.out _ _ (by assumption) (fun hHeld => ?_)
              clear hK KK
              try simp only [Act.put, List.setIfInBounds_toArray, List.set_cons_zero, List.set_cons_succ, List.getElem_toArray, List.getElem_cons_succ, List.getElem_cons_zero]
              refine wpAnyH_take (i := 13) (v := ?_) rfl (by kernel_rfl) (by kernel_rfl) (by kernel_rfl) (fun _ _ _ h => h) (Or.inl ⟨by rfl, ?_⟩) (by assumption) ?_
              rotate_left
              · intro w' hSw
                try dsimp only at hSw
                go_simp
                try with_reducible rfl
              try simp only [Act.put, List.setIfInBounds_toArray, List.set_cons_zero, List.set_cons_succ, List.getElem_toArray, List.getElem_cons_succ, List.getElem_cons_zero]
              refine wpAnyH_ready (rs := [14]) (by kernel_rfl) (by simp) ?_
              refine AllReadyH.cons rfl (fun KK hK => ?_) AllReadyH.nil
              go_simp
              refine hK.out _ _ (by assumption) (fun hHeld => ?_)
              clear hK KK
              try simp only [Act.put, List.setIfInBounds_toArray, List.set_cons_zero, List.set_cons_succ, List.getElem_toArray, List.getElem_cons_succ, List.getElem_cons_zero]
              refine wpAnyH_done (by kernel_rfl) ?_ _
              have HX := Lib.hid h12
              clear gw gwE gwC gwEC gwCE c0 c1' c2' c3' c4 c5 f0 f1 f2 f3 f4 f5 p0 p1 p2 p3 p4 h9 h11 h12 hS9 hS12 hHeld
              go_step
              go_step
              go_meet
              exact ⟨x6, k6, rfl, HX.out⟩
            exact AllReadyH.nil
          exact AllReadyH.nil
        exact AllReadyH.nil
      exact AllReadyH.nil
    refine AllReadyH.cons rfl (fun KK hK => ?_) ?_
    · go_simp
      refine hK.out _ _ (by assumption) (fun hHeld => ?_)
      clear hK KK
      try simp only [Act.put, List.setIfInBounds_toArray, List.set_cons_zero, List.set_cons_succ, List.getElem_toArray, List.getElem_cons_succ, List.getElem_cons_zero]
      refine wpAnyH_ready (rs := [0, 11]) (by kernel_rfl) (by simp) ?_
      refine AllReadyH.cons rfl (fun KK hK => ?_) ?_
      · go_simp
        refine hK.out _ _ (by go_keep) (fun hHeld => ?_)
        clear hK KK
        try simp only [Act.put, List.setIfInBounds_toArray, List.set_cons_zero, List.set_cons_succ, List.getElem_toArray, List.getElem_cons_succ, List.getElem_cons_zero]
        refine wpAnyH_ready (rs := [3, 11]) (by kernel_rfl) (by simp) ?_
        refine AllReadyH.cons rfl (fun KK hK => ?_) ?_
        · refine st_first (E := E) (L' := L8) _ rfl rfl _ rfl rfl ((Own.emptyNew 106 8 H9.out).step (Ext.refl _).drew) (HS8.out _ ((H9.out.step ((Ext.refl _).alloc _)).step (Ext.refl _).drew)).2 bn ?_
          intro x5 k5 w9 h9
          have hS9 := (HS8.out _ h9.drop).1.2
          have h10 := h9.step ((Ext.refl w9).alloc (.cells #[.int .u64 (K : Int), .int .u64 k, .int .u64 c, .int .i64 len, .int .u8 pr, .int .u64 at_, .int .u64 nx, .int .u64 now] 106))
          refine hK.out _ _ (by assumption) (fun hHeld => ?_)
          clear hK KK
          try simp only [Act.put, List.setIfInBounds_toArray, List.set_cons_zero, List.set_cons_succ, List.getElem_toArray, List.getElem_cons_succ, List.getElem_cons_zero]
          refine wpAnyH_ready (rs := [11]) (by kernel_rfl) (by simp) ?_
          refine AllReadyH.cons rfl (fun KK hK => ?_) ?_
          · go_simp
            refine hK.out _ _ (by go_keep) (fun hHeld => ?_)
            clear hK KK
            try simp only [Act.put, List.setIfInBounds_toArray, List.set_cons_zero, List.set_cons_succ, List.getElem_toArray, List.getElem_cons_succ, List.getElem_cons_zero]
            refine wpAnyH_ready (rs := [12]) (by kernel_rfl) (by simp) ?_
            refine AllReadyH.cons rfl (fun KK hK => ?_) ?_
            · refine st_second (E := E) (L' := L8) _ rfl rfl rfl h10 _ rfl (K, ⟨k, c, len, pr, at_, nx, now⟩) (heap_alloc_new w9 _) bn ?_
              intro x6 k6 w11 h11
              obtain ⟨b4, fb4, w12, e12, h12⟩ := HWB.out _ (.slice x6 (n + 1) k6) _ h11
              clear hS9
              have hS9 := (HS8.out _ h11.drop).1.2
              have hS12 := HSB.out _ _ _ h12
              refine hK.out _ _ (by assumption) (fun hHeld => ?_)
              clear hK KK
              try simp only [Act.put, List.setIfInBounds_toArray, List.set_cons_zero, List.set_cons_succ, List.getElem_toArray, List.getElem_cons_succ, List.getElem_cons_zero]
              refine wpAnyH_take (i := 13) (v := ?_) rfl (by kernel_rfl) (by kernel_rfl) (by kernel_rfl) (fun _ _ _ h => h) (Or.inl ⟨by rfl, ?_⟩) (by assumption) ?_
              rotate_left
              · intro w' hSw
                try dsimp only at hSw
                go_simp
                try with_reducible rfl
              try simp only [Act.put, List.setIfInBounds_toArray, List.set_cons_zero, List.set_cons_succ, List.getElem_toArray, List.getElem_cons_succ, List.getElem_cons_zero]
              refine wpAnyH_ready (rs := [14]) (by kernel_rfl) (by simp) ?_
              refine AllReadyH.cons rfl (fun KK hK => ?_) AllReadyH.nil
              go_simp
              refine hK.out _ _ (by assumption) (fun hHeld => ?_)
              clear hK KK
              try simp only [Act.put, List.setIfInBounds_toArray, List.set_cons_zero, List.set_cons_succ, List.getElem_toArray, List.getElem_cons_succ, List.getElem_cons_zero]
              refine wpAnyH_done (by kernel_rfl) ?_ _
              have HX := Lib.hid h12
              clear gw gwE gwC gwEC gwCE c0 c1' c2' c3' c4 c5 f0 f1 f2 f3 f4 f5 p0 p1 p2 p3 p4 h9 h11 h12 hS9 hS12 hHeld
              go_step
              go_step
              go_meet
              exact ⟨x6, k6, rfl, HX.out⟩
            exact AllReadyH.nil
          exact AllReadyH.nil
        refine AllReadyH.cons rfl (fun KK hK => ?_) ?_
        · go_simp
          refine hK.out _ _ (by go_keep) (fun hHeld => ?_)
          clear hK KK
          try simp only [Act.put, List.setIfInBounds_toArray, List.set_cons_zero, List.set_cons_succ, List.getElem_toArray, List.getElem_cons_succ, List.getElem_cons_zero]
          refine wpAnyH_ready (rs := [3]) (by kernel_rfl) (by simp) ?_
          refine AllReadyH.cons rfl (fun KK hK => ?_) ?_
          · refine st_first (E := E) (L' := Go.Proofs.Ytekdgghekdajbaa.Blk (w7.heap.size + 1) #[.int .u64 (K : Int), .int .u64 k, .int .u64 c, .int .i64 len, .int .u8 pr, .int .u64 at_, .int .u64 nx, .int .u64 now] 106 :: L8) _ rfl rfl _ rfl rfl (HEC.out) (HS8.out _ (((Own.emptyNew 106 8 H9.out).drop.step ((Ext.refl _).alloc _)).step (Ext.refl _).drew)).2 bn ?_
            intro x5 k5 w9 h9
            have hS9 := (HS8.out _ h9.drop.drop).1.2
            refine hK.out _ _ (by assumption) (fun hHeld => ?_)
            clear hK KK
            try simp only [Act.put, List.setIfInBounds_toArray, List.set_cons_zero, List.set_cons_succ, List.getElem_toArray, List.getElem_cons_succ, List.getElem_cons_zero]
            refine wpAnyH_ready (rs := [12]) (by kernel_rfl) (by simp) ?_
            refine AllReadyH.cons rfl (fun KK hK => ?_) ?_
            · refine st_second (E := E) (L' := _ :: L8) _ rfl rfl rfl h9 _ rfl (K, ⟨k, c, len, pr, at_, nx, now⟩) (Go.Proofs.Ytekdgghekdajbaa.Own.blk h9 (.tail _ (.head _))) bn ?_
              intro x6 k6 w11 h11'
              have h11 := h11'.swap.drop
              obtain ⟨b4, fb4, w12, e12, h12⟩ := HWB.out _ (.slice x6 (n + 1) k6) _ h11
              clear hS9
              have hS9 := (HS8.out _ h11.drop).1.2
              have hS12 := HSB.out _ _ _ h12
              refine hK.out _ _ (by assumption) (fun hHeld => ?_)
              clear hK KK
              try simp only [Act.put, List.setIfInBounds_toArray, List.set_cons_zero, List.set_cons_succ, List.getElem_toArray, List.getElem_cons_succ, List.getElem_cons_zero]
              refine wpAnyH_take (i := 13) (v := ?_) rfl (by kernel_rfl) (by kernel_rfl) (by kernel_rfl) (fun _ _ _ h => h) (Or.inl ⟨by rfl, ?_⟩) (by assumption) ?_
              rotate_left
              · intro w' hSw
                try dsimp only at hSw
                go_simp
                try with_reducible rfl
              try simp only [Act.put, List.setIfInBounds_toArray, List.set_cons_zero, List.set_cons_succ, List.getElem_toArray, List.getElem_cons_succ, List.getElem_cons_zero]
              refine wpAnyH_ready (rs := [14]) (by kernel_rfl) (by simp) ?_
              refine AllReadyH.cons rfl (fun KK hK => ?_) AllReadyH.nil
              go_simp
              refine hK.out _ _ (by assumption) (fun hHeld => ?_)
              clear hK KK
              try simp only [Act.put, List.setIfInBounds_toArray, List.set_cons_zero, List.set_cons_succ, List.getElem_toArray, List.getElem_cons_succ, List.getElem_cons_zero]
              refine wpAnyH_done (by kernel_rfl) ?_ _
              have HX := Lib.hid h12
              clear gw gwE gwC gwEC gwCE c0 c1' c2' c3' c4 c5 f0 f1 f2 f3 f4 f5 p0 p1 p2 p3 p4 h9 h11 h12 hS9 hS12 hHeld
              go_step
              go_step
              go_meet
              exact ⟨x6, k6, rfl, HX.out⟩
            exact AllReadyH.nil
          exact AllReadyH.nil
        exact AllReadyH.nil
      refine AllReadyH.cons rfl (fun KK hK => ?_) ?_
      · go_simp
        refine hK.out _ _ (by go_keep) (fun hHeld => ?_)
        clear hK KK
        try simp only [Act.put, List.setIfInBounds_toArray, List.set_cons_zero, List.set_cons_succ, List.getElem_toArray, List.getElem_cons_succ, List.getElem_cons_zero]
        refine wpAnyH_ready (rs := [0]) (by kernel_rfl) (by simp) ?_
        refine AllReadyH.cons rfl (fun KK hK => ?_) ?_
        · go_simp
          refine hK.out _ _ (by go_keep) (fun hHeld => ?_)
          clear hK KK
          try simp only [Act.put, List.setIfInBounds_toArray, List.set_cons_zero, List.set_cons_succ, List.getElem_toArray, List.getElem_cons_succ, List.getElem_cons_zero]
          refine wpAnyH_ready (rs := [3]) (by kernel_rfl) (by simp) ?_
          refine AllReadyH.cons rfl (fun KK hK => ?_) ?_
          · refine st_first (E := E) (L' := Go.Proofs.Ytekdgghekdajbaa.Blk w7.heap.size #[.int .u64 (K : Int), .int .u64 k, .int .u64 c, .int .i64 len, .int .u8 pr, .int .u64 at_, .int .u64 nx, .int .u64 now] 106 :: L8) _ rfl rfl _ rfl rfl (HCE.out) (HS8.out _ (((H9.out.step ((Ext.refl _).alloc _)).step ((Ext.refl _).alloc _)).step (Ext.refl _).drew)).2 bn ?_
            intro x5 k5 w9 h9
            have hS9 := (HS8.out _ h9.drop.drop).1.2
            refine hK.out _ _ (by assumption) (fun hHeld => ?_)
            clear hK KK
            try simp only [Act.put, List.setIfInBounds_toArray, List.set_cons_zero, List.set_cons_succ, List.getElem_toArray, List.getElem_cons_succ, List.getElem_cons_zero]
            refine wpAnyH_ready (rs := [12]) (by kernel_rfl) (by simp) ?_
            refine AllReadyH.cons rfl (fun KK hK => ?_) ?_
            · refine st_second (E := E) (L' := _ :: L8) _ rfl rfl rfl h9 _ rfl (K, ⟨k, c, len, pr, at_, nx, now⟩) (Go.Proofs.Ytekdgghekdajbaa.Own.blk h9 (.tail _ (.head _))) bn ?_
              intro x6 k6 w11 h11'
              have h11 := h11'.swap.drop
              obtain ⟨b4, fb4, w12, e12, h12⟩ := HWB.out _ (.slice x6 (n + 1) k6) _ h11
              clear hS9
              have hS9 := (HS8.out _ h11.drop).1.2
              have hS12 := HSB.out _ _ _ h12
              refine hK.out _ _ (by assumption) (fun hHeld => ?_)
              clear hK KK
              try simp only [Act.put, List.setIfInBounds_toArray, List.set_cons_zero, List.set_cons_succ, List.getElem_toArray, List.getElem_cons_succ, List.getElem_cons_zero]
              refine wpAnyH_take (i := 13) (v := ?_) rfl (by kernel_rfl) (by kernel_rfl) (by kernel_rfl) (fun _ _ _ h => h) (Or.inl ⟨by rfl, ?_⟩) (by assumption) ?_
              rotate_left
              · intro w' hSw
                try dsimp only at hSw
                go_simp
                try with_reducible rfl
              try simp only [Act.put, List.setIfInBounds_toArray, List.set_cons_zero, List.set_cons_succ, List.getElem_toArray, List.getElem_cons_succ, List.getElem_cons_zero]
              refine wpAnyH_ready (rs := [14]) (by kernel_rfl) (by simp) ?_
              refine AllReadyH.cons rfl (fun KK hK => ?_) AllReadyH.nil
              go_simp
              refine hK.out _ _ (by assumption) (fun hHeld => ?_)
              clear hK KK
              try simp only [Act.put, List.setIfInBounds_toArray, List.set_cons_zero, List.set_cons_succ, List.getElem_toArray, List.getElem_cons_succ, List.getElem_cons_zero]
              refine wpAnyH_done (by kernel_rfl) ?_ _
              have HX := Lib.hid h12
              clear gw gwE gwC gwEC gwCE c0 c1' c2' c3' c4 c5 f0 f1 f2 f3 f4 f5 p0 p1 p2 p3 p4 h9 h11 h12 hS9 hS12 hHeld
              go_step
              go_step
              go_meet
              exact ⟨x6, k6, rfl, HX.out⟩
            exact AllReadyH.nil
          exact AllReadyH.nil
        exact AllReadyH.nil
      exact AllReadyH.nil
    refine AllReadyH.cons rfl (fun KK hK => ?_) ?_
    · go_simp
      refine hK.out _ _ (by go_keep) (fun hHeld => ?_)
      clear hK KK
      try simp only [Act.put, List.setIfInBounds_toArray, List.set_cons_zero, List.set_cons_succ, List.getElem_toArray, List.getElem_cons_succ, List.getElem_cons_zero]
      refine wpAnyH_ready (rs := [0, 2]) (by kernel_rfl) (by simp) ?_
      refine AllReadyH.cons rfl (fun KK hK => ?_) ?_
      · go_simp
        refine hK.out _ _ (by go_keep) (fun hHeld => ?_)
        clear hK KK
        try simp only [Act.put, List.setIfInBounds_toArray, List.set_cons_zero, List.set_cons_succ, List.getElem_toArray, List.getElem_cons_succ, List.getElem_cons_zero]
        refine wpAnyH_ready (rs := [2]) (by kernel_rfl) (by simp) ?_
        refine AllReadyH.cons rfl (fun KK hK => ?_) ?_
        · go_simp
          refine hK.out _ _ (by assumption) (fun hHeld => ?_)
          clear hK KK
          try simp only [Act.put, List.setIfInBounds_toArray, List.set_cons_zero, List.set_cons_succ, List.getElem_toArray, List.getElem_cons_succ, List.getElem_cons_zero]
          refine wpAnyH_ready (rs := [3]) (by kernel_rfl) (by simp) ?_
          refine AllReadyH.cons rfl (fun KK hK => ?_) ?_
          · refine st_first (E := E) (L' := Go.Proofs.Ytekdgghekdajbaa.Blk w7.heap.size #[.int .u64 (K : Int), .int .u64 k, .int .u64 c, .int .i64 len, .int .u8 pr, .int .u64 at_, .int .u64 nx, .int .u64 now] 106 :: L8) _ rfl rfl _ rfl rfl (HCE.out) (HS8.out _ (((H9.out.step ((Ext.refl _).alloc _)).step ((Ext.refl _).alloc _)).step (Ext.refl _).drew)).2 bn ?_
            intro x5 k5 w9 h9
            have hS9 := (HS8.out _ h9.drop.drop).1.2
            refine hK.out _ _ (by assumption) (fun hHeld => ?_)
            clear hK KK
            try simp only [Act.put, List.setIfInBounds_toArray, List.set_cons_zero, List.set_cons_succ, List.getElem_toArray, List.getElem_cons_succ, List.getElem_cons_zero]
            refine wpAnyH_ready (rs := [12]) (by kernel_rfl) (by simp) ?_
            refine AllReadyH.cons rfl (fun KK hK => ?_) ?_
            · refine st_second (E := E) (L' := _ :: L8) _ rfl rfl rfl h9 _ rfl (K, ⟨k, c, len, pr, at_, nx, now⟩) (Go.Proofs.Ytekdgghekdajbaa.Own.blk h9 (.tail _ (.head _))) bn ?_
              intro x6 k6 w11 h11'
              have h11 := h11'.swap.drop
              obtain ⟨b4, fb4, w12, e12, h12⟩ := HWB.out _ (.slice x6 (n + 1) k6) _ h11
              clear hS9
              have hS9 := (HS8.out _ h11.drop).1.2
              have hS12 := HSB.out _ _ _ h12
              refine hK.out _ _ (by assumption) (fun hHeld => ?_)
              clear hK KK
              try simp only [Act.put, List.setIfInBounds_toArray, List.set_cons_zero, List.set_cons_succ, List.getElem_toArray, List.getElem_cons_succ, List.getElem_cons_zero]
              refine wpAnyH_take (i := 13) (v := ?_) rfl (by kernel_rfl) (by kernel_rfl) (by kernel_rfl) (fun _ _ _ h => h) (Or.inl ⟨by rfl, ?_⟩) (by assumption) ?_
              rotate_left
              · intro w' hSw
                try dsimp only at hSw
                go_simp
                try with_reducible rfl
              try simp only [Act.put, List.setIfInBounds_toArray, List.set_cons_zero, List.set_cons_succ, List.getElem_toArray, List.getElem_cons_succ, List.getElem_cons_zero]
              refine wpAnyH_ready (rs := [14]) (by kernel_rfl) (by simp) ?_
              refine AllReadyH.cons rfl (fun KK hK => ?_) AllReadyH.nil
              go_simp
              refine hK.out _ _ (by assumption) (fun hHeld => ?_)
              clear hK KK
              try simp only [Act.put, List.setIfInBounds_toArray, List.set_cons_zero, List.set_cons_succ, List.getElem_toArray, List.getElem_cons_succ, List.getElem_cons_zero]
              refine wpAnyH_done (by kernel_rfl) ?_ _
              have HX := Lib.hid h12
              clear gw gwE gwC gwEC gwCE c0 c1' c2' c3' c4 c5 f0 f1 f2 f3 f4 f5 p0 p1 p2 p3 p4 h9 h11 h12 hS9 hS12 hHeld
              go_step
              go_step
              go_meet
              exact ⟨x6, k6, rfl, HX.out⟩
            exact AllReadyH.nil
          exact AllReadyH.nil
        exact AllReadyH.nil
      refine AllReadyH.cons rfl (fun KK hK => ?_) ?_
      · go_simp
        refine hK.out _ _ (by assumption) (fun hHeld => ?_)
        clear hK KK
        try simp only [Act.put, List.setIfInBounds_toArray, List.set_cons_zero, List.set_cons_succ, List.getElem_toArray, List.getElem_cons_succ, List.getElem_cons_zero]
        refine wpAnyH_ready (rs := [0]) (by kernel_rfl) (by simp) ?_
        refine AllReadyH.cons rfl (fun KK hK => ?_) ?_
        · go_simp
          refine hK.out _ _ (by go_keep) (fun hHeld => ?_)
          clear hK KK
          try simp only [Act.put, List.setIfInBounds_toArray, List.set_cons_zero, List.set_cons_succ, List.getElem_toArray, List.getElem_cons_succ, List.getElem_cons_zero]
          refine wpAnyH_ready (rs := [3]) (by kernel_rfl) (by simp) ?_
          refine AllReadyH.cons rfl (fun KK hK => ?_) ?_
          · refine st_first (E := E) (L' := Go.Proofs.Ytekdgghekdajbaa.Blk w7.heap.size #[.int .u64 (K : Int), .int .u64 k, .int .u64 c, .int .i64 len, .int .u8 pr, .int .u64 at_, .int .u64 nx, .int .u64 now] 106 :: L8) _ rfl rfl _ rfl rfl (HCE.out) (HS8.out _ (((H9.out.step ((Ext.refl _).alloc _)).step ((Ext.refl _).alloc _)).step (Ext.refl _).drew)).2 bn ?_
            intro x5 k5 w9 h9
            have hS9 := (HS8.out _ h9.drop.drop).1.2
            refine hK.out _ _ (by assumption) (fun hHeld => ?_)
            clear hK KK
            try simp only [Act.put, List.setIfInBounds_toArray, List.set_cons_zero, List.set_cons_succ, List.getElem_toArray, List.getElem_cons_succ, List.getElem_cons_zero]
            refine wpAnyH_ready (rs := [12]) (by kernel_rfl) (by simp) ?_
            refine AllReadyH.cons rfl (fun KK hK => ?_) ?_
            · refine st_second (E := E) (L' := _ :: L8) _ rfl rfl rfl h9 _ rfl (K, ⟨k, c, len, pr, at_, nx, now⟩) (Go.Proofs.Ytekdgghekdajbaa.Own.blk h9 (.tail _ (.head _))) bn ?_
              intro x6 k6 w11 h11'
              have h11 := h11'.swap.drop
              obtain ⟨b4, fb4, w12, e12, h12⟩ := HWB.out _ (.slice x6 (n + 1) k6) _ h11
              clear hS9
              have hS9 := (HS8.out _ h11.drop).1.2
              have hS12 := HSB.out _ _ _ h12
              refine hK.out _ _ (by assumption) (fun hHeld => ?_)
              clear hK KK
              try simp only [Act.put, List.setIfInBounds_toArray, List.set_cons_zero, List.set_cons_succ, List.getElem_toArray, List.getElem_cons_succ, List.getElem_cons_zero]
              refine wpAnyH_take (i := 13) (v := ?_) rfl (by kernel_rfl) (by kernel_rfl) (by kernel_rfl) (fun _ _ _ h => h) (Or.inl ⟨by rfl, ?_⟩) (by assumption) ?_
              rotate_left
              · intro w' hSw
                try dsimp only at hSw
                go_simp
                try with_reducible rfl
              try simp only [Act.put, List.setIfInBounds_toArray, List.set_cons_zero, List.set_cons_succ, List.getElem_toArray, List.getElem_cons_succ, List.getElem_cons_zero]
              refine wpAnyH_ready (rs := [14]) (by kernel_rfl) (by simp) ?_
              refine AllReadyH.cons rfl (fun KK hK => ?_) AllReadyH.nil
              go_simp
              refine hK.out _ _ (by assumption) (fun hHeld => ?_)
              clear hK KK
              try simp only [Act.put, List.setIfInBounds_toArray, List.set_cons_zero, List.set_cons_succ, List.getElem_toArray, List.getElem_cons_succ, List.getElem_cons_zero]
              refine wpAnyH_done (by kernel_rfl) ?_ _
              have HX := Lib.hid h12
              clear gw gwE gwC gwEC gwCE c0 c1' c2' c3' c4 c5 f0 f1 f2 f3 f4 f5 p0 p1 p2 p3 p4 h9 h11 h12 hS9 hS12 hHeld
              go_step
              go_step
              go_meet
              exact ⟨x6, k6, rfl, HX.out⟩
            exact AllReadyH.nil
          exact AllReadyH.nil
        exact AllReadyH.nil
      exact AllReadyH.nil
    exact AllReadyH.nil
  case rest =>
    obtain ⟨x6, k6, rfl, h12⟩ := hcut
    clear c0 c1' c2' c3' c4 c5 f0 f1 f2 f3 f4 f5 p0 p1 p2 p3 p4
    obtain ⟨c0, c1', c2', c3', c4, c5, f0, f1, f2, f3, f4, f5⟩ := bs_cells (b := b) (v1 := .slice u1 Y.st.length d1) (v2 := .slice u2 Y.st.length d2) (v3 := .slice u3 Y.bk.length d3) (r := (r : Int)) (vL := .slice x6 (n + 1) k6) (nx := nx) h12 (.head _)
    obtain ⟨w13, e13, h13⟩ := Own.bsN (nx' := nx + 1) h12
    obtain ⟨m0, m1, m2, m3, m4, m5, -⟩ := bs_cells h13 (.head _)
    obtain ⟨z0, z1, z2, z3, z4, z5, g0, g1, g2, g3, g4, g5⟩ := bs_cells (b := b + 1 + 1) (v1 := nilv) (v2 := nilv) (v3 := nilv) (r := 0) (vL := nilv) (nx := 0) h13 (by simp)
    obtain ⟨w15, e15, h15⟩ := Own.bsSet (b := b + 1 + 1) (v1 := nilv) (v2 := nilv) (v3 := nilv) (r := 0) (vL := nilv) (nx := 0) (v1' := .slice u1 Y.st.length d1) (v2' := .slice u2 Y.st.length d2) (v3' := .slice u3 Y.bk.length d3) (r' := (r : Int)) (vL' := .slice x6 (n + 1) k6) (nx' := nx + 1) (Own.re 9 [4, 0, 1, 2, 3, 5, 6, 7, 8] rfl h13)
    obtain ⟨q0, q1, q2, q3, q4, q5, -⟩ := bs_cells h15 (.head _)
    have H15 : Hid (Own (RT Y (.slice u1 Y.st.length d1) :: RB Y (.slice u2 Y.st.length d2) :: RK Y (.slice u3 Y.bk.length d3) :: DH (.slice x6 (n + 1) k6) (n + 1) (E ++ [(K, ⟨k, c, len, pr, at_, nx, now⟩)]) :: l) w15) := Lib.hid (Own.re 9 [0, 1, 3, 4, 8, 5, 6, 7, 2] rfl h15).drop.drop.drop.drop.drop
    clear h12 h13 h15
    go_wp2_with fail
    exact bodyPost_ret (v := .tuple #[sv (.slice u1 Y.st.length d1) (.slice u2 Y.st.length d2) (.slice u3 Y.bk.length d3) r (.slice x6 (n + 1) k6) (nx + 1), .int .u64 (K : Int), .int .i64 0]) (by simp [results, Try.results36, go_sem, q0, q1, q2, q3, q4, q5]) rfl ⟨_, _, _, _, rfl, H15.out⟩
end
end Go.Proofs.Ytekdgghekdajbaa.St
