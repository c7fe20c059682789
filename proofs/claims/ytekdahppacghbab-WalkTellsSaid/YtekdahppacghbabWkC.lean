/- DERIVED. Layer 7 (walk): the first so many of an iterator. -/
import Derived.Test.YtekdahppacghbabWkB
import Derived.Maps.OwnIn
set_option linter.unusedVariables false
set_option linter.unusedSimpArgs false
set_option maxRecDepth 100000
namespace Go.Proofs.Ytekdahppacghbab.Wk
open Go.RowKit Go.Shelf Go.Proofs.Ytekdahppacghbab Go.Proofs.Ytekdahppacghbab.TreeP Go.Proofs.Ytekdahppacghbab.Tr
attribute [local go_sem] Oper.semAt_some

theorem appIn_own {F : Fence} {nn : Nat} {P : Program} {ops : Array Oper} {rest : List Oper} {o : Oper} {a : Act} {Q : Exit → Act → World → Prop} {W : World} (hgd : o.guard = none) (s x : Operand) (t e : TypeId) (z : Value) (size bytes : Nat)
    (ho : o.op = .call { callee := .builtin .append, args := #[s, x], argTypes := #[t, t] })
    (ht : P.underlying t = some (.slice e)) (hinfo : (P.info? e).map (fun i => (i.zero, i.size, i.bytes)) = some (some z, size, bytes)) (hz : z.cells.size = size) (hs0 : 0 < size) (hb0 : 0 < bytes)
    (v : Value) (n : Nat) (xs ys : List Value) (hs : a.eval s = v) (k : Nat) (hk : k = W.heap.size) (hx : a.eval x = .slice (some ⟨k, 0, none⟩) 1 1) (hys : ys.length = size) (h1 : ∀ u ∈ ys, u.oneCell' = true)
    (HO : W.ownsRow 0 e size v n xs) (hl : (n + 1) * bytes ≤ 140737488355328)
    (h : ∀ v1 w1, w1.ownsRow 0 e size v1 (n + 1) (xs ++ ys) → W.grownBy w1 v.ownBlock → Moved W v v1 → wpListIn F nn P ops Q rest (a.put o.dst v1) w1) :
    wpListIn F nn P ops Q (o :: rest) a (W.alloc (.cells ys.toArray e)) := by
  subst hk
  obtain ⟨i0, hi, hzz⟩ := Option.map_eq_some_iff.1 hinfo
  simp only [Prod.mk.injEq] at hzz
  obtain ⟨hz0, hz1, hz2⟩ := hzz
  have hlen : n + 1 ≤ 140737488355328 := Nat.le_trans (Nat.le_mul_of_pos_right _ hb0) hl
  refine wpListIn_append_own_at (W.alloc (.cells ys.toArray e)) hgd s x t ho 0 e i0 z size bytes ht hi hz0 hz1 hz2 hz hs0 v n xs hs (own_alloc HO _) ⟨W.heap.size, 0, none⟩ 1 1 ys hx (by rw [hys]; simp)
    (by simpa using World.news_of_block (cs := ys.toArray) (t := e) (fr := (0, 0)) (heap_alloc_new W (.cells ys.toArray e))) h1 (by simp only [maxLen]; omega) hl (Nat.zero_le _) ?_
  intro v1 w1 hown hg _ hat
  refine h v1 w1 hown (World.grownBy.trans (World.grownBy_alloc W _ _) hg) ?_
  rcases hat with hat | hat
  · exact .inl hat
  · exact .inr ⟨_, hat, by simp⟩
/-- the first so many, as long as they may be -/
def someL (xs : List En) (n : Nat) (may : Key → Bool) : List En := (xs.takeWhile fun e => may e.1).take n
theorem some_stop {xs pre : List En} {e : En} {n : Nat} {may : Key → Bool} (h : pre ++ [e] <+: xs) (ha : ∀ x ∈ pre, may x.1 = true) (hn : pre.length < n) (he : may e.1 = false) : someL xs n may = pre := by
  obtain ⟨rest, rfl⟩ := h
  unfold someL
  rw [List.append_assoc, List.takeWhile_append_of_pos ha, List.singleton_append, List.takeWhile_cons_of_neg (by simp [he]), List.append_nil, List.take_of_length_le (by omega)]
theorem some_full {xs pre : List En} {n : Nat} {may : Key → Bool} (h : pre <+: xs) (ha : ∀ x ∈ pre, may x.1 = true) (hn : pre.length = n) : someL xs n may = pre := by
  obtain ⟨rest, rfl⟩ := h
  unfold someL
  rw [List.takeWhile_append_of_pos ha, List.take_append_of_le_length (by omega), List.take_of_length_le (by omega)]
theorem some_done {xs : List En} {n : Nat} {may : Key → Bool} (ha : ∀ x ∈ xs, may x.1 = true) (hn : xs.length < n) : someL xs n may = xs := by
  unfold someL
  have := List.takeWhile_append_of_pos (p := fun e : En => may e.1) (l₂ := []) ha
  simp only [List.append_nil, List.takeWhile_nil] at this
  rw [this, List.take_of_length_le (by omega)]
abbrev BN (b : Nat) (n : Int) : HP := Go.Proofs.Ytekdahppacghbab.Blk b #[.int .i64 n] 3
abbrev BM (b mf : Nat) (ml : Array Value) : HP := Go.Proofs.Ytekdahppacghbab.Blk b #[.func (.func mf) #[] ml] 72
abbrev BO (b : Nat) (v : Value) : HP := Go.Proofs.Ytekdahppacghbab.Blk b #[v] 26
abbrev RE (v : Value) (E : List En) : HP := Row 49 3 v E.length (Tr.ents E)
/-- the frame in a round of some's loop -/
def SoAct (bn bm bo : Nat) (e : En) (Z : List HP) (a' : Act) : Prop :=
  ∃ (be : Nat) (u0 u1 u2 u3 u6 u9 u10 u11 u12 u13 u14 u15 u16 u17 u18 u19 u20 u21 u22 u23 u24 u25 u26 : Value), Z = [BE be e] ∧ a' = { tmps := #[u0, u1, u2, u3, .pointer (some ⟨bn, 0, none⟩), .pointer (some ⟨bm, 0, none⟩), u6, .pointer (some ⟨bo, 0, none⟩), .pointer (some ⟨be, 0, none⟩), u9, u10, u11, u12, u13, u14, u15, u16, u17, u18, u19, u20, u21, u22, u23, u24, u25, u26], defers := [] }
/-- between two rounds -/
def SoI (bn bm bo mf : Nat) (ml : Array Value) (n : Nat) (may : Key → Bool) (MB : List HP) (pre : List En) : List HP :=
  PackE (fun _ : Value => (∀ e ∈ pre, may e.1 = true) ∧ pre.length < n) (fun v => [BO bo v, RE v pre]) :: BN bn (n : Int) :: BM bm mf ml :: MB
/-- where the loop has been left -/
def SoX (bn bm bo mf : Nat) (ml : Array Value) (n : Nat) (M : List En) (MB : List HP) (c : Code) : List HP :=
  PackE (fun _ : Value => c = .exit 0) (fun v => [BO bo v, RE v M]) :: BN bn (n : Int) :: BM bm mf ml :: MB
theorem some_none {gf mf : Nat} {lb ml : Array Value} (n : Int) (hn : n < 1) {l : List HP} {w : World} (h : Own l w) :
    Calls Try.prog 26 #[.func (.func gf) #[] lb, .int .i64 n, .func (.func mf) #[] ml] w fun e w' => e = .returned (.slice none 0 0) ∧ Own l w' := by
  have H := Lib.hid (h.step ((((Ext.refl w).alloc (.cells #[.int .i64 n] 3)).alloc (.cells #[.func (.func mf) #[] ml] 72)).alloc (.cells #[.slice none 0 0] 26)))
  clear h
  refine (callsIn_wide (n := 9)).1 (callsIn_of_wp_marks Try.func26 rfl trivial ?_)
  simp only [Try.ntmps26, List.size_toArray, List.length_cons, List.length_nil, Nat.reduceAdd, Nat.reduceSub, Array.replicate_succ, Array.replicate_zero, List.push_toArray, List.append_toArray, List.nil_append, List.cons_append]
  gi_wp2
  exact ⟨_, results_tmp rfl _ _ _, rfl, H.out⟩
set_option maxHeartbeats 4000000 in
theorem some_any {gf mf : Nat} {lb ml : Array Value} (eg : ∀ args w, (callFunc gf args).run Try.prog w = .ok (.enter gf args) w) (em : ∀ args w, (callFunc mf args).run Try.prog w = .ok (.enter mf args) w) {xs : List En} {R0 : List HP} (hseq : SeqO Try.prog gf lb encE xs R0) (hlen : xs.length ≤ 65536)
    (may : Key → Bool) (MB : List HP) (hmay : ∀ (X : List HP) (W : World) (q : Key), Own (MB ++ X) W → Calls Try.prog mf (#[Tr.key q.1 q.2] ++ ml) W fun e W' => e = .returned (.bool (may q)) ∧ Own (MB ++ X) W')
    (n : Nat) (hn : 1 ≤ n) (hn2 : n < 9223372036854775808) {R1 : List HP} {w : World} (h : Own (MB ++ (R0 ++ R1)) w) :
    Calls Try.prog 26 #[.func (.func gf) #[] lb, .int .i64 (n : Int), .func (.func mf) #[] ml] w fun e w' => ∃ v, e = .returned v ∧ Own (RE v (someL xs n may) :: (MB ++ (R0 ++ R1))) w' := by
  have h1 := Go.Proofs.Ytekdahppacghbab.Own.blkNew (Go.Proofs.Ytekdahppacghbab.Own.blkNew (Go.Proofs.Ytekdahppacghbab.Own.blkNew h #[.int .i64 (n : Int)] 3) #[.func (.func mf) #[] ml] 72) #[.slice none 0 0] 26
  obtain ⟨bn, hbn⟩ : ∃ bn, bn = w.heap.size := ⟨_, rfl⟩
  obtain ⟨bm, hbm⟩ : ∃ bm, bm = w.heap.size + 1 := ⟨_, rfl⟩
  obtain ⟨bo, hbo⟩ : ∃ bo, bo = w.heap.size + 1 + 1 := ⟨_, rfl⟩
  simp only [World.size_alloc] at h1
  rw [← hbo, ← hbm, ← hbn] at h1
  have H1 : Hid (Own (SoI bn bm bo mf ml n may MB [] ++ (R0 ++ R1)) _) := Lib.hid (by
    have h2 : Own (RE (.slice none 0 0) [] :: _) _ := h1.nilRow 49 3
    have h3 : Own ([BO bo (.slice none 0 0), RE (.slice none 0 0) []] ++ (BM bm mf ml :: BN bn (n : Int) :: (MB ++ (R0 ++ R1)))) _ := h2.swap
    exact (Own.pack (φ := fun _ : Value => (∀ e ∈ ([] : List En), may e.1 = true) ∧ ([] : List En).length < n) (f := fun v => [BO bo v, RE v []]) (.slice none 0 0) ⟨(fun e he => by cases he), hn⟩ h3).tail OwnIn.swap)
  have HS := Lib.hid hseq
  have HM := Lib.hid hmay
  have HBN := Lib.hid hbn
  have HBM := Lib.hid hbm
  have HBO := Lib.hid hbo
  have nI : (1 : Int) ≤ (n : Int) := by omega
  clear hseq hmay h h1 hbn hbm hbo
  refine (callsIn_wide (n := 9)).1 (callsIn_of_wp_marks Try.func26 rfl trivial ?_)
  simp only [Try.ntmps26, List.size_toArray, List.length_cons, List.length_nil, Nat.reduceAdd, Nat.reduceSub, Array.replicate_succ, Array.replicate_zero, List.push_toArray, List.append_toArray, List.nil_append, List.cons_append]
  gi_wp2
  rw [← HBO.out, ← HBM.out, ← HBN.out]
  refine rangeFunc_own (gf := gf) (lb := lb) rfl eg HS.out (fun _ => rfl) (SoI bn bm bo mf ml n may MB) (fun c _ => SoX bn bm bo mf ml n (someL xs n may) MB c) R1 H1.out (SoAct bn bm bo) ?assign ?body ?done ?stop
  case assign =>
    intro l2 pre e W2 R K hI hK
    have hZ := Go.Proofs.Ytekdahppacghbab.Own.blkNew hI #[.int .u64 e.1.1, .int .u64 e.1.2, .int .i64 e.2] 49
    have HK := Lib.hid (fun a' hx => hK a' _ [BE W2.heap.size e] hZ hx)
    clear hI hK hZ H1
    gi_wp2
    exact HK.out _ ⟨_, _, _, _, _, _, _, _, _, _, _, _, _, _, _, _, _, _, _, _, _, _, _, _, rfl, rfl⟩
  case body =>
    rintro l2 pre e a' Z W2 R hpre ⟨be, u0, u1, u2, u3, u6, u9, u10, u11, u12, u13, u14, u15, u16, u17, u18, u19, u20, u21, u22, u23, u24, u25, u26, rfl, rfl⟩ h
    clear H1
    obtain ⟨v, ⟨ha, hl⟩, h2⟩ := Own.unpack (l := BE be e :: BN bn (n : Int) :: BM bm mf ml :: (MB ++ R)) h.swap
    have h3 : Own (MB ++ (BO bo v :: RE v pre :: BE be e :: BN bn (n : Int) :: BM bm mf ml :: R)) W2 := h2.perm (by
      have := (List.perm_append_comm (l₁ := [BO bo v, RE v pre, BE be e, BN bn (n : Int), BM bm mf ml]) (l₂ := MB)).append_right R
      simpa using this)
    have hc := HM.out _ W2 e.1 h3
    obtain ⟨B, hB⟩ : ∃ B, B = may e.1 := ⟨_, rfl⟩
    rw [← hB] at hc
    have hbm := Go.Proofs.Ytekdahppacghbab.Own.blk h2 (b := bm) (cs := #[.func (.func mf) #[] ml]) (t := 72) (by simp)
    have hbe := Go.Proofs.Ytekdahppacghbab.Own.blk h2 (b := be) (cs := #[.int .u64 e.1.1, .int .u64 e.1.2, .int .i64 e.2]) (t := 49) (by simp)
    have m0 : W2.cell? ⟨bm, 0, none⟩ = some (.func (.func mf) #[] ml) := by simp [World.cell?, hbm]
    have b0 : W2.cell? ⟨be, 0, none⟩ = some (.int .u64 e.1.1) := by simp [World.cell?, hbe]
    have b1 : W2.cell? ⟨be, 1, none⟩ = some (.int .u64 e.1.2) := by simp [World.cell?, hbe]
    have HC := Lib.hid hc
    have HA := Lib.hid ha
    have HL := Lib.hid hl
    have HPR := Lib.hid hpre
    have HBB := Lib.hid hB
    clear h h2 h3 hc ha hl hpre hB hbm hbe
    gi_wp2
    refine ⟨trivial, (CallsIn.inRound l2 (callsIn_wide.2 HC.out)).mono ?_⟩
    rintro e2 W3 ⟨rfl, h4⟩
    clear HC m0 b0 b1
    cases B with
    | false =>
      have hs := some_stop HPR.out HA.out HL.out HBB.out.symm
      have H : Hid (Own (SoX bn bm bo mf ml n (someL xs n may) MB (.exit 0) ++ R) W3) := Lib.hid (by
        rw [hs]
        have h5 : Own ([BO bo v, RE v pre] ++ (BN bn (n : Int) :: BM bm mf ml :: (MB ++ R))) W3 := by
          have h6 : Own (BE be e :: ([BO bo v, RE v pre] ++ (BN bn (n : Int) :: BM bm mf ml :: (MB ++ R)))) W3 := h4.perm (by
            classical
            rw [List.perm_iff_count]
            intro a
            simp only [List.count_append, List.count_cons, List.count_nil]
            omega)
          exact h6.drop
        exact Own.pack (φ := fun _ : Value => Code.exit 0 = .exit 0) (f := fun v => [BO bo v, RE v pre]) v rfl h5)
      clear h4 hs
      gi_wp2
      exact H.out
    | true =>
      have h5 : Own (RE v pre :: BO bo v :: BE be e :: BN bn (n : Int) :: BM bm mf ml :: (MB ++ R)) W3 := h4.perm (by
        classical
        rw [List.perm_iff_count]
        intro a
        simp only [List.count_append, List.count_cons, List.count_nil]
        omega)
      obtain ⟨va, vc, rfl⟩ := own_slice h5.row
      have hbo := Go.Proofs.Ytekdahppacghbab.Own.blk h5 (b := bo) (cs := #[.slice va pre.length vc]) (t := 26) (by simp)
      have hbn := Go.Proofs.Ytekdahppacghbab.Own.blk h5 (b := bn) (cs := #[.int .i64 (n : Int)]) (t := 3) (by simp)
      have hbe := Go.Proofs.Ytekdahppacghbab.Own.blk h5 (b := be) (cs := #[.int .u64 e.1.1, .int .u64 e.1.2, .int .i64 e.2]) (t := 49) (by simp)
      have o0 : W3.cell? ⟨bo, 0, none⟩ = some (.slice va pre.length vc) := by simp [World.cell?, hbo]
      have b0 : W3.cell? ⟨be, 0, none⟩ = some (.int .u64 e.1.1) := by simp [World.cell?, hbe]
      have b1 : W3.cell? ⟨be, 1, none⟩ = some (.int .u64 e.1.2) := by simp [World.cell?, hbe]
      have b2 : W3.cell? ⟨be, 2, none⟩ = some (.int .i64 e.2) := by simp [World.cell?, hbe]
      have hpl : pre.length ≤ 65536 := by
        have := HPR.out.length_le
        simp at this
        omega
      have HE1 : Hid (Tr.ents (pre ++ [e]) = Tr.ents pre ++ [.int .u64 e.1.1, .int .u64 e.1.2, .int .i64 e.2]) := Lib.hid (by rw [ents_append]; rfl)
      have H5 := Lib.hid h5
      obtain ⟨k, hk⟩ : ∃ k, k = pre.length := ⟨_, rfl⟩
      rw [← hk] at o0 hpl
      have HK := Lib.hid hk
      clear h4 h5 hbo hbn hbe hk
      have HNB : Hid (∀ (v1 : Value) (w4 : World), w4.ownsRow 0 49 3 v1 (k + 1) (Tr.ents pre ++ [.int .u64 e.1.1, .int .u64 e.1.2, .int .i64 e.2]) → W3.grownBy w4 (.slice va k vc : Value).ownBlock → Moved W3 (.slice va k vc) v1 →
          ∃ va1 vc1 w5, v1 = .slice va1 (k + 1) vc1 ∧ w4.cell? ⟨bo, 0, none⟩ = some (.slice va k vc) ∧ w4.frozen? ⟨bo, 0, none⟩ = false ∧ w4.setCell ⟨bo, 0, none⟩ (.slice va1 (k + 1) vc1) = w5 ∧ w5.cell? ⟨bo, 0, none⟩ = some (.slice va1 (k + 1) vc1) ∧ w5.cell? ⟨bn, 0, none⟩ = some (.int .i64 (n : Int)) ∧ Own (BO bo (.slice va1 (k + 1) vc1) :: RE (.slice va1 (k + 1) vc1) (pre ++ [e]) :: BN bn (n : Int) :: BM bm mf ml :: (MB ++ R)) w5) := Lib.hid (by
        intro v1 w4 hown hgrow hmv
        rw [← HE1.out] at hown
        have h5 := H5.out
        unfold RE at h5
        rw [← HK.out] at h5
        have h6 := h5.rowApp hown hgrow hmv
        obtain ⟨va1, vc1, rfl⟩ := own_slice hown
        have hbo := Go.Proofs.Ytekdahppacghbab.Own.blk h6 (b := bo) (cs := #[.slice va k vc]) (t := 26) (by simp)
        have h7 := Go.Proofs.Ytekdahppacghbab.Own.blkSet (o := 0) h6.swap (.slice va1 (k + 1) vc1)
        have h8 : Own (BO bo (.slice va1 (k + 1) vc1) :: RE (.slice va1 (k + 1) vc1) (pre ++ [e]) :: BN bn (n : Int) :: BM bm mf ml :: (MB ++ R)) (w4.setCell ⟨bo, 0, none⟩ (.slice va1 (k + 1) vc1)) := by
          unfold RE
          rw [show (pre ++ [e]).length = k + 1 from by rw [HK.out]; simp]
          exact h7.third.drop
        have hbo2 := Go.Proofs.Ytekdahppacghbab.Own.blk h8 (b := bo) (cs := #[.slice va1 (k + 1) vc1]) (t := 26) (by simp)
        have hbn := Go.Proofs.Ytekdahppacghbab.Own.blk h8 (b := bn) (cs := #[.int .i64 (n : Int)]) (t := 3) (by simp)
        exact ⟨va1, vc1, _, rfl, by simp [World.cell?, hbo], by simp [World.frozen?, hbo], rfl, by simp [World.cell?, hbo2], by simp [World.cell?, hbn], h8⟩)
      have hkl : k < n := by rw [HK.out]; exact HL.out
      by_cases hkn : k + 1 = n
      · have d1 : (((k : Int) + 1) == (n : Int)) = true := by simp; omega
        have HKN := Lib.hid hkn
        clear hkn
        gi_wp2_with (gi_at_builtin; refine appIn_own (W := W3) rfl _ _ _ _ _ 3 24 rfl Try.underlying26 infoEntry rfl (by omega) (by omega) (.slice va k vc) k (Tr.ents pre) [.int .u64 e.1.1, .int .u64 e.1.2, .int .i64 e.2] rfl _ (by simp) rfl rfl (by simp [Value.oneCell']) (by rw [HK.out]; exact H5.out.row) (by omega) ?_; intro v1 w4 hown hgrow hmv; obtain ⟨va1, vc1, w5, rfl, q0, q1, q2, q3, q4, q5⟩ := HNB.out v1 w4 hown hgrow hmv; have Q5 := Lib.hid q5; clear hown hgrow hmv q5)
        have hs : someL xs n may = pre ++ [e] := some_full HPR.out (by
          intro y hy
          rcases List.mem_append.1 hy with hy | hy
          · exact HA.out y hy
          · rw [List.mem_singleton] at hy; rw [hy]; exact HBB.out.symm) (by simp; rw [← HK.out]; exact HKN.out)
        have h9 := Q5.out
        have : Own ([BO bo (.slice va1 (k + 1) vc1), RE (.slice va1 (k + 1) vc1) (someL xs n may)] ++ (BN bn (n : Int) :: BM bm mf ml :: (MB ++ R))) w5 := by rw [hs]; exact h9
        exact Own.pack (φ := fun _ : Value => Code.exit 0 = .exit 0) (f := fun v => [BO bo v, RE v (someL xs n may)]) (.slice va1 (k + 1) vc1) rfl this
      · have d1 : (((k : Int) + 1) == (n : Int)) = false := by simp; omega
        have HKN := Lib.hid hkn
        clear hkn
        gi_wp2_with (gi_at_builtin; refine appIn_own (W := W3) rfl _ _ _ _ _ 3 24 rfl Try.underlying26 infoEntry rfl (by omega) (by omega) (.slice va k vc) k (Tr.ents pre) [.int .u64 e.1.1, .int .u64 e.1.2, .int .i64 e.2] rfl _ (by simp) rfl rfl (by simp [Value.oneCell']) (by rw [HK.out]; exact H5.out.row) (by omega) ?_; intro v1 w4 hown hgrow hmv; obtain ⟨va1, vc1, w5, rfl, q0, q1, q2, q3, q4, q5⟩ := HNB.out v1 w4 hown hgrow hmv; have Q5 := Lib.hid q5; clear hown hgrow hmv q5)
        have h9 := Q5.out
        have hk2 := HK.out
        have hkn2 := HKN.out
        refine Own.pack (φ := fun _ : Value => (∀ y ∈ pre ++ [e], may y.1 = true) ∧ (pre ++ [e]).length < n) (f := fun v => [BO bo v, RE v (pre ++ [e])]) (.slice va1 (k + 1) vc1) ⟨fun y hy => ?_, by simp; omega⟩ h9
        rcases List.mem_append.1 hy with hy | hy
        · exact HA.out y hy
        · rw [List.mem_singleton] at hy; rw [hy]; exact HBB.out.symm
  case done =>
    intro D W2 h
    clear H1
    have hobj := h.obj
    obtain ⟨v, ⟨ha, hl⟩, h2⟩ := Own.unpack (l := ObjHP D (.deferred (some [])) :: BN bn (n : Int) :: BM bm mf ml :: (MB ++ (R0 ++ R1))) h.swap
    obtain ⟨va, vc, rfl⟩ := own_slice (Own.swap h2).row
    have hbo := Go.Proofs.Ytekdahppacghbab.Own.blk h2 (b := bo) (cs := #[.slice va (xs).length vc]) (t := 26) (by simp)
    have o0 : W2.cell? ⟨bo, 0, none⟩ = some (.slice va (xs).length vc) := by simp [World.cell?, hbo]
    have H : Hid (Own (RE (.slice va (xs).length vc) (someL xs n may) :: (MB ++ (R0 ++ R1))) (W2.putObj D (.deferred none))) := Lib.hid (by
      have h3 : Own (ObjHP D (.deferred (some [])) :: BN bn (n : Int) :: BM bm mf ml :: BO bo (.slice va (xs).length vc) :: RE (.slice va (xs).length vc) (xs) :: (MB ++ (R0 ++ R1))) W2 := h2.perm (by
        classical
        rw [List.perm_iff_count]
        intro a
        simp only [List.count_append, List.count_cons, List.count_nil]
        omega)
      have h4 := (h3.objSet (.deferred none)).drop.drop.drop.drop
      rw [some_done ha hl]; exact h4)
    clear h h2 hbo
    gi_wp2
    refine ⟨by simp, .inl ⟨_, _, rfl, run_takeDeferred hobj, ?_⟩⟩
    refine ⟨_, results_tmp rfl _ _ _, ?_⟩
    exact ⟨_, rfl, H.out⟩
  case stop =>
    intro D c pre W2 hpre h
    clear H1
    have hobj := h.obj
    obtain ⟨v, rfl, h2⟩ := Own.unpack (l := ObjHP D (.deferred (some [])) :: BN bn (n : Int) :: BM bm mf ml :: (MB ++ (R0 ++ R1))) h.swap
    obtain ⟨va, vc, rfl⟩ := own_slice (Own.swap h2).row
    have hbo := Go.Proofs.Ytekdahppacghbab.Own.blk h2 (b := bo) (cs := #[.slice va (someL xs n may).length vc]) (t := 26) (by simp)
    have o0 : W2.cell? ⟨bo, 0, none⟩ = some (.slice va (someL xs n may).length vc) := by simp [World.cell?, hbo]
    have H : Hid (Own (RE (.slice va (someL xs n may).length vc) (someL xs n may) :: (MB ++ (R0 ++ R1))) (W2.putObj D (.deferred none))) := Lib.hid (by
      have h3 : Own (ObjHP D (.deferred (some [])) :: BN bn (n : Int) :: BM bm mf ml :: BO bo (.slice va (someL xs n may).length vc) :: RE (.slice va (someL xs n may).length vc) (someL xs n may) :: (MB ++ (R0 ++ R1))) W2 := h2.perm (by
        classical
        rw [List.perm_iff_count]
        intro a
        simp only [List.count_append, List.count_cons, List.count_nil]
        omega)
      have h4 := (h3.objSet (.deferred none)).drop.drop.drop.drop
      exact h4)
    clear h h2 hbo
    gi_wp2
    refine ⟨by simp, .inl ⟨_, _, rfl, run_takeDeferred hobj, ?_⟩⟩
    refine ⟨_, results_tmp rfl _ _ _, ?_⟩
    exact ⟨_, rfl, H.out⟩
end Go.Proofs.Ytekdahppacghbab.Wk
