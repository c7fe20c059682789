/- DERIVED. Layers 14, 15: calls that came in; played, does. Written by wip/mktbl.py. -/
import Derived.Test.YtkdmlpigkmlkmaaTbJ
import Derived.Deep.Strs
import Derived.Lib.SmallJoins
set_option linter.unusedVariables false
set_option linter.unusedSimpArgs false
set_option maxRecDepth 100000
namespace Go.Proofs.Ytkdmlpigkmlkmaa.Tb
open Go.RowKit Go.Proofs.Ytkdmlpigkmlkmaa Go.Proofs.Ytkdmlpigkmlkmaa.TreeP Go.Proofs.Ytkdmlpigkmlkmaa.Tr Go.Proofs.Ytkdmlpigkmlkmaa.Bk Go.WideShapes Go.ChangeShapes Go.ChangeAt

/-- a call -/
structure TOp where
  kind : Int
  sock : Int
  cookie : Int
  now : Int
  f : Int
  x : FD
instance : Inhabited TOp := ⟨⟨0, 0, 0, 0, 0, F0⟩⟩
def oc (o : TOp) : Nat → Value
  | 0 => .int .u8 o.kind
  | 1 => .int .u64 o.sock
  | 2 => .int .u64 o.cookie
  | 3 => .int .u64 o.now
  | 4 => .int .i64 o.f
  | 5 => .int .u64 o.x.s
  | 6 => .int .u64 o.x.c
  | 7 => .int .u64 o.x.ra
  | 8 => .int .i64 o.x.cr
  | 9 => .int .u64 o.x.nx
  | 10 => .int .u64 o.x.db
  | _ => .int .u64 o.x.ag
structure OKo (o : TOp) : Prop where
  s0 : 0 ≤ o.sock
  s1 : o.sock < 18446744073709551616
  n0 : 0 ≤ o.now
  n1 : o.now < 18446744073709551616
  a0 : 0 ≤ o.x.ag
  a1 : o.x.ag < 18446744073709551616
def Ops (W : World) (v : Value) (n : Nat) (f : Nat → TOp) : Prop :=
  (∀ i, i < n → OKo (f i)) ∧ ∃ a cap, v = .slice a n cap ∧ n ≤ cap ∧ cap ≤ maxLen ∧ (0 < n → ∃ b off, a = some ⟨b, off, none⟩ ∧ b < W.heap.size ∧ ∀ i c, i < n → c < 12 → W.cell? ⟨b, off + i * 12 + c, none⟩ = some (oc (f i) c))
def Ops2 (W : World) (v : Value) (x : Nat × (Nat → TOp)) : Prop := Ops W v x.1 x.2
theorem list7 {α : Type} {cs : List α} (h : cs.length = 7) : ∃ c0 c1 c2 c3 c4 c5 c6, cs = [c0, c1, c2, c3, c4, c5, c6] := by
  match cs, h with
  | [c0, c1, c2, c3, c4, c5, c6], _ => exact ⟨c0, c1, c2, c3, c4, c5, c6, rfl⟩
theorem list6 {α : Type} {cs : List α} (h : cs.length = 6) : ∃ c0 c1 c2 c3 c4 c5, cs = [c0, c1, c2, c3, c4, c5] := by
  match cs, h with
  | [c0, c1, c2, c3, c4, c5], _ => exact ⟨c0, c1, c2, c3, c4, c5, rfl⟩
section
variable {H : Type} {enc : TypeId × Value → H} {w : World}
theorem int_at {P : Program} {base n : Nat} {spare : Nat → Bool} {held : Bool} {t : TypeId} {k : IntKind} {c : Value} {y : DataW H × List MemPlace} (ht : P.underlying t = some (.int k)) (h : DataW.trod enc P w base spare held n t [c] = some y) :
    ∃ a, c = .int k a ∧ (Lit.int k a).wf = true := by
  obtain ⟨a, ha, hx, wa⟩ := DataW.trod_int ht h
  injection ha with ha
  exact ⟨a, ha, wa⟩
theorem trod_flow {base n : Nat} {spare : Nat → Bool} {held : Bool} {c0 c1 c2 c3 c4 c5 c6 : Value} {y : DataW H × List MemPlace}
    (h : DataW.trod enc Try.prog w base spare held n 41 [c0, c1, c2, c3, c4, c5, c6] = some y) :
    ∃ F : FD, c0 = .int .u64 F.s ∧ c1 = .int .u64 F.c ∧ c2 = .int .u64 F.ra ∧ c3 = .int .i64 F.cr ∧ c4 = .int .u64 F.nx ∧ c5 = .int .u64 F.db ∧ c6 = .int .u64 F.ag ∧ (Lit.int .u64 F.ag).wf = true := by
  obtain ⟨xs, n, _, hx, _, hlen, hg⟩ := DataW.trod_struct Try.underlying41 h
  obtain ⟨y0, y1, y2, y3, y4, y5, y6, rfl⟩ := list7 (show xs.length = 7 from hlen)
  have q8 : Try.prog.cellsOf 22 = 1 := by kernel_rfl
  have q3 : Try.prog.cellsOf 3 = 1 := by kernel_rfl
  obtain ⟨a0, e0, _⟩ := int_at (c := c0) Try.underlying22 (by simpa [q8] using hg 0 _ rfl)
  obtain ⟨a1, e1, _⟩ := int_at (c := c1) Try.underlying22 (by simpa [q8] using hg 1 _ rfl)
  obtain ⟨a2, e2, _⟩ := int_at (c := c2) Try.underlying22 (by simpa [q8] using hg 2 _ rfl)
  obtain ⟨a3, e3, _⟩ := int_at (c := c3) Try.underlying3 (by simpa [q3] using hg 3 _ rfl)
  obtain ⟨a4, e4, _⟩ := int_at (c := c4) Try.underlying22 (by simpa [q8] using hg 4 _ rfl)
  obtain ⟨a5, e5, _⟩ := int_at (c := c5) Try.underlying22 (by simpa [q8] using hg 5 _ rfl)
  obtain ⟨a6, e6, w6⟩ := int_at (c := c6) Try.underlying22 (by simpa [q8] using hg 6 _ rfl)
  exact ⟨⟨a0, a1, a2, a3, a4, a5, a6⟩, e0, e1, e2, e3, e4, e5, e6, w6⟩
theorem trod_op {base n : Nat} {spare : Nat → Bool} {held : Bool} {C : Nat → Value} {y : DataW H × List MemPlace}
    (h : DataW.trod enc Try.prog w base spare held n 60 [C 0, C 1, C 2, C 3, C 4, C 5, C 6, C 7, C 8, C 9, C 10, C 11] = some y) :
    ∃ o : TOp, (∀ c, c < 12 → C c = oc o c) ∧ OKo o := by
  obtain ⟨xs, n, _, hx, _, hlen, hg⟩ := DataW.trod_struct Try.underlying60 h
  obtain ⟨y0, y1, y2, y3, y4, y5, rfl⟩ := list6 (show xs.length = 6 from hlen)
  have q8 : Try.prog.cellsOf 22 = 1 := by kernel_rfl
  have q3 : Try.prog.cellsOf 3 = 1 := by kernel_rfl
  have q5 : Try.prog.cellsOf 5 = 1 := by kernel_rfl
  have q7 : Try.prog.cellsOf 41 = 7 := by kernel_rfl
  obtain ⟨a0, e0, _⟩ := int_at (c := C 0) Try.underlying5 (by simpa [q5] using hg 0 _ rfl)
  obtain ⟨a1, e1, w1⟩ := int_at (c := C 1) Try.underlying22 (by simpa [q8] using hg 1 _ rfl)
  obtain ⟨a2, e2, _⟩ := int_at (c := C 2) Try.underlying22 (by simpa [q8] using hg 2 _ rfl)
  obtain ⟨a3, e3, w3⟩ := int_at (c := C 3) Try.underlying22 (by simpa [q8] using hg 3 _ rfl)
  obtain ⟨a4, e4, _⟩ := int_at (c := C 4) Try.underlying3 (by simpa [q3] using hg 4 _ rfl)
  obtain ⟨F, f0, f1, f2, f3, f4, f5, f6, wf⟩ := trod_flow (c0 := C 5) (c1 := C 6) (c2 := C 7) (c3 := C 8) (c4 := C 9) (c5 := C 10) (c6 := C 11) (by simpa [q7] using hg 5 _ rfl)
  have b1 := u64_bd w1
  have b3 := u64_bd w3
  have bf := u64_bd wf
  refine ⟨⟨a0, a1, a2, a3, a4, F⟩, fun c hc => ?_, ⟨b1.1, by simp only; omega, b3.1, by simp only; omega, bf.1, by simp only; omega⟩⟩
  rcases c with _ | _ | _ | _ | _ | _ | _ | _ | _ | _ | _ | _ | c
  · exact e0
  · exact e1
  · exact e2
  · exact e3
  · exact e4
  · exact f0
  · exact f1
  · exact f2
  · exact f3
  · exact f4
  · exact f5
  · exact f6
  · omega
theorem ops_of {v : Value} {d : DataW H} {ps : List MemPlace} (hv : ∃ a len cap, v = .slice a len cap)
    (h : DataW.Trod enc Try.prog w 0 (fun _ => true) true 37 v d ps) : ∃ x, Ops2 w v x := by
  obtain ⟨n, C, ⟨a, cap, hv', h1, h2, h3⟩, h4⟩ := came_of (P := Try.prog) (sz := 12) Try.underlying37 (by kernel_rfl) (by omega) hv h
  have hz : ∀ i, i < n → ∃ o : TOp, (∀ c, c < 12 → C i c = oc o c) ∧ OKo o := by
    intro i hi
    obtain ⟨m, x, hx⟩ := h4 i hi
    exact trod_op hx
  obtain ⟨f, hf⟩ := Deep.choose_lt (α := TOp) (p := fun i o => (∀ c, c < 12 → C i c = oc o c) ∧ OKo o) hz
  refine ⟨(n, f), fun i hi => (hf i hi).2, a, cap, hv', h1, h2, fun hp => ?_⟩
  obtain ⟨b, off, rfl, hb, hcell⟩ := h3 hp
  refine ⟨b, off, rfl, hb, fun i c hi hc => ?_⟩
  rw [hcell i c hi hc, (hf i hi).1 c hc]
end
abbrev BOp (b : Nat) (o : TOp) : HP := Go.Proofs.Ytkdmlpigkmlkmaa.Blk b #[.int .u8 o.kind, .int .u64 o.sock, .int .u64 o.cookie, .int .u64 o.now, .int .i64 o.f, .int .u64 o.x.s, .int .u64 o.x.c, .int .u64 o.x.ra, .int .i64 o.x.cr, .int .u64 o.x.nx, .int .u64 o.x.db, .int .u64 o.x.ag] 60
structure OpC (w : World) (b : Nat) (o : TOp) : Prop where
  c0 : w.cell? ⟨b, 0, none⟩ = some (.int .u8 o.kind)
  c1 : w.cell? ⟨b, 1, none⟩ = some (.int .u64 o.sock)
  c2 : w.cell? ⟨b, 2, none⟩ = some (.int .u64 o.cookie)
  c3 : w.cell? ⟨b, 3, none⟩ = some (.int .u64 o.now)
  c4 : w.cell? ⟨b, 4, none⟩ = some (.int .i64 o.f)
  c5 : w.cell? ⟨b, 5, none⟩ = some (.int .u64 o.x.s)
  c6 : w.cell? ⟨b, 6, none⟩ = some (.int .u64 o.x.c)
  c7 : w.cell? ⟨b, 7, none⟩ = some (.int .u64 o.x.ra)
  c8 : w.cell? ⟨b, 8, none⟩ = some (.int .i64 o.x.cr)
  c9 : w.cell? ⟨b, 9, none⟩ = some (.int .u64 o.x.nx)
  c10 : w.cell? ⟨b, 10, none⟩ = some (.int .u64 o.x.db)
  c11 : w.cell? ⟨b, 11, none⟩ = some (.int .u64 o.x.ag)
theorem op_c {b : Nat} {o : TOp} {l : List HP} {w : World} (h : Own l w) (hm : BOp b o ∈ l) : OpC w b o := by
  have := Go.Proofs.Ytkdmlpigkmlkmaa.Own.blk h hm
  constructor <;> simp [World.cell?, this]
/-- what a call of kinds 1 to 5 makes of a table -/
def stepS (n b : Nat) (k : Int) (S : T) (o : TOp) : T :=
  if o.kind = 1 then (findT n b k o.sock o.cookie o.now 300 S).S else if o.kind = 2 then onT S o.f (rest o.now) else if o.kind = 3 then onT S o.f busy else if o.kind = 4 then dropF S o.f else if o.kind = 5 then onT S o.f (put o.x) else S
def bitsD (b : Nat) (o : TOp) : Nat := if o.kind = 7 then (if 0 ≤ o.f ∧ o.f ≤ 10 then o.f.toNat else b) else b
def keepD (k : Int) (o : TOp) : Int := if o.kind = 6 then o.now else k
theorem step_ok {n b N : Nat} {k : Int} {S : T} {o : TOp} (h : TI n N S) (ho : OKo o) : TI n (N + 9) (stepS n b k S o) := by
  unfold stepS
  split
  · exact find_ok h ho.s0 ho.s1
  split
  · exact (rest_ok h ho.n0 ho.n1).mono (by omega)
  split
  · exact (busy_ok h).mono (by omega)
  split
  · exact (dropF_ok h).mono (by omega)
  split
  · exact (put_ok h ⟨ho.a0, ho.a1⟩).mono (by omega)
  · exact h.mono (by omega)
def playS (n b : Nat) (k : Int) (f : Nat → TOp) : Nat → T
  | 0 => freshT n
  | i + 1 => stepS n b k (playS n b k f i) (f i)
def PlI (l : List HP) (p b m : Nat) (keep : Int) (f : Nat → TOp) (vi : Value) (wr : World) : Prop :=
  ∃ i : Nat, vi = .int .i64 (i : Int) ∧ i ≤ m ∧ Own (Tbl p 12 b (9 * i) keep (playS 12 b keep f i) :: l) wr
section
variable {p n b N : Nat} {keep : Int} {S : T} {l : List HP} {w : World}
set_option maxHeartbeats 8000000 in
theorem does_any (h : Own (Tbl p n b N keep S :: l) w) (hN : N ≤ 30000) (o : TOp) (ho : OKo o) :
    Calls Try.prog 40 #[.pointer (some ⟨p, 0, none⟩), .agg #[.int .u8 o.kind, .int .u64 o.sock, .int .u64 o.cookie, .int .u64 o.now, .int .i64 o.f, .int .u64 o.x.s, .int .u64 o.x.c, .int .u64 o.x.ra, .int .i64 o.x.cr, .int .u64 o.x.nx, .int .u64 o.x.db, .int .u64 o.x.ag]] w fun e w' => e = .returned (.tuple #[]) ∧ Own (Tbl p n (bitsD b o) (N + 9) (keepD keep o) (stepS n b keep S o) :: l) w' := by
  have h1 := Go.Proofs.Ytkdmlpigkmlkmaa.Own.blkNew h #[.int .u8 o.kind, .int .u64 o.sock, .int .u64 o.cookie, .int .u64 o.now, .int .i64 o.f, .int .u64 o.x.s, .int .u64 o.x.c, .int .u64 o.x.ra, .int .i64 o.x.cr, .int .u64 o.x.nx, .int .u64 o.x.db, .int .u64 o.x.ag] 60
  obtain ⟨bo, hbo⟩ : ∃ bo, bo = w.heap.size := ⟨_, rfl⟩
  rw [← hbo] at h1
  obtain ⟨LA, hLA⟩ : ∃ LA, LA = BOp bo o :: Tbl p n b N keep S :: l := ⟨_, rfl⟩
  rw [← hLA] at h1
  obtain ⟨d0, d1, d2, d3, d4, d5, d6, d7, d8, d9, d10, d11⟩ := (op_c (l := LA) h1 (by rw [hLA]; exact .head _) : OpC _ bo o)
  obtain ⟨W, hW⟩ : ∃ W, W = w.alloc (.cells #[.int .u8 o.kind, .int .u64 o.sock, .int .u64 o.cookie, .int .u64 o.now, .int .i64 o.f, .int .u64 o.x.s, .int .u64 o.x.c, .int .u64 o.x.ra, .int .i64 o.x.cr, .int .u64 o.x.nx, .int .u64 o.x.db, .int .u64 o.x.ag] 60) := ⟨_, rfl⟩
  rw [← hW] at h1 d0 d1 d2 d3 d4 d5 d6 d7 d8 d9 d10 d11
  have H := Lib.hid h1
  have HOK := Lib.hid ho
  have HW := Lib.hid hW
  have HBO := Lib.hid hbo
  clear h h1 ho hW hbo
  go_enter Try.func40, Try.ntmps40
  go_upto_region 1 with fail
  rw [← HBO.out, ← HW.out]
  clear HBO HW
  have HLB : Hid (∀ w', Own LA w' → Own (Tbl p n b (N) keep S :: l) w') := Lib.hid fun w' h' => by rw [hLA] at h'; exact h'.drop
  have HCC : Hid (∀ w', Own LA w' → OpC w' bo o) := Lib.hid fun w' h' => by rw [hLA] at h'; exact op_c h' (.head _)
  have HLA := Lib.hid hLA
  clear hLA
  by_cases hk1 : o.kind = 1
  · have e1 : (o.kind == 1) = true := by simp [hk1]
    have hst : stepS n b keep S o = (findT n b keep o.sock o.cookie o.now 300 S).S := by unfold stepS; rw [if_pos hk1]
    have hkp : keepD keep o = keep := by unfold keepD; rw [if_neg (by rw [hk1]; decide)]
    have hbt : bitsD b o = b := by unfold bitsD; rw [if_neg (by rw [hk1]; decide)]
    have HX : Hid (∀ w', Own LA w' → Calls Try.prog 13 #[.pointer (some ⟨p, 0, none⟩), .int .u64 o.sock, .int .u64 o.cookie, .int .u64 o.now, pace] w' fun e w2 => (∃ v, e = .returned v) ∧ (w2.cell? ⟨bo, 1, none⟩ = some (.int .u64 o.sock) ∧ w2.cell? ⟨bo, 2, none⟩ = some (.int .u64 o.cookie) ∧ w2.cell? ⟨bo, 3, none⟩ = some (.int .u64 o.now)) ∧ Own (Tbl p n (bitsD b o) (N + 9) (keepD keep o) (stepS n b keep S o) :: l) w2) := Lib.hid fun w' h' => by
      rw [hst, hkp, hbt]
      rw [HLA.out] at h'
      exact (own_find h'.swap (by omega) o.sock o.cookie o.now 100 300 0 0 0 HOK.out.s0 HOK.out.s1).mono fun e w2 ⟨he, h2⟩ => ⟨⟨_, he⟩, ⟨(op_c h2 (.tail _ (.head _))).c1, (op_c h2 (.tail _ (.head _))).c2, (op_c h2 (.tail _ (.head _))).c3⟩, h2.swap.drop⟩
    clear hk1 hst hkp hbt
    have HPC : Hid (∀ w', Own LA w' → Calls Try.prog 14 #[] w' fun e w2 => e = .returned pace ∧ Own LA w2) := Lib.hid fun w' h' => pace_own h'
    have HC3 : Hid (∀ w', Own LA w' → w'.cell? ⟨bo, 1, none⟩ = some (.int .u64 o.sock) ∧ w'.cell? ⟨bo, 2, none⟩ = some (.int .u64 o.cookie) ∧ w'.cell? ⟨bo, 3, none⟩ = some (.int .u64 o.now)) := Lib.hid fun w' h' => ⟨(HCC.out _ h').c1, (HCC.out _ h').c2, (HCC.out _ h').c3⟩
    have hg := H.out.step (Ext.refl _).drew
    go_upto_region 3 with fail
    go_region_held3 (fun w' => w'.cell? ⟨bo, 1, none⟩ = some (.int .u64 o.sock) ∧ w'.cell? ⟨bo, 2, none⟩ = some (.int .u64 o.cookie) ∧ w'.cell? ⟨bo, 3, none⟩ = some (.int .u64 o.now))
      (first | exact ⟨(Ext.refl _).drew.cell d1, (Ext.refl _).drew.cell d2, (Ext.refl _).drew.cell d3⟩ | exact HC3.out _ (by assumption) | assumption)
      (first
        | (go_at_call 14; (with_reducible refine (HPC.out _ (by assumption)).mono ?_); rintro e w8 ⟨rfl, hz⟩)
        | (go_at_call 13; (with_reducible refine (HX.out _ (by assumption)).mono ?_); rintro e w9 ⟨⟨v9, rfl⟩, hz9, h9⟩))
    have H9 := Lib.hid h9
    clear h9
    go_wp2_with fail
    go_end0
    exact ⟨rfl, H9.out⟩
  · have e1 : (o.kind == 1) = false := by simp [hk1]
    by_cases hk2 : o.kind = 2
    · have e2 : (o.kind == 2) = true := by simp [hk2]
      have hst : stepS n b keep S o = onT S o.f (rest o.now) := by unfold stepS; rw [if_neg hk1]; rw [if_pos hk2]
      have hkp : keepD keep o = keep := by unfold keepD; rw [if_neg (by rw [hk2]; decide)]
      have hbt : bitsD b o = b := by unfold bitsD; rw [if_neg (by rw [hk2]; decide)]
      have HX : Hid (∀ w', Own LA w' → Calls Try.prog 15 #[.pointer (some ⟨p, 0, none⟩), .int .i64 o.f, .int .u64 o.now] w' fun e w2 => (∃ v, e = .returned v) ∧ Own (Tbl p n (bitsD b o) (N + 9) (keepD keep o) (stepS n b keep S o) :: l) w2) := Lib.hid fun w' h' => by
        rw [hst, hkp, hbt]
        exact (own_rest (HLB.out _ h') o.f o.now HOK.out.n0 HOK.out.n1).mono fun e w2 ⟨he, h2⟩ => ⟨⟨_, he⟩, tb_mono h2 (by omega)⟩
      clear hk1 hk2 hst hkp hbt
      go_wp2_with fail
      (with_reducible refine (HX.out _ H.out).mono ?_)
      rintro e w9 ⟨⟨v9, rfl⟩, h9⟩
      have H9 := Lib.hid h9
      clear h9
      go_wp2_with fail
      go_end0
      exact ⟨rfl, H9.out⟩
    · have e2 : (o.kind == 2) = false := by simp [hk2]
      by_cases hk3 : o.kind = 3
      · have e3 : (o.kind == 3) = true := by simp [hk3]
        have hst : stepS n b keep S o = onT S o.f busy := by unfold stepS; rw [if_neg hk1]; rw [if_neg hk2]; rw [if_pos hk3]
        have hkp : keepD keep o = keep := by unfold keepD; rw [if_neg (by rw [hk3]; decide)]
        have hbt : bitsD b o = b := by unfold bitsD; rw [if_neg (by rw [hk3]; decide)]
        have HX : Hid (∀ w', Own LA w' → Calls Try.prog 26 #[.pointer (some ⟨p, 0, none⟩), .int .i64 o.f] w' fun e w2 => (∃ v, e = .returned v) ∧ Own (Tbl p n (bitsD b o) (N + 9) (keepD keep o) (stepS n b keep S o) :: l) w2) := Lib.hid fun w' h' => by
          rw [hst, hkp, hbt]
          exact (own_busy (HLB.out _ h') o.f).mono fun e w2 ⟨he, h2⟩ => ⟨⟨_, he⟩, tb_mono h2 (by omega)⟩
        clear hk1 hk2 hk3 hst hkp hbt
        go_wp2_with fail
        (with_reducible refine (HX.out _ H.out).mono ?_)
        rintro e w9 ⟨⟨v9, rfl⟩, h9⟩
        have H9 := Lib.hid h9
        clear h9
        go_wp2_with fail
        go_end0
        exact ⟨rfl, H9.out⟩
      · have e3 : (o.kind == 3) = false := by simp [hk3]
        by_cases hk4 : o.kind = 4
        · have e4 : (o.kind == 4) = true := by simp [hk4]
          have hst : stepS n b keep S o = dropF S o.f := by unfold stepS; rw [if_neg hk1]; rw [if_neg hk2]; rw [if_neg hk3]; rw [if_pos hk4]
          have hkp : keepD keep o = keep := by unfold keepD; rw [if_neg (by rw [hk4]; decide)]
          have hbt : bitsD b o = b := by unfold bitsD; rw [if_neg (by rw [hk4]; decide)]
          have HX : Hid (∀ w', Own LA w' → Calls Try.prog 17 #[.pointer (some ⟨p, 0, none⟩), .int .i64 o.f] w' fun e w2 => (∃ v, e = .returned v) ∧ Own (Tbl p n (bitsD b o) (N + 9) (keepD keep o) (stepS n b keep S o) :: l) w2) := Lib.hid fun w' h' => by
            rw [hst, hkp, hbt]
            exact (own_drop (HLB.out _ h') (by omega) o.f).mono fun e w2 ⟨he, h2⟩ => ⟨⟨_, he⟩, tb_mono h2 (by omega)⟩
          clear hk1 hk2 hk3 hk4 hst hkp hbt
          go_wp2_with fail
          (with_reducible refine (HX.out _ H.out).mono ?_)
          rintro e w9 ⟨⟨v9, rfl⟩, h9⟩
          have H9 := Lib.hid h9
          clear h9
          go_wp2_with fail
          go_end0
          exact ⟨rfl, H9.out⟩
        · have e4 : (o.kind == 4) = false := by simp [hk4]
          by_cases hk5 : o.kind = 5
          · have e5 : (o.kind == 5) = true := by simp [hk5]
            have hst : stepS n b keep S o = onT S o.f (put o.x) := by unfold stepS; rw [if_neg hk1]; rw [if_neg hk2]; rw [if_neg hk3]; rw [if_neg hk4]; rw [if_pos hk5]
            have hkp : keepD keep o = keep := by unfold keepD; rw [if_neg (by rw [hk5]; decide)]
            have hbt : bitsD b o = b := by unfold bitsD; rw [if_neg (by rw [hk5]; decide)]
            have HX : Hid (∀ w', Own LA w' → Calls Try.prog 27 #[.pointer (some ⟨p, 0, none⟩), .int .i64 o.f, fagg o.x] w' fun e w2 => (∃ v, e = .returned v) ∧ Own (Tbl p n (bitsD b o) (N + 9) (keepD keep o) (stepS n b keep S o) :: l) w2) := Lib.hid fun w' h' => by
              rw [hst, hkp, hbt]
              exact (own_set (HLB.out _ h') o.f o.x ⟨HOK.out.a0, HOK.out.a1⟩).mono fun e w2 ⟨he, h2⟩ => ⟨⟨_, he⟩, tb_mono h2 (by omega)⟩
            clear hk1 hk2 hk3 hk4 hk5 hst hkp hbt
            go_wp2_with fail
            (with_reducible refine (HX.out _ H.out).mono ?_)
            rintro e w9 ⟨⟨v9, rfl⟩, h9⟩
            have H9 := Lib.hid h9
            clear h9
            go_wp2_with fail
            go_end0
            exact ⟨rfl, H9.out⟩
          · have e5 : (o.kind == 5) = false := by simp [hk5]
            by_cases hk6 : o.kind = 6
            · have e6 : (o.kind == 6) = true := by simp [hk6]
              have hst : stepS n b keep S o = S := by unfold stepS; rw [if_neg hk1]; rw [if_neg hk2]; rw [if_neg hk3]; rw [if_neg hk4]; rw [if_neg hk5]
              have hkp : keepD keep o = o.now := by unfold keepD; rw [if_pos hk6]
              have hbt : bitsD b o = b := by unfold bitsD; rw [if_neg (by rw [hk6]; decide)]
              have HX : Hid (∀ w', Own LA w' → Calls Try.prog 36 #[.pointer (some ⟨p, 0, none⟩), .int .u64 o.now] w' fun e w2 => (∃ v, e = .returned v) ∧ Own (Tbl p n (bitsD b o) (N + 9) (keepD keep o) (stepS n b keep S o) :: l) w2) := Lib.hid fun w' h' => by
                rw [hst, hkp, hbt]
                exact (own_keep (HLB.out _ h') o.now HOK.out.n0 (by have := HOK.out.n1; omega)).mono fun e w2 ⟨he, h2⟩ => ⟨⟨_, he⟩, tb_mono h2 (by omega)⟩
              clear hk1 hk2 hk3 hk4 hk5 hk6 hst hkp hbt
              go_wp2_with fail
              (with_reducible refine (HX.out _ H.out).mono ?_)
              rintro e w9 ⟨⟨v9, rfl⟩, h9⟩
              have H9 := Lib.hid h9
              clear h9
              go_wp2_with fail
              go_end0
              exact ⟨rfl, H9.out⟩
            · have e6 : (o.kind == 6) = false := by simp [hk6]
              by_cases hk7 : o.kind = 7
              · have e7 : (o.kind == 7) = true := by simp [hk7]
                have hst : stepS n b keep S o = S := by unfold stepS; rw [if_neg hk1]; rw [if_neg hk2]; rw [if_neg hk3]; rw [if_neg hk4]; rw [if_neg hk5]
                have hkp : keepD keep o = keep := by unfold keepD; rw [if_neg hk6]
                by_cases hf7 : 0 ≤ o.f ∧ o.f ≤ 10
                · have hbt : bitsD b o = o.f.toNat := by unfold bitsD; rw [if_pos hk7, if_pos hf7]
                  have HX : Hid (∀ w', Own LA w' → Calls Try.prog 28 #[.pointer (some ⟨p, 0, none⟩), .int .i64 o.f] w' fun e w2 => (∃ v, e = .returned v) ∧ Own (Tbl p n (bitsD b o) (N + 9) (keepD keep o) (stepS n b keep S o) :: l) w2) := Lib.hid fun w' h' => by
                    have := rebuild_ok (HLB.out _ h') o.f.toNat (by omega)
                    rw [Int.toNat_of_nonneg hf7.1] at this
                    rw [hst, hkp, hbt]
                    exact this.mono fun e w2 ⟨he, h2⟩ => ⟨⟨_, he⟩, tb_mono h2 (by omega)⟩
                  clear hk1 hk2 hk3 hk4 hk5 hk6 hk7 hst hkp hbt hf7
                  go_wp2_with fail
                  (with_reducible refine (HX.out _ H.out).mono ?_)
                  rintro e w9 ⟨⟨v9, rfl⟩, h9⟩
                  have H9 := Lib.hid h9
                  clear h9
                  go_wp2_with fail
                  go_end0
                  exact ⟨rfl, H9.out⟩
                · have hbt : bitsD b o = b := by unfold bitsD; rw [if_pos hk7, if_neg hf7]
                  have HX : Hid (∀ w', Own LA w' → Calls Try.prog 28 #[.pointer (some ⟨p, 0, none⟩), .int .i64 o.f] w' fun e w2 => (∃ v, e = .returned v) ∧ Own (Tbl p n (bitsD b o) (N + 9) (keepD keep o) (stepS n b keep S o) :: l) w2) := Lib.hid fun w' h' => by
                    rw [hst, hkp, hbt]
                    exact (rebuild_bad (HLB.out _ h') o.f (by omega)).mono fun e w2 ⟨he, h2⟩ => ⟨⟨_, he⟩, tb_mono h2 (by omega)⟩
                  clear hk1 hk2 hk3 hk4 hk5 hk6 hk7 hst hkp hbt hf7
                  go_wp2_with fail
                  (with_reducible refine (HX.out _ H.out).mono ?_)
                  rintro e w9 ⟨⟨v9, rfl⟩, h9⟩
                  have H9 := Lib.hid h9
                  clear h9
                  go_wp2_with fail
                  go_end0
                  exact ⟨rfl, H9.out⟩
              · have e7 : (o.kind == 7) = false := by simp [hk7]
                have hst : stepS n b keep S o = S := by unfold stepS; rw [if_neg hk1]; rw [if_neg hk2]; rw [if_neg hk3]; rw [if_neg hk4]; rw [if_neg hk5]
                have hkp : keepD keep o = keep := by unfold keepD; rw [if_neg hk6]
                have hbt : bitsD b o = b := by unfold bitsD; rw [if_neg hk7]
                have h9 : Own (Tbl p n (bitsD b o) (N + 9) (keepD keep o) (stepS n b keep S o) :: l) W := by rw [hst, hkp, hbt]; exact tb_mono (HLB.out _ H.out) (by omega)
                clear hk1 hk2 hk3 hk4 hk5 hk6 hk7 hst hkp hbt
                have H9 := Lib.hid h9
                clear h9
                go_wp2_with fail
                go_end0
                exact ⟨rfl, H9.out⟩
end
section
variable {b : Nat} {keep : Int} {l : List HP} {w W0 : World}
set_option maxHeartbeats 8000000 in
theorem played_any (v : Value) (n : Nat) (f : Nat → TOp) (hb : b ≤ 10) (k0 : 0 ≤ keep) (k1 : keep ≤ 18446744073709551615) (ho : Ops W0 v n f) (h : Own l w) (hold : Old W0 ∈ l) :
    Calls Try.prog 19 #[.int .i64 (b : Int), .int .u64 keep, v] w fun e w' => ∃ p : Nat, e = .returned (.tuple #[.pointer (some ⟨p, 0, none⟩), .bool true]) ∧ Own (Tbl p 12 b 450 keep (playS 12 b keep f (min n 50)) :: l) w' := by
  obtain ⟨hs, a, cap, rfl, q1, q2, q3⟩ := ho
  have HNW : Hid (Calls Try.prog 12 #[.int .i64 12, .int .i64 (b : Int), .int .u64 keep] w fun e w' => ∃ p, e = .returned (.tuple #[.pointer (some ⟨p, 0, none⟩), .int .i64 0]) ∧ Own (Tbl p 12 b 0 keep (freshT 12) :: l) w') := Lib.hid (own_new 12 b keep (by omega) (by omega) hb k0 k1 h)
  have Q3 := Lib.hid q3
  have HS := Lib.hid hs
  have HOLD := Lib.hid hold
  obtain ⟨m, hm⟩ : ∃ m, m = min n 50 := ⟨_, rfl⟩
  rw [← hm]
  have hmn : (m : Int) ≤ (n : Int) := by omega
  have hmc : (m : Int) ≤ (cap : Int) := by omega
  have hm50 : m ≤ 50 := by omega
  have hmI : (if (50 : Int) < (n : Int) then (50 : Int) else (n : Int)) = (m : Int) := by split <;> omega
  have HM := Lib.hid hm
  unfold maxLen at q2
  clear h q3 hold hs hb k0 k1 hm
  go_enter Try.func19, Try.ntmps19
  go_wp2_with fail
  (with_reducible refine (HNW.out).mono ?_)
  rintro e w1 ⟨p, rfl, h1⟩
  have H1 := Lib.hid h1
  clear h1 HNW
  go_wp2_with fail
  go_loopw [24] (fun vi wr => PlI l p b m keep f vi wr) (fun vi _ => m - (intOf vi).toNat)
  case atStart => exact ⟨0, rfl, Nat.zero_le _, H1.out⟩
  case round =>
    clear H1
    obtain ⟨i, rfl, hi, h⟩ := hrel
    by_cases hlt : i < m
    · have hltI : (i : Int) < (m : Int) := by omega
      have hin : i < n := by have := HM.out; omega
      obtain ⟨b2, off, rfl, hb2, hcell⟩ := Q3.out (by omega)
      have hx := h.ext (.tail _ HOLD.out)
      have HOK := Lib.hid (HS.out i hin)
      obtain ⟨o, ho⟩ : ∃ o, o = f i := ⟨_, rfl⟩
      rw [← ho] at HOK
      have hcc : ∀ c, c < 12 → wr.cell? ⟨b2, off + i * 12 + c, none⟩ = some (oc o c) := fun c hc => by rw [ho]; exact hx.cell (hcell i c hin hc)
      have x0 : wr.cell? ⟨b2, off + i * 12, none⟩ = some (.int .u8 o.kind) := hcc 0 (by omega)
      have x1 : wr.cell? ⟨b2, off + i * 12 + 1, none⟩ = some (.int .u64 o.sock) := hcc 1 (by omega)
      have x2 : wr.cell? ⟨b2, off + i * 12 + 2, none⟩ = some (.int .u64 o.cookie) := hcc 2 (by omega)
      have x3 : wr.cell? ⟨b2, off + i * 12 + 3, none⟩ = some (.int .u64 o.now) := hcc 3 (by omega)
      have x4 : wr.cell? ⟨b2, off + i * 12 + 4, none⟩ = some (.int .i64 o.f) := hcc 4 (by omega)
      have x5 : wr.cell? ⟨b2, off + i * 12 + 5, none⟩ = some (.int .u64 o.x.s) := hcc 5 (by omega)
      have x6 : wr.cell? ⟨b2, off + i * 12 + 6, none⟩ = some (.int .u64 o.x.c) := hcc 6 (by omega)
      have x7 : wr.cell? ⟨b2, off + i * 12 + 7, none⟩ = some (.int .u64 o.x.ra) := hcc 7 (by omega)
      have x8 : wr.cell? ⟨b2, off + i * 12 + 8, none⟩ = some (.int .i64 o.x.cr) := hcc 8 (by omega)
      have x9 : wr.cell? ⟨b2, off + i * 12 + 9, none⟩ = some (.int .u64 o.x.nx) := hcc 9 (by omega)
      have x10 : wr.cell? ⟨b2, off + i * 12 + 10, none⟩ = some (.int .u64 o.x.db) := hcc 10 (by omega)
      have x11 : wr.cell? ⟨b2, off + i * 12 + 11, none⟩ = some (.int .u64 o.x.ag) := hcc 11 (by omega)
      obtain ⟨SS, hSS⟩ : ∃ SS, SS = playS 12 b keep f i := ⟨_, rfl⟩
      have hplay : playS 12 b keep f (i + 1) = stepS 12 b keep SS o := by rw [playS, ← hSS, ← ho]
      rw [← hSS] at h
      have HPY := Lib.hid hplay
      have h1 := Go.Proofs.Ytkdmlpigkmlkmaa.Own.blkNew h #[.int .u8 o.kind, .int .u64 o.sock, .int .u64 o.cookie, .int .u64 o.now, .int .i64 o.f, .int .u64 o.x.s, .int .u64 o.x.c, .int .u64 o.x.ra, .int .i64 o.x.cr, .int .u64 o.x.nx, .int .u64 o.x.db, .int .u64 o.x.ag] 60
      obtain ⟨bo, hbo⟩ : ∃ bo, bo = wr.heap.size := ⟨_, rfl⟩
      rw [← hbo] at h1
      obtain ⟨LA, hLA⟩ : ∃ LA, LA = BOp bo o :: Tbl p 12 b (9 * i) keep SS :: l := ⟨_, rfl⟩
      rw [← hLA] at h1
      obtain ⟨d0, d1, d2, d3, d4, d5, d6, d7, d8, d9, d10, d11⟩ := (op_c (l := LA) h1 (by rw [hLA]; exact .head _) : OpC _ bo o)
      obtain ⟨W, hW⟩ : ∃ W, W = wr.alloc (.cells #[.int .u8 o.kind, .int .u64 o.sock, .int .u64 o.cookie, .int .u64 o.now, .int .i64 o.f, .int .u64 o.x.s, .int .u64 o.x.c, .int .u64 o.x.ra, .int .i64 o.x.cr, .int .u64 o.x.nx, .int .u64 o.x.db, .int .u64 o.x.ag] 60) := ⟨_, rfl⟩
      rw [← hW] at h1 d0 d1 d2 d3 d4 d5 d6 d7 d8 d9 d10 d11
      have H := Lib.hid h1
      have HW := Lib.hid hW
      have HBO := Lib.hid hbo
      clear h h1 hx hcell hb2 ho hcc hSS hplay hW hbo
      go_upto_region 5 with fail
      rw [← HBO.out, ← HW.out]
      clear HBO HW x0 x1 x2 x3 x4 x5 x6 x7 x8 x9 x10 x11
      have HLB : Hid (∀ w', Own LA w' → Own (Tbl p 12 b (9 * i) keep SS :: l) w') := Lib.hid fun w' h' => by rw [hLA] at h'; exact h'.drop
      have HCC : Hid (∀ w', Own LA w' → OpC w' bo o) := Lib.hid fun w' h' => by rw [hLA] at h'; exact op_c h' (.head _)
      have HLA := Lib.hid hLA
      clear hLA
      by_cases hk1 : o.kind = 1
      · have e1 : (o.kind == 1) = true := by simp [hk1]
        have hst : stepS 12 b keep SS o = (findT 12 b keep o.sock o.cookie o.now 300 SS).S := by unfold stepS; rw [if_pos hk1]
        have HX : Hid (∀ w', Own LA w' → Calls Try.prog 13 #[.pointer (some ⟨p, 0, none⟩), .int .u64 o.sock, .int .u64 o.cookie, .int .u64 o.now, pace] w' fun e w2 => (∃ v, e = .returned v) ∧ (w2.cell? ⟨bo, 1, none⟩ = some (.int .u64 o.sock) ∧ w2.cell? ⟨bo, 2, none⟩ = some (.int .u64 o.cookie) ∧ w2.cell? ⟨bo, 3, none⟩ = some (.int .u64 o.now)) ∧ Own (Tbl p 12 (b) (9 * i + 9) (keep) (stepS 12 b keep SS o) :: l) w2) := Lib.hid fun w' h' => by
          rw [hst]
          rw [HLA.out] at h'
          exact (own_find h'.swap (by omega) o.sock o.cookie o.now 100 300 0 0 0 HOK.out.s0 HOK.out.s1).mono fun e w2 ⟨he, h2⟩ => ⟨⟨_, he⟩, ⟨(op_c h2 (.tail _ (.head _))).c1, (op_c h2 (.tail _ (.head _))).c2, (op_c h2 (.tail _ (.head _))).c3⟩, h2.swap.drop⟩
        clear hk1 hst
        have HPC : Hid (∀ w', Own LA w' → Calls Try.prog 14 #[] w' fun e w2 => e = .returned pace ∧ Own LA w2) := Lib.hid fun w' h' => pace_own h'
        have HC3 : Hid (∀ w', Own LA w' → w'.cell? ⟨bo, 1, none⟩ = some (.int .u64 o.sock) ∧ w'.cell? ⟨bo, 2, none⟩ = some (.int .u64 o.cookie) ∧ w'.cell? ⟨bo, 3, none⟩ = some (.int .u64 o.now)) := Lib.hid fun w' h' => ⟨(HCC.out _ h').c1, (HCC.out _ h').c2, (HCC.out _ h').c3⟩
        have hg := H.out.step (Ext.refl _).drew
        go_upto_region 7 with fail
        go_region_held3 (fun w' => w'.cell? ⟨bo, 1, none⟩ = some (.int .u64 o.sock) ∧ w'.cell? ⟨bo, 2, none⟩ = some (.int .u64 o.cookie) ∧ w'.cell? ⟨bo, 3, none⟩ = some (.int .u64 o.now))
          (first | exact ⟨(Ext.refl _).drew.cell d1, (Ext.refl _).drew.cell d2, (Ext.refl _).drew.cell d3⟩ | exact HC3.out _ (by assumption) | assumption)
          (first
            | (go_at_call 14; (with_reducible refine (HPC.out _ (by assumption)).mono ?_); rintro e w8 ⟨rfl, hz⟩)
            | (go_at_call 13; (with_reducible refine (HX.out _ (by assumption)).mono ?_); rintro e w9 ⟨⟨v9, rfl⟩, hz9, h9⟩))
        have HP := Lib.hid (show PlI l p b m keep f (.int .i64 ((i : Int) + 1)) _ from ⟨i + 1, by go_num, by omega, by rw [show 9 * (i + 1) = 9 * i + 9 by omega, HPY.out]; exact h9⟩)
        clear h9
        go_wp2_with fail
        exact ⟨HP.out, by simp [intOf]; omega⟩
      · have e1 : (o.kind == 1) = false := by simp [hk1]
        by_cases hk2 : o.kind = 2
        · have e2 : (o.kind == 2) = true := by simp [hk2]
          have hst : stepS 12 b keep SS o = onT SS o.f (rest o.now) := by unfold stepS; rw [if_neg hk1]; rw [if_pos hk2]
          have HX : Hid (∀ w', Own LA w' → Calls Try.prog 15 #[.pointer (some ⟨p, 0, none⟩), .int .i64 o.f, .int .u64 o.now] w' fun e w2 => (∃ v, e = .returned v) ∧ Own (Tbl p 12 (b) (9 * i + 9) (keep) (stepS 12 b keep SS o) :: l) w2) := Lib.hid fun w' h' => by
            rw [hst]
            exact (own_rest (HLB.out _ h') o.f o.now HOK.out.n0 HOK.out.n1).mono fun e w2 ⟨he, h2⟩ => ⟨⟨_, he⟩, tb_mono h2 (by omega)⟩
          clear hk1 hk2 hst
          go_wp2_with fail
          (with_reducible refine (HX.out _ H.out).mono ?_)
          rintro e w9 ⟨⟨v9, rfl⟩, h9⟩
          have HP := Lib.hid (show PlI l p b m keep f (.int .i64 ((i : Int) + 1)) _ from ⟨i + 1, by go_num, by omega, by rw [show 9 * (i + 1) = 9 * i + 9 by omega, HPY.out]; exact h9⟩)
          clear h9
          go_wp2_with fail
          exact ⟨HP.out, by simp [intOf]; omega⟩
        · have e2 : (o.kind == 2) = false := by simp [hk2]
          by_cases hk3 : o.kind = 3
          · have e3 : (o.kind == 3) = true := by simp [hk3]
            have hst : stepS 12 b keep SS o = onT SS o.f busy := by unfold stepS; rw [if_neg hk1]; rw [if_neg hk2]; rw [if_pos hk3]
            have HX : Hid (∀ w', Own LA w' → Calls Try.prog 26 #[.pointer (some ⟨p, 0, none⟩), .int .i64 o.f] w' fun e w2 => (∃ v, e = .returned v) ∧ Own (Tbl p 12 (b) (9 * i + 9) (keep) (stepS 12 b keep SS o) :: l) w2) := Lib.hid fun w' h' => by
              rw [hst]
              exact (own_busy (HLB.out _ h') o.f).mono fun e w2 ⟨he, h2⟩ => ⟨⟨_, he⟩, tb_mono h2 (by omega)⟩
            clear hk1 hk2 hk3 hst
            go_wp2_with fail
            (with_reducible refine (HX.out _ H.out).mono ?_)
            rintro e w9 ⟨⟨v9, rfl⟩, h9⟩
            have HP := Lib.hid (show PlI l p b m keep f (.int .i64 ((i : Int) + 1)) _ from ⟨i + 1, by go_num, by omega, by rw [show 9 * (i + 1) = 9 * i + 9 by omega, HPY.out]; exact h9⟩)
            clear h9
            go_wp2_with fail
            exact ⟨HP.out, by simp [intOf]; omega⟩
          · have e3 : (o.kind == 3) = false := by simp [hk3]
            by_cases hk4 : o.kind = 4
            · have e4 : (o.kind == 4) = true := by simp [hk4]
              have hst : stepS 12 b keep SS o = dropF SS o.f := by unfold stepS; rw [if_neg hk1]; rw [if_neg hk2]; rw [if_neg hk3]; rw [if_pos hk4]
              have HX : Hid (∀ w', Own LA w' → Calls Try.prog 17 #[.pointer (some ⟨p, 0, none⟩), .int .i64 o.f] w' fun e w2 => (∃ v, e = .returned v) ∧ Own (Tbl p 12 (b) (9 * i + 9) (keep) (stepS 12 b keep SS o) :: l) w2) := Lib.hid fun w' h' => by
                rw [hst]
                exact (own_drop (HLB.out _ h') (by omega) o.f).mono fun e w2 ⟨he, h2⟩ => ⟨⟨_, he⟩, tb_mono h2 (by omega)⟩
              clear hk1 hk2 hk3 hk4 hst
              go_wp2_with fail
              (with_reducible refine (HX.out _ H.out).mono ?_)
              rintro e w9 ⟨⟨v9, rfl⟩, h9⟩
              have HP := Lib.hid (show PlI l p b m keep f (.int .i64 ((i : Int) + 1)) _ from ⟨i + 1, by go_num, by omega, by rw [show 9 * (i + 1) = 9 * i + 9 by omega, HPY.out]; exact h9⟩)
              clear h9
              go_wp2_with fail
              exact ⟨HP.out, by simp [intOf]; omega⟩
            · have e4 : (o.kind == 4) = false := by simp [hk4]
              by_cases hk5 : o.kind = 5
              · have e5 : (o.kind == 5) = true := by simp [hk5]
                have hst : stepS 12 b keep SS o = onT SS o.f (put o.x) := by unfold stepS; rw [if_neg hk1]; rw [if_neg hk2]; rw [if_neg hk3]; rw [if_neg hk4]; rw [if_pos hk5]
                have HX : Hid (∀ w', Own LA w' → Calls Try.prog 27 #[.pointer (some ⟨p, 0, none⟩), .int .i64 o.f, fagg o.x] w' fun e w2 => (∃ v, e = .returned v) ∧ Own (Tbl p 12 (b) (9 * i + 9) (keep) (stepS 12 b keep SS o) :: l) w2) := Lib.hid fun w' h' => by
                  rw [hst]
                  exact (own_set (HLB.out _ h') o.f o.x ⟨HOK.out.a0, HOK.out.a1⟩).mono fun e w2 ⟨he, h2⟩ => ⟨⟨_, he⟩, tb_mono h2 (by omega)⟩
                clear hk1 hk2 hk3 hk4 hk5 hst
                go_wp2_with fail
                (with_reducible refine (HX.out _ H.out).mono ?_)
                rintro e w9 ⟨⟨v9, rfl⟩, h9⟩
                have HP := Lib.hid (show PlI l p b m keep f (.int .i64 ((i : Int) + 1)) _ from ⟨i + 1, by go_num, by omega, by rw [show 9 * (i + 1) = 9 * i + 9 by omega, HPY.out]; exact h9⟩)
                clear h9
                go_wp2_with fail
                exact ⟨HP.out, by simp [intOf]; omega⟩
              · have e5 : (o.kind == 5) = false := by simp [hk5]
                have hst : stepS 12 b keep SS o = SS := by unfold stepS; rw [if_neg hk1]; rw [if_neg hk2]; rw [if_neg hk3]; rw [if_neg hk4]; rw [if_neg hk5]
                have h9 : Own (Tbl p 12 (b) (9 * i + 9) (keep) (stepS 12 b keep SS o) :: l) W := by rw [hst]; exact tb_mono (HLB.out _ H.out) (by omega)
                clear hk1 hk2 hk3 hk4 hk5 hst
                have HP := Lib.hid (show PlI l p b m keep f (.int .i64 ((i : Int) + 1)) _ from ⟨i + 1, by go_num, by omega, by rw [show 9 * (i + 1) = 9 * i + 9 by omega, HPY.out]; exact h9⟩)
                clear h9
                go_wp2_with fail
                exact ⟨HP.out, by simp [intOf]; omega⟩
    · obtain rfl : i = m := by omega
      have HF := Lib.hid (tb_mono (M := 450) h (by omega))
      clear h hlt hi
      go_wp2_with fail
      go_ret2
      exact ⟨_, rfl, HF.out⟩
end
end Go.Proofs.Ytkdmlpigkmlkmaa.Tb
