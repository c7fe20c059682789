/- DERIVED. Layer 13 (bucket): the law BucketOnce. -/
import Derived.Test.YtlficiohenpghaaBkI
import Derived.BigQuiet
set_option linter.unusedVariables false
set_option linter.unusedSimpArgs false
set_option maxRecDepth 100000
namespace Go.Proofs.Ytlficiohenpghaa.Bk
open Go.RowKit Go.Proofs.Ytlficiohenpghaa Go.Proofs.Ytlficiohenpghaa.TreeP Go.Proofs.Ytlficiohenpghaa.Tr

/-- how many are in the first k buckets -/
def upTo (β : Int → Nat) (R : List En) : Nat → Nat
  | 0 => 0
  | k + 1 => upTo β R k + (inB β R k).length
theorem upTo_eq (β : Int → Nat) (R : List En) : ∀ k, upTo β R k = (R.filter fun e => decide (β e.1.1 < k)).length
  | 0 => by
    rw [List.filter_eq_nil_iff.2 (fun e _ => by simp)]; rfl
  | k + 1 => by
    rw [upTo, upTo_eq β R k]
    unfold inB
    induction R with
    | nil => rfl
    | cons e R ih =>
      simp only [List.filter_cons]
      by_cases h1 : β e.1.1 < k
      · have h2 : β e.1.1 ≠ k := by omega
        have h3 : β e.1.1 < k + 1 := by omega
        simp [h1, h2, h3]
        omega
      · by_cases h2 : β e.1.1 = k
        · have h3 : β e.1.1 < k + 1 := by omega
          simp [h2, h3]
          omega
        · have h3 : ¬ β e.1.1 < k + 1 := by omega
          simp [h1, h2, h3]
          omega
theorem upTo_all (β : Int → Nat) (R : List En) (n : Nat) (h : ∀ e ∈ R, β e.1.1 < n) : upTo β R n = R.length := by
  rw [upTo_eq, List.filter_eq_self.2 (fun e he => by simpa using h e he)]
theorem upTo_le (β : Int → Nat) (R : List En) (k : Nat) : upTo β R k ≤ R.length := by
  rw [upTo_eq]; exact List.length_filter_le _ _
/-- the outer loop -/
def OI (w0 : World) (p n P : Nat) (R : List En) (s8 vi : Value) (wr : World) : Prop :=
  ∃ k : Nat, vi = .int .i64 (k : Int) ∧ k ≤ P ∧ s8 = .int .i64 (upTo (β n) R k : Nat) ∧ Own [Bkt p n 30 R, Old w0] wr
/-- the inner loop -/
def OJ (w0 : World) (p n L : Nat) (R E : List En) (v : Value) (vi : Value) (wr : World) : Prop :=
  ∃ k : Nat, vi = .int .i64 (k : Int) ∧ k ≤ L ∧ Own [Bkt p n 30 R, Row 32 3 v L (Tr.ents E), Old w0] wr
/-- is one of the first k of that socket, with that number? -/
def fnd (E : List En) (k : Nat) (s x : Int) : Bool := (E.take k).any fun e => (e.1.1 == s) && (e.2 == x)
theorem fnd_succ {E : List En} {k : Nat} {e : En} (s x : Int) (he : E[k]? = some e) : fnd E (k + 1) s x = (fnd E k s x || ((e.1.1 == s) && (e.2 == x))) := by
  unfold fnd
  rw [List.take_add_one, he]
  simp
theorem fnd_all {room : Nat} {R E : List En} (h : RK room R) (s : Int) {β : Int → Nat} {i : Nat} (hE : E = inB β R i) (hi : β s = i) : fnd E E.length s ((Tr.look R (s, 0)).getD 0) = (Tr.look R (s, 0)).isSome := by
  have hm : ∀ e, e ∈ E ↔ e ∈ R ∧ β e.1.1 = i := fun e => by rw [hE]; unfold inB; rw [List.mem_filter]; simp
  unfold fnd
  rw [List.take_of_length_le (Nat.le_refl _)]
  cases hl : Tr.look R (s, 0) with
  | none =>
    rw [Option.isSome_none, Bool.eq_false_iff]
    intro h1
    obtain ⟨e, he, h2⟩ := List.any_eq_true.1 h1
    simp only [Bool.and_eq_true, beq_iff_eq] at h2
    have he' := ((hm e).1 he).1
    have hk := (h.key e he').1
    have : Tr.look R (s, 0) = some e.2 := look_mem h.rise (by
      have : ((s, 0), e.2) = e := Prod.ext (Prod.ext h2.1.symm hk.symm) rfl
      rw [this]; exact he')
    rw [hl] at this
    cases this
  | some u =>
    rw [Option.isSome_some, List.any_eq_true]
    refine ⟨((s, 0), u), (hm _).2 ⟨look_some hl, hi⟩, by simp⟩
def OK1 (w0 : World) (p n M : Nat) (R : List En) (vi : Value) (wr : World) : Prop := ∃ k : Nat, vi = .int .i64 (k : Int) ∧ k ≤ M ∧ Own [Bkt p n 30 R, Old w0] wr
def OK2 (w0 : World) (p n L bo : Nat) (R E : List En) (kd s u x : Int) (v : Value) (s19 vi : Value) (wr : World) : Prop :=
  ∃ k : Nat, vi = .int .i64 (k : Int) ∧ k ≤ L ∧ s19 = .bool (fnd E k s x) ∧ Own [Go.Proofs.Ytlficiohenpghaa.Blk bo #[.int .u8 kd, .int .u64 s, .int .i64 u] 38, Bkt p n 30 R, Row 32 3 v L (Tr.ents E), Old w0] wr
set_option maxHeartbeats 4000000 in
theorem once_of (bits : Int) (v : Value) (y : Nat × (Nat → BOp)) (wf1 : (Lit.int .u8 bits).wf = true) (w : World) (ho : Ops2 w v y) :
    Calls Try.prog 3 #[.int .u8 bits, v] w fun e w' => e = .returned (.bool true) ∧ Ext w w' := by
  obtain ⟨a0, a1⟩ := u8_bd wf1
  obtain ⟨n, hn⟩ : ∃ n : Nat, bits % 11 = (n : Int) := ⟨(bits % 11).toNat, by omega⟩
  have n1 : n ≤ 10 := by omega
  obtain ⟨N, f⟩ := y
  obtain ⟨R, hR⟩ : ∃ R, R = playP 30 f (min N 50) := ⟨_, rfl⟩
  have HP := Lib.hid (played_any n v N f n1 ho (Own.start w) (.head _))
  rw [← hR] at HP
  have HOPS := Lib.hid ho
  obtain ⟨-, a, cap, rfl, -, -, -⟩ := ho
  obtain ⟨P, hP⟩ : ∃ P, P = 2 ^ n := ⟨_, rfl⟩
  have P1 : P ≤ 1024 := by rw [hP]; exact (Nat.pow_le_pow_right (by omega) n1 : 2 ^ n ≤ 2 ^ 10)
  have SP := Lib.hid (sh1 n1 hP)
  have N1 := Lib.hid n1
  have HPP := Lib.hid hP
  have nI : (n : Int) ≤ 10 := by omega
  clear wf1 hR n1 hP
  go_enter Try.func3, Try.ntmps3
  go_wp2_with fail
  refine (HP.out).mono ?_
  rintro e w1 ⟨p, rfl, h1⟩
  obtain ⟨rk, -⟩ := own_rk h1
  have HRK := Lib.hid rk
  have R30 : R.length ≤ 30 := rk.len
  have H1 := Lib.hid h1
  have HUP := Lib.hid (fun k => upTo_le (β n) R k)
  clear h1 HP rk hn a0 a1
  have sP := SP.out
  go_wp2_with fail
  rw [SP.out]
  clear sP
  go_loopw [8, 35] (fun s8 vi wr => OI w p n P R s8 vi wr) (fun _ vi _ => P - (intOf vi).toNat)
  case atStart => exact ⟨0, rfl, Nat.zero_le _, rfl, H1.out⟩
  case round =>
    clear H1
    obtain ⟨i, rfl, hi, rfl, h⟩ := hrel
    by_cases hlt : i < P
    · as_aux_lemma =>
      have hltI : (i : Int) < (P : Int) := by omega
      obtain ⟨E, hE⟩ : ∃ E, E = inB (β n) R i := ⟨_, rfl⟩
      obtain ⟨L, hL⟩ : ∃ L, L = E.length := ⟨_, rfl⟩
      have hl : L ≤ 30 := by rw [hL, hE]; exact Nat.le_trans (in_len _) R30
      have hin := own_in' h rfl (by rw [← HPP.out]; exact hlt) hE.symm
      rw [← hL] at hin
      have HI := Lib.hid hin
      obtain ⟨U, hU⟩ : ∃ U, U = upTo (β n) R i := ⟨_, rfl⟩
      have hU30 : U ≤ 30 := by rw [hU]; exact Nat.le_trans (upTo_le _ _ _) R30
      rw [← hU]
      have HU := Lib.hid hU
      have HE := Lib.hid hE
      have HL := Lib.hid hL
      clear hin h hU hE hL
      go_wp2_with fail
      refine (HI.out).mono ?_
      rintro e w2 ⟨v2, rfl, h2⟩
      obtain ⟨va, vc, rfl⟩ := own_slice h2.row
      have H2 := Lib.hid h2.swap
      clear h2 HI
      go_wp2_with fail
      obtain ⟨wo, rfl⟩ : ∃ wo : World, wo = wr := ⟨_, rfl⟩
      go_loopw [47] (fun vi wr => OJ w p n L R E (.slice va L vc) vi wr) (fun vi _ => L - (intOf vi).toNat)
      case atStart => exact ⟨0, rfl, Nat.zero_le _, H2.out⟩
      case round =>
        clear H2
        obtain ⟨k, rfl, hk, h⟩ := hrel
        by_cases hkl : k < L
        · have hkI : (k : Int) < (L : Int) := by omega
          obtain ⟨e, he⟩ : ∃ e, E[k]? = some e := ⟨_, List.getElem?_eq_getElem (by rw [← HL.out]; exact hkl)⟩
          have hem : e ∈ R ∧ β n e.1.1 = i := by
            have := List.mem_of_getElem? he
            rw [HE.out] at this
            unfold inB at this
            exact ⟨(List.mem_filter.1 this).1, of_decide_eq_true (List.mem_filter.1 this).2⟩
          obtain ⟨kq, k0, k1⟩ := HRK.out.key e hem.1
          have hlk : Tr.look R (e.1.1, 0) = some e.2 := look_mem HRK.out.rise (by
            have : ((e.1.1, 0), e.2) = e := Prod.ext (Prod.ext rfl kq.symm) rfl
            rw [this]; exact hem.1)
          have hA := Go.Proofs.Ytlficiohenpghaa.Own.blkNew h #[.int .u64 e.1.1, .int .u64 e.1.2, .int .i64 e.2] 32
          obtain ⟨g, rfl, r0, r1, r2⟩ := entry_at h.second hkl he
          obtain ⟨⟨ea, es⟩, ev⟩ := e
          simp only at r0 r1 r2 k0 k1 hlk hem kq hA
          have hes : es = 0 := kq
          subst hes
          have hbe := hem.2
          have HG := Lib.hid (own_get' (x := ev) (b := true) hA.swap k0 k1 (by rw [hlk]; rfl) (by rw [hlk]; rfl))
          by_cases hk0 : k = 0
          · subst hk0
            have HEM := Lib.hid hem
            have HA := Lib.hid (And.intro k0 k1)
            clear h he hem kq hlk hA hkl hk k0 k1 hbe
            go_wp2_with fail
            refine (HG.out).mono ?_
            rintro e w3 ⟨rfl, h3⟩
            have H3 := Lib.hid h3.swap
            obtain ⟨q0, q1, q2⟩ := Own.blk3c h3.swap
            clear h3 HG
            go_wp2_with fail
            obtain ⟨LL, hLL⟩ : ∃ LL, LL = [Go.Proofs.Ytlficiohenpghaa.Blk wr.heap.size #[.int .u64 ea, .int .u64 0, .int .i64 ev] 32, Bkt p n 30 R, Row 32 3 (.slice (some ⟨g, 0, none⟩) L vc) L (Tr.ents E), Old w] := ⟨_, rfl⟩
            obtain ⟨be, hbe⟩ : ∃ be, be = wr.heap.size := ⟨_, rfl⟩
            rw [← hbe] at hLL q0 q1 q2
            have HC : ∀ w', Own LL w' → w'.cell? ⟨be, 0, none⟩ = some (.int .u64 ea) ∧ w'.cell? ⟨be, 1, none⟩ = some (.int .u64 0) ∧ w'.cell? ⟨be, 2, none⟩ = some (.int .i64 ev) := fun w' h' => by rw [hLL] at h'; exact Own.blk3c h'
            have HO : Hid (∀ w', Own LL w' → Calls Try.prog 12 #[.pointer (some ⟨p, 0, none⟩), .int .u64 ea] w' fun e w2 => e = .returned (.int .i64 (i : Int)) ∧ Own LL w2 ∧ w2.cell? ⟨be, 0, none⟩ = some (.int .u64 ea) ∧ w2.cell? ⟨be, 1, none⟩ = some (.int .u64 0) ∧ w2.cell? ⟨be, 2, none⟩ = some (.int .i64 ev)) := Lib.hid fun w' h' => by
              have h2 := h'
              rw [hLL] at h2
              have ho := own_of h2.swap ea HA.out.1 HA.out.2
              rw [HEM.out.2] at ho
              exact ho.mono fun e w2 ⟨he, hx⟩ => ⟨he, h'.step hx, HC w2 (h'.step hx)⟩
            have HM : Hid (∀ w', Own LL w' → Calls Try.prog 13 #[.int .u64 ea, .int .i64 (n : Int)] w' fun e w2 => e = .returned (.int .i64 (i : Int)) ∧ Own LL w2 ∧ w2.cell? ⟨be, 0, none⟩ = some (.int .u64 ea) ∧ w2.cell? ⟨be, 1, none⟩ = some (.int .u64 0) ∧ w2.cell? ⟨be, 2, none⟩ = some (.int .i64 ev)) := Lib.hid fun w' h' => by
              obtain ⟨X, hX⟩ := Int.eq_ofNat_of_zero_le HA.out.1
              have hm := Mx.bucket_any X n (by have := HA.out.2; unfold MixP.M; omega) (by have := N1.out; omega) w'
              have e1 : Mx.bk X n = i := by rw [← HEM.out.2, hX]; rfl
              rw [e1, ← hX] at hm
              exact hm.mono fun e w2 ⟨he, hx⟩ => ⟨he, h'.step hx, HC w2 (h'.step hx)⟩
            have hown : Own LL w3 := by rw [hLL, hbe]; exact H3.out
            have HOWN := Lib.hid hown
            have HLL := Lib.hid hLL
            have HBE := Lib.hid hbe
            rw [← hbe]
            have ev1 : (ev != ev) = false := by simp
            have ii : ((i : Int) != (i : Int)) = false := by simp
            clear hLL hbe HC H3
            refine wp_region_held_drew (S := fun w' => Own LL w' ∧ w'.cell? ⟨be, 0, none⟩ = some (.int .u64 ea) ∧ w'.cell? ⟨be, 1, none⟩ = some (.int .u64 0) ∧ w'.cell? ⟨be, 2, none⟩ = some (.int .i64 ev)) (by kernel_rfl) ⟨(HOWN.out).step (Ext.refl _).drew, (Ext.refl _).drew.cell q0, (Ext.refl _).drew.cell q1, (Ext.refl _).drew.cell q2⟩ (fun hHeld => ?_)
            refine wpAnyH_take (i := 0) (v := ?_) rfl (by kernel_rfl) (by kernel_rfl) (by kernel_rfl) (fun _ _ _ h => h) (Or.inl ⟨by rfl, ?_⟩) (by assumption) ?_
            rotate_left
            · intro w' hSw
              try dsimp only at hSw
              go_simp
              try with_reducible rfl
            try simp only [Act.put, List.setIfInBounds_toArray, List.set_cons_zero, List.set_cons_succ, List.getElem_toArray, List.getElem_cons_succ, List.getElem_cons_zero]
            refine wpAnyH_take (i := 1) (v := ?_) rfl (by kernel_rfl) (by kernel_rfl) (by kernel_rfl) (fun _ _ _ h => h) (Or.inl ⟨by rfl, ?_⟩) (by assumption) ?_
            rotate_left
            · intro w' hSw
              try dsimp only at hSw
              go_simp
              try with_reducible rfl
            try simp only [Act.put, List.setIfInBounds_toArray, List.set_cons_zero, List.set_cons_succ, List.getElem_toArray, List.getElem_cons_succ, List.getElem_cons_zero]
            refine wpAnyH_take (i := 2) (v := ?_) rfl (by kernel_rfl) (by kernel_rfl) (by kernel_rfl) (fun _ _ _ h => h) (Or.inl ⟨by rfl, ?_⟩) (by assumption) ?_
            rotate_left
            · intro w' hSw
              try dsimp only at hSw
              go_simp
              try with_reducible rfl
            try simp only [Act.put, List.setIfInBounds_toArray, List.set_cons_zero, List.set_cons_succ, List.getElem_toArray, List.getElem_cons_succ, List.getElem_cons_zero]
            refine wpAnyH_take (i := 3) (v := ?_) rfl (by kernel_rfl) (by kernel_rfl) (by kernel_rfl) (fun _ _ _ h => h) (Or.inl ⟨by rfl, ?_⟩) (by assumption) ?_
            rotate_left
            · intro w' hSw
              try dsimp only at hSw
              go_simp
              try with_reducible rfl
            try simp only [Act.put, List.setIfInBounds_toArray, List.set_cons_zero, List.set_cons_succ, List.getElem_toArray, List.getElem_cons_succ, List.getElem_cons_zero]
            refine wpAnyH_take (i := 4) (v := ?_) rfl (by kernel_rfl) (by kernel_rfl) (by kernel_rfl) (fun _ _ _ h => h) (Or.inl ⟨by rfl, ?_⟩) (by assumption) ?_
            rotate_left
            · intro w' hSw
              try dsimp only at hSw
              go_simp
              try with_reducible rfl
            try simp only [Act.put, List.setIfInBounds_toArray, List.set_cons_zero, List.set_cons_succ, List.getElem_toArray, List.getElem_cons_succ, List.getElem_cons_zero]
            refine wpAnyH_take (i := 5) (v := ?_) rfl (by kernel_rfl) (by kernel_rfl) (by kernel_rfl) (fun _ _ _ h => h) (Or.inl ⟨by rfl, ?_⟩) (by assumption) ?_
            rotate_left
            · intro w' hSw
              try dsimp only at hSw
              go_simp
              try with_reducible rfl
            try simp only [Act.put, List.setIfInBounds_toArray, List.set_cons_zero, List.set_cons_succ, List.getElem_toArray, List.getElem_cons_succ, List.getElem_cons_zero]
            refine wpAnyH_take (i := 6) (v := ?_) rfl (by kernel_rfl) (by kernel_rfl) (by kernel_rfl) (fun _ _ _ h => h) (Or.inl ⟨by rfl, ?_⟩) (by assumption) ?_
            rotate_left
            · intro w' hSw
              try dsimp only at hSw
              go_simp
              try with_reducible rfl
            try simp only [Act.put, List.setIfInBounds_toArray, List.set_cons_zero, List.set_cons_succ, List.getElem_toArray, List.getElem_cons_succ, List.getElem_cons_zero]
            refine wpAnyH_take (i := 7) (v := ?_) rfl (by kernel_rfl) (by kernel_rfl) (by kernel_rfl) (fun _ _ _ h => h) (Or.inl ⟨by rfl, ?_⟩) (by assumption) ?_
            rotate_left
            · intro w' hSw
              try dsimp only at hSw
              go_simp
              try with_reducible rfl
            try simp only [Act.put, List.setIfInBounds_toArray, List.set_cons_zero, List.set_cons_succ, List.getElem_toArray, List.getElem_cons_succ, List.getElem_cons_zero]
            refine wpAnyH_take (i := 8) (v := ?_) rfl (by kernel_rfl) (by kernel_rfl) (by kernel_rfl) (fun _ _ _ h => h) (Or.inl ⟨by rfl, ?_⟩) (by assumption) ?_
            rotate_left
            · intro w' hSw
              try dsimp only at hSw
              go_simp
              try with_reducible rfl
            try simp only [Act.put, List.setIfInBounds_toArray, List.set_cons_zero, List.set_cons_succ, List.getElem_toArray, List.getElem_cons_succ, List.getElem_cons_zero]
            refine wpAnyH_take (i := 9) (v := ?_) rfl (by kernel_rfl) (by kernel_rfl) (by kernel_rfl) (fun _ _ _ h => h) (Or.inl ⟨by rfl, ?_⟩) (by assumption) ?_
            rotate_left
            · intro w' hSw
              try dsimp only at hSw
              go_simp
              try with_reducible rfl
            try simp only [Act.put, List.setIfInBounds_toArray, List.set_cons_zero, List.set_cons_succ, List.getElem_toArray, List.getElem_cons_succ, List.getElem_cons_zero]
            refine wpAnyH_take (i := 10) (v := ?_) rfl (by kernel_rfl) (by kernel_rfl) (by kernel_rfl) (fun _ _ _ h => h) (Or.inl ⟨by rfl, ?_⟩) (by assumption) ?_
            rotate_left
            · intro w' hSw
              try dsimp only at hSw
              go_simp
              try with_reducible rfl
            try simp only [Act.put, List.setIfInBounds_toArray, List.set_cons_zero, List.set_cons_succ, List.getElem_toArray, List.getElem_cons_succ, List.getElem_cons_zero]
            refine wpAnyH_take (i := 11) (v := ?_) rfl (by kernel_rfl) (by kernel_rfl) (by kernel_rfl) (fun _ _ _ h => h) (Or.inl ⟨by rfl, ?_⟩) (by assumption) ?_
            rotate_left
            · intro w' hSw
              try dsimp only at hSw
              go_simp
              try with_reducible rfl
            try simp only [Act.put, List.setIfInBounds_toArray, List.set_cons_zero, List.set_cons_succ, List.getElem_toArray, List.getElem_cons_succ, List.getElem_cons_zero]
            refine wpAnyH_take (i := 12) (v := ?_) rfl (by kernel_rfl) (by kernel_rfl) (by kernel_rfl) (fun _ _ _ h => h) (Or.inl ⟨by rfl, ?_⟩) (by assumption) ?_
            rotate_left
            · intro w' hSw
              try dsimp only at hSw
              go_simp
              try with_reducible rfl
            try simp only [Act.put, List.setIfInBounds_toArray, List.set_cons_zero, List.set_cons_succ, List.getElem_toArray, List.getElem_cons_succ, List.getElem_cons_zero]
            refine wpAnyH_take (i := 13) (v := ?_) rfl (by kernel_rfl) (by kernel_rfl) (by kernel_rfl) (fun _ _ _ h => h) (Or.inl ⟨by rfl, ?_⟩) (by assumption) ?_
            rotate_left
            · intro w' hSw
              try dsimp only at hSw
              go_simp
              try with_reducible rfl
            try simp only [Act.put, List.setIfInBounds_toArray, List.set_cons_zero, List.set_cons_succ, List.getElem_toArray, List.getElem_cons_succ, List.getElem_cons_zero]
            refine wpAnyH_take (i := 14) (v := ?_) rfl (by kernel_rfl) (by kernel_rfl) (by kernel_rfl) (fun _ _ _ h => h) (Or.inl ⟨by rfl, ?_⟩) (by assumption) ?_
            rotate_left
            · intro w' hSw
              try dsimp only at hSw
              go_simp
              try with_reducible rfl
            try simp only [Act.put, List.setIfInBounds_toArray, List.set_cons_zero, List.set_cons_succ, List.getElem_toArray, List.getElem_cons_succ, List.getElem_cons_zero]
            refine wpAnyH_take (i := 15) (v := ?_) rfl (by kernel_rfl) (by kernel_rfl) (by kernel_rfl) (fun _ _ _ h => h) (Or.inl ⟨by rfl, ?_⟩) (by assumption) ?_
            rotate_left
            · intro w' hSw
              try dsimp only at hSw
              go_simp
              try with_reducible rfl
            try simp only [Act.put, List.setIfInBounds_toArray, List.set_cons_zero, List.set_cons_succ, List.getElem_toArray, List.getElem_cons_succ, List.getElem_cons_zero]
            refine wpAnyH_take (i := 16) (v := ?_) rfl (by kernel_rfl) (by kernel_rfl) (by kernel_rfl) (fun _ _ _ h => h) (Or.inl ⟨by rfl, ?_⟩) (by assumption) ?_
            rotate_left
            · intro w' hSw
              try dsimp only at hSw
              go_simp
              try with_reducible rfl
            try simp only [Act.put, List.setIfInBounds_toArray, List.set_cons_zero, List.set_cons_succ, List.getElem_toArray, List.getElem_cons_succ, List.getElem_cons_zero]
            refine wpAnyH_take (i := 17) (v := ?_) rfl (by kernel_rfl) (by kernel_rfl) (by kernel_rfl) (fun _ _ _ h => h) (Or.inl ⟨by rfl, ?_⟩) (by assumption) ?_
            rotate_left
            · intro w' hSw
              try dsimp only at hSw
              go_simp
              try with_reducible rfl
            try simp only [Act.put, List.setIfInBounds_toArray, List.set_cons_zero, List.set_cons_succ, List.getElem_toArray, List.getElem_cons_succ, List.getElem_cons_zero]
            refine wpAnyH_take (i := 18) (v := ?_) rfl (by kernel_rfl) (by kernel_rfl) (by kernel_rfl) (fun _ _ _ h => h) (Or.inl ⟨by rfl, ?_⟩) (by assumption) ?_
            rotate_left
            · intro w' hSw
              try dsimp only at hSw
              go_simp
              try with_reducible rfl
            try simp only [Act.put, List.setIfInBounds_toArray, List.set_cons_zero, List.set_cons_succ, List.getElem_toArray, List.getElem_cons_succ, List.getElem_cons_zero]
            refine wpAnyH_take (i := 20) (v := ?_) rfl (by kernel_rfl) (by kernel_rfl) (by kernel_rfl) (fun _ _ _ h => h) (Or.inl ⟨by rfl, ?_⟩) (by assumption) ?_
            rotate_left
            · intro w' hSw
              try dsimp only at hSw
              go_simp
              try with_reducible rfl
            try simp only [Act.put, List.setIfInBounds_toArray, List.set_cons_zero, List.set_cons_succ, List.getElem_toArray, List.getElem_cons_succ, List.getElem_cons_zero]
            refine wpAnyH_ready (rs := [19]) (by kernel_rfl) (by simp) ?_
            refine AllReadyH.cons rfl (fun K hK => ?_) AllReadyH.nil
            go_simp
            (go_at_call 12; go_split_ands; refine (HO.out _ (by assumption)).mono ?_; rintro e w4 ⟨rfl, hz, z0, z1, z2⟩)
            refine hK.out _ _ ⟨hz, z0, z1, z2⟩ (fun hHeld => ?_)
            clear hK K
            try simp only [Act.put, List.setIfInBounds_toArray, List.set_cons_zero, List.set_cons_succ, List.getElem_toArray, List.getElem_cons_succ, List.getElem_cons_zero]
            refine wpAnyH_take (i := 21) (v := ?_) rfl (by kernel_rfl) (by kernel_rfl) (by kernel_rfl) (fun _ _ _ h => h) (Or.inl ⟨by rfl, ?_⟩) (by assumption) ?_
            rotate_left
            · intro w' hSw
              try dsimp only at hSw
              go_simp
              try with_reducible rfl
            try simp only [Act.put, List.setIfInBounds_toArray, List.set_cons_zero, List.set_cons_succ, List.getElem_toArray, List.getElem_cons_succ, List.getElem_cons_zero]
            refine wpAnyH_take (i := 22) (v := ?_) rfl (by kernel_rfl) (by kernel_rfl) (by kernel_rfl) (fun _ _ _ h => h) (Or.inl ⟨by rfl, ?_⟩) (by assumption) ?_
            rotate_left
            · intro w' hSw
              try dsimp only at hSw
              go_simp
              try with_reducible rfl
            try simp only [Act.put, List.setIfInBounds_toArray, List.set_cons_zero, List.set_cons_succ, List.getElem_toArray, List.getElem_cons_succ, List.getElem_cons_zero]
            refine wpAnyH_take (i := 23) (v := ?_) rfl (by kernel_rfl) (by kernel_rfl) (by kernel_rfl) (fun _ _ _ h => h) (Or.inl ⟨by rfl, ?_⟩) (by assumption) ?_
            rotate_left
            · intro w' hSw
              try dsimp only at hSw
              go_simp
              try with_reducible rfl
            try simp only [Act.put, List.setIfInBounds_toArray, List.set_cons_zero, List.set_cons_succ, List.getElem_toArray, List.getElem_cons_succ, List.getElem_cons_zero]
            refine wpAnyH_take (i := 24) (v := ?_) rfl (by kernel_rfl) (by kernel_rfl) (by kernel_rfl) (fun _ _ _ h => h) (Or.inl ⟨by rfl, ?_⟩) (by assumption) ?_
            rotate_left
            · intro w' hSw
              try dsimp only at hSw
              go_simp
              try with_reducible rfl
            try simp only [Act.put, List.setIfInBounds_toArray, List.set_cons_zero, List.set_cons_succ, List.getElem_toArray, List.getElem_cons_succ, List.getElem_cons_zero]
            refine wpAnyH_take (i := 25) (v := ?_) rfl (by kernel_rfl) (by kernel_rfl) (by kernel_rfl) (fun _ _ _ h => h) (Or.inl ⟨by rfl, ?_⟩) (by assumption) ?_
            rotate_left
            · intro w' hSw
              try dsimp only at hSw
              go_simp
              try with_reducible rfl
            try simp only [Act.put, List.setIfInBounds_toArray, List.set_cons_zero, List.set_cons_succ, List.getElem_toArray, List.getElem_cons_succ, List.getElem_cons_zero]
            refine wpAnyH_take (i := 26) (v := ?_) rfl (by kernel_rfl) (by kernel_rfl) (by kernel_rfl) (fun _ _ _ h => h) (Or.inl ⟨by rfl, ?_⟩) (by assumption) ?_
            rotate_left
            · intro w' hSw
              try dsimp only at hSw
              go_simp
              try with_reducible rfl
            try simp only [Act.put, List.setIfInBounds_toArray, List.set_cons_zero, List.set_cons_succ, List.getElem_toArray, List.getElem_cons_succ, List.getElem_cons_zero]
            refine wpAnyH_take (i := 27) (v := ?_) rfl (by kernel_rfl) (by kernel_rfl) (by kernel_rfl) (fun _ _ _ h => h) (Or.inl ⟨by rfl, ?_⟩) (by assumption) ?_
            rotate_left
            · intro w' hSw
              try dsimp only at hSw
              go_simp
              try with_reducible rfl
            try simp only [Act.put, List.setIfInBounds_toArray, List.set_cons_zero, List.set_cons_succ, List.getElem_toArray, List.getElem_cons_succ, List.getElem_cons_zero]
            refine wpAnyH_take (i := 29) (v := ?_) rfl (by kernel_rfl) (by kernel_rfl) (by kernel_rfl) (fun _ _ _ h => h) (Or.inl ⟨by rfl, ?_⟩) (by assumption) ?_
            rotate_left
            · intro w' hSw
              try dsimp only at hSw
              go_simp
              try with_reducible rfl
            try simp only [Act.put, List.setIfInBounds_toArray, List.set_cons_zero, List.set_cons_succ, List.getElem_toArray, List.getElem_cons_succ, List.getElem_cons_zero]
            refine wpAnyH_ready (rs := [28]) (by kernel_rfl) (by simp) ?_
            refine AllReadyH.cons rfl (fun K hK => ?_) AllReadyH.nil
            go_simp
            (go_at_call 13; go_split_ands; refine (HM.out _ (by assumption)).mono ?_; rintro e w5 ⟨rfl, hz, z0, z1, z2⟩)
            refine hK.out _ _ ⟨hz, z0, z1, z2⟩ (fun hHeld => ?_)
            clear hK K
            try simp only [Act.put, List.setIfInBounds_toArray, List.set_cons_zero, List.set_cons_succ, List.getElem_toArray, List.getElem_cons_succ, List.getElem_cons_zero]
            refine wpAnyH_take (i := 30) (v := ?_) rfl (by kernel_rfl) (by kernel_rfl) (by kernel_rfl) (fun _ _ _ h => h) (Or.inl ⟨by rfl, ?_⟩) (by assumption) ?_
            rotate_left
            · intro w' hSw
              try dsimp only at hSw
              go_simp
              try with_reducible rfl
            try simp only [Act.put, List.setIfInBounds_toArray, List.set_cons_zero, List.set_cons_succ, List.getElem_toArray, List.getElem_cons_succ, List.getElem_cons_zero]
            refine wpAnyH_take (i := 31) (v := ?_) rfl (by kernel_rfl) (by kernel_rfl) (by kernel_rfl) (fun _ _ _ h => h) (Or.inl ⟨by rfl, ?_⟩) (by assumption) ?_
            rotate_left
            · intro w' hSw
              try dsimp only at hSw
              go_simp
              try with_reducible rfl
            try simp only [Act.put, List.setIfInBounds_toArray, List.set_cons_zero, List.set_cons_succ, List.getElem_toArray, List.getElem_cons_succ, List.getElem_cons_zero]
            refine wpAnyH_take (i := 32) (v := ?_) rfl (by kernel_rfl) (by kernel_rfl) (by kernel_rfl) (fun _ _ _ h => h) (Or.inl ⟨by rfl, ?_⟩) (by assumption) ?_
            rotate_left
            · intro w' hSw
              try dsimp only at hSw
              go_simp
              try with_reducible rfl
            try simp only [Act.put, List.setIfInBounds_toArray, List.set_cons_zero, List.set_cons_succ, List.getElem_toArray, List.getElem_cons_succ, List.getElem_cons_zero]
            refine wpAnyH_take (i := 33) (v := ?_) rfl (by kernel_rfl) (by kernel_rfl) (by kernel_rfl) (fun _ _ _ h => h) (Or.inl ⟨by rfl, ?_⟩) (by assumption) ?_
            rotate_left
            · intro w' hSw
              try dsimp only at hSw
              go_simp
              try with_reducible rfl
            try simp only [Act.put, List.setIfInBounds_toArray, List.set_cons_zero, List.set_cons_succ, List.getElem_toArray, List.getElem_cons_succ, List.getElem_cons_zero]
            refine wpAnyH_take (i := 34) (v := ?_) rfl (by kernel_rfl) (by kernel_rfl) (by kernel_rfl) (fun _ _ _ h => h) (Or.inl ⟨by rfl, ?_⟩) (by assumption) ?_
            rotate_left
            · intro w' hSw
              try dsimp only at hSw
              go_simp
              try with_reducible rfl
            try simp only [Act.put, List.setIfInBounds_toArray, List.set_cons_zero, List.set_cons_succ, List.getElem_toArray, List.getElem_cons_succ, List.getElem_cons_zero]
            refine wpAnyH_take (i := 35) (v := ?_) rfl (by kernel_rfl) (by kernel_rfl) (by kernel_rfl) (fun _ _ _ h => h) (Or.inl ⟨by rfl, ?_⟩) (by assumption) ?_
            rotate_left
            · intro w' hSw
              try dsimp only at hSw
              go_simp
              try with_reducible rfl
            try simp only [Act.put, List.setIfInBounds_toArray, List.set_cons_zero, List.set_cons_succ, List.getElem_toArray, List.getElem_cons_succ, List.getElem_cons_zero]
            refine wpAnyH_take (i := 36) (v := undef) rfl (by kernel_rfl) (by kernel_rfl) (by kernel_rfl) (fun _ _ _ h => h) (Or.inr ⟨by rfl, rfl⟩) (by assumption) ?_
            try simp only [Act.put, List.setIfInBounds_toArray, List.set_cons_zero, List.set_cons_succ, List.getElem_toArray, List.getElem_cons_succ, List.getElem_cons_zero]
            refine wpAnyH_take (i := 37) (v := undef) rfl (by kernel_rfl) (by kernel_rfl) (by kernel_rfl) (fun _ _ _ h => h) (Or.inr ⟨by rfl, rfl⟩) (by assumption) ?_
            try simp only [Act.put, List.setIfInBounds_toArray, List.set_cons_zero, List.set_cons_succ, List.getElem_toArray, List.getElem_cons_succ, List.getElem_cons_zero]
            refine wpAnyH_take (i := 38) (v := undef) rfl (by kernel_rfl) (by kernel_rfl) (by kernel_rfl) (fun _ _ _ h => h) (Or.inr ⟨by rfl, rfl⟩) (by assumption) ?_
            try simp only [Act.put, List.setIfInBounds_toArray, List.set_cons_zero, List.set_cons_succ, List.getElem_toArray, List.getElem_cons_succ, List.getElem_cons_zero]
            refine wpAnyH_take (i := 39) (v := undef) rfl (by kernel_rfl) (by kernel_rfl) (by kernel_rfl) (fun _ _ _ h => h) (Or.inr ⟨by rfl, rfl⟩) (by assumption) ?_
            try simp only [Act.put, List.setIfInBounds_toArray, List.set_cons_zero, List.set_cons_succ, List.getElem_toArray, List.getElem_cons_succ, List.getElem_cons_zero]
            refine wpAnyH_take (i := 40) (v := undef) rfl (by kernel_rfl) (by kernel_rfl) (by kernel_rfl) (fun _ _ _ h => h) (Or.inr ⟨by rfl, rfl⟩) (by assumption) ?_
            try simp only [Act.put, List.setIfInBounds_toArray, List.set_cons_zero, List.set_cons_succ, List.getElem_toArray, List.getElem_cons_succ, List.getElem_cons_zero]
            refine wpAnyH_take (i := 41) (v := undef) rfl (by kernel_rfl) (by kernel_rfl) (by kernel_rfl) (fun _ _ _ h => h) (Or.inr ⟨by rfl, rfl⟩) (by assumption) ?_
            try simp only [Act.put, List.setIfInBounds_toArray, List.set_cons_zero, List.set_cons_succ, List.getElem_toArray, List.getElem_cons_succ, List.getElem_cons_zero]
            refine wpAnyH_take (i := 42) (v := undef) rfl (by kernel_rfl) (by kernel_rfl) (by kernel_rfl) (fun _ _ _ h => h) (Or.inr ⟨by rfl, rfl⟩) (by assumption) ?_
            try simp only [Act.put, List.setIfInBounds_toArray, List.set_cons_zero, List.set_cons_succ, List.getElem_toArray, List.getElem_cons_succ, List.getElem_cons_zero]
            refine wpAnyH_take (i := 43) (v := undef) rfl (by kernel_rfl) (by kernel_rfl) (by kernel_rfl) (fun _ _ _ h => h) (Or.inr ⟨by rfl, rfl⟩) (by assumption) ?_
            try simp only [Act.put, List.setIfInBounds_toArray, List.set_cons_zero, List.set_cons_succ, List.getElem_toArray, List.getElem_cons_succ, List.getElem_cons_zero]
            refine wpAnyH_take (i := 44) (v := undef) rfl (by kernel_rfl) (by kernel_rfl) (by kernel_rfl) (fun _ _ _ h => h) (Or.inr ⟨by rfl, rfl⟩) (by assumption) ?_
            try simp only [Act.put, List.setIfInBounds_toArray, List.set_cons_zero, List.set_cons_succ, List.getElem_toArray, List.getElem_cons_succ, List.getElem_cons_zero]
            refine wpAnyH_take (i := 45) (v := undef) rfl (by kernel_rfl) (by kernel_rfl) (by kernel_rfl) (fun _ _ _ h => h) (Or.inr ⟨by rfl, rfl⟩) (by assumption) ?_
            try simp only [Act.put, List.setIfInBounds_toArray, List.set_cons_zero, List.set_cons_succ, List.getElem_toArray, List.getElem_cons_succ, List.getElem_cons_zero]
            refine wpAnyH_take (i := 46) (v := undef) rfl (by kernel_rfl) (by kernel_rfl) (by kernel_rfl) (fun _ _ _ h => h) (Or.inr ⟨by rfl, rfl⟩) (by assumption) ?_
            try simp only [Act.put, List.setIfInBounds_toArray, List.set_cons_zero, List.set_cons_succ, List.getElem_toArray, List.getElem_cons_succ, List.getElem_cons_zero]
            refine wpAnyH_take (i := 47) (v := ?_) rfl (by kernel_rfl) (by kernel_rfl) (by kernel_rfl) (fun _ _ _ h => h) (Or.inl ⟨by rfl, ?_⟩) (by assumption) ?_
            rotate_left
            · intro w' hSw
              try dsimp only at hSw
              go_simp
              try with_reducible rfl
            try simp only [Act.put, List.setIfInBounds_toArray, List.set_cons_zero, List.set_cons_succ, List.getElem_toArray, List.getElem_cons_succ, List.getElem_cons_zero]
            refine wpAnyH_take (i := 48) (v := ?_) rfl (by kernel_rfl) (by kernel_rfl) (by kernel_rfl) (fun _ _ _ h => h) (Or.inl ⟨by rfl, ?_⟩) (by assumption) ?_
            rotate_left
            · intro w' hSw
              try dsimp only at hSw
              go_simp
              try with_reducible rfl
            try simp only [Act.put, List.setIfInBounds_toArray, List.set_cons_zero, List.set_cons_succ, List.getElem_toArray, List.getElem_cons_succ, List.getElem_cons_zero]
            refine wpAnyH_done (by kernel_rfl) ?_ _
            have HZ := Lib.hid (show Own LL w5 by assumption)
            have HX : Hid (OJ w p n L R E (.slice (some ⟨g, 0, none⟩) L vc) (.int .i64 1) w5) := Lib.hid (by
              have h5 := HZ.out
              rw [HLL.out] at h5
              exact ⟨1, rfl, by omega, h5.drop⟩)
            clear HO HM
            go_wp2_with fail
            exact ⟨HX.out, by simp [intOf]; omega⟩
          · obtain ⟨j, rfl⟩ : ∃ j, k = j + 1 := ⟨k - 1, by omega⟩
            obtain ⟨e', he'⟩ : ∃ e', E[j]? = some e' := ⟨_, List.getElem?_eq_getElem (by rw [← HL.out]; omega)⟩
            have hem' : e' ∈ R := by
              have := List.mem_of_getElem? he'
              rw [HE.out] at this
              unfold inB at this
              exact (List.mem_filter.1 this).1
            have hEr : RisingE E := by rw [HE.out]; exact HRK.out.rise.filter _
            have hlt' : e'.1.1 < ea := by
              have h1 := (List.getElem?_eq_some_iff.1 he').1
              have h2 := (List.getElem?_eq_some_iff.1 he).1
              have hp := List.pairwise_iff_getElem.1 hEr j (j + 1) h1 h2 (by omega)
              rw [(List.getElem?_eq_some_iff.1 he').2, (List.getElem?_eq_some_iff.1 he).2] at hp
              have hs := (HRK.out.key e' hem').1
              obtain ⟨⟨pa, ps⟩, pv⟩ := e'
              simp only at hs hp ⊢
              subst hs
              simp [lt] at hp
              omega
            obtain ⟨⟨pa, ps⟩, pv⟩ := e'
            simp only at hlt'
            have d1 : decide (ea ≤ pa) = false := by simp; omega
            have jL : (j : Int) < (L : Int) := by omega
            have jL1 : (j : Int) + 1 < (L : Int) := by omega
            have HEM := Lib.hid hem
            have HA := Lib.hid (And.intro k0 k1)
            have HE' := Lib.hid he'
            have j0 : (0 : Int) < (j : Int) + 1 := by omega
            have j30 : (j : Int) ≤ 30 := by omega
            clear h he hem kq hlk hA hk k0 k1 hbe hem' hEr hlt' he' hkI
            go_wp2_with fail
            refine (HG.out).mono ?_
            rintro e w3 ⟨rfl, h3⟩
            have H3 := Lib.hid h3.swap
            obtain ⟨q0, q1, q2⟩ := Own.blk3c h3.swap
            clear h3 HG
            go_wp2_with fail
            obtain ⟨LL, hLL⟩ : ∃ LL, LL = [Go.Proofs.Ytlficiohenpghaa.Blk wr.heap.size #[.int .u64 ea, .int .u64 0, .int .i64 ev] 32, Bkt p n 30 R, Row 32 3 (.slice (some ⟨g, 0, none⟩) L vc) L (Tr.ents E), Old w] := ⟨_, rfl⟩
            obtain ⟨be, hbe⟩ : ∃ be, be = wr.heap.size := ⟨_, rfl⟩
            rw [← hbe] at hLL q0 q1 q2
            have HC : ∀ w', Own LL w' → w'.cell? ⟨be, 0, none⟩ = some (.int .u64 ea) ∧ w'.cell? ⟨be, 1, none⟩ = some (.int .u64 0) ∧ w'.cell? ⟨be, 2, none⟩ = some (.int .i64 ev) ∧ w'.cell? ⟨g, j * 3, none⟩ = some (.int .u64 pa) := fun w' h' => by
              rw [hLL] at h'
              obtain ⟨c0, c1, c2⟩ := Own.blk3c h'
              obtain ⟨g', eg, d0, -, -⟩ := entry_at h'.third (by omega) HE'.out
              injection eg with eg
              injection eg with eg
              subst eg
              exact ⟨c0, c1, c2, d0⟩
            have HO : Hid (∀ w', Own LL w' → Calls Try.prog 12 #[.pointer (some ⟨p, 0, none⟩), .int .u64 ea] w' fun e w2 => e = .returned (.int .i64 (i : Int)) ∧ Own LL w2 ∧ w2.cell? ⟨be, 0, none⟩ = some (.int .u64 ea) ∧ w2.cell? ⟨be, 1, none⟩ = some (.int .u64 0) ∧ w2.cell? ⟨be, 2, none⟩ = some (.int .i64 ev) ∧ w2.cell? ⟨g, j * 3, none⟩ = some (.int .u64 pa)) := Lib.hid fun w' h' => by
              have h2 := h'
              rw [hLL] at h2
              have ho := own_of h2.swap ea HA.out.1 HA.out.2
              rw [HEM.out.2] at ho
              exact ho.mono fun e w2 ⟨he, hx⟩ => ⟨he, h'.step hx, HC w2 (h'.step hx)⟩
            have HM : Hid (∀ w', Own LL w' → Calls Try.prog 13 #[.int .u64 ea, .int .i64 (n : Int)] w' fun e w2 => e = .returned (.int .i64 (i : Int)) ∧ Own LL w2 ∧ w2.cell? ⟨be, 0, none⟩ = some (.int .u64 ea) ∧ w2.cell? ⟨be, 1, none⟩ = some (.int .u64 0) ∧ w2.cell? ⟨be, 2, none⟩ = some (.int .i64 ev) ∧ w2.cell? ⟨g, j * 3, none⟩ = some (.int .u64 pa)) := Lib.hid fun w' h' => by
              obtain ⟨X, hX⟩ := Int.eq_ofNat_of_zero_le HA.out.1
              have hm := Mx.bucket_any X n (by have := HA.out.2; unfold MixP.M; omega) (by have := N1.out; omega) w'
              have e1 : Mx.bk X n = i := by rw [← HEM.out.2, hX]; rfl
              rw [e1, ← hX] at hm
              exact hm.mono fun e w2 ⟨he, hx⟩ => ⟨he, h'.step hx, HC w2 (h'.step hx)⟩
            have hown : Own LL w3 := by rw [hLL, hbe]; exact H3.out
            have q3 := (HC w3 hown).2.2.2
            have HOWN := Lib.hid hown
            have HLL := Lib.hid hLL
            have HBE := Lib.hid hbe
            rw [← hbe]
            have ev1 : (ev != ev) = false := by simp
            have ii : ((i : Int) != (i : Int)) = false := by simp
            have wj : IntKind.i64.wrap ((j : Int) + 1 - 1) = (j : Int) := by simp [IntKind.wrap, IntKind.bits, IntKind.signed]; omega
            have wj2 : IntKind.i64.wrap (j : Int) = (j : Int) := by simp [IntKind.wrap, IntKind.bits, IntKind.signed]; omega
            have jLn : j < L := by omega
            have jz : (0 : Int) ≤ (j : Int) := by omega
            clear hLL hbe HC H3
            go_region_held3 (fun w' => Own LL w' ∧ w'.cell? ⟨be, 0, none⟩ = some (.int .u64 ea) ∧ w'.cell? ⟨be, 1, none⟩ = some (.int .u64 0) ∧ w'.cell? ⟨be, 2, none⟩ = some (.int .i64 ev) ∧ w'.cell? ⟨g, j * 3, none⟩ = some (.int .u64 pa))
              (first | exact ⟨(HOWN.out).step (Ext.refl _).drew, (Ext.refl _).drew.cell q0, (Ext.refl _).drew.cell q1, (Ext.refl _).drew.cell q2, (Ext.refl _).drew.cell q3⟩ | (refine ⟨?_, ?_, ?_, ?_, ?_⟩ <;> assumption))
              (first
                | (go_at_call 12; go_split_ands; refine (HO.out _ (by assumption)).mono ?_; rintro e w4 ⟨rfl, hz, z0, z1, z2, z3⟩)
                | (go_at_call 13; go_split_ands; refine (HM.out _ (by assumption)).mono ?_; rintro e w5 ⟨rfl, hz, z0, z1, z2, z3⟩))
            have HZ := Lib.hid (show Own LL _ by assumption)
            have HX := Lib.hid (show OJ w p n L R E (.slice (some ⟨g, 0, none⟩) L vc) (.int .i64 ((j : Int) + 1 + 1)) _ from by
              have h5 := HZ.out
              rw [HLL.out] at h5
              exact ⟨j + 1 + 1, rfl, by omega, h5.drop⟩)
            clear HO HM
            go_wp2_with fail
            exact ⟨HX.out, by simp [intOf]; omega⟩
        · obtain rfl : k = L := by omega
          have HX : Hid (OI w p n P R (.int .i64 ((U : Int) + (k : Int))) (.int .i64 ((i : Int) + 1)) wr) := Lib.hid (by
            refine ⟨i + 1, by go_num, by omega, ?_, h.swap.drop⟩
            rw [upTo, ← HU.out, ← HE.out, ← HL.out]
            go_num)
          clear h hkl hk
          go_wp2_with fail
          exact ⟨HX.out, by simp [intOf]; omega⟩
    · as_aux_lemma =>
      obtain rfl : i = P := by omega
      have hall : upTo (β n) R i = R.length := upTo_all _ _ _ (fun e _ => by rw [HPP.out]; exact β_lt n _ N1.out)
      rw [hall]
      obtain ⟨Z, hZ⟩ : ∃ Z, Z = R.length := ⟨_, rfl⟩
      rw [← hZ]
      have HZZ := Lib.hid hZ
      have H := Lib.hid h
      obtain ⟨hs, a1, cap1, ea, q1, q2, q3⟩ := HOPS.out
      injection ea with ea _ ec
      subst ea ec
      have Q3 := Lib.hid q3
      have HS := Lib.hid hs
      unfold maxLen at q2
      clear h hlt hi hall hZ q3 hs SP P1
      by_cases n1 : N < 50
      · have nI2 : (N : Int) < 50 := by omega
        have mI : (N : Int) ≤ (cap : Int) := by omega
        go_wp2_with fail
        go_loopw [117] (fun vi wr => OK1 w p n N R vi wr) (fun vi _ => N - (intOf vi).toNat)
        case atStart => exact ⟨0, rfl, Nat.zero_le _, H.out⟩
        case round =>
          clear H
          obtain ⟨k, rfl, hk, h⟩ := hrel
          by_cases hlt : k < N
          · have hltI : (k : Int) < (N : Int) := by omega
            obtain ⟨b, off, rfl, hb, hcell⟩ := Q3.out (by omega)
            have hx := h.ext (.tail _ (.head _))
            obtain ⟨s0, s1⟩ := HS.out k (by omega)
            have d0 : wr.cell? ⟨b, off + k * 3, none⟩ = some (.int .u8 (f k).kind) := hx.cell (hcell k 0 (by omega) (by omega))
            have d1 : wr.cell? ⟨b, off + k * 3 + 1, none⟩ = some (.int .u64 (f k).s) := hx.cell (hcell k 1 (by omega) (by omega))
            have d2 : wr.cell? ⟨b, off + k * 3 + 2, none⟩ = some (.int .i64 (f k).v) := hx.cell (hcell k 2 (by omega) (by omega))
            obtain ⟨kd, ekd⟩ : ∃ x, x = (f k).kind := ⟨_, rfl⟩
            obtain ⟨ks, eks⟩ : ∃ x, x = (f k).s := ⟨_, rfl⟩
            obtain ⟨kv, ekv⟩ : ∃ x, x = (f k).v := ⟨_, rfl⟩
            rw [← ekd] at d0
            rw [← eks] at d1 s0 s1
            rw [← ekv] at d2
            have hA := Go.Proofs.Ytlficiohenpghaa.Own.blkNew h #[.int .u8 kd, .int .u64 ks, .int .i64 kv] 38
            obtain ⟨bo, hbo⟩ : ∃ bo, bo = wr.heap.size := ⟨_, rfl⟩
            obtain ⟨X, hX⟩ : ∃ X, X = (Tr.look R (ks, 0)).getD 0 := ⟨_, rfl⟩
            obtain ⟨B, hB⟩ : ∃ B, B = (Tr.look R (ks, 0)).isSome := ⟨_, rfl⟩
            have HG := Lib.hid (own_get' hA.swap s0 s1 hX.symm hB.symm)
            rw [← hbo] at HG
            have S0 := Lib.hid s0
            have S1 := Lib.hid s1
            have HX := Lib.hid hX
            have HB := Lib.hid hB
            have HBO := Lib.hid hbo
            clear h hx hcell hb ekd eks ekv s0 s1 hA hX hB hbo
            go_wp2_with fail
            refine (HG.out).mono ?_
            rintro e w2 ⟨rfl, h2⟩
            obtain ⟨c0, c1, c2⟩ := Own.blk3c h2.swap
            obtain ⟨K, hK⟩ : ∃ K, K = β n ks := ⟨_, rfl⟩
            have hof := own_of h2 ks S0.out S1.out
            rw [← hK] at hof
            have HO := Lib.hid hof
            have H2 := Lib.hid h2
            have HK := Lib.hid hK
            rw [← HBO.out]
            clear h2 HG hof hK d0 d1 d2
            go_wp2_with fail
            refine (HO.out).mono ?_
            rintro e w3 ⟨rfl, hx⟩
            obtain ⟨E, hE⟩ : ∃ E, E = inB (β n) R K := ⟨_, rfl⟩
            obtain ⟨L, hL⟩ : ∃ L, L = E.length := ⟨_, rfl⟩
            have hl30 : L ≤ 30 := by rw [hL, hE]; exact Nat.le_trans (in_len _) R30
            have hin := own_in' (H2.out.step hx) rfl (by rw [HK.out]; exact β_lt n ks N1.out) hE.symm
            rw [← hL] at hin
            have HI := Lib.hid hin
            have hfa := fnd_all HRK.out ks hE HK.out.symm
            rw [← hL, ← HX.out, ← HB.out] at hfa
            have HFA := Lib.hid hfa
            have HL := Lib.hid hL
            clear hx hin HO H2 hE hL hfa c0 c1 c2
            go_wp2_with fail
            refine (HI.out).mono ?_
            rintro e w4 ⟨v4, rfl, h4⟩
            obtain ⟨va, vc, rfl⟩ := own_slice h4.row
            have H4 : Hid (Own [Go.Proofs.Ytlficiohenpghaa.Blk bo #[.int .u8 kd, .int .u64 ks, .int .i64 kv] 38, Bkt p n 30 R, Row 32 3 (.slice va L vc) L (Tr.ents E), Old w] w4) := Lib.hid (h4.third.tail OwnIn.swap)
            clear h4 HI
            go_wp2_with fail
            obtain ⟨wo, rfl⟩ : ∃ wo : World, wo = wr := ⟨_, rfl⟩
            go_loopw [19, 135] (fun s19 vi wr => OK2 w p n L bo R E kd ks kv X (.slice va L vc) s19 vi wr) (fun _ vi _ => L - (intOf vi).toNat)
            case atStart => exact ⟨0, rfl, Nat.zero_le _, rfl, H4.out⟩
            case round =>
              clear H4
              obtain ⟨j, rfl, hj, rfl, h⟩ := hrel
              by_cases hjl : j < L
              · have hjI : (j : Int) < (L : Int) := by omega
                obtain ⟨e, he⟩ : ∃ e, E[j]? = some e := ⟨_, List.getElem?_eq_getElem (by rw [← HL.out]; exact hjl)⟩
                obtain ⟨g, rfl, r0, r1, r2⟩ := entry_at h.third hjl he
                have hfs := fnd_succ ks X he
                obtain ⟨⟨ea, es⟩, ev⟩ := e
                simp only at r0 r1 r2 hfs
                have hA := h.step ((Ext.refl wr).alloc (.cells #[.int .u64 ea, .int .u64 es, .int .i64 ev] 32))
                obtain ⟨c0, c1, c2⟩ := Own.blk3c hA
                obtain ⟨F0, hF0⟩ : ∃ F0, F0 = fnd E j ks X := ⟨_, rfl⟩
                obtain ⟨F1, hF1⟩ : ∃ F1, F1 = (F0 || ((ea == ks) && (ev == X))) := ⟨_, rfl⟩
                have HX2 : Hid (OK2 w p n L bo R E kd ks kv X (.slice (some ⟨g, 0, none⟩) L vc) (.bool F1) (.int .i64 ((j : Int) + 1)) (wr.alloc (.cells #[.int .u64 ea, .int .u64 es, .int .i64 ev] 32))) := Lib.hid ⟨j + 1, by go_num, by omega, by rw [hfs, hF1, hF0], hA⟩
                rw [← hF0]
                clear h hA hfs he hF0
                cases F0 with
                | true =>
                  obtain rfl : F1 = true := by rw [hF1]; rfl
                  clear hF1
                  go_wp2_with fail
                  exact ⟨HX2.out, by simp [intOf]; omega⟩
                | false =>
                  by_cases k1 : ea = ks
                  · have e1 : (ea == ks) = true := by simp [k1]
                    by_cases k2 : ev = X
                    · have e2 : (ev == X) = true := by simp [k2]
                      obtain rfl : F1 = true := by rw [hF1, e1, e2]; rfl
                      clear hF1 k1 k2
                      go_wp2_with fail
                      exact ⟨HX2.out, by simp [intOf]; omega⟩
                    · have e2 : (ev == X) = false := by simp [k2]
                      obtain rfl : F1 = false := by rw [hF1, e1, e2]; rfl
                      clear hF1 k1 k2
                      go_wp2_with fail
                      exact ⟨HX2.out, by simp [intOf]; omega⟩
                  · have e1 : (ea == ks) = false := by simp [k1]
                    obtain rfl : F1 = false := by rw [hF1, e1]; rfl
                    clear hF1 k1
                    go_wp2_with fail
                    exact ⟨HX2.out, by simp [intOf]; omega⟩
              · obtain rfl : j = L := by omega
                have hfa := HFA.out
                rw [hfa]
                have bb : (B != B) = false := by simp
                have HX2 : Hid (OK1 w p n N R (.int .i64 ((k : Int) + 1)) wr) := Lib.hid ⟨k + 1, by go_num, by omega, h.drop.swap.drop⟩
                clear h hfa hj hjl
                go_wp2_with fail
                exact ⟨HX2.out, by simp [intOf]; omega⟩
          · have hge : k = N := by omega
            have hl := own_len h
            rw [← HZZ.out] at hl
            have HL := Lib.hid hl
            have HF := Lib.hid h
            have zz : ((Z : Int) == (Z : Int)) = true := by simp
            clear h hlt hk hl
            subst hge
            go_wp2_with fail
            refine (HL.out).mono ?_
            rintro e w' ⟨rfl, rfl⟩
            go_wp2_with fail
            refine (awake_any HF.out).mono ?_
            rintro e w8 ⟨rfl, h8⟩
            have H8 := Lib.hid h8
            clear h8 HF
            go_wp2_with fail
            go_ret
            exact ⟨rfl, H8.out.ext (by simp)⟩
      · by_cases n2 : 50 < N
        · have nI2 : (50 : Int) < (N : Int) := by omega
          have mI : (50 : Int) ≤ (cap : Int) := by omega
          go_wp2_with fail
          go_loopw [117] (fun vi wr => OK1 w p n 50 R vi wr) (fun vi _ => 50 - (intOf vi).toNat)
          case atStart => exact ⟨0, rfl, Nat.zero_le _, H.out⟩
          case round =>
            clear H
            obtain ⟨k, rfl, hk, h⟩ := hrel
            by_cases hlt : k < 50
            · have hltI : (k : Int) < (50 : Int) := by omega
              obtain ⟨b, off, rfl, hb, hcell⟩ := Q3.out (by omega)
              have hx := h.ext (.tail _ (.head _))
              obtain ⟨s0, s1⟩ := HS.out k (by omega)
              have d0 : wr.cell? ⟨b, off + k * 3, none⟩ = some (.int .u8 (f k).kind) := hx.cell (hcell k 0 (by omega) (by omega))
              have d1 : wr.cell? ⟨b, off + k * 3 + 1, none⟩ = some (.int .u64 (f k).s) := hx.cell (hcell k 1 (by omega) (by omega))
              have d2 : wr.cell? ⟨b, off + k * 3 + 2, none⟩ = some (.int .i64 (f k).v) := hx.cell (hcell k 2 (by omega) (by omega))
              obtain ⟨kd, ekd⟩ : ∃ x, x = (f k).kind := ⟨_, rfl⟩
              obtain ⟨ks, eks⟩ : ∃ x, x = (f k).s := ⟨_, rfl⟩
              obtain ⟨kv, ekv⟩ : ∃ x, x = (f k).v := ⟨_, rfl⟩
              rw [← ekd] at d0
              rw [← eks] at d1 s0 s1
              rw [← ekv] at d2
              have hA := Go.Proofs.Ytlficiohenpghaa.Own.blkNew h #[.int .u8 kd, .int .u64 ks, .int .i64 kv] 38
              obtain ⟨bo, hbo⟩ : ∃ bo, bo = wr.heap.size := ⟨_, rfl⟩
              obtain ⟨X, hX⟩ : ∃ X, X = (Tr.look R (ks, 0)).getD 0 := ⟨_, rfl⟩
              obtain ⟨B, hB⟩ : ∃ B, B = (Tr.look R (ks, 0)).isSome := ⟨_, rfl⟩
              have HG := Lib.hid (own_get' hA.swap s0 s1 hX.symm hB.symm)
              rw [← hbo] at HG
              have S0 := Lib.hid s0
              have S1 := Lib.hid s1
              have HX := Lib.hid hX
              have HB := Lib.hid hB
              have HBO := Lib.hid hbo
              clear h hx hcell hb ekd eks ekv s0 s1 hA hX hB hbo
              go_wp2_with fail
              refine (HG.out).mono ?_
              rintro e w2 ⟨rfl, h2⟩
              obtain ⟨c0, c1, c2⟩ := Own.blk3c h2.swap
              obtain ⟨K, hK⟩ : ∃ K, K = β n ks := ⟨_, rfl⟩
              have hof := own_of h2 ks S0.out S1.out
              rw [← hK] at hof
              have HO := Lib.hid hof
              have H2 := Lib.hid h2
              have HK := Lib.hid hK
              rw [← HBO.out]
              clear h2 HG hof hK d0 d1 d2
              go_wp2_with fail
              refine (HO.out).mono ?_
              rintro e w3 ⟨rfl, hx⟩
              obtain ⟨E, hE⟩ : ∃ E, E = inB (β n) R K := ⟨_, rfl⟩
              obtain ⟨L, hL⟩ : ∃ L, L = E.length := ⟨_, rfl⟩
              have hl30 : L ≤ 30 := by rw [hL, hE]; exact Nat.le_trans (in_len _) R30
              have hin := own_in' (H2.out.step hx) rfl (by rw [HK.out]; exact β_lt n ks N1.out) hE.symm
              rw [← hL] at hin
              have HI := Lib.hid hin
              have hfa := fnd_all HRK.out ks hE HK.out.symm
              rw [← hL, ← HX.out, ← HB.out] at hfa
              have HFA := Lib.hid hfa
              have HL := Lib.hid hL
              clear hx hin HO H2 hE hL hfa c0 c1 c2
              go_wp2_with fail
              refine (HI.out).mono ?_
              rintro e w4 ⟨v4, rfl, h4⟩
              obtain ⟨va, vc, rfl⟩ := own_slice h4.row
              have H4 : Hid (Own [Go.Proofs.Ytlficiohenpghaa.Blk bo #[.int .u8 kd, .int .u64 ks, .int .i64 kv] 38, Bkt p n 30 R, Row 32 3 (.slice va L vc) L (Tr.ents E), Old w] w4) := Lib.hid (h4.third.tail OwnIn.swap)
              clear h4 HI
              go_wp2_with fail
              obtain ⟨wo, rfl⟩ : ∃ wo : World, wo = wr := ⟨_, rfl⟩
              go_loopw [19, 135] (fun s19 vi wr => OK2 w p n L bo R E kd ks kv X (.slice va L vc) s19 vi wr) (fun _ vi _ => L - (intOf vi).toNat)
              case atStart => exact ⟨0, rfl, Nat.zero_le _, rfl, H4.out⟩
              case round =>
                clear H4
                obtain ⟨j, rfl, hj, rfl, h⟩ := hrel
                by_cases hjl : j < L
                · have hjI : (j : Int) < (L : Int) := by omega
                  obtain ⟨e, he⟩ : ∃ e, E[j]? = some e := ⟨_, List.getElem?_eq_getElem (by rw [← HL.out]; exact hjl)⟩
                  obtain ⟨g, rfl, r0, r1, r2⟩ := entry_at h.third hjl he
                  have hfs := fnd_succ ks X he
                  obtain ⟨⟨ea, es⟩, ev⟩ := e
                  simp only at r0 r1 r2 hfs
                  have hA := h.step ((Ext.refl wr).alloc (.cells #[.int .u64 ea, .int .u64 es, .int .i64 ev] 32))
                  obtain ⟨c0, c1, c2⟩ := Own.blk3c hA
                  obtain ⟨F0, hF0⟩ : ∃ F0, F0 = fnd E j ks X := ⟨_, rfl⟩
                  obtain ⟨F1, hF1⟩ : ∃ F1, F1 = (F0 || ((ea == ks) && (ev == X))) := ⟨_, rfl⟩
                  have HX2 : Hid (OK2 w p n L bo R E kd ks kv X (.slice (some ⟨g, 0, none⟩) L vc) (.bool F1) (.int .i64 ((j : Int) + 1)) (wr.alloc (.cells #[.int .u64 ea, .int .u64 es, .int .i64 ev] 32))) := Lib.hid ⟨j + 1, by go_num, by omega, by rw [hfs, hF1, hF0], hA⟩
                  rw [← hF0]
                  clear h hA hfs he hF0
                  cases F0 with
                  | true =>
                    obtain rfl : F1 = true := by rw [hF1]; rfl
                    clear hF1
                    go_wp2_with fail
                    exact ⟨HX2.out, by simp [intOf]; omega⟩
                  | false =>
                    by_cases k1 : ea = ks
                    · have e1 : (ea == ks) = true := by simp [k1]
                      by_cases k2 : ev = X
                      · have e2 : (ev == X) = true := by simp [k2]
                        obtain rfl : F1 = true := by rw [hF1, e1, e2]; rfl
                        clear hF1 k1 k2
                        go_wp2_with fail
                        exact ⟨HX2.out, by simp [intOf]; omega⟩
                      · have e2 : (ev == X) = false := by simp [k2]
                        obtain rfl : F1 = false := by rw [hF1, e1, e2]; rfl
                        clear hF1 k1 k2
                        go_wp2_with fail
                        exact ⟨HX2.out, by simp [intOf]; omega⟩
                    · have e1 : (ea == ks) = false := by simp [k1]
                      obtain rfl : F1 = false := by rw [hF1, e1]; rfl
                      clear hF1 k1
                      go_wp2_with fail
                      exact ⟨HX2.out, by simp [intOf]; omega⟩
                · obtain rfl : j = L := by omega
                  have hfa := HFA.out
                  rw [hfa]
                  have bb : (B != B) = false := by simp
                  have HX2 : Hid (OK1 w p n 50 R (.int .i64 ((k : Int) + 1)) wr) := Lib.hid ⟨k + 1, by go_num, by omega, h.drop.swap.drop⟩
                  clear h hfa hj hjl
                  go_wp2_with fail
                  exact ⟨HX2.out, by simp [intOf]; omega⟩
            · have hge : k = 50 := by omega
              have hl := own_len h
              rw [← HZZ.out] at hl
              have HL := Lib.hid hl
              have HF := Lib.hid h
              have zz : ((Z : Int) == (Z : Int)) = true := by simp
              clear h hlt hk hl
              subst hge
              go_wp2_with fail
              refine (HL.out).mono ?_
              rintro e w' ⟨rfl, rfl⟩
              go_wp2_with fail
              refine (awake_any HF.out).mono ?_
              rintro e w8 ⟨rfl, h8⟩
              have H8 := Lib.hid h8
              clear h8 HF
              go_wp2_with fail
              go_ret
              exact ⟨rfl, H8.out.ext (by simp)⟩
        · obtain rfl : N = 50 := by omega
          clear n1 n2
          have mI : (50 : Int) ≤ (cap : Int) := by omega
          go_wp2_with fail
          go_loopw [117] (fun vi wr => OK1 w p n 50 R vi wr) (fun vi _ => 50 - (intOf vi).toNat)
          case atStart => exact ⟨0, rfl, Nat.zero_le _, H.out⟩
          case round =>
            clear H
            obtain ⟨k, rfl, hk, h⟩ := hrel
            by_cases hlt : k < 50
            · have hltI : (k : Int) < (50 : Int) := by omega
              obtain ⟨b, off, rfl, hb, hcell⟩ := Q3.out (by omega)
              have hx := h.ext (.tail _ (.head _))
              obtain ⟨s0, s1⟩ := HS.out k (by omega)
              have d0 : wr.cell? ⟨b, off + k * 3, none⟩ = some (.int .u8 (f k).kind) := hx.cell (hcell k 0 (by omega) (by omega))
              have d1 : wr.cell? ⟨b, off + k * 3 + 1, none⟩ = some (.int .u64 (f k).s) := hx.cell (hcell k 1 (by omega) (by omega))
              have d2 : wr.cell? ⟨b, off + k * 3 + 2, none⟩ = some (.int .i64 (f k).v) := hx.cell (hcell k 2 (by omega) (by omega))
              obtain ⟨kd, ekd⟩ : ∃ x, x = (f k).kind := ⟨_, rfl⟩
              obtain ⟨ks, eks⟩ : ∃ x, x = (f k).s := ⟨_, rfl⟩
              obtain ⟨kv, ekv⟩ : ∃ x, x = (f k).v := ⟨_, rfl⟩
              rw [← ekd] at d0
              rw [← eks] at d1 s0 s1
              rw [← ekv] at d2
              have hA := Go.Proofs.Ytlficiohenpghaa.Own.blkNew h #[.int .u8 kd, .int .u64 ks, .int .i64 kv] 38
              obtain ⟨bo, hbo⟩ : ∃ bo, bo = wr.heap.size := ⟨_, rfl⟩
              obtain ⟨X, hX⟩ : ∃ X, X = (Tr.look R (ks, 0)).getD 0 := ⟨_, rfl⟩
              obtain ⟨B, hB⟩ : ∃ B, B = (Tr.look R (ks, 0)).isSome := ⟨_, rfl⟩
              have HG := Lib.hid (own_get' hA.swap s0 s1 hX.symm hB.symm)
              rw [← hbo] at HG
              have S0 := Lib.hid s0
              have S1 := Lib.hid s1
              have HX := Lib.hid hX
              have HB := Lib.hid hB
              have HBO := Lib.hid hbo
              clear h hx hcell hb ekd eks ekv s0 s1 hA hX hB hbo
              go_wp2_with fail
              refine (HG.out).mono ?_
              rintro e w2 ⟨rfl, h2⟩
              obtain ⟨c0, c1, c2⟩ := Own.blk3c h2.swap
              obtain ⟨K, hK⟩ : ∃ K, K = β n ks := ⟨_, rfl⟩
              have hof := own_of h2 ks S0.out S1.out
              rw [← hK] at hof
              have HO := Lib.hid hof
              have H2 := Lib.hid h2
              have HK := Lib.hid hK
              rw [← HBO.out]
              clear h2 HG hof hK d0 d1 d2
              go_wp2_with fail
              refine (HO.out).mono ?_
              rintro e w3 ⟨rfl, hx⟩
              obtain ⟨E, hE⟩ : ∃ E, E = inB (β n) R K := ⟨_, rfl⟩
              obtain ⟨L, hL⟩ : ∃ L, L = E.length := ⟨_, rfl⟩
              have hl30 : L ≤ 30 := by rw [hL, hE]; exact Nat.le_trans (in_len _) R30
              have hin := own_in' (H2.out.step hx) rfl (by rw [HK.out]; exact β_lt n ks N1.out) hE.symm
              rw [← hL] at hin
              have HI := Lib.hid hin
              have hfa := fnd_all HRK.out ks hE HK.out.symm
              rw [← hL, ← HX.out, ← HB.out] at hfa
              have HFA := Lib.hid hfa
              have HL := Lib.hid hL
              clear hx hin HO H2 hE hL hfa c0 c1 c2
              go_wp2_with fail
              refine (HI.out).mono ?_
              rintro e w4 ⟨v4, rfl, h4⟩
              obtain ⟨va, vc, rfl⟩ := own_slice h4.row
              have H4 : Hid (Own [Go.Proofs.Ytlficiohenpghaa.Blk bo #[.int .u8 kd, .int .u64 ks, .int .i64 kv] 38, Bkt p n 30 R, Row 32 3 (.slice va L vc) L (Tr.ents E), Old w] w4) := Lib.hid (h4.third.tail OwnIn.swap)
              clear h4 HI
              go_wp2_with fail
              obtain ⟨wo, rfl⟩ : ∃ wo : World, wo = wr := ⟨_, rfl⟩
              go_loopw [19, 135] (fun s19 vi wr => OK2 w p n L bo R E kd ks kv X (.slice va L vc) s19 vi wr) (fun _ vi _ => L - (intOf vi).toNat)
              case atStart => exact ⟨0, rfl, Nat.zero_le _, rfl, H4.out⟩
              case round =>
                clear H4
                obtain ⟨j, rfl, hj, rfl, h⟩ := hrel
                by_cases hjl : j < L
                · have hjI : (j : Int) < (L : Int) := by omega
                  obtain ⟨e, he⟩ : ∃ e, E[j]? = some e := ⟨_, List.getElem?_eq_getElem (by rw [← HL.out]; exact hjl)⟩
                  obtain ⟨g, rfl, r0, r1, r2⟩ := entry_at h.third hjl he
                  have hfs := fnd_succ ks X he
                  obtain ⟨⟨ea, es⟩, ev⟩ := e
                  simp only at r0 r1 r2 hfs
                  have hA := h.step ((Ext.refl wr).alloc (.cells #[.int .u64 ea, .int .u64 es, .int .i64 ev] 32))
                  obtain ⟨c0, c1, c2⟩ := Own.blk3c hA
                  obtain ⟨F0, hF0⟩ : ∃ F0, F0 = fnd E j ks X := ⟨_, rfl⟩
                  obtain ⟨F1, hF1⟩ : ∃ F1, F1 = (F0 || ((ea == ks) && (ev == X))) := ⟨_, rfl⟩
                  have HX2 : Hid (OK2 w p n L bo R E kd ks kv X (.slice (some ⟨g, 0, none⟩) L vc) (.bool F1) (.int .i64 ((j : Int) + 1)) (wr.alloc (.cells #[.int .u64 ea, .int .u64 es, .int .i64 ev] 32))) := Lib.hid ⟨j + 1, by go_num, by omega, by rw [hfs, hF1, hF0], hA⟩
                  rw [← hF0]
                  clear h hA hfs he hF0
                  cases F0 with
                  | true =>
                    obtain rfl : F1 = true := by rw [hF1]; rfl
                    clear hF1
                    go_wp2_with fail
                    exact ⟨HX2.out, by simp [intOf]; omega⟩
                  | false =>
                    by_cases k1 : ea = ks
                    · have e1 : (ea == ks) = true := by simp [k1]
                      by_cases k2 : ev = X
                      · have e2 : (ev == X) = true := by simp [k2]
                        obtain rfl : F1 = true := by rw [hF1, e1, e2]; rfl
                        clear hF1 k1 k2
                        go_wp2_with fail
                        exact ⟨HX2.out, by simp [intOf]; omega⟩
                      · have e2 : (ev == X) = false := by simp [k2]
                        obtain rfl : F1 = false := by rw [hF1, e1, e2]; rfl
                        clear hF1 k1 k2
                        go_wp2_with fail
                        exact ⟨HX2.out, by simp [intOf]; omega⟩
                    · have e1 : (ea == ks) = false := by simp [k1]
                      obtain rfl : F1 = false := by rw [hF1, e1]; rfl
                      clear hF1 k1
                      go_wp2_with fail
                      exact ⟨HX2.out, by simp [intOf]; omega⟩
                · obtain rfl : j = L := by omega
                  have hfa := HFA.out
                  rw [hfa]
                  have bb : (B != B) = false := by simp
                  have HX2 : Hid (OK1 w p n 50 R (.int .i64 ((k : Int) + 1)) wr) := Lib.hid ⟨k + 1, by go_num, by omega, h.drop.swap.drop⟩
                  clear h hfa hj hjl
                  go_wp2_with fail
                  exact ⟨HX2.out, by simp [intOf]; omega⟩
            · have hge : k = 50 := by omega
              have hl := own_len h
              rw [← HZZ.out] at hl
              have HL := Lib.hid hl
              have HF := Lib.hid h
              have zz : ((Z : Int) == (Z : Int)) = true := by simp
              clear h hlt hk hl
              subst hge
              go_wp2_with fail
              refine (HL.out).mono ?_
              rintro e w' ⟨rfl, rfl⟩
              go_wp2_with fail
              refine (awake_any HF.out).mono ?_
              rintro e w8 ⟨rfl, h8⟩
              have H8 := Lib.hid h8
              clear h8 HF
              go_wp2_with fail
              go_ret
              exact ⟨rfl, H8.out.ext (by simp)⟩
end Go.Proofs.Ytlficiohenpghaa.Bk
