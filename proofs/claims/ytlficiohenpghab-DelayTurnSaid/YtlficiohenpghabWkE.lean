/- DERIVED. Layer 7 (walk): contracts of Take, Sweep. -/
import Derived.Test.YtlficiohenpghabWkD
import Derived.Deep.RegionHeld3
import Derived.Test.YtlficiohenpghabR6A
set_option linter.unusedVariables false
set_option linter.unusedSimpArgs false
set_option maxRecDepth 100000
namespace Go.Proofs.Ytlficiohenpghab.Wk
open Go.RowKit Go.Shelf Go.Proofs.Ytlficiohenpghab Go.Proofs.Ytlficiohenpghab.TreeP Go.Proofs.Ytlficiohenpghab.Tr

theorem look_mem {E : List En} (h : RisingE E) {q : Key} {v : Int} (hm : (q, v) ∈ E) : Tr.look E q = some v := by
  obtain ⟨A, B, e⟩ := List.append_of_mem hm
  rw [e] at h ⊢
  exact (del_parts h).2
/-- those from a key on are those that are not below it -/
theorem from_ge {E : List En} (h : RisingE E) (q : Key) : fromL E q = E.filter fun e => !lt e.1 q := by
  unfold fromL above
  induction E with
  | nil => rfl
  | cons e E ih =>
    unfold RisingE at h
    rw [List.pairwise_cons] at h
    have ih := ih h.2
    by_cases h1 : lt e.1 q = true
    · have h2 : ¬ lt q e.1 = true := lt_asymm h1
      have h3 : e.1 ≠ q := lt_ne h1
      have h4 : Tr.look (e :: E) q = Tr.look E q := by unfold Tr.look; rw [List.find?_cons_of_neg (by simpa using h3)]
      rw [h4, List.filter_cons_of_neg (by simpa using h2), List.filter_cons_of_neg (by simp [h1])]
      exact ih
    · by_cases h2 : lt q e.1 = true
      · have h3 : e.1 ≠ q := fun he => lt_irrefl q (by rw [he] at h2; exact h2)
        have hno : Tr.look (e :: E) q = none := Tr.look_none (fun x hx he => by
          rcases List.mem_cons.1 hx with rfl | hx
          · exact h3 he
          · have := lt_trans h2 (h.1 x hx)
            rw [he] at this
            exact lt_irrefl q this)
        have hno2 : Tr.look E q = none := Tr.look_none (fun x hx he => by
          have := lt_trans h2 (h.1 x hx)
          rw [he] at this
          exact lt_irrefl q this)
        rw [hno, List.filter_cons_of_pos (by simpa using h2), List.filter_cons_of_pos (by simp [h1])]
        rw [hno2] at ih
        simp only [Option.map_none, Option.toList_none, List.nil_append] at ih ⊢
        rw [ih]
      · have he : e.1 = q := by
          rw [lt_iff] at h1 h2
          exact Prod.ext (by omega) (by omega)
        have hl : Tr.look (e :: E) q = some e.2 := by unfold Tr.look; rw [List.find?_cons_of_pos (by simpa using he)]; rfl
        have hno2 : Tr.look E q = none := Tr.look_none (fun x hx hx2 => by
          have := h.1 x hx
          rw [he, hx2] at this
          exact lt_irrefl q this)
        rw [hl, List.filter_cons_of_neg (by simp [he, lt_irrefl]), List.filter_cons_of_pos (by simp [h1])]
        rw [hno2] at ih
        simp only [Option.map_none, Option.toList_none, List.nil_append, Option.map_some, Option.toList_some, List.singleton_append] at ih ⊢
        rw [ih]
        congr 1
        exact Prod.ext he.symm rfl
/-- keys as they come of memory -/
def Nn (E : List En) : Prop := ∀ e ∈ E, 0 ≤ e.1.1 ∧ 0 ≤ e.1.2
theorem from_all {E : List En} (h : RisingE E) (hb : Nn E) : fromL E (0, 0) = E := by
  rw [from_ge h, List.filter_eq_self]
  intro e he
  have := hb e he
  simp [lt]
  omega
/-- of a rising list, what begins it as long as a law holds that holds no more once it fails -/
theorem while_filter {E : List En} {p : En → Bool} (h : E.Pairwise fun a b => p b = true → p a = true) : E.takeWhile p = E.filter p := by
  induction E with
  | nil => rfl
  | cons e E ih =>
    rw [List.pairwise_cons] at h
    by_cases he : p e = true
    · rw [List.takeWhile_cons_of_pos he, List.filter_cons_of_pos he, ih h.2]
    · rw [List.takeWhile_cons_of_neg he, List.filter_cons_of_neg he, List.filter_eq_nil_iff.2]
      intro x hx hp
      exact he (h.1 x hx hp)
theorem lt_fst {a b : Key} (h : lt a b = true) : a.1 ≤ b.1 := by rw [lt_iff] at h; omega
/-- up to an instant -/
def uptoL (E : List En) (at' : Int) : List En := E.filter fun e => decide (e.1.1 ≤ at')
theorem upto_some {E : List En} (h : RisingE E) (hb : Nn E) (at' : Int) (n : Nat) : someL (fromL E (0, 0)) n (fun q => decide (q.1 ≤ at')) = (uptoL E at').take n := by
  rw [from_all h hb]
  unfold someL uptoL
  rw [while_filter (List.Pairwise.imp (fun {a b} hl hp => ?_) h)]
  have := lt_fst hl
  simp at hp ⊢
  omega
/-- those not above a key -/
def lowL (E : List En) (q : Key) : List En := E.filter fun e => !lt q e.1
theorem low_some {E : List En} (h : RisingE E) (hb : Nn E) (q : Key) (n : Nat) : someL (fromL E (0, 0)) n (fun x => !lt q x) = (lowL E q).take n := by
  rw [from_all h hb]
  unfold someL lowL
  rw [while_filter (List.Pairwise.imp (fun {a b} hl hp => ?_) h)]
  by_cases h1 : lt q a.1 = true
  · have := lt_trans h1 hl
    simp [this] at hp
  · simpa using h1
theorem upto_prefix {E : List En} (h : RisingE E) (at' : Int) (n : Nat) : (uptoL E at').take n <+: E := by
  refine (List.take_prefix _ _).trans ?_
  unfold uptoL
  rw [← while_filter (List.Pairwise.imp (fun {a b} hl hp => ?_) h)]
  · exact List.takeWhile_prefix _
  · have := lt_fst hl
    simp at hp ⊢
    omega
/-- a sweep -/
def sweepL (E : List En) (q : Key) (n : Nat) : List En := (above E q ++ lowL E q).take n
theorem del_head {e : En} {E : List En} (h : RisingE (e :: E)) : del (e :: E) e.1 = E := by
  have := (del_parts (A := []) (B := E) (q := e.1) (v := e.2) h).1
  simpa using this
def TkI (l0 : List HP) (p room : Nat) (E M : List En) (v vi : Value) (wr : World) : Prop :=
  ∃ k : Nat, vi = .int .i64 (k : Int) ∧ k ≤ M.length ∧ Own (RE v M :: Tree p room (E.drop k) :: l0) wr
section
variable {l : List HP} {E : List En} {w : World} {p room : Nat}
set_option maxHeartbeats 1000000 in
theorem own_take (hr : RisingE E) (hb : Nn E) (hE : E.length ≤ 60000) (at' n : Int) (hn : n < 9223372036854775808) (h : Own (Tree p room E :: l) w) :
    Calls Try.prog 31 #[.pointer (some ⟨p, 0, none⟩), .int .u64 at', .int .i64 n] w fun e w' => ∃ v, e = .returned v ∧ Own (RE v ((uptoL E at').take n.toNat) :: Tree p room (E.drop ((uptoL E at').take n.toNat).length) :: l) w' := by
  have hu := own_upto (lk_tree p room E hr) hE at' n hn h
  rw [upto_some hr hb] at hu
  obtain ⟨M, hM⟩ : ∃ M, M = (uptoL E at').take n.toNat := ⟨_, rfl⟩
  have hp : M <+: E := by rw [hM]; exact upto_prefix hr at' _
  rw [← hM] at hu ⊢
  have HU := Lib.hid hu
  have HPR := Lib.hid hp
  have HR := Lib.hid hr
  have hl : M.length ≤ 60000 := by have := hp.length_le; omega
  obtain ⟨L, hL⟩ : ∃ L, L = M.length := ⟨_, rfl⟩
  rw [← hL] at hl
  have HL := Lib.hid hL
  clear hu hM hp h hL hr hb hn
  go_enter Try.func31, Try.ntmps31
  go_wp2_with fail
  refine (HU.out).mono ?_
  rintro e w2 ⟨v, rfl, h2⟩
  obtain ⟨va, vc, rfl⟩ := own_slice h2.row
  have H2 := Lib.hid h2
  rw [← HL.out]
  clear h2 HU
  go_wp2_with fail
  go_loopw [16] (fun vi wr => TkI l p room E M (.slice va L vc) vi wr) (fun vi _ => L - (intOf vi).toNat)
  case atStart => exact ⟨0, rfl, Nat.zero_le _, by rw [HL.out]; exact H2.out⟩
  case round =>
    clear H2
    obtain ⟨k, rfl, hk, h⟩ := hrel
    rw [← HL.out] at hk
    by_cases hlt : k < L
    · have hltI : (k : Int) < (L : Int) := by omega
      obtain ⟨e, he⟩ : ∃ e, M[k]? = some e := ⟨_, List.getElem?_eq_getElem (by rw [← HL.out]; exact hlt)⟩
      have hEd : E.drop k = e :: E.drop (k + 1) := by
        obtain ⟨rest, hrest⟩ := HPR.out
        have hkM : k < M.length := by rw [← HL.out]; exact hlt
        have hkE : E[k]? = some e := by rw [← hrest, List.getElem?_append_left hkM]; exact he
        have := List.drop_eq_getElem_cons (List.getElem?_eq_some_iff.1 hkE).1
        rw [this, (List.getElem?_eq_some_iff.1 hkE).2]
      have hrd : RisingE (E.drop k) := HR.out.drop
      rw [hEd] at h hrd
      unfold RE at h
      rw [← HL.out] at h
      obtain ⟨g, rfl, r1, r2, r3⟩ : ∃ g, va = some ⟨g, 0, none⟩ ∧ wr.cell? ⟨g, k * 3, none⟩ = some (.int .u64 e.1.1) ∧ wr.cell? ⟨g, k * 3 + 1, none⟩ = some (.int .u64 e.1.2) ∧ wr.cell? ⟨g, k * 3 + 2, none⟩ = some (.int .i64 e.2) := by
        obtain ⟨g, cap, ev, -, -⟩ := own_cap h.row (by omega)
        injection ev with e1 _ e3
        subst e1 e3
        exact ⟨g, rfl, rowEnt (ownsR_of h.row) he⟩
      have hd := own_drop h.swap e.1.1 e.1.2
      rw [show ((e.1.1, e.1.2) : Key) = e.1 from rfl, del_head hrd] at hd
      have hA := h.step ((Ext.refl wr).alloc (.cells #[.int .u64 e.1.1, .int .u64 e.1.2, .int .i64 e.2] 78))
      have hd2 := own_drop hA.swap e.1.1 e.1.2
      rw [show ((e.1.1, e.1.2) : Key) = e.1 from rfl, del_head hrd] at hd2
      have HD := Lib.hid hd2
      clear h hA hd hd2 hEd hrd he
      go_wp2_with fail
      refine (HD.out).mono ?_
      rintro e2 w3 ⟨rfl, h3⟩
      have HX : Hid (TkI l p room E M (.slice (some ⟨g, 0, none⟩) L vc) (.int .i64 ((k : Int) + 1)) w3) := Lib.hid ⟨k + 1, by go_num, by rw [← HL.out]; omega, by
        have := h3.swap
        unfold RE
        rw [← HL.out]
        exact this⟩
      clear h3 HD r1 r2 r3
      go_wp2_with fail
      exact ⟨HX.out, by simp [intOf]; omega⟩
    · obtain rfl : k = L := by omega
      have H := Lib.hid h
      rw [HL.out] at H
      clear h hlt hk
      go_wp2_with fail
      go_ret
      exact ⟨_, rfl, by have := H.out; rw [← HL.out] at this ⊢; exact this⟩
end
/-- append of a row to another one -/
theorem app_row {P : Program} {ops : Array Oper} {rest : List Oper} {o : Oper} {a : Act} {Q : Exit → Act → World → Prop} {W : World} {l : List HP} (hgd : o.guard = none) (s x : Operand) (t e : TypeId) (z : Value) (size bytes : Nat)
    (ho : o.op = .call { callee := .builtin .append, args := #[s, x], argTypes := #[t, t] })
    (ht : P.underlying t = some (.slice e)) (hinfo : (P.info? e).map (fun i => (i.zero, i.size, i.bytes)) = some (some z, size, bytes)) (hz : z.cells.size = size) (hs0 : 0 < size) (hb0 : 0 < bytes)
    (v v2 : Value) (n m : Nat) (xs ys : List Value) (hs : a.eval s = v) (hx : a.eval x = v2) (h1 : ∀ u ∈ ys, u.oneCell' = true)
    (HO : Own (Row e size v n xs :: Row e size v2 m ys :: l) W) (hl : (n + m) * bytes ≤ 140737488355328)
    (h : ∀ v1 w1, Own (Row e size v1 (n + m) (xs ++ ys) :: Row e size v2 m ys :: l) w1 → wpList P ops Q rest (a.put o.dst v1) w1) :
    wpList P ops Q (o :: rest) a W := by
  have hlen : n + m ≤ 140737488355328 := Nat.le_trans (Nat.le_mul_of_pos_right _ hb0) hl
  rcases HO.swap.row.2 with ⟨rfl, rfl⟩ | ⟨g2, cap, cur, rfl, _, hg, hc, hm, hsz, htk⟩
  · have hy : ys = [] := List.length_eq_zero_iff.1 (by simpa using HO.swap.row.1)
    subst hy
    exact app_nil W hgd s x t e z size bytes ho ht hinfo v n xs hs hx (ownsR_of HO.row) (h v W (by simpa using HO))
  · obtain ⟨i0, hi, hzz⟩ := Option.map_eq_some_iff.1 hinfo
    simp only [Prod.mk.injEq] at hzz
    obtain ⟨hz0, hz1, hz2⟩ := hzz
    refine wpList_append_own_at W hgd s x t ho 0 e i0 z size bytes ht hi hz0 hz1 hz2 hz hs0 v n xs hs HO.row ⟨g2, 0, none⟩ m cap ys hx HO.swap.row.1 (fun j u hj => HO.swap.row.cells rfl j u hj) h1 (by simp only [maxLen]; omega) hl (Nat.zero_le _) ?_
    intro v1 w1 hown hg2 _ hat
    refine h v1 w1 (HO.rowGrown hown hg2 (fun b hb => ?_))
    rcases hat with hat | hat
    · exact .inl (hat ▸ hb)
    · rw [hat] at hb
      injection hb with hb
      exact .inr (by omega)
theorem sweep_parts (E : List En) (q : Key) (n : Nat) : (above E q).take n ++ (lowL E q).take (n - ((above E q).take n).length) = sweepL E q n := by
  unfold sweepL
  rw [List.take_append, List.length_take]
  congr 2
  by_cases h : n ≤ (above E q).length
  · rw [Nat.min_eq_left h]; omega
  · rw [Nat.min_eq_right (by omega)]
theorem ents_one (E : List En) : ∀ u ∈ Tr.ents E, u.oneCell' = true := by
  induction E with
  | nil => intro u hu; simp [Tr.ents] at hu
  | cons e E ih =>
    intro u hu
    rw [Tr.ents, List.mem_append] at hu
    rcases hu with hu | hu
    · simp [Tr.ec] at hu
      rcases hu with rfl | rfl | rfl <;> rfl
    · exact ih u hu
section
variable {a : Option Addr} {TL l : List HP} {E : List En} {w : World}
end
end Go.Proofs.Ytlficiohenpghab.Wk
