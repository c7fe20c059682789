/- DERIVED. Layer 7 (walk): contracts of Take, Sweep. -/
import Derived.Test.YtekdahppacghbabWkD
import Derived.Deep.RegionHeld3
import Derived.Test.YtekdahppacghbabR6A
set_option linter.unusedVariables false
set_option linter.unusedSimpArgs false
set_option maxRecDepth 100000
namespace Go.Proofs.Ytekdahppacghbab.Wk
open Go.RowKit Go.Shelf Go.Proofs.Ytekdahppacghbab Go.Proofs.Ytekdahppacghbab.TreeP Go.Proofs.Ytekdahppacghbab.Tr

theorem look_mem {E : List En} (h : RisingE E) {q : Key} {v : Int} (hm : (q, v) ∈ E) : Tr.look E q = some v := by
  obtain ⟨A, B, e⟩ := List.append_of_mem hm
  rw [e] at h ⊢
  exact (del_parts h).2
/-- those from a key on are those that are not below it -/
theorem from_ge {E : List En} (h : RisingE E) (q : Key) : fromL E q = E.filter fun e => !lt e.1 q := by
  unfold fromL above
  induction E with
  | nil => rfl
  | cons e E ih =>
    unfold RisingE at h
    rw [List.pairwise_cons] at h
    have ih := ih h.2
    by_cases h1 : lt e.1 q = true
    · have h2 : ¬ lt q e.1 = true := lt_asymm h1
      have h3 : e.1 ≠ q := lt_ne h1
      have h4 : Tr.look (e :: E) q = Tr.look E q := by unfold Tr.look; rw [List.find?_cons_of_neg (by simpa using h3)]
      rw [h4, List.filter_cons_of_neg (by simpa using h2), List.filter_cons_of_neg (by simp [h1])]
      exact ih
    · by_cases h2 : lt q e.1 = true
      · have h3 : e.1 ≠ q := fun he => lt_irrefl q (by rw [he] at h2; exact h2)
        have hno : Tr.look (e :: E) q = none := Tr.look_none (fun x hx he => by
          rcases List.mem_cons.1 hx with rfl | hx
          · exact h3 he
          · have := lt_trans h2 (h.1 x hx)
            rw [he] at this
            exact lt_irrefl q this)
        have hno2 : Tr.look E q = none := Tr.look_none (fun x hx he => by
          have := lt_trans h2 (h.1 x hx)
          rw [he] at this
          exact lt_irrefl q this)
        rw [hno, List.filter_cons_of_pos (by simpa using h2), List.filter_cons_of_pos (by simp [h1])]
        rw [hno2] at ih
        simp only [Option.map_none, Option.toList_none, List.nil_append] at ih ⊢
        rw [ih]
      · have he : e.1 = q := by
          rw [lt_iff] at h1 h2
          exact Prod.ext (by omega) (by omega)
        have hl : Tr.look (e :: E) q = some e.2 := by unfold Tr.look; rw [List.find?_cons_of_pos (by simpa using he)]; rfl
        have hno2 : Tr.look E q = none := Tr.look_none (fun x hx hx2 => by
          have := h.1 x hx
          rw [he, hx2] at this
          exact lt_irrefl q this)
        rw [hl, List.filter_cons_of_neg (by simp [he, lt_irrefl]), List.filter_cons_of_pos (by simp [h1])]
        rw [hno2] at ih
        simp only [Option.map_none, Option.toList_none, List.nil_append, Option.map_some, Option.toList_some, List.singleton_append] at ih ⊢
        rw [ih]
        congr 1
        exact Prod.ext he.symm rfl
/-- keys as they come of memory -/
def Nn (E : List En) : Prop := ∀ e ∈ E, 0 ≤ e.1.1 ∧ 0 ≤ e.1.2
theorem from_all {E : List En} (h : RisingE E) (hb : Nn E) : fromL E (0, 0) = E := by
  rw [from_ge h, List.filter_eq_self]
  intro e he
  have := hb e he
  simp [lt]
  omega
/-- of a rising list, what begins it as long as a law holds that holds no more once it fails -/
theorem while_filter {E : List En} {p : En → Bool} (h : E.Pairwise fun a b => p b = true → p a = true) : E.takeWhile p = E.filter p := by
  induction E with
  | nil => rfl
  | cons e E ih =>
    rw [List.pairwise_cons] at h
    by_cases he : p e = true
    · rw [List.takeWhile_cons_of_pos he, List.filter_cons_of_pos he, ih h.2]
    · rw [List.takeWhile_cons_of_neg he, List.filter_cons_of_neg he, List.filter_eq_nil_iff.2]
      intro x hx hp
      exact he (h.1 x hx hp)
theorem lt_fst {a b : Key} (h : lt a b = true) : a.1 ≤ b.1 := by rw [lt_iff] at h; omega
/-- up to an instant -/
def uptoL (E : List En) (at' : Int) : List En := E.filter fun e => decide (e.1.1 ≤ at')
theorem upto_some {E : List En} (h : RisingE E) (hb : Nn E) (at' : Int) (n : Nat) : someL (fromL E (0, 0)) n (fun q => decide (q.1 ≤ at')) = (uptoL E at').take n := by
  rw [from_all h hb]
  unfold someL uptoL
  rw [while_filter (List.Pairwise.imp (fun {a b} hl hp => ?_) h)]
  have := lt_fst hl
  simp at hp ⊢
  omega
/-- those not above a key -/
def lowL (E : List En) (q : Key) : List En := E.filter fun e => !lt q e.1
theorem low_some {E : List En} (h : RisingE E) (hb : Nn E) (q : Key) (n : Nat) : someL (fromL E (0, 0)) n (fun x => !lt q x) = (lowL E q).take n := by
  rw [from_all h hb]
  unfold someL lowL
  rw [while_filter (List.Pairwise.imp (fun {a b} hl hp => ?_) h)]
  by_cases h1 : lt q a.1 = true
  · have := lt_trans h1 hl
    simp [this] at hp
  · simpa using h1
theorem upto_prefix {E : List En} (h : RisingE E) (at' : Int) (n : Nat) : (uptoL E at').take n <+: E := by
  refine (List.take_prefix _ _).trans ?_
  unfold uptoL
  rw [← while_filter (List.Pairwise.imp (fun {a b} hl hp => ?_) h)]
  · exact List.takeWhile_prefix _
  · have := lt_fst hl
    simp at hp ⊢
    omega
/-- a sweep -/
def sweepL (E : List En) (q : Key) (n : Nat) : List En := (above E q ++ lowL E q).take n
theorem del_head {e : En} {E : List En} (h : RisingE (e :: E)) : del (e :: E) e.1 = E := by
  have := (del_parts (A := []) (B := E) (q := e.1) (v := e.2) h).1
  simpa using this
def TkI (l0 : List HP) (p room : Nat) (E M : List En) (v vi : Value) (wr : World) : Prop :=
  ∃ k : Nat, vi = .int .i64 (k : Int) ∧ k ≤ M.length ∧ Own (RE v M :: Tree p room (E.drop k) :: l0) wr
section
variable {l : List HP} {E : List En} {w : World} {p room : Nat}
set_option maxHeartbeats 1000000 in
theorem own_take (hr : RisingE E) (hb : Nn E) (hE : E.length ≤ 60000) (at' n : Int) (hn : n < 9223372036854775808) (h : Own (Tree p room E :: l) w) :
    Calls Try.prog 13 #[.pointer (some ⟨p, 0, none⟩), .int .u64 at', .int .i64 n] w fun e w' => ∃ v, e = .returned v ∧ Own (RE v ((uptoL E at').take n.toNat) :: Tree p room (E.drop ((uptoL E at').take n.toNat).length) :: l) w' := by
  have hu := own_upto (lk_tree p room E hr) hE at' n hn h
  rw [upto_some hr hb] at hu
  obtain ⟨M, hM⟩ : ∃ M, M = (uptoL E at').take n.toNat := ⟨_, rfl⟩
  have hp : M <+: E := by rw [hM]; exact upto_prefix hr at' _
  rw [← hM] at hu ⊢
  have HU := Lib.hid hu
  have HPR := Lib.hid hp
  have HR := Lib.hid hr
  have hl : M.length ≤ 60000 := by have := hp.length_le; omega
  obtain ⟨L, hL⟩ : ∃ L, L = M.length := ⟨_, rfl⟩
  rw [← hL] at hl
  have HL := Lib.hid hL
  clear hu hM hp h hL hr hb hn
  go_enter Try.func13, Try.ntmps13
  go_wp2_with fail
  refine (HU.out).mono ?_
  rintro e w2 ⟨v, rfl, h2⟩
  obtain ⟨va, vc, rfl⟩ := own_slice h2.row
  have H2 := Lib.hid h2
  rw [← HL.out]
  clear h2 HU
  go_wp2_with fail
  go_loopw [16] (fun vi wr => TkI l p room E M (.slice va L vc) vi wr) (fun vi _ => L - (intOf vi).toNat)
  case atStart => exact ⟨0, rfl, Nat.zero_le _, by rw [HL.out]; exact H2.out⟩
  case round =>
    clear H2
    obtain ⟨k, rfl, hk, h⟩ := hrel
    rw [← HL.out] at hk
    by_cases hlt : k < L
    · have hltI : (k : Int) < (L : Int) := by omega
      obtain ⟨e, he⟩ : ∃ e, M[k]? = some e := ⟨_, List.getElem?_eq_getElem (by rw [← HL.out]; exact hlt)⟩
      have hEd : E.drop k = e :: E.drop (k + 1) := by
        obtain ⟨rest, hrest⟩ := HPR.out
        have hkM : k < M.length := by rw [← HL.out]; exact hlt
        have hkE : E[k]? = some e := by rw [← hrest, List.getElem?_append_left hkM]; exact he
        have := List.drop_eq_getElem_cons (List.getElem?_eq_some_iff.1 hkE).1
        rw [this, (List.getElem?_eq_some_iff.1 hkE).2]
      have hrd : RisingE (E.drop k) := HR.out.drop
      rw [hEd] at h hrd
      unfold RE at h
      rw [← HL.out] at h
      obtain ⟨g, rfl, r1, r2, r3⟩ : ∃ g, va = some ⟨g, 0, none⟩ ∧ wr.cell? ⟨g, k * 3, none⟩ = some (.int .u64 e.1.1) ∧ wr.cell? ⟨g, k * 3 + 1, none⟩ = some (.int .u64 e.1.2) ∧ wr.cell? ⟨g, k * 3 + 2, none⟩ = some (.int .i64 e.2) := by
        obtain ⟨g, cap, ev, -, -⟩ := own_cap h.row (by omega)
        injection ev with e1 _ e3
        subst e1 e3
        exact ⟨g, rfl, rowEnt (ownsR_of h.row) he⟩
      have hd := own_drop h.swap e.1.1 e.1.2
      rw [show ((e.1.1, e.1.2) : Key) = e.1 from rfl, del_head hrd] at hd
      have hA := h.step ((Ext.refl wr).alloc (.cells #[.int .u64 e.1.1, .int .u64 e.1.2, .int .i64 e.2] 49))
      have hd2 := own_drop hA.swap e.1.1 e.1.2
      rw [show ((e.1.1, e.1.2) : Key) = e.1 from rfl, del_head hrd] at hd2
      have HD := Lib.hid hd2
      clear h hA hd hd2 hEd hrd he
      go_wp2_with fail
      refine (HD.out).mono ?_
      rintro e2 w3 ⟨rfl, h3⟩
      have HX : Hid (TkI l p room E M (.slice (some ⟨g, 0, none⟩) L vc) (.int .i64 ((k : Int) + 1)) w3) := Lib.hid ⟨k + 1, by go_num, by rw [← HL.out]; omega, by
        have := h3.swap
        unfold RE
        rw [← HL.out]
        exact this⟩
      clear h3 HD r1 r2 r3
      go_wp2_with fail
      exact ⟨HX.out, by simp [intOf]; omega⟩
    · obtain rfl : k = L := by omega
      have H := Lib.hid h
      rw [HL.out] at H
      clear h hlt hk
      go_wp2_with fail
      go_ret
      exact ⟨_, rfl, by have := H.out; rw [← HL.out] at this ⊢; exact this⟩
end
/-- append of a row to another one -/
theorem app_row {P : Program} {ops : Array Oper} {rest : List Oper} {o : Oper} {a : Act} {Q : Exit → Act → World → Prop} {W : World} {l : List HP} (hgd : o.guard = none) (s x : Operand) (t e : TypeId) (z : Value) (size bytes : Nat)
    (ho : o.op = .call { callee := .builtin .append, args := #[s, x], argTypes := #[t, t] })
    (ht : P.underlying t = some (.slice e)) (hinfo : (P.info? e).map (fun i => (i.zero, i.size, i.bytes)) = some (some z, size, bytes)) (hz : z.cells.size = size) (hs0 : 0 < size) (hb0 : 0 < bytes)
    (v v2 : Value) (n m : Nat) (xs ys : List Value) (hs : a.eval s = v) (hx : a.eval x = v2) (h1 : ∀ u ∈ ys, u.oneCell' = true)
    (HO : Own (Row e size v n xs :: Row e size v2 m ys :: l) W) (hl : (n + m) * bytes ≤ 140737488355328)
    (h : ∀ v1 w1, Own (Row e size v1 (n + m) (xs ++ ys) :: Row e size v2 m ys :: l) w1 → wpList P ops Q rest (a.put o.dst v1) w1) :
    wpList P ops Q (o :: rest) a W := by
  have hlen : n + m ≤ 140737488355328 := Nat.le_trans (Nat.le_mul_of_pos_right _ hb0) hl
  rcases HO.swap.row.2 with ⟨rfl, rfl⟩ | ⟨g2, cap, cur, rfl, _, hg, hc, hm, hsz, htk⟩
  · have hy : ys = [] := List.length_eq_zero_iff.1 (by simpa using HO.swap.row.1)
    subst hy
    exact app_nil W hgd s x t e z size bytes ho ht hinfo v n xs hs hx (ownsR_of HO.row) (h v W (by simpa using HO))
  · obtain ⟨i0, hi, hzz⟩ := Option.map_eq_some_iff.1 hinfo
    simp only [Prod.mk.injEq] at hzz
    obtain ⟨hz0, hz1, hz2⟩ := hzz
    refine wpList_append_own_at W hgd s x t ho 0 e i0 z size bytes ht hi hz0 hz1 hz2 hz hs0 v n xs hs HO.row ⟨g2, 0, none⟩ m cap ys hx HO.swap.row.1 (fun j u hj => HO.swap.row.cells rfl j u hj) h1 (by simp only [maxLen]; omega) hl (Nat.zero_le _) ?_
    intro v1 w1 hown hg2 _ hat
    refine h v1 w1 (HO.rowGrown hown hg2 (fun b hb => ?_))
    rcases hat with hat | hat
    · exact .inl (hat ▸ hb)
    · rw [hat] at hb
      injection hb with hb
      exact .inr (by omega)
theorem sweep_parts (E : List En) (q : Key) (n : Nat) : (above E q).take n ++ (lowL E q).take (n - ((above E q).take n).length) = sweepL E q n := by
  unfold sweepL
  rw [List.take_append, List.length_take]
  congr 2
  by_cases h : n ≤ (above E q).length
  · rw [Nat.min_eq_left h]; omega
  · rw [Nat.min_eq_right (by omega)]
theorem ents_one (E : List En) : ∀ u ∈ Tr.ents E, u.oneCell' = true := by
  induction E with
  | nil => intro u hu; simp [Tr.ents] at hu
  | cons e E ih =>
    intro u hu
    rw [Tr.ents, List.mem_append] at hu
    rcases hu with hu | hu
    · simp [Tr.ec] at hu
      rcases hu with rfl | rfl | rfl <;> rfl
    · exact ih u hu
theorem may4_fun (x s : Int) (bk : Nat) (X : List HP) (W : World) (q : Key) (hX : Own ([BK bk x s] ++ X) W) :
    Calls Try.prog 30 (#[Tr.key q.1 q.2] ++ #[.pointer (some ⟨bk, 0, none⟩)]) W fun e W' => e = .returned (.bool ((fun q : Key => !lt (x, s) q) q)) ∧ Own ([BK bk x s] ++ X) W' := by
  have h := may4_any q.1 q.2 x s bk (l := X) (w := W) hX
  rw [show (#[Tr.key q.1 q.2] ++ #[.pointer (some ⟨bk, 0, none⟩)] : Array Value) = #[Tr.key q.1 q.2, .pointer (some ⟨bk, 0, none⟩)] from rfl]
  refine h.mono fun e w2 hh => ?_
  exact hh
section
variable {a : Option Addr} {TL l : List HP} {E : List En} {w : World}
set_option maxHeartbeats 1000000 in
theorem own_sweep (hL : Lk a TL E) (hb : Nn E) (hE : E.length ≤ 60000) (x s n : Int) (hn0 : -9223372036854775808 ≤ n) (hn : n < 9223372036854775808) (h : Own (TL ++ l) w) :
    Calls Try.prog 10 #[.pointer a, Tr.key x s, .int .i64 n] w fun e w' => ∃ v, e = .returned (.tuple #[v, Tr.key ((sweepL E (x, s) n.toNat).getLast?.map (·.1.1) |>.getD x) ((sweepL E (x, s) n.toNat).getLast?.map (·.1.2) |>.getD s)]) ∧ Own (RE v (sweepL E (x, s) n.toNat) :: (TL ++ l)) w' := by
  have h1 : Own (BK w.heap.size x s :: (TL ++ l)) (w.alloc (.cells #[.int .u64 x, .int .u64 s] 24)) := Go.Proofs.Ytekdahppacghbab.Own.blkNew h #[.int .u64 x, .int .u64 s] 24
  have h2 : Own (BK (w.heap.size + 1) 0 0 :: BK w.heap.size x s :: (TL ++ l)) ((w.alloc (.cells #[.int .u64 x, .int .u64 s] 24)).alloc (.cells #[.int .u64 0, .int .u64 0] 24)) := by
    have := Go.Proofs.Ytekdahppacghbab.Own.blkNew h1 #[.int .u64 0, .int .u64 0] 24
    rw [World.size_alloc] at this
    exact this
  obtain ⟨bk, hbk⟩ : ∃ bk, bk = w.heap.size := ⟨_, rfl⟩
  have hla : (above E (x, s)).length ≤ 65536 := by have := List.length_filter_le (fun e : En => lt (x, s) e.1) E; unfold above; omega
  have hlf : (fromL E (0, 0)).length ≤ 65536 := by rw [from_all hL.rise hb]; omega
  rw [← hbk] at h2
  have HAB := Lib.hid (above_any a x s h2)
  have HS1 : Hid (∀ (b k : Nat) (w' : World) (l2 : List HP), Own (BT b a :: BK k x s :: (TL ++ l2)) w' → Calls Try.prog 26 #[.func (.func 45) #[] #[.pointer (some ⟨b, 0, none⟩), .pointer (some ⟨k, 0, none⟩)], .int .i64 n, .func (.func 28) #[] #[]] w' fun e w' => ∃ v, e = .returned v ∧ Own (RE v ((above E (x, s)).take n.toNat) :: (TL ++ l2)) w') := Lib.hid (fun b k w' l2 h' => by
    have := some_all eg1 em2 (above_seq hL b k x s) hla (fun _ => true) [] (fun X W q hX => by rw [Array.append_empty]; exact may2_any q.1 q.2 hX) n hn (R1 := l2) (w := w') h'
    rw [someL_true] at this
    exact this.mono fun e w2 ⟨v, he, hw⟩ => ⟨v, he, hw.third.third.drop.drop⟩)
  have HS2 : Hid (∀ (m : Int) (b k : Nat) (w' : World) (l2 : List HP), m < 9223372036854775808 → Own (BK bk x s :: BT b a :: BK k 0 0 :: (TL ++ l2)) w' → Calls Try.prog 26 #[.func (.func 47) #[] #[.pointer (some ⟨b, 0, none⟩), .pointer (some ⟨k, 0, none⟩)], .int .i64 m, .func (.func 30) #[] #[.pointer (some ⟨bk, 0, none⟩)]] w' fun e w' => ∃ v, e = .returned v ∧ Own (RE v ((lowL E (x, s)).take m.toNat) :: BK bk x s :: (TL ++ l2)) w') := Lib.hid (fun m b k w' l2 hm h' => by
    have := some_all eg2 em4 (from_seq hL b k 0 0) hlf (fun q => !lt (x, s) q) [BK bk x s] (may4_fun x s bk) m hm (R1 := l2) (w := w') h'
    rw [low_some hL.rise hb] at this
    exact this.mono fun e w2 ⟨v, he, hw⟩ => ⟨v, he, hw.third.drop.third.drop⟩)
  obtain ⟨A, hA⟩ : ∃ A, A = (above E (x, s)).take n.toNat := ⟨_, rfl⟩
  rw [← hA] at HS1
  have hAl : A.length ≤ 60000 := by
    rw [hA, List.length_take]
    have := List.length_filter_le (fun e : En => lt (x, s) e.1) E
    unfold above; omega
  have hAn : (1 ≤ n → A.length ≤ n.toNat) ∧ (n < 1 → A = []) := ⟨fun _ => by rw [hA, List.length_take]; omega, fun hh => by rw [hA, show n.toNat = 0 from by omega, List.take_zero]⟩
  obtain ⟨M, hM⟩ : ∃ M, M = sweepL E (x, s) n.toNat := ⟨_, rfl⟩
  rw [← hM]
  obtain ⟨kx, hkx⟩ : ∃ kx, kx = (M.getLast?.map (·.1.1)).getD x := ⟨_, rfl⟩
  obtain ⟨ks, hks⟩ : ∃ ks, ks = (M.getLast?.map (·.1.2)).getD s := ⟨_, rfl⟩
  rw [← hkx, ← hks]
  have HKX := Lib.hid hkx
  have HKS := Lib.hid hks
  clear hkx hks
  have HSW : Hid (∀ m : Nat, m = n.toNat - A.length → A ++ (lowL E (x, s)).take m = M) := Lib.hid (fun m hm => by rw [hM, hm, hA]; exact sweep_parts E (x, s) n.toNat)
  obtain ⟨LA, hLA⟩ : ∃ LA, LA = A.length := ⟨_, rfl⟩
  rw [← hLA] at hAl hAn
  have hlow : (lowL E (x, s)).length ≤ 60000 := by have := List.length_filter_le (fun e : En => !lt (x, s) e.1) E; unfold lowL; omega
  have HLA := Lib.hid hLA
  have HBK := Lib.hid hbk
  have HAN := Lib.hid hAn
  have HLOW := Lib.hid hlow
  clear h1 h2 hla hlf hL hb h hA hLA hbk hAn hlow hM
  go_enter Try.func10, Try.ntmps10
  go_wp2_with fail
  rw [← HBK.out]
  refine (HAB.out).mono ?_
  rintro e w2 ⟨b2, k2, rfl, h2⟩
  have H2 := Lib.hid (h2.perm (l' := BT b2 a :: BK k2 x s :: (TL ++ (BK (w.heap.size + 1) 0 0 :: BK bk x s :: l))) (by
    rw [← HBK.out]
    classical
    rw [List.perm_iff_count]
    intro a
    simp only [List.count_append, List.count_cons]
    omega))
  clear h2 HAB
  go_wp2_with fail
  refine (HS1.out b2 k2 w2 _ H2.out).mono ?_
  rintro e w3 ⟨v3, rfl, h3⟩
  obtain ⟨va3, vc3, rfl⟩ := own_slice h3.row
  have HFR := Lib.hid (from_any a 0 0 h3)
  rw [← HLA.out]
  clear h3 HS1 H2
  go_wp2_with fail
  refine (HFR.out).mono ?_
  rintro e w4 ⟨b4, k4, rfl, h4⟩
  have H4 := Lib.hid (h4.perm (l' := BK bk x s :: BT b4 a :: BK k4 0 0 :: (TL ++ (RE (.slice va3 A.length vc3) A :: BK (w.heap.size + 1) 0 0 :: l))) (by
    classical
    rw [List.perm_iff_count]
    intro a
    simp only [List.count_append, List.count_cons]
    omega))
  clear h4 HFR
  have hz : n < 1 → LA = 0 := fun hh => by rw [HLA.out, HAN.out.2 hh]; rfl
  have hz1 := HAN.out.1
  have w64 : wrap64 (n - (LA : Int)) = n - (LA : Int) := by
    by_cases hh : n < 1
    · have := hz hh
      unfold wrap64; omega
    · unfold wrap64; omega
  have hm9 : n - (LA : Int) < 9223372036854775808 := by omega
  have hmm : (n - (LA : Int)).toNat = n.toNat - A.length := by
    rw [← HLA.out]
    by_cases hh : n < 1
    · have := hz hh
      omega
    · have := hz1 (by omega)
      omega
  have hsw := HSW.out _ hmm
  obtain ⟨B, hB⟩ : ∃ B, B = (lowL E (x, s)).take (n - (LA : Int)).toNat := ⟨_, rfl⟩
  rw [← hB] at hsw
  have hBl : B.length ≤ 60000 := by rw [hB, List.length_take]; have := HLOW.out; omega
  have HSM := Lib.hid (HS2.out (n - (LA : Int)) b4 k4 w4 _ hm9 H4.out)
  rw [← hB] at HSM
  have HSW2 := Lib.hid hsw
  obtain ⟨LB, hLB⟩ : ∃ LB, LB = B.length := ⟨_, rfl⟩
  rw [← hLB] at hBl
  have HLB := Lib.hid hLB
  have W64 := Lib.hid w64
  clear hz hz1 hm9 hmm hsw hB hLB HS2 H4 HSW HAN HLOW hn0 hn
  go_wp2_with fail
  refine (HSM.out).mono ?_
  rintro e w5 ⟨v5, rfl, h5⟩
  have H5 := Lib.hid (h5.perm (l' := RE (.slice va3 A.length vc3) A :: RE v5 B :: BK bk x s :: BK (w.heap.size + 1) 0 0 :: (TL ++ l)) (by
    classical
    rw [List.perm_iff_count]
    intro a
    simp only [List.count_append, List.count_cons]
    omega))
  clear h5 HSM w64
  go_wp2_with (at_builtin; refine app_row (W := w5) rfl _ _ _ _ _ 3 24 rfl Try.underlying26 infoEntry rfl (by omega) (by omega) (.slice va3 LA vc3) v5 LA LB (Tr.ents A) (Tr.ents B) rfl rfl (ents_one B) (by rw [HLA.out, HLB.out]; exact H5.out) (by omega) ?_)
  intro v6 w6 h6
  rw [← ents_append, HSW2.out] at h6
  obtain ⟨va6, vc6, rfl⟩ := own_slice h6.row
  obtain ⟨T, hT⟩ : ∃ T, T = LA + LB := ⟨_, rfl⟩
  rw [← hT] at h6 ⊢
  have hTM : T = M.length := by rw [hT, ← HSW2.out, List.length_append, HLA.out, HLB.out]
  have hT2 : T ≤ 120000 := by omega
  have H6 := Lib.hid (h6.swap.drop)
  have HTM := Lib.hid hTM
  clear h6 hT hTM H5 HSW2 HLB HLA W64
  by_cases hT0 : T = 0
  · subst hT0
    obtain rfl : M = [] := List.length_eq_zero_iff.1 HTM.out.symm
    obtain rfl : x = kx := HKX.out.symm
    obtain rfl : s = ks := HKS.out.symm
    have h7 := H6.out
    rw [← HBK.out] at h7
    obtain ⟨k0, k1⟩ : w6.cell? ⟨bk, 0, none⟩ = some (.int .u64 x) ∧ w6.cell? ⟨bk, 1, none⟩ = some (.int .u64 s) := by
      have := Go.Proofs.Ytekdahppacghbab.Own.blk h7 (b := bk) (cs := #[.int .u64 x, .int .u64 s]) (t := 24) (by simp)
      simp [World.cell?, this]
    obtain ⟨r0, r1, f0, f1⟩ : w6.cell? ⟨bk + 1, 0, none⟩ = some (.int .u64 0) ∧ w6.cell? ⟨bk + 1, 1, none⟩ = some (.int .u64 0) ∧ w6.frozen? ⟨bk + 1, 0, none⟩ = false ∧ w6.frozen? ⟨bk + 1, 1, none⟩ = false := by
      have := Go.Proofs.Ytekdahppacghbab.Own.blk h7 (b := bk + 1) (cs := #[.int .u64 0, .int .u64 0]) (t := 24) (by simp)
      simp [World.cell?, World.frozen?, this]
    obtain ⟨w8, e8⟩ : ∃ w8, (w6.setCell ⟨bk + 1, 0, none⟩ (.int .u64 x)).setCell ⟨bk + 1, 1, none⟩ (.int .u64 s) = w8 := ⟨_, rfl⟩
    have h9 : Own (BK (bk + 1) x s :: (TL ++ l)) w8 := by
      have := Go.Proofs.Ytekdahppacghbab.Own.blkSet (o := 1) (Go.Proofs.Ytekdahppacghbab.Own.blkSet (o := 0) h7.drop.drop (.int .u64 x)) (.int .u64 s)
      rw [e8] at this
      exact this
    have H9 := Lib.hid h9
    have E8 := Lib.hid e8
    clear h7 H6 h9 e8
    go_wp2_with fail
    go_region_held3 (fun w' => w'.cell? ⟨bk, 0, none⟩ = some (.int .u64 x) ∧ w'.cell? ⟨bk, 1, none⟩ = some (.int .u64 s))
      (first | go_keep | skip)
      (fail)
    rename_i hh
    rw [E8.out]
    have hb8 := Go.Proofs.Ytekdahppacghbab.Own.blk H9.out (.head _)
    have r0' : w8.cell? ⟨bk + 1, 0, none⟩ = some (.int .u64 x) := by simp [World.cell?, hb8]
    have r1' : w8.cell? ⟨bk + 1, 1, none⟩ = some (.int .u64 s) := by simp [World.cell?, hb8]
    clear hh k0 k1 r0 r1 f0 f1 hb8 E8
    go_wp2_with fail
    exact bodyPost_ret (v := .tuple #[.slice none 0 0, Tr.key x s]) (by simp [results, Try.results10, go_sem, r0', r1']) rfl ⟨_, rfl, (H9.out.drop.step ((Ext.refl w8).drewN 1)).nilRow 49 3⟩
  · obtain ⟨j, rfl⟩ : ∃ j, T = j + 1 := ⟨T - 1, by omega⟩
    obtain ⟨e, he⟩ : ∃ e, M[j]? = some e := ⟨_, List.getElem?_eq_getElem (by rw [← HTM.out]; omega)⟩
    have hlast : M.getLast? = some e := by rw [List.getLast?_eq_getElem?, ← HTM.out]; exact he
    have h7 := H6.out
    rw [← HBK.out] at h7
    have hx1 : kx = e.1.1 := by rw [HKX.out, hlast]; rfl
    have hs1 : ks = e.1.2 := by rw [HKS.out, hlast]; rfl
    obtain ⟨g, rfl, d0, d1, d2⟩ : ∃ g, va6 = some ⟨g, 0, none⟩ ∧ w6.cell? ⟨g, j * 3, none⟩ = some (.int .u64 e.1.1) ∧ w6.cell? ⟨g, j * 3 + 1, none⟩ = some (.int .u64 e.1.2) ∧ w6.cell? ⟨g, j * 3 + 2, none⟩ = some (.int .i64 e.2) := by
      have h8 := h7
      obtain ⟨g, cap, ev, -, -⟩ := own_cap h8.row (by omega)
      injection ev with e1 _ e3
      subst e1 e3
      exact ⟨g, rfl, rowEnt (ownsR_of h8.row) he⟩
    rw [← hx1] at d0
    rw [← hs1] at d1
    obtain ⟨r0, r1, f0, f1⟩ : w6.cell? ⟨bk + 1, 0, none⟩ = some (.int .u64 0) ∧ w6.cell? ⟨bk + 1, 1, none⟩ = some (.int .u64 0) ∧ w6.frozen? ⟨bk + 1, 0, none⟩ = false ∧ w6.frozen? ⟨bk + 1, 1, none⟩ = false := by
      have := Go.Proofs.Ytekdahppacghbab.Own.blk h7 (b := bk + 1) (cs := #[.int .u64 0, .int .u64 0]) (t := 24) (by simp)
      simp [World.cell?, World.frozen?, this]
    have hne : g ≠ bk + 1 := by
      intro e9
      have h10 := h7.third
      obtain ⟨U, s1, V, hP, hl1, hd, hU⟩ := h10
      obtain ⟨s2, V2, hP2, hl2, hd2, hU2⟩ := hl1
      exact hd g ((hP.2 g).2 e9) ((hU2 g).2 (.inl ((hP2.2 g).2 rfl)))
    have hne' : bk + 1 ≠ g := fun e => hne e.symm
    obtain ⟨w8, e8⟩ : ∃ w8, (w6.setCell ⟨bk + 1, 0, none⟩ (.int .u64 kx)).setCell ⟨bk + 1, 1, none⟩ (.int .u64 ks) = w8 := ⟨_, rfl⟩
    have h9 : Own (BK (bk + 1) kx ks :: Row 49 3 (.slice (some ⟨g, 0, none⟩) (j + 1) vc6) (j + 1) (Tr.ents M) :: BK bk x s :: (TL ++ l)) w8 := by
      have := Go.Proofs.Ytekdahppacghbab.Own.blkSet (o := 1) (Go.Proofs.Ytekdahppacghbab.Own.blkSet (o := 0) h7.third (.int .u64 kx)) (.int .u64 ks)
      rw [e8] at this
      exact this
    have H9 := Lib.hid h9
    have E8 := Lib.hid e8
    have jI : (j : Int) < (j : Int) + 1 := by omega
    have j0 : (0 : Int) ≤ (j : Int) := by omega
    have wj : IntKind.i64.wrap ((j : Int) + 1 - 1) = (j : Int) := by simp [IntKind.wrap, IntKind.bits, IntKind.signed]; omega
    have wj2 : IntKind.i64.wrap (j : Int) = (j : Int) := by simp [IntKind.wrap, IntKind.bits, IntKind.signed]; omega
    have jt : ((j : Int) + 1 == 0) = false := by simp; omega
    clear h7 H6 h9 e8 he hlast hx1 hs1 hT0
    go_wp2_with fail
    go_region_held3 (fun w' => w'.cell? ⟨g, j * 3, none⟩ = some (.int .u64 kx) ∧ w'.cell? ⟨g, j * 3 + 1, none⟩ = some (.int .u64 ks))
      (first | go_keep | skip)
      (fail)
    rename_i hh
    rw [E8.out]
    have hb8 := Go.Proofs.Ytekdahppacghbab.Own.blk H9.out (.head _)
    have r0' : w8.cell? ⟨bk + 1, 0, none⟩ = some (.int .u64 kx) := by simp [World.cell?, hb8]
    have r1' : w8.cell? ⟨bk + 1, 1, none⟩ = some (.int .u64 ks) := by simp [World.cell?, hb8]
    clear hh d0 d1 d2 r0 r1 f0 f1 hb8 E8
    go_wp2_with fail
    exact bodyPost_ret (v := .tuple #[.slice (some ⟨g, 0, none⟩) (j + 1) vc6, Tr.key kx ks]) (by simp [results, Try.results10, go_sem, r0', r1']) rfl ⟨_, rfl, by
      have := (H9.out.drop.swap.drop).step ((Ext.refl w8).drewN 1)
      unfold RE
      rw [← HTM.out]
      exact this⟩
end
end Go.Proofs.Ytekdahppacghbab.Wk
