/- DERIVED. Layer 6 (tree): contracts of the calls, over entries. -/
import Derived.Test.YtekdahppacghbabTrM
import Derived.Test.YtekdahppacghbabTrL
set_option linter.unusedVariables false
set_option linter.unusedSimpArgs false
set_option maxRecDepth 100000
namespace Go.Proofs.Ytekdahppacghbab.Tr
open Go.RowKit Go.Proofs.Ytekdahppacghbab Go.Proofs.Ytekdahppacghbab.TreeP

/-- a tree with these entries, for which there is so much room -/
def Tree (p room : Nat) (E : List En) : HP where
  holds w s := ∃ g cap fr free many S t, TL p g cap fr free many room S w ∧ Inv S free many room t ∧ t.ids.map (entry S) = E ∧ ∀ b, s b ↔ foot p g fr b
  loc := fun {w w' s} h h1 h2 h3 h4 h5 => by
    obtain ⟨g, cap, fr, free, many, S, t, hl, hi, he, hs⟩ := h
    exact ⟨g, cap, fr, free, many, S, t, ⟨⟨(h4 p ((hs p).2 (.inl rfl))).trans hl.tw.obj, ownsRow_keep hl.tw.row (fun b hb => h4 b ((hs b).2 (.inr (.inl (by injection hb with hb; exact hb.symm))))), hl.tw.ne⟩,
      ownsRow_keep hl.fe (fun b hb => h4 b ((hs b).2 (.inr (.inr hb)))), hl.fp, hl.fg⟩, hi, he, hs⟩
  bnd := fun {w s b} h hb => by
    obtain ⟨g, cap, fr, free, many, S, t, hl, hi, he, hs⟩ := h
    exact hl.foot_lt b ((hs b).1 hb)
theorem tree_open {p room : Nat} {E : List En} {l : List HP} {w : World} (h : Own (Tree p room E :: l) w) :
    ∃ g cap fr free many S t, TL p g cap fr free many room S w ∧ Inv S free many room t ∧ t.ids.map (entry S) = E ∧
      (∀ {free1 many1 S1 t1 w1}, Turned p g fr free1 many1 room S1 w w1 → Inv S1 free1 many1 room t1 → Own (Tree p room (t1.ids.map (entry S1)) :: l) w1) ∧
      (∀ {w1}, Ext w w1 → Own (Tree p room E :: l) w1) := by
  obtain ⟨s, ⟨g, cap, fr, free, many, S, t, hl, hi, he, hs⟩, hb, K⟩ := h.open
  refine ⟨g, cap, fr, free, many, S, t, hl, hi, he, fun {free1 many1 S1 t1 w1} ht hi1 => ?_, fun {w1} k => h.step k⟩
  obtain ⟨g1, cap1, fr1, h1, h2, h3⟩ := ht
  exact K (h2.mono fun b hb => (hs b).2 hb) (P' := Tree p room _) (s' := foot p g1 fr1) ⟨g1, cap1, fr1, free1, many1, S1, t1, h1, hi1, rfl, fun _ => Iff.rfl⟩ (fun b hb => (h3 b hb).imp (fun e => (hs b).2 e) id)
theorem zOf_facts {S : TS} {free : List Nat} {many room : Nat} {t : T} (h : Inv S free many room t) (a s v : Int) (l : Nat) :
    zOf S free ≠ 0 ∧ zOf S free ∉ t.ids ∧ zOf S free < (grow S free).n.length ∧ zOf S free < (laid S free a s v l).n.length ∧ S.n.length ≤ (laid S free a s v l).n.length ∧ (laid S free a s v l).root = S.root ∧
      (∀ j, j ≠ zOf S free → (laid S free a s v l).nd j = S.nd j) ∧ (laid S free a s v l).nd (zOf S free) = ⟨a, s, v, 0, 0, l, true⟩ ∧ (laid S free a s v l).n.length = (if free = [] then S.n.length + 1 else S.n.length) ∧ zOf S free ∉ free.dropLast := by
  have hg : zOf S free < (grow S free).n.length ∧ S.n.length ≤ (grow S free).n.length ∧ (grow S free).root = S.root ∧ (∀ j, j ≠ zOf S free → (grow S free).nd j = S.nd j) ∧ zOf S free ≠ 0 ∧ zOf S free ∉ t.ids ∧ (grow S free).n.length = (if free = [] then S.n.length + 1 else S.n.length) ∧ zOf S free ∉ free.dropLast := by
    rcases List.eq_nil_or_concat free with rfl | ⟨F, z, rfl⟩
    · have hz : zOf S [] = S.n.length := by simp [zOf]
      have hgr : grow S [] = ⟨S.n ++ [Nd.zero], S.root⟩ := by simp [grow]
      rw [hz, hgr]
      refine ⟨by simp, by simp, rfl, fun j hj => ?_, by have := h.rng.pos; omega, fun hm => ?_, by simp, by simp⟩
      · unfold TS.nd
        by_cases hlt : j < S.n.length
        · simp [List.getD, List.getElem?_append_left hlt]
        · simp [List.getD, List.getElem?_append_right (show S.n.length ≤ j by omega), List.getElem?_eq_none (show S.n.length ≤ j by omega), List.getElem?_eq_none (show [Nd.zero].length ≤ j - S.n.length by simp; omega)]
      · have := (ids_lt h.is _ hm).2
        omega
    · rw [List.concat_eq_append] at h ⊢
      have hne : F ++ [z] ≠ [] := by simp
      have hz : zOf S (F ++ [z]) = z := by unfold zOf; rw [if_neg hne, List.getLastD_concat]
      have hgr : grow S (F ++ [z]) = S := by unfold grow; rw [if_neg hne]
      have hf := h.fr z (by simp)
      have hn := h.fnd
      rw [List.nodup_append] at hn
      rw [hz, hgr]
      exact ⟨hf.2.1, Nat.le_refl _, rfl, fun _ _ => rfl, hf.1, hf.2.2, by rw [if_neg hne], by rw [List.dropLast_concat]; exact fun hm => hn.2.2 z hm z (by simp) rfl⟩
  obtain ⟨g1, g2, g3, g4, g5, g6, g7, g8⟩ := hg
  unfold laid
  refine ⟨g5, g6, g1, by simpa using g1, by simpa using g2, g3, fun j hj => ?_, ?_, by simpa using g7, g8⟩
  · rw [nd_upd _ _ _ _ g1, if_neg (Ne.symm hj)]; exact g4 j hj
  · rw [nd_upd _ _ _ _ g1, if_pos rfl]
def putE (room : Nat) (E : List En) (q : Key) : Int := if (look E q).isSome then 60 else if E.length = room then 4 else 0
def putT (room : Nat) (E : List En) (q : Key) (v : Int) : List En := if (look E q).isSome then E else if E.length = room then E else ins E q v
theorem own_put {p room : Nat} {E : List En} {l : List HP} {w : World} (h : Own (Tree p room E :: l) w) (a s v : Int) :
    Calls Try.prog 21 #[.pointer (some ⟨p, 0, none⟩), key a s, .int .i64 v] w fun e w' => e = .returned (.int .i64 (putE room E (a, s))) ∧ Own (Tree p room (putT room E (a, s) v) :: l) w' := by
  obtain ⟨g, cap, fr, free, many, S, t, hl, hi, he, K, K2⟩ := tree_open h
  obtain ⟨k, r, hf, hfo⟩ := hi.found (a, s)
  have hlen : E.length = many := by rw [← he, List.length_map, hi.cnt]
  rcases found_cases hfo with ⟨i, rfl, hi0, him, hk⟩ | ⟨q, rfl, hno⟩
  · have hlk := look_found hi him hk
    rw [he] at hlk
    have e1 : putE room E (a, s) = 60 := by unfold putE; rw [hlk]; rfl
    have e2 : putT room E (a, s) v = E := by unfold putT; rw [hlk]; rfl
    rw [e1, e2]
    exact (put_have hl hi.rng a s v i i hi0 ⟨k, hf⟩).mono fun e w' ⟨h1, h2, h3⟩ => ⟨h1, K2 h3⟩
  · have hlk := look_not hno
    rw [he] at hlk
    by_cases hm : many = room
    · have e1 : putE room E (a, s) = 4 := by unfold putE; rw [hlk, hlen, if_pos hm]; rfl
      have e2 : putT room E (a, s) v = E := by unfold putT; rw [hlk, hlen, if_pos hm]; rfl
      rw [e1, e2]
      exact (put_full hl hi.rng a s v q hm ⟨k, hf⟩).mono fun e w' ⟨h1, h2, h3⟩ => ⟨h1, K2 h3⟩
    · have e1 : putE room E (a, s) = 0 := by unfold putE; rw [hlk, hlen, if_neg hm]; rfl
      have e2 : putT room E (a, s) v = ins E (a, s) v := by unfold putT; rw [hlk, hlen, if_neg hm]; rfl
      rw [e1, e2]
      obtain ⟨z0, zt, zg, zl, hle, hroot, hold, hz, hll, hzd⟩ := zOf_facts hi a s v q
      obtain ⟨n, hrb⟩ := hi.rb
      have hql : q < S.n.length := by
        have hfo' := hfo
        generalize hr : (0, q) = r at hfo'
        cases hfo' with
        | there h1 _ _ =>
          injection hr with e1 _
          exact absurd e1.symm (Here.root (d := false) h1).2.1
        | not h1 _ _ _ =>
          injection hr with _ e2
          rw [e2]
          exact on_lt h1.on h1.len
      obtain ⟨k2, S', t', L, R, hs, his, hw, ht', hL, hR, hrb', hlen', hload, hzero⟩ := put_spec hfo hrb hi.zero z0 zt zl hle hroot hold hz
      have hmr := hi.mr
      have hr2 := hi.r2
      have hlr := hi.lr
      have hleni := hi.len
      have hcnt := hi.cnt
      refine (put_ok hl hi.rng a s v q (by omega) hi.r2 hi.lr hql (by omega) zg ⟨k, hf⟩ S' ⟨k2, hs⟩).mono fun e w' ⟨h1, h2⟩ => ⟨h1, ?_⟩
      have hrl : Rng (laid S free a s v q) := (rng_grow hi.rng free).upd zg (fun d => by cases d <;> exact (rng_grow hi.rng free).pos) (by have := hle; unfold laid at this; simp only [len_upd] at this; show q < _; omega)
      have hrng : Rng S' := settle_rng k2 _ _ _ (hrl.link zl (by omega)).1 (by rw [(hrl.link zl (by omega)).2]; exact zl) hs
      have hent : ∀ j, j ≠ zOf S free → entry S' j = entry S j := fun j hj => entry_load (by rw [hload j, hold j hj])
      have hentz : entry S' (zOf S free) = ((a, s), v) := by
        have := hload (zOf S free)
        rw [hz] at this
        unfold Nd.load at this
        simp only [Prod.mk.injEq] at this
        unfold entry TS.key
        rw [this.1, this.2.1, this.2.2]
      have hLz : ∀ j ∈ L, j ≠ zOf S free := fun j hj e => zt (by rw [hw]; exact List.mem_append_left _ (e ▸ hj))
      have hRz : ∀ j ∈ R, j ≠ zOf S free := fun j hj e => zt (by rw [hw]; exact List.mem_append_right _ (e ▸ hj))
      have hE : t'.ids.map (entry S') = ins E (a, s) v := by
        rw [← he, hw, ht', List.map_append, List.map_append, List.map_cons, hentz]
        rw [List.map_congr_left (fun j hj => hent j (hLz j hj)), List.map_congr_left (f := entry S') (g := entry S) (l := R) (fun j hj => hent j (hRz j hj))]
        rw [ins_parts]
        · intro e he
          obtain ⟨j, hj, rfl⟩ := List.mem_map.1 he
          exact hL j hj
        · intro e he
          obtain ⟨j, hj, rfl⟩ := List.mem_map.1 he
          exact hR j hj
      have hnd := hi.nd
      rw [hw] at hnd
      have hlw : t.ids.length = L.length + R.length := by rw [hw, List.length_append]
      rw [← hE]
      refine K h2 ⟨his, ?_, hrb', hzero, hrng, ?_, ?_, ?_, ?_, by omega, hi.r1, hi.r2, ?_, ?_⟩
      · rw [ht']
        rw [List.nodup_append] at hnd ⊢
        refine ⟨hnd.1, ?_, ?_⟩
        · rw [List.nodup_cons]
          exact ⟨fun hm => hRz _ hm rfl, hnd.2.1⟩
        · intro x hx y hy e
          rcases List.mem_cons.1 hy with rfl | hy
          · exact hLz x hx e
          · exact hnd.2.2 x hx y hy e
      · exact hi.fnd.sublist (List.dropLast_sublist _)
      · intro i hm
        have hf := hi.fr i (List.dropLast_subset _ hm)
        refine ⟨hf.1, by rw [hlen']; omega, ?_⟩
        rw [ht']
        intro hc
        rcases List.mem_append.1 hc with hc | hc
        · exact hf.2.2 (by rw [hw]; exact List.mem_append_left _ hc)
        · rcases List.mem_cons.1 hc with rfl | hc
          · exact hzd hm
          · exact hf.2.2 (by rw [hw]; exact List.mem_append_right _ hc)
      · rw [hlen', hll, ht', List.length_append, List.length_cons, List.length_dropLast]
        split
        · next e => subst e; simp only [List.length_nil] at hleni ⊢; omega
        · next e =>
          have : 0 < free.length := List.length_pos_iff.2 e
          omega
      · rw [ht', List.length_append, List.length_cons]; omega
      · rw [hlen', hll]
        split
        · next e => subst e; simp only [List.length_nil] at hleni; omega
        · omega
      · have hr := hi.rise
        unfold Rising at hr ⊢
        rw [hw] at hr
        rw [ht']
        rw [List.pairwise_append] at hr ⊢
        have hkey : ∀ j, j ≠ zOf S free → S'.key j = S.key j := fun j hj => congrArg Prod.fst (hent j hj)
        have hkz : S'.key (zOf S free) = (a, s) := congrArg Prod.fst hentz
        refine ⟨?_, ?_, ?_⟩
        · refine hr.1.imp_of_mem ?_
          intro x y hx hy hlt
          rw [hkey x (hLz x hx), hkey y (hLz y hy)]; exact hlt
        · rw [List.pairwise_cons]
          refine ⟨fun j hj => ?_, hr.2.1.imp_of_mem ?_⟩
          · rw [hkz, hkey j (hRz j hj)]; exact hR j hj
          · intro x y hx hy hlt
            rw [hkey x (hRz x hx), hkey y (hRz y hy)]; exact hlt
        · intro x hx y hy
          rw [hkey x (hLz x hx)]
          rcases List.mem_cons.1 hy with rfl | hy
          · rw [hkz]; exact hL x hx
          · rw [hkey y (hRz y hy)]; exact hr.2.2 x hx y hy
end Go.Proofs.Ytekdahppacghbab.Tr
