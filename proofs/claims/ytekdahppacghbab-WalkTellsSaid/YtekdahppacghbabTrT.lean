/- DERIVED. Layer 6 (tree): contract of All. -/
import Derived.Test.YtekdahppacghbabTrS
set_option linter.unusedVariables false
set_option linter.unusedSimpArgs false
set_option maxRecDepth 100000
namespace Go.Proofs.Ytekdahppacghbab.Tr
open Go.RowKit Go.Proofs.Ytekdahppacghbab Go.Proofs.Ytekdahppacghbab.TreeP

def ec (e : En) : List Value := [.int .u64 e.1.1, .int .u64 e.1.2, .int .i64 e.2]
/-- entries, as a row of them lies in memory -/
def ents : List En → List Value
  | [] => []
  | e :: l => ec e ++ ents l
theorem ents_append : ∀ l m : List En, ents (l ++ m) = ents l ++ ents m
  | [], m => rfl
  | e :: l, m => by rw [List.cons_append, ents, ents, ents_append l m, List.append_assoc]
theorem ents_len : ∀ l : List En, (ents l).length = l.length * 3
  | [] => rfl
  | e :: l => by rw [ents, List.length_append, ents_len l, List.length_cons]; simp [ec]; omega
theorem infoEntry : (Try.prog.info? 49).map (fun i => (i.zero, i.size, i.bytes)) = some (some (.agg #[.int .u64 0, .int .u64 0, .int .i64 0]), 3, 24) := by kernel_rfl
def AI (l0 : List HP) (v : Value) (ids : List Nat) (E : List En) (vo vi : Value) (wr : World) : Prop :=
  ∃ k : Nat, vi = .int .i64 (k : Int) ∧ k ≤ ids.length ∧ Own (Row 49 3 vo k (ents (E.take k)) :: Row 3 1 v ids.length (ints ids) :: l0) wr
set_option maxHeartbeats 2000000 in
theorem own_all {p room : Nat} {E : List En} {l : List HP} {w : World} (h : Own (Tree p room E :: l) w) :
    Calls Try.prog 19 #[.pointer (some ⟨p, 0, none⟩)] w fun e w' => ∃ v, e = .returned v ∧ Own (Row 49 3 v E.length (ents E) :: Tree p room E :: l) w' := by
  obtain ⟨g, cap, fr, free, many, S, t, h1, hi, he⟩ := tree_at h
  obtain ⟨ids, eids⟩ : ∃ ids, ids = t.ids := ⟨_, rfl⟩
  have hil : ids.length ≤ 65536 := by rw [eids, ← hi.cnt]; have := hi.mr; have := hi.r2; omega
  obtain ⟨n, hn⟩ : ∃ n, n = ids.length := ⟨_, rfl⟩
  have hEl : E.length = n := by rw [← he, List.length_map, hn, eids]
  have HNO := Lib.hid (no_any (own_tl h1).tw)
  have HOR := Lib.hid (order_any h1 hi.rng ids hil (by rw [eids]; exact ord_all hi.is))
  have HBACK : Hid (∀ (l' : List HP) (w' : World), Own (TreeAt p g cap fr free many room S :: l') w' → Own (Tree p room E :: l') w') := Lib.hid (fun l' w' h' => tree_back h' hi he)
  have HZ := Lib.hid hi.zero
  have HM : Hid (∀ x ∈ ids, x ≠ 0 ∧ x < S.n.length) := Lib.hid (by rw [eids]; exact ids_lt hi.is)
  have HE : Hid (ids.map (entry S) = E) := Lib.hid (by rw [eids]; exact he)
  have HN := Lib.hid hn
  have HEL := Lib.hid hEl
  have hn6 : n ≤ 65536 := by omega
  clear h h1 hi he hil hn hEl eids
  go_enter Try.func19, Try.ntmps19
  go_wp2_with fail
  refine (HNO.out).mono ?_
  rintro e w' ⟨rfl, rfl⟩
  go_wp2_with fail
  refine (HOR.out).mono ?_
  rintro e w1 ⟨v, rfl, h1⟩
  rw [← HN.out] at h1
  obtain ⟨va, vc, rfl⟩ := own_slice h1.row
  have H1 := Lib.hid h1
  clear h1 HOR HNO
  go_wp2_with fail
  go_loopw [3, 13] (fun vo vi wr => AI (TreeAt p g cap fr free many room S :: l) (.slice va n vc) ids E vo vi wr) (fun _ vi _ => n - (intOf vi).toNat)
  case atStart =>
    refine ⟨0, rfl, Nat.zero_le _, ?_⟩
    rw [List.take_zero, ← HN.out]
    exact H1.out.nilRow 49 3
  case round =>
    clear H1
    obtain ⟨k, rfl, hk, h⟩ := hrel
    rw [← HN.out] at hk h
    by_cases hlt : k < n
    · have hltI : (k : Int) < (n : Int) := by omega
      obtain ⟨gv, cv, ev, -, -⟩ := own_cap h.swap.row (by omega)
      injection ev with e1 _ e3
      subst e1 e3
      have hkl : k < ids.length := by rw [← HN.out]; exact hlt
      obtain ⟨x, hx⟩ : ∃ x, x = ids.getD k 0 := ⟨_, rfl⟩
      have hget : ids[k]? = some x := by rw [hx]; simp [List.getD, hkl]
      have cx : wr.cell? ⟨gv, k, none⟩ = some (.int .i64 (x : Int)) := by
        obtain ⟨g', cap', e', -, hcs⟩ := own_form h.swap.row (by omega)
        injection e' with e1 _ _
        injection e1 with e1
        injection e1 with e1
        subst e1
        have := (hcs k _ (ints_at ids k hkl)).1
        rw [← hx] at this
        exact this
      have hm := HM.out x (List.mem_of_getElem? hget)
      have hc := entry_any (own_tl h.third).tw HZ.out x hm.2
      have hEk : E[k]? = some (entry S x) := by rw [← HE.out, List.getElem?_map, hget]; rfl
      obtain ⟨a, ea⟩ : ∃ a, a = (S.nd x).a := ⟨_, rfl⟩
      obtain ⟨s, es⟩ : ∃ s, s = (S.nd x).s := ⟨_, rfl⟩
      obtain ⟨u, eu⟩ : ∃ u, u = (S.nd x).v := ⟨_, rfl⟩
      have hek : ents (E.take (k + 1)) = ents (E.take k) ++ [.int .u64 a, .int .u64 s, .int .i64 u] := by
        have hkE : k < E.length := by rw [HEL.out]; exact hlt
        rw [List.take_add_one, hEk]
        simp [ents_append, ents, ec, entry, TS.key, ea, es, eu]
      rw [← ea, ← es, ← eu] at hc
      have HC := Lib.hid hc
      have H := Lib.hid h
      have HEK := Lib.hid hek
      have hk6 : k < 65536 := by omega
      clear hc h hek ea es eu hEk hm hget hx hkl
      go_wp2_with fail
      refine (HC.out).mono ?_
      rintro e w2 ⟨rfl, hx2⟩
      have H2 := Lib.hid ((H.out.step hx2).step ((Ext.refl w2).alloc (.cells #[.int .u64 a, .int .u64 s, .int .i64 u] 49)))
      clear hx2 HC
      go_wp2_with (at_builtin; refine app_own (W := w2.alloc (.cells #[.int .u64 a, .int .u64 s, .int .i64 u] 49)) rfl _ _ _ _ _ 3 24 rfl Try.underlying26 infoEntry rfl (by omega) (by omega) u3 k (ents (E.take k)) [.int .u64 a, .int .u64 s, .int .i64 u] rfl _ (by simp) rfl rfl (by simp [Value.oneCell']) (by exact H2.out.row) (by omega) ?_)
      intro v1 w3 hown hgrow hmv
      rw [← HEK.out] at hown
      have h3 := H2.out.rowApp hown hgrow hmv
      have HP := Lib.hid (show AI (TreeAt p g cap fr free many room S :: l) (.slice (some ⟨gv, 0, none⟩) n vc) ids E v1 (.int .i64 ((k : Int) + 1)) w3 from ⟨k + 1, by go_num, by rw [← HN.out]; omega, by rw [← HN.out]; exact h3⟩)
      clear hown hgrow hmv h3 H2 cx
      go_wp2_with fail
      exact ⟨HP.out, by simp [intOf]; omega⟩
    · obtain rfl : k = n := by omega
      have hE : E.take k = E := List.take_of_length_le (by rw [HEL.out]; exact Nat.le_refl _)
      rw [hE] at h
      have HF := Lib.hid (show Own (Row 49 3 u3 E.length (ents E) :: Tree p room E :: l) wr from by
        rw [HEL.out]
        exact (HBACK.out _ _ (h.swap.drop.swap)).swap)
      clear h hE hlt hk
      go_wp2
      go_ret
      exact ⟨_, rfl, HF.out⟩
end Go.Proofs.Ytekdahppacghbab.Tr
