/- DERIVED. Layer 6 (tree): contracts of the calls, over entries: New, Drop, Get, First, Next, Len, Room. -/
import Derived.Test.YtekdahppacghbabTrN
set_option linter.unusedVariables false
set_option linter.unusedSimpArgs false
set_option maxRecDepth 100000
namespace Go.Proofs.Ytekdahppacghbab.Tr
open Go.RowKit Go.Proofs.Ytekdahppacghbab Go.Proofs.Ytekdahppacghbab.TreeP

theorem len_any {p g cap many room : Nat} {fr : Value} {S : TS} {w : World} (h : TW p g cap fr many room S w) : Calls Try.prog 33 #[.pointer (some ⟨p, 0, none⟩)] w fun e w' => e = .returned (.int .i64 many) ∧ w = w' := by
  have c3 := h.c3
  have H := Lib.hid h
  clear h
  go_enter Try.func33, Try.ntmps33
  go_wp2_with (go_at_call 36; refine (no_any H.out).mono ?_; rintro e w' ⟨rfl, rfl⟩)
  go_ret
  exact ⟨rfl, rfl⟩
theorem del_none {E : List En} {q : Key} (h : look E q = none) : del E q = E := by
  unfold look at h
  rw [Option.map_eq_none_iff, List.find?_eq_none] at h
  unfold del
  rw [List.filter_eq_self.2 (fun e he => by simpa using h e he)]
theorem own_drop {p room : Nat} {E : List En} {l : List HP} {w : World} (h : Own (Tree p room E :: l) w) (a s : Int) :
    Calls Try.prog 22 #[.pointer (some ⟨p, 0, none⟩), key a s] w fun e w' => e = .returned (.tuple #[.int .i64 ((look E (a, s)).getD 0), .bool (look E (a, s)).isSome]) ∧ Own (Tree p room (del E (a, s)) :: l) w' := by
  obtain ⟨g, cap, fr, free, many, S, t, hl, hi, he, K, K2⟩ := tree_open h
  obtain ⟨k, r, hf, hfo⟩ := hi.found (a, s)
  have hfo' := hfo
  cases hfo' with
  | @not C p' h1 h2 h3 h4 =>
    have hno : ∀ j ∈ t.ids, S.key j ≠ (a, s) := by
      rcases found_cases hfo with ⟨i, e, hi0, _, _⟩ | ⟨q, e, hno⟩
      · injection e with e1 e2
        exact absurd e1.symm hi0
      · exact hno
    have hlk := look_not hno
    rw [he] at hlk
    rw [hlk, del_none hlk]
    exact (drop_not hl hi.rng a s p' ⟨k, hf⟩).mono fun e w' ⟨h1, h2, h3⟩ => ⟨h1, K2 h3⟩
  | @there C lt' rt' i p' c h1 h2 h3 =>
    obtain ⟨n, hrb⟩ := hi.rb
    obtain ⟨k2, S', t', hs, his, hids, hrb', hlen', hload, hzero⟩ := drop_spec h1 (by rw [h2]; exact hrb) hi.zero
    have hi0 := (Here.root (d := false) h1).2.1
    have htids : t.ids = lids C ++ (lt'.ids ++ (i :: (rt'.ids ++ rids C))) := by rw [← h2, plug_ids]; simp [T.ids]
    have hil : i < S.n.length := (ids_lt hi.is i (by rw [htids]; simp)).2
    have hmr := hi.mr
    have hlr := hi.lr
    have hleni := hi.len
    have hcnt := hi.cnt
    have hct : t.ids.length = t'.ids.length + 1 := by rw [htids, hids]; simp only [List.length_append, List.length_cons]; omega
    have hent : ∀ j, entry S' j = entry S j := fun j => entry_load (hload j)
    have hkey : ∀ j, S'.key j = S.key j := fun j => congrArg Prod.fst (hent j)
    obtain ⟨A, hA⟩ : ∃ A, A = (lids C ++ lt'.ids).map (entry S) := ⟨_, rfl⟩
    obtain ⟨B, hB⟩ : ∃ B, B = (rt'.ids ++ rids C).map (entry S) := ⟨_, rfl⟩
    have hE : E = A ++ ((a, s), (S.nd i).v) :: B := by
      rw [← he, htids, hA, hB]
      have : entry S i = ((a, s), (S.nd i).v) := by unfold entry; rw [h3]
      rw [← this]
      simp
    have hE' : t'.ids.map (entry S') = A ++ B := by
      rw [hids, hA, hB, List.map_congr_left (g := entry S) (fun j _ => hent j)]
      simp
    have hrE := hi.riseE
    rw [he, hE] at hrE
    obtain ⟨hd, hlk⟩ := del_parts hrE
    rw [hE, hd, hlk, ← hE']
    have hnd := hi.nd
    refine (drop_ok hl hi.rng a s i hi0 hil hi.r2 (by omega) hmr (by omega) ⟨k, hf⟩ S' ⟨k2, hs⟩).mono fun e w' ⟨h4, h5⟩ => ⟨h4, K h5 ⟨his, ?_, hrb', hzero, drop_rng hi.rng hil hs, ?_, ?_, ?_, by omega, by omega, hi.r1, hi.r2, by omega, ?_⟩⟩
    · have hsub : List.Sublist t'.ids t.ids := by
        rw [htids, hids]
        exact (List.Sublist.refl _).append ((List.Sublist.refl _).append (List.sublist_cons_self _ _))
      exact hnd.sublist hsub
    · rw [List.nodup_append]
      refine ⟨hi.fnd, by simp, fun x hx y hy e => ?_⟩
      rw [List.mem_singleton] at hy
      subst hy e
      exact (hi.fr x hx).2.2 (by rw [htids]; simp)
    · intro j hj
      have hin : i ∉ t'.ids := by
        rw [htids] at hnd
        rw [hids]
        have := hnd
        simp only [List.nodup_append, List.nodup_cons, List.mem_append, List.mem_cons] at this
        intro hc
        simp only [List.mem_append] at hc
        obtain ⟨q1, ⟨q2, ⟨q3, q4⟩, q5⟩, q6⟩ := this
        rcases hc with hc | hc | hc
        · exact q6 i hc i (.inr (.inl rfl)) rfl
        · exact q5 i hc i (.inl rfl) rfl
        · exact q3 hc
      rcases List.mem_append.1 hj with hj | hj
      · have hf := hi.fr j hj
        refine ⟨hf.1, by rw [hlen']; exact hf.2.1, fun hc => hf.2.2 ?_⟩
        rw [hids] at hc
        rw [htids]
        simp only [List.mem_append, List.mem_cons] at hc ⊢
        rcases hc with hc | hc | hc
        · exact .inl hc
        · exact .inr (.inl hc)
        · exact .inr (.inr (.inr hc))
      · rw [List.mem_singleton] at hj
        subst hj
        exact ⟨hi0, by rw [hlen']; exact hil, hin⟩
    · rw [hlen', List.length_append, List.length_singleton]; omega
    · have hr := hi.rise
      unfold Rising at hr ⊢
      have hsub : List.Sublist t'.ids t.ids := by
        rw [htids, hids]
        exact (List.Sublist.refl _).append ((List.Sublist.refl _).append (List.sublist_cons_self _ _))
      refine (hr.sublist hsub).imp ?_
      intro x y hxy
      rw [hkey, hkey]; exact hxy
theorem own_get {p room : Nat} {E : List En} {l : List HP} {w : World} (h : Own (Tree p room E :: l) w) (a s : Int) :
    Calls Try.prog 48 #[.pointer (some ⟨p, 0, none⟩), key a s] w fun e w' => e = .returned (.tuple #[.int .i64 ((look E (a, s)).getD 0), .bool (look E (a, s)).isSome]) ∧ Own (Tree p room E :: l) w' := by
  obtain ⟨g, cap, fr, free, many, S, t, hl, hi, he, K, K2⟩ := tree_open h
  obtain ⟨k, r, hf, hfo⟩ := hi.found (a, s)
  rcases found_cases hfo with ⟨i, rfl, hi0, him, hk⟩ | ⟨q, rfl, hno⟩
  · have hlk := look_found hi him hk
    rw [he] at hlk
    rw [hlk]
    refine (get_any hl.tw hi.rng a s i i ⟨k, hf⟩ (ids_lt hi.is i him).2).mono fun e w' ⟨h1, h2⟩ => ⟨?_, K2 h2⟩
    rw [h1, if_neg hi0]
    simp [hi0]
  · have hlk := look_not hno
    rw [he] at hlk
    rw [hlk]
    refine (get_any hl.tw hi.rng a s 0 q ⟨k, hf⟩ hi.rng.pos).mono fun e w' ⟨h1, h2⟩ => ⟨?_, K2 h2⟩
    rw [h1]
    simp
theorem own_len {p room : Nat} {E : List En} {l : List HP} {w : World} (h : Own (Tree p room E :: l) w) :
    Calls Try.prog 33 #[.pointer (some ⟨p, 0, none⟩)] w fun e w' => e = .returned (.int .i64 (E.length : Nat)) ∧ w = w' := by
  obtain ⟨g, cap, fr, free, many, S, t, hl, hi, he, K, K2⟩ := tree_open h
  rw [show E.length = many by rw [← he, List.length_map, hi.cnt]]
  exact len_any hl.tw
/-- an entry that may be none -/
def entO : Option En → Value
  | none => ent 0 0 0
  | some e => ent e.1.1 e.1.2 e.2
def nextE (E : List En) (q : Key) : Option En := E.find? (fun e => lt q e.1)
theorem own_next {p room : Nat} {E : List En} {l : List HP} {w : World} (h : Own (Tree p room E :: l) w) (a s : Int) :
    Calls Try.prog 46 #[.pointer (some ⟨p, 0, none⟩), key a s] w fun e w' => e = .returned (.tuple #[entO (nextE E (a, s)), .bool (nextE E (a, s)).isSome]) ∧ Own (Tree p room E :: l) w' := by
  obtain ⟨g, cap, fr, free, many, S, t, hl, hi, he, K, K2⟩ := tree_open h
  obtain ⟨k, hk⟩ := next_spec (q := (a, s)) t 0 hi.is hi.rise
  have hab : above S (a, s) t.ids 0 = ((t.ids.find? fun i => lt (a, s) (S.key i)).getD 0) := rfl
  have hn : nextE E (a, s) = (t.ids.find? fun i => lt (a, s) (S.key i)).map (entry S) := by
    unfold nextE
    rw [← he, List.find?_map]
    rfl
  cases hc : t.ids.find? (fun i => lt (a, s) (S.key i)) with
  | none =>
    rw [hab, hc] at hk
    rw [hn, hc]
    refine (next_any hl.tw hi.rng hi.zero a s 0 hi.rng.pos ⟨k, hk⟩).mono fun e w' ⟨h1, h2⟩ => ⟨?_, K2 h2⟩
    rw [h1, hi.zero]
    simp [entO, Nd.zero]
  | some y =>
    rw [hab, hc] at hk
    rw [hn, hc]
    have hy := ids_lt hi.is y (List.mem_of_find?_eq_some hc)
    refine (next_any hl.tw hi.rng hi.zero a s y hy.2 ⟨k, hk⟩).mono fun e w' ⟨h1, h2⟩ => ⟨?_, K2 h2⟩
    rw [h1]
    simp [entO, entry, TS.key, hy.1]
theorem new_not (r : Int) (h : r < 1 ∨ 65536 < r) (w : World) :
    Calls Try.prog 24 #[.int .i64 r] w fun e w' => e = .returned (.tuple #[.pointer none, .int .i64 2]) ∧ w = w' := by
  by_cases h0 : r < 1
  · clear h
    go_enter Try.func24, Try.ntmps24
    go_wp2
    go_ret2
    exact ⟨rfl, rfl⟩
  · have h' : 65536 < r := by omega
    clear h
    go_enter Try.func24, Try.ntmps24
    go_wp2
    go_ret2
    exact ⟨rfl, rfl⟩
theorem own_new {l : List HP} {w : World} (r : Nat) (h1 : 1 ≤ r) (h2 : r ≤ 65536) (h : Own l w) :
    Calls Try.prog 24 #[.int .i64 r] w fun e w' => ∃ p, e = .returned (.tuple #[.pointer (some ⟨p, 0, none⟩), .int .i64 0]) ∧ Own (Tree p r [] :: l) w' := by
  obtain ⟨i0, hi, hzz⟩ := Option.map_eq_some_iff.1 infoNode
  simp only [Prod.mk.injEq] at hzz
  obtain ⟨hz0, hz1, hz2⟩ := hzz
  have H := Lib.hid h
  have HI := Lib.hid hi
  have HZ0 := Lib.hid hz0
  have HZ1 := Lib.hid hz1
  have HZ2 := Lib.hid hz2
  clear h hi hz0 hz1 hz2
  go_enter Try.func24, Try.ntmps24
  have hflat : (madeCells #[.int .u64 0, .int .u64 0, .int .i64 0, .int .i64 0, .int .i64 0, .int .i64 0, .bool false] 7).toList = flat [Nd.zero] := by unfold madeCells; rw [Array.toList_map, Array.toList_range]; rfl
  have HFL := Lib.hid hflat
  clear hflat
  go_wp2_with (refine wpList_make_full w rfl _ _ 31 rfl 0 82 i0 _ 7 Try.underlying31 HI.out HZ0.out HZ1.out .i64 .i64 1 1 1 rfl rfl rfl rfl (by rw [HZ2.out]; decide) (by simp [maxLen]) (Nat.zero_le _) ?_)
  intro w1 hrow hgrow
  rw [HFL.out] at hrow
  have hx : Ext w w1 := ⟨hgrow.os, hgrow.tape, hgrow.output, hgrow.size, fun b hb => hgrow.block b hb (fun e => by cases e)⟩
  have HROW := Lib.hid hrow
  have HX := Lib.hid hx
  clear hrow hgrow hx
  go_wp2
  go_ret2
  have hrow := HROW.out
  have hg := hrow.lt w.heap.size rfl
  have hx := HX.out.alloc (.cells #[.slice (some ⟨w.heap.size, 0, none⟩) 1 1, .slice none 0 0, .int .i64 0, .int .i64 0, .int .i64 r] 34)
  refine ⟨_, rfl, H.out.new (P := Tree w1.heap.size r []) (s := foot w1.heap.size w.heap.size (.slice none 0 0)) hx ?_ ?_⟩
  · refine ⟨w.heap.size, 1, .slice none 0 0, [], 0, ⟨[Nd.zero], 0⟩, .nil, ⟨⟨heap_alloc_new w1 _, own_alloc hrow _, by omega⟩, World.ownsRow_nil _ 0 _ 1, by simp [Value.ownBlock], by simp [Value.ownBlock]⟩, ?_, rfl, fun _ => Iff.rfl⟩
    refine ⟨rfl, by simp [T.ids], ⟨_, .nil⟩, rfl, ⟨by simp, by simp, fun i d => ?_, fun i => ?_⟩, by simp, by simp, by simp [T.ids], rfl, by omega, h1, h2, by simp, by simp [Rising, T.ids]⟩
    · have : TS.nd ⟨[Nd.zero], 0⟩ i = Nd.zero := by unfold TS.nd; cases i <;> simp [List.getD]
      rw [this]; cases d <;> simp [Nd.kid, Nd.zero]
    · have : TS.nd ⟨[Nd.zero], 0⟩ i = Nd.zero := by unfold TS.nd; cases i <;> simp [List.getD]
      rw [this]; simp [Nd.zero]
  · intro b hb
    rcases hb with rfl | rfl | hb
    · exact HX.out.size
    · exact Nat.le_refl _
    · simp [Value.ownBlock] at hb
end Go.Proofs.Ytekdahppacghbab.Tr
