/- DERIVED. Layer 6 (tree): contract of order. -/
import Derived.Test.YtekdahppacghbabTrO
set_option linter.unusedVariables false
set_option linter.unusedSimpArgs false
set_option maxRecDepth 100000
namespace Go.Proofs.Ytekdahppacghbab.Tr
open Go.RowKit Go.Proofs.Ytekdahppacghbab Go.Proofs.Ytekdahppacghbab.TreeP

/-- a tree as it stands, owned -/
def TreeAt (p g cap : Nat) (fr : Value) (free : List Nat) (many room : Nat) (S : TS) : HP where
  holds w s := TL p g cap fr free many room S w ∧ ∀ b, s b ↔ foot p g fr b
  loc := fun {w w' s} ⟨hl, hs⟩ h1 h2 h3 h4 h5 =>
    ⟨⟨⟨(h4 p ((hs p).2 (.inl rfl))).trans hl.tw.obj, ownsRow_keep hl.tw.row (fun b hb => h4 b ((hs b).2 (.inr (.inl (by injection hb with hb; exact hb.symm))))), hl.tw.ne⟩,
      ownsRow_keep hl.fe (fun b hb => h4 b ((hs b).2 (.inr (.inr hb)))), hl.fp, hl.fg⟩, hs⟩
  bnd := fun {w s b} ⟨hl, hs⟩ hb => hl.foot_lt b ((hs b).1 hb)
theorem tree_at {p room : Nat} {E : List En} {l : List HP} {w : World} (h : Own (Tree p room E :: l) w) :
    ∃ g cap fr free many S t, Own (TreeAt p g cap fr free many room S :: l) w ∧ Inv S free many room t ∧ t.ids.map (entry S) = E := by
  obtain ⟨s, ⟨g, cap, fr, free, many, S, t, hl, hi, he, hs⟩, hb, K⟩ := h.open
  exact ⟨g, cap, fr, free, many, S, t, K (Step.refl s w) (P' := TreeAt p g cap fr free many room S) (s' := s) ⟨hl, hs⟩ (fun b hb => .inl hb), hi, he⟩
theorem tree_back {p g cap many room : Nat} {fr : Value} {free : List Nat} {S : TS} {t : T} {E : List En} {l : List HP} {w : World} (h : Own (TreeAt p g cap fr free many room S :: l) w) (hi : Inv S free many room t) (he : t.ids.map (entry S) = E) : Own (Tree p room E :: l) w := by
  obtain ⟨s, ⟨hl, hs⟩, hb, K⟩ := h.open
  exact K (Step.refl s w) (P' := Tree p room E) (s' := s) ⟨g, cap, fr, free, many, S, t, hl, hi, he, hs⟩ (fun b hb => .inl hb)
theorem own_tl {p g cap many room : Nat} {fr : Value} {free : List Nat} {S : TS} {l : List HP} {w : World} (h : Own (TreeAt p g cap fr free many room S :: l) w) : TL p g cap fr free many room S w := by
  obtain ⟨s, ⟨hl, hs⟩, hb, K⟩ := h.open
  exact hl
theorem Own.rowPop {e n g cap : Nat} {xs : List Value} {l : List HP} {w : World} (h : Own (Row e 1 (.slice (some ⟨g, 0, none⟩) (n + 1) cap) (n + 1) xs :: l) w) : Own (Row e 1 (.slice (some ⟨g, 0, none⟩) n cap) n xs.dropLast :: l) w := by
  obtain ⟨s, hP, hb, K⟩ := h.open
  exact K (Step.refl s w) (P' := Row e 1 (.slice (some ⟨g, 0, none⟩) n cap) n xs.dropLast) (s' := s) ⟨by have := ownsRow_pop' hP.1 (by omega); simpa using this, fun b => by rw [hP.2 b]; simp [Value.ownBlock]⟩ (fun b hb => .inl hb)
theorem ord_len : ∀ (k : Nat) (S : TS) (x : Nat) (T O R : List Nat), TreeP.ord k S x T O = some R → T.length + O.length ≤ R.length
  | 0, _, _, _, _, _, h => by simp [TreeP.ord] at h
  | k + 1, S, x, T, O, R, h => by
    unfold TreeP.ord at h
    by_cases hx : x ≠ 0
    · rw [if_pos hx] at h
      have := ord_len k S _ _ _ _ h
      rw [List.length_append, List.length_singleton] at this
      omega
    · rw [if_neg hx] at h
      by_cases ht : T = []
      · rw [if_pos ht] at h
        injection h with h
        subst ht h
        simp
      · rw [if_neg ht] at h
        have := ord_len k S _ _ _ _ h
        rw [List.length_dropLast, List.length_append, List.length_singleton] at this
        have : 0 < T.length := List.length_pos_iff.2 ht
        omega
def OI (l0 : List HP) (S : TS) (R : List Nat) (N : Nat) (vo vt vx : Value) (wr : World) (k : Nat) : Prop :=
  ∃ (x : Nat) (T O : List Nat), vx = .int .i64 (x : Int) ∧ x < N ∧ Own (Row 3 1 vt T.length (ints T) :: Row 3 1 vo O.length (ints O) :: l0) wr ∧ TreeP.ord k S x T O = some R ∧ ∀ j ∈ T, j < N
set_option maxHeartbeats 2000000 in
theorem order_any {p g cap many room : Nat} {fr : Value} {free : List Nat} {S : TS} {l : List HP} {w : World} (h : Own (TreeAt p g cap fr free many room S :: l) w) (hr : Rng S) (R : List Nat) (hR : R.length ≤ 65536) (ho : ∃ k, TreeP.ord k S S.root [] [] = some R) :
    Calls Try.prog 37 #[.pointer (some ⟨p, 0, none⟩)] w fun e w' => ∃ v, e = .returned v ∧ Own (Row 3 1 v R.length (ints R) :: TreeAt p g cap fr free many room S :: l) w' := by
  have hl := own_tl h
  obtain ⟨N, hN⟩ : ∃ N, N = S.n.length := ⟨_, rfl⟩
  obtain ⟨rt, ert⟩ : ∃ rt, rt = S.root := ⟨_, rfl⟩
  have hrt : rt < N := by rw [ert, hN]; exact hr.root
  have c2 := hl.tw.c2
  rw [← ert] at c2 ho
  have H0 : Hid (∃ k, OI (TreeAt p g cap fr free many room S :: l) S R N (.slice none 0 0) (.slice none 0 0) (.int .i64 rt) w k) := Lib.hid (by
    obtain ⟨k, hk⟩ := ho
    exact ⟨k, rt, [], [], rfl, hrt, (h.nilRow _ 1).nilRow _ 1, hk, by simp⟩)
  have HN := Lib.hid hN
  have HR := Lib.hid hr
  have HRL := Lib.hid hR
  clear h hr ho ert hrt hN hl hR
  go_enter Try.func37, Try.ntmps37
  go_wp2
  go_loopw [3, 4, 5] (fun vo vt vx wr => ∃ k, OI (TreeAt p g cap fr free many room S :: l) S R N vo vt vx wr k) (fun vo vt vx wr => least (OI (TreeAt p g cap fr free many room S :: l) S R N vo vt vx wr))
  case atStart => exact H0.out
  case round =>
    clear H0 c2
    obtain ⟨hP, -⟩ := least_spec hrel
    clear hrel
    obtain ⟨j, ej⟩ : ∃ j, j = least (OI (TreeAt p g cap fr free many room S :: l) S R N u3 u4 u5 wr) := ⟨_, rfl⟩
    rw [← ej] at hP
    have EJ := Lib.hid ej
    clear ej
    obtain ⟨x, T, O, rfl, hx, h, ho, hT⟩ := hP
    have hlen := ord_len _ _ _ _ _ _ ho
    have hRL := HRL.out
    cases j with
    | zero => simp [TreeP.ord] at ho
    | succ k =>
      unfold TreeP.ord at ho
      have x1 : (x : Int) < N := by omega
      by_cases hx0 : x = 0
      · rw [if_neg (by simpa using hx0)] at ho
        have x2 : ((x : Int) != 0) = false := by simp [hx0]
        by_cases ht : T = []
        · rw [if_pos ht] at ho
          injection ho with ho
          subst ht ho
          obtain ⟨a, c, rfl⟩ := own_slice h.row
          have H := Lib.hid h.drop
          clear h hlen hRL hx0
          go_wp2
          go_ret
          exact ⟨_, rfl, H.out⟩
        · rw [if_neg ht] at ho
          obtain ⟨T', z, rfl⟩ : ∃ T' z, T = T' ++ [z] := by
            rcases List.eq_nil_or_concat T with e | ⟨T', z, e⟩
            · exact absurd e ht
            · exact ⟨T', z, by rw [e, List.concat_eq_append]⟩
          rw [List.getLastD_concat, List.dropLast_concat] at ho
          have hl1 : (T' ++ [z]).length = T'.length + 1 := by simp
          rw [hl1] at h hlen
          obtain ⟨gt, ct, rfl, q1, q2⟩ := own_cap h.row (by omega)
          unfold maxLen at q2
          obtain ⟨gt', ct', e', _, hcs⟩ := own_form h.row (by omega)
          injection e' with e1 _ e3
          injection e1 with e1
          injection e1 with e1
          subst e1 e3
          have cz := (hcs T'.length (.int .i64 z) (by simp [ints])).1
          clear hcs
          have h2 := Own.rowPop h
          have hd : (ints (T' ++ [z])).dropLast = ints T' := by simp [ints]
          rw [hd] at h2
          have hl := own_tl h2.third
          have HO : Hid (Own (Row 3 1 (.slice (some ⟨gt, 0, none⟩) T'.length ct) T'.length (ints T') :: Row 3 1 u3 O.length (ints O) :: TreeAt p g cap fr free many room S :: l) wr) := Lib.hid h2
          have hz : z < N := hT z (by simp)
          have HTT : Hid (∀ j ∈ T', j < N) := Lib.hid (fun j hj => hT j (by simp [hj]))
          have z1 : (z : Int) < N := by omega
          have c0 := hl.tw.c0
          rw [← HN.out] at c0
          have HOO := Lib.hid ho
          have HL := Lib.hid hlen
          have hTl : T'.length < 65536 := by omega
          have hOl : O.length < 65536 := by omega
          obtain ⟨m, hm⟩ : ∃ m, m = T'.length := ⟨_, rfl⟩
          rw [← hm] at q1 cz hTl HO EJ
          have HM := Lib.hid hm
          rw [← hm]
          clear h h2 ho hT hl1 hd hl ht hx0 hlen hm
          go_wp2_with (first
            | (at_builtin; refine app_own (W := wr) rfl _ _ _ _ _ 1 8 rfl Try.underlying32 infoInt rfl (by omega) (by omega) u3 O.length (ints O) [.int .i64 z] rfl _ rfl rfl rfl (by simp [Value.oneCell']) (by exact HO.out.swap.row) (by omega) ?_; intro v1 w2 hown hgrow hmv
               have h2 := HO.out.swap.rowApp hown hgrow hmv
               have hl := own_tl h2.third
               have c0 := hl.tw.c0
               rw [← HN.out] at c0
               have kx := hl.tw.k1 (i := z) (by rw [← HN.out]; exact hz)
               have H2 := Lib.hid h2
               clear hown hgrow hmv hl h2)
            | fail)
          have e : ints (O ++ [z]) = ints O ++ [.int .i64 z] := by simp [ints]
          have HP := Lib.hid (show OI (TreeAt p g cap fr free many room S :: l) S R N v1 (.slice (some ⟨gt, 0, none⟩) m ct) (.int .i64 ((S.nd z).k1 : Nat)) w2 k from
            ⟨(S.nd z).k1, T', O ++ [z], rfl, by rw [HN.out]; exact HR.out.k1 z, by rw [List.length_append, List.length_singleton, e, ← HM.out]; exact H2.out.swap, HOO.out, HTT.out⟩)
          exact ⟨⟨_, HP.out⟩, least_lt HP.out (Nat.lt_succ_self k) EJ.out⟩
      · rw [if_pos (by simpa using hx0)] at ho
        have x2 : ((x : Int) != 0) = true := by simp; omega
        have H := Lib.hid h
        have HO := Lib.hid ho
        have HTT : Hid (∀ j ∈ T ++ [x], j < N) := Lib.hid (fun j hj => by
          rcases List.mem_append.1 hj with hj | hj
          · exact hT j hj
          · rw [List.mem_singleton] at hj; rw [hj]; exact hx)
        clear hT
        obtain ⟨m, hm⟩ : ∃ m, m = T.length := ⟨_, rfl⟩
        rw [← hm] at hlen
        have HM := Lib.hid hm
        clear h ho hm hx0
        go_wp2_with (first
          | (at_builtin; refine app_own (W := wr) rfl _ _ _ _ _ 1 8 rfl Try.underlying32 infoInt rfl (by omega) (by omega) u4 T.length (ints T) [.int .i64 x] rfl _ rfl rfl rfl (by simp [Value.oneCell']) (by exact H.out.row) (by have := HM.out; omega) ?_; intro v1 w2 hown hgrow hmv
             have h2 := H.out.rowApp hown hgrow hmv
             have hl := own_tl h2.third
             have c0 := hl.tw.c0
             rw [← HN.out] at c0
             have kx := hl.tw.k0 (i := x) (by rw [← HN.out]; exact hx)
             have H2 := Lib.hid h2
             clear hown hgrow hmv hl h2)
          | fail)
        have e : ints (T ++ [x]) = ints T ++ [.int .i64 x] := by simp [ints]
        have HP := Lib.hid (show OI (TreeAt p g cap fr free many room S :: l) S R N u3 v1 (.int .i64 ((S.nd x).k0 : Nat)) w2 k from
          ⟨(S.nd x).k0, T ++ [x], O, rfl, by rw [HN.out]; exact HR.out.k0 x, by rw [List.length_append, List.length_singleton, e]; exact H2.out, HO.out, HTT.out⟩)
        exact ⟨⟨_, HP.out⟩, least_lt HP.out (Nat.lt_succ_self k) EJ.out⟩
end Go.Proofs.Ytekdahppacghbab.Tr
