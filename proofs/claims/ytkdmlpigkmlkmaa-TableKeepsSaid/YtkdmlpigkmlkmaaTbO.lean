/- DERIVED. Layer 14 (table): the law TableGoes, plainly: how many flows a collection takes. -/
import Derived.Test.YtkdmlpigkmlkmaaTbM
set_option linter.unusedVariables false
set_option linter.unusedSimpArgs false
set_option maxRecDepth 100000
namespace Go.Proofs.Ytkdmlpigkmlkmaa.Tb
open Go.RowKit Go.Proofs.Ytkdmlpigkmlkmaa Go.Proofs.Ytkdmlpigkmlkmaa.TreeP Go.Proofs.Ytkdmlpigkmlkmaa.Tr Go.Proofs.Ytkdmlpigkmlkmaa.Bk

theorem drop_len {n N k : Nat} {S : T} {r : RW} (h : TI n N S) (hr : rowAt S.rows k = some r) : (dropT S k).R.length + 1 = S.R.length := by
  have hlk := h.look_row hr
  have hdl := del_length h.rk.rise (r.f.s, 0)
  have hm : 0 < S.R.length := List.length_pos_of_mem ((h.mem r.f.s k).2 ⟨k, r, hr, rfl, rfl⟩)
  rw [hlk] at hdl
  simp only [Option.isSome_some, if_true] at hdl
  rw [dropT_some hr]
  show (del S.R (r.f.s, 0)).length + 1 = S.R.length
  omega
/-- how many a collection takes: those that go, eight at most -/
theorem coll_len {n : Nat} {keep now sock : Int} : ∀ {l : List En} {m N : Nat} {S : T}, TI n N S → RisingE l → (∀ e ∈ l, e ∈ S.R) → m ≤ 8 →
    (coll keep now sock l m S).R.length + min (l.countP (goes keep now sock S)) (8 - m) = S.R.length
  | [], m, N, S, h, _, _, hm => by
    unfold coll
    simp
  | e :: l, m, N, S, h, hl, hi, hm => by
    unfold coll
    have hl' := hl
    unfold RisingE at hl
    rw [List.pairwise_cons] at hl
    split
    · subst m
      simp
    · rename_i hm8
      split
      · rename_i hg
        obtain ⟨j, r, hr, he⟩ := h.row_of (hi e (.head _))
        have hk : e.2.toNat = j := by rw [he]; simp
        rw [hk]
        have hin : ∀ x ∈ l, x ∈ (dropT S j).R := fun x hx => mem_drop h hr (hi x (.tail _ hx)) (fun e2 => by
          have := hl.1 x hx
          rw [e2, he] at this
          exact lt_irrefl _ this)
        have hrow : ∀ x ∈ l, goes keep now sock (dropT S j) x = goes keep now sock S x := fun x hx => by
          obtain ⟨j2, r2, hr2, he2⟩ := h.row_of (hi x (.tail _ hx))
          have hne : j2 ≠ j := fun e3 => by
            subst e3
            rw [hr] at hr2
            injection hr2 with hr2
            have := hl.1 x hx
            rw [he2, he, hr2] at this
            exact lt_irrefl _ this
          have hk2 : x.2.toNat = j2 := by rw [he2]; simp
          unfold goes
          rw [hk2, dropT_some hr]
          simp only
          rw [rowAt_set (rowAt_lt hr), if_neg hne]
        have ih := coll_len (keep := keep) (now := now) (sock := sock) (m := m + 1) (drop_ok h hr) hl.2 hin (by omega)
        have hd := drop_len h hr
        have hc : l.countP (goes keep now sock (dropT S j)) = l.countP (goes keep now sock S) := List.countP_congr fun x hx => by rw [hrow x hx]
        rw [hc] at ih
        rw [List.countP_cons_of_pos hg]
        omega
      · rename_i hg
        have ih := coll_len (keep := keep) (now := now) (sock := sock) (m := m) h hl.2 (fun x hx => hi x (.tail _ hx)) hm
        rw [List.countP_cons_of_neg hg]
        exact ih
theorem bk_all (S : T) (sock : Int) : bkOf 0 S sock = S.R := by
  unfold bkOf inB
  refine List.filter_eq_self.2 fun e _ => ?_
  have h1 := β_lt 0 e.1.1 (by omega)
  have h2 := β_lt 0 sock (by omega)
  simp only [decide_eq_true_eq]
  omega
theorem rise_nodup {l : List En} (h : RisingE l) : l.Nodup := by
  refine List.Pairwise.imp ?_ h
  intro a b hab e
  rw [e] at hab
  exact lt_irrefl _ hab
theorem count_one {p : En → Bool} {e0 : En} : ∀ {l : List En}, RisingE l → e0 ∈ l → (∀ e ∈ l, p e = true ↔ e = e0) → l.countP p = 1
  | [], _, hm, _ => by cases hm
  | x :: l, hl, hm, hp => by
    unfold RisingE at hl
    rw [List.pairwise_cons] at hl
    by_cases hx : x = e0
    · rw [List.countP_cons_of_pos ((hp x (.head _)).2 hx)]
      have : l.countP p = 0 := List.countP_eq_zero.2 fun y hy hpy => by
        have h1 := (hp y (.tail _ hy)).1 hpy
        have h2 := hl.1 y hy
        rw [h1, hx] at h2
        exact lt_irrefl _ h2
      omega
    · have hnp : ¬ p x = true := fun h => hx ((hp x (.head _)).1 h)
      rw [List.countP_cons_of_neg hnp]
      have hm2 : e0 ∈ l := by
        cases hm with
        | head => exact absurd rfl hx
        | tail _ h => exact h
      exact count_one hl.2 hm2 fun e he => hp e (.tail _ he)
/-- a table whose flows all rest since 100, i of them -/
structure GoS (n i : Nat) (frm : Int) (S : T) : Prop where
  hi : i ≤ n
  bk : S.X.bk = []
  st : S.X.st.length = i
  us : S.X.used = i
  yes : ∀ k, k < i → ∃ h, rowAt S.rows k = some ⟨⟨(frm + k) % 18446744073709551616, 1, 0, 300, 0, 0, 100⟩, h, true⟩
  no : ∀ k, i ≤ k → rowAt S.rows k = none
theorem go_zero (n : Nat) (frm : Int) : GoS n 0 frm (freshT n) := ⟨Nat.zero_le _, rfl, rfl, rfl, fun k hk => absurd hk (by omega), fun k _ => by
  unfold freshT rowAt
  simp only [List.getD, List.getElem?_replicate]
  split <;> rfl⟩
section
variable {n N i k : Nat} {frm sock now : Int} {S : T}
theorem GoS.row (g : GoS n i frm S) {r : RW} (hr : rowAt S.rows k = some r) : k < i ∧ ∃ h, r = ⟨⟨(frm + k) % 18446744073709551616, 1, 0, 300, 0, 0, 100⟩, h, true⟩ := by
  by_cases hk : k < i
  · obtain ⟨h, hh⟩ := g.yes k hk
    rw [hr] at hh
    injection hh with hh
    exact ⟨hk, h, hh⟩
  · rw [g.no k (by omega)] at hr
    cases hr
theorem look_no (h : TI n N S) (hn : ∀ k r, rowAt S.rows k = some r → r.f.s ≠ sock) : Tr.look S.R (sock, 0) = none := by
  cases hl : Tr.look S.R (sock, 0) with
  | none => rfl
  | some v =>
    obtain ⟨k, r, hr, -, hs⟩ := (h.look sock v).1 hl
    exact absurd hs (hn k r hr)
theorem GoS.young (g : GoS n i frm S) (hn : now ≤ 110) : ∀ k r, rowAt S.rows k = some r → oldR 10 now r = false := fun k r hr => by
  obtain ⟨-, h, rfl⟩ := g.row hr
  unfold oldR Hz.sat
  simp only [Bool.true_and, decide_eq_false_iff_not]
  split <;> omega
theorem GoS.fresh_no (g : GoS n i frm S) (h : TI n N S) (hi : i ≤ 40) {j : Nat} (hj : i ≤ j) (hj2 : j ≤ 41) : Tr.look S.R ((frm + j) % 18446744073709551616, 0) = none := look_no h fun k r hr => by
  obtain ⟨hk, h, rfl⟩ := g.row hr
  simp only
  omega
theorem go_step (h : TI n N S) (g : GoS n i frm S) (hi : i < n) (hn : n ≤ 40) :
    findT n 0 10 ((frm + i) % 18446744073709551616) 1 0 300 S = ⟨newT S (bornF ((frm + i) % 18446744073709551616) 1 300), (i : Int), 1, 0⟩ ∧
    doneE (newT S (bornF ((frm + i) % 18446744073709551616) 1 300)) (i : Int) = 0 ∧
    GoS n (i + 1) frm (onT (newT S (bornF ((frm + i) % 18446744073709551616) 1 300)) (i : Int) (rest 100)) := by
  have hq : Ar.tq S.X = i := by unfold Ar.tq; rw [if_pos g.bk, g.st]
  have hl := g.fresh_no h (by omega) (j := i) (Nat.le_refl _) (by omega)
  have hu : S.X.used < n := by rw [g.us]; exact hi
  have hc : collT 0 10 0 ((frm + i) % 18446744073709551616) S = S := coll_none (g.young (by omega)) _ _
  obtain ⟨N1, hN1⟩ : ∃ N1, N1 = newT S (bornF ((frm + i) % 18446744073709551616) 1 300) := ⟨_, rfl⟩
  obtain ⟨hd, hrow⟩ := row_new_at h hu (bornF ((frm + i) % 18446744073709551616) 1 300)
  have hoth : ∀ j, j ≠ i → rowAt N1.rows j = rowAt S.rows j := fun j hj => by
    rw [hN1]
    unfold newT
    simp only
    rw [hq, rowAt_set (by rw [h.len]; exact hi), if_neg hj]
  have hX : N1.X = Ar.tk S.X := by rw [hN1]; rfl
  have hlen : N1.rows.length = n := by rw [hN1]; unfold newT; simp only [List.length_set]; exact h.len
  rw [hq, ← hN1] at hrow
  refine ⟨?_, ?_, ?_⟩
  · unfold findT
    rw [hc, found_new hl, if_neg (by omega), hq]
  · rw [← hN1]
    unfold doneE
    rw [atF_nat, hrow]
    rfl
  · rw [← hN1]
    have hon : onT N1 (i : Int) (rest 100) = setT N1 i (rest 100 ⟨bornF ((frm + i) % 18446744073709551616) 1 300, hd, false⟩) := by
      unfold onT
      rw [atF_nat, hrow]
      simp only [Int.toNat_natCast]
    rw [hon]
    have hrw : ∀ j, rowAt (setT N1 i (rest 100 ⟨bornF ((frm + i) % 18446744073709551616) 1 300, hd, false⟩)).rows j = if j = i then some (rest 100 ⟨bornF ((frm + i) % 18446744073709551616) 1 300, hd, false⟩) else rowAt N1.rows j := fun j => by
      unfold setT
      exact rowAt_set (by omega) _ j
    have e0 : Ar.tk S.X = ⟨(Ar.st0 S.X).set i ((Ar.st0 S.X).getD i 0 + 1), S.X.bk.dropLast, S.X.room, S.X.used + 1⟩ := by unfold Ar.tk; rw [hq]
    refine ⟨hi, ?_, ?_, ?_, fun k hk => ?_, fun k hk => ?_⟩
    · show N1.X.bk = []
      rw [hX, e0, g.bk]
      rfl
    · show N1.X.st.length = i + 1
      rw [hX, e0]
      simp only [List.length_set]
      unfold Ar.st0
      rw [if_pos g.bk]
      simp [g.st]
    · show N1.X.used = i + 1
      rw [hX, e0, g.us]
    · rw [hrw]
      by_cases e : k = i
      · subst e
        rw [if_pos rfl]
        exact ⟨hd, rfl⟩
      · rw [if_neg e, hoth k e]
        exact g.yes k (by omega)
    · rw [hrw, if_neg (by omega), hoth k (by omega)]
      exact g.no k (by omega)
theorem go_full (h : TI n N S) (g : GoS n n frm S) (hn : n ≤ 40) : findT n 0 10 ((frm + n) % 18446744073709551616) 1 110 300 S = ⟨S, 0, 0, 140⟩ ∧ S.R.length = n := by
  have hl := g.fresh_no h hn (j := n) (Nat.le_refl _) (by omega)
  have hc : collT 0 10 110 ((frm + n) % 18446744073709551616) S = S := coll_none (g.young (by omega)) _ _
  unfold findT
  rw [hc, found_new hl, if_pos g.us]
  exact ⟨rfl, by rw [← h.cnt, g.us]⟩
theorem go_drop (h : TI n N S) (g : GoS n n frm S) (hk : k < n) :
    (atF S (k : Int)).isSome = true ∧ ∃ D, dropF S (k : Int) = D ∧ atF D (k : Int) = none ∧ dropF D (k : Int) = D ∧ D.R.length + 1 = n ∧ Ar.tq D.X = k ∧ D.X.used + 1 = n ∧
      ∀ j, rowAt D.rows j = if j = k then none else rowAt S.rows j := by
  obtain ⟨hd, hr⟩ := g.yes k hk
  have hr' : ∀ j, rowAt (dropT S k).rows j = if j = k then none else rowAt S.rows j := fun j => by rw [dropT_some hr]; exact rowAt_set (rowAt_lt hr) _ j
  have hn : rowAt (dropT S k).rows k = none := by rw [hr', if_pos rfl]
  have hD : dropF S (k : Int) = dropT S k := by unfold dropF; rw [if_pos (by omega), Int.toNat_natCast]
  have hlen := drop_len h hr
  have hfull : S.R.length = n := by rw [← h.cnt, g.us]
  refine ⟨by rw [atF_nat, hr]; rfl, dropT S k, hD, by rw [atF_nat]; exact hn, ?_, by omega, ?_, ?_, hr'⟩
  · unfold dropF
    rw [if_pos (by omega), Int.toNat_natCast, dropT_none hn]
  · rw [dropT_some hr]
    unfold Ar.tq Ar.gv
    simp only [g.bk]
    rfl
  · rw [dropT_some hr]
    unfold Ar.gv
    simp only [g.us]
    omega
/-- one flow is new, the others rest since 100 -/
structure GoE (n k : Nat) (frm : Int) (S : T) : Prop where
  own : ∃ h, rowAt S.rows k = some ⟨⟨(frm + n) % 18446744073709551616, 1, 0, 300, 0, 0, 0⟩, h, false⟩
  oth : ∀ j r, j ≠ k → rowAt S.rows j = some r → j < n ∧ ∃ h, r = ⟨⟨(frm + j) % 18446744073709551616, 1, 0, 300, 0, 0, 100⟩, h, true⟩
  us : S.X.used = n
theorem go_again {D : T} (g : GoS n n frm S) (h : TI n N D) (hk : k < n) (hn : n ≤ 40) (hq : Ar.tq D.X = k) (hu : D.X.used + 1 = n) (hrw : ∀ j, rowAt D.rows j = if j = k then none else rowAt S.rows j) :
    ∃ E, findT n 0 10 ((frm + n) % 18446744073709551616) 1 110 300 D = ⟨E, (k : Int), 1, 0⟩ ∧ GoE n k frm E := by
  have hrow : ∀ j r, rowAt D.rows j = some r → j ≠ k ∧ rowAt S.rows j = some r := fun j r hr => by
    rw [hrw] at hr
    by_cases e : j = k
    · rw [if_pos e] at hr; cases hr
    · rw [if_neg e] at hr; exact ⟨e, hr⟩
  have hc : collT 0 10 110 ((frm + n) % 18446744073709551616) D = D := coll_none (fun j r hr => g.young (by omega) j r (hrow j r hr).2) _ _
  have hl : Tr.look D.R ((frm + n) % 18446744073709551616, 0) = none := look_no h fun j r hr => by
    obtain ⟨hj, h, rfl⟩ := g.row (hrow j r hr).2
    simp only
    omega
  obtain ⟨hd, hnew⟩ := row_new_at h (by omega) (bornF ((frm + n) % 18446744073709551616) 1 300)
  rw [hq] at hnew
  refine ⟨newT D (bornF ((frm + n) % 18446744073709551616) 1 300), ?_, ⟨hd, hnew⟩, fun j r hj hr => ?_, ?_⟩
  · unfold findT
    rw [hc, found_new hl, if_neg (by omega), hq]
  · unfold newT at hr
    simp only at hr
    rw [hq, rowAt_set (by rw [h.len]; exact hk), if_neg hj] at hr
    exact g.row (hrow j r hr).2
  · show (Ar.tk D.X).used = n
    unfold Ar.tk
    simp only
    omega
theorem go_last (h : TI n N S) (g : GoE n k frm S) (hn : n ≤ 40) (hk : k < n) :
    ∃ S' f kd er, findT n 0 10 ((frm + (n + 1 : Nat)) % 18446744073709551616) 1 111 300 S = ⟨S', f, kd, er⟩ ∧ (n = 1 → er = 140) ∧ (1 < n → er = 0 ∧ kd = 1 ∧ S'.R.length = n - min (n - 1) 8 + 1) := by
  obtain ⟨sock, hsk⟩ : ∃ sock, sock = (frm + (n + 1 : Nat)) % 18446744073709551616 := ⟨_, rfl⟩
  rw [← hsk]
  have hb := bk_rise (bits := 0) h sock
  have hc := collT_ok (bits := 0) (keep := 10) (now := 111) (sock := sock) h
  have hlen := coll_len (keep := 10) (now := 111) (sock := sock) (m := 0) h hb.1 hb.2 (by omega)
  rw [bk_all] at hlen
  have hcc : coll 10 111 sock S.R 0 S = collT 0 10 111 sock S := by unfold collT; rw [bk_all]
  rw [hcc] at hlen
  have hfull : S.R.length = n := by rw [← h.cnt, g.us]
  obtain ⟨hd, hown⟩ := g.own
  have hcnt : S.R.countP (goes 10 111 sock S) = n - 1 := by
    have h1 := List.length_eq_countP_add_countP (goes 10 111 sock S) (l := S.R)
    have h2 : S.R.countP (fun a => decide (¬ goes 10 111 sock S a = true)) = 1 := by
      refine count_one (e0 := (((frm + n) % 18446744073709551616, 0), (k : Int))) h.rk.rise ((h.mem _ _).2 ⟨k, _, hown, rfl, rfl⟩) fun e he => ?_
      obtain ⟨j, r, hr, rfl⟩ := h.row_of he
      simp only [decide_eq_true_eq]
      have hg : goes 10 111 sock S ((r.f.s, 0), (j : Int)) = (decide (r.f.s ≠ sock) && oldR 10 111 r) := by
        unfold goes
        simp only [Int.toNat_natCast]
        rw [hr]
        rfl
      rw [hg]
      by_cases e : j = k
      · subst e
        rw [hown] at hr
        injection hr with hr
        subst hr
        simp [oldR]
      · obtain ⟨hj, hh, rfl⟩ := g.oth j r e hr
        have hs : (frm + (j : Int)) % 18446744073709551616 ≠ sock := by rw [hsk]; omega
        have ho : oldR 10 111 ⟨⟨(frm + (j : Int)) % 18446744073709551616, 1, 0, 300, 0, 0, 100⟩, hh, true⟩ = true := by
          unfold oldR Hz.sat
          simp only [Bool.true_and, decide_eq_true_eq]
          omega
        rw [ho]
        simp only [hs, ne_eq, not_false_eq_true, decide_true, Bool.and_self, not_true_eq_false, false_iff]
        intro e2
        have : ((j : Int)) = (k : Int) := congrArg (·.2) e2
        omega
    omega
  rw [hcnt] at hlen
  have hl : Tr.look (collT 0 10 111 sock S).R (sock, 0) = none := look_no hc fun j r hr => by
    have hr2 : rowAt S.rows j = some r := by
      rcases collT_row (bits := 0) (keep := 10) (now := 111) (sock := sock) h j with h1 | ⟨h1, -⟩
      · rw [← h1]; exact hr
      · rw [h1] at hr; cases hr
    by_cases e : j = k
    · subst e
      rw [hown] at hr2
      injection hr2 with hr2
      subst hr2
      simp only
      rw [hsk]
      omega
    · obtain ⟨hj, hh, rfl⟩ := g.oth j r e hr2
      simp only
      rw [hsk]
      omega
  have hused := hc.cnt
  unfold findT
  rw [found_new hl]
  by_cases e : n = 1
  · rw [if_pos (by omega)]
    exact ⟨_, _, _, _, rfl, fun _ => rfl, fun h => absurd h (by omega)⟩
  · rw [if_neg (by omega)]
    refine ⟨_, _, _, _, rfl, fun h => absurd h e, fun _ => ⟨rfl, rfl, ?_⟩⟩
    have hnk := (new_ok hc (f := bornF sock 1 300) ⟨⟨by simp only [bornF]; omega, by simp only [bornF]; omega⟩, by simp [bornF], by simp [bornF]⟩ hl (by omega)).cnt
    have : (newT (collT 0 10 111 sock S) (bornF sock 1 300)).X.used = (collT 0 10 111 sock S).X.used + 1 := rfl
    omega
end
end Go.Proofs.Ytkdmlpigkmlkmaa.Tb
