/- DERIVED. Layer 14 (table): the law TableKeeps, plainly: who stays, who goes, how many. -/
import Derived.Test.YtkdmlpigkmlkmaaTbO
set_option linter.unusedVariables false
set_option linter.unusedSimpArgs false
set_option maxRecDepth 100000
namespace Go.Proofs.Ytkdmlpigkmlkmaa.Tb
open Go.RowKit Go.Proofs.Ytkdmlpigkmlkmaa Go.Proofs.Ytkdmlpigkmlkmaa.TreeP Go.Proofs.Ytkdmlpigkmlkmaa.Tr Go.Proofs.Ytkdmlpigkmlkmaa.Bk

section
variable {n N b k : Nat} {keep sock cookie now fi : Int} {S C : T} {r : RW}
/-- it stays, as it was or born anew; or it was old and goes -/
def Stays (S' : T) (got kind : Int) (k : Nat) (r : RW) : Prop := ∃ x, rowAt S'.rows k = some x ∧ x.f.s = r.f.s ∧ x.q = r.q ∧ (x.f = r.f ∨ ((k : Int) = got ∧ kind = 2))
def Goes (b : Nat) (keep now sock : Int) (S' : T) (k : Nat) (r : RW) : Prop := (∀ x, rowAt S'.rows k = some x → x.f.s ≠ r.f.s) ∧ oldR keep now r = true ∧ r.f.s ≠ sock ∧ β b r.f.s = β b sock
theorem keeps_each (h : TI n N S) (hC : collT b keep now sock S = C) (hr : rowAt S.rows k = some r) :
    ((rowAt C.rows k).isSome = true ∧ Stays (findT n b keep sock cookie now fi S).S (findT n b keep sock cookie now fi S).f (findT n b keep sock cookie now fi S).kind k r) ∨
    (rowAt C.rows k = none ∧ Goes b keep now sock (findT n b keep sock cookie now fi S).S k r) := by
  have hc : TI n (N + 8) C := by rw [← hC]; exact collT_ok h
  have hrow := collT_row (bits := b) (keep := keep) (now := now) (sock := sock) h k
  rw [hC] at hrow
  have hF : findT n b keep sock cookie now fi S = foundT n sock cookie fi C := by unfold findT; rw [hC]
  rw [hF]
  cases hl : Tr.look C.R (sock, 0) with
  | some v =>
    obtain ⟨k0, r0, hr0, rfl, hs0⟩ := (hc.look sock v).1 hl
    rw [found_there hc hr0 hs0]
    have hset := rowAt_set (rowAt_lt hr0) (some ⟨{ bornF sock cookie fi with ag := r0.f.ag }, r0.h, r0.q⟩) k
    rcases hrow with h1 | ⟨h1, r1, h2, h3, h4, h5⟩
    · left
      rw [hr] at h1
      refine ⟨by rw [h1]; rfl, ?_⟩
      split
      · exact ⟨r, h1, rfl, rfl, .inl rfl⟩
      · unfold Stays setT
        simp only
        rw [hset]
        by_cases e : k = k0
        · subst e
          rw [hr0] at h1
          injection h1 with h1
          subst h1
          rw [if_pos rfl]
          exact ⟨_, rfl, hs0.symm, rfl, .inr ⟨rfl, by first | rfl | trivial⟩⟩
        · rw [if_neg e]
          exact ⟨r, h1, rfl, rfl, .inl rfl⟩
    · right
      rw [hr] at h2
      injection h2 with h2
      subst h2
      refine ⟨h1, ?_, h3, h4, h5⟩
      split
      · intro x hx
        simp only at hx
        rw [h1] at hx
        cases hx
      · intro x hx
        unfold setT at hx
        simp only at hx
        rw [hset, if_neg (fun e => by subst e; rw [hr0] at h1; cases h1), h1] at hx
        cases hx
  | none =>
    rw [found_new hl]
    rcases hrow with h1 | ⟨h1, r1, h2, h3, h4, h5⟩
    · left
      rw [hr] at h1
      refine ⟨by rw [h1]; rfl, ?_⟩
      split
      · exact ⟨r, h1, rfl, rfl, .inl rfl⟩
      · rename_i hu
        obtain ⟨q1, q2⟩ := new_at hc (by have := hc.ok.used_le; have := hc.room; omega)
        unfold Stays newT
        simp only
        rw [rowAt_set (by rw [hc.len]; exact q1), if_neg (fun e => by rw [e, q2] at h1; cases h1)]
        exact ⟨r, h1, rfl, rfl, .inl rfl⟩
    · right
      rw [hr] at h2
      injection h2 with h2
      subst h2
      refine ⟨h1, ?_, h3, h4, h5⟩
      split
      · intro x hx
        simp only at hx
        rw [h1] at hx
        cases hx
      · rename_i hu
        obtain ⟨q1, q2⟩ := new_at hc (by have := hc.ok.used_le; have := hc.room; omega)
        intro x hx
        unfold newT at hx
        simp only at hx
        rw [rowAt_set (by rw [hc.len]; exact q1)] at hx
        by_cases e : k = Ar.tq C.X
        · rw [if_pos e] at hx
          injection hx with hx
          rw [← hx]
          exact fun e2 => h4 e2.symm
        · rw [if_neg e, h1] at hx
          cases hx
/-- how many go: at most eight -/
def goneN (S C : T) : Nat := (allL S).countP fun k => (rowAt C.rows k).isNone
theorem gone_sum (h : TI n N S) (hC : collT b keep now sock S = C) : goneN S C + C.R.length = S.R.length ∧ goneN S C ≤ 8 := by
  have hc : TI n (N + 8) C := by rw [← hC]; exact collT_ok h
  have hb := bk_rise (bits := b) h sock
  have hlen := coll_len (keep := keep) (now := now) (sock := sock) (m := 0) h hb.1 hb.2 (by omega)
  have hcc : coll keep now sock (bkOf b S sock) 0 S = C := hC
  rw [hcc] at hlen
  have h1 : allL C = (allL S).filter fun k => (rowAt C.rows k).isSome := by
    unfold allL
    rw [List.filter_filter, h.len, hc.len]
    refine List.filter_congr fun k _ => ?_
    rcases collT_row (bits := b) (keep := keep) (now := now) (sock := sock) h k with h1 | ⟨h1, -⟩
    · rw [hC] at h1
      rw [h1]
      simp
    · rw [hC] at h1
      rw [h1]
      simp
  have h2 := List.length_eq_countP_add_countP (fun k => (rowAt C.rows k).isSome) (l := allL S)
  have h3 : (allL S).countP (fun k => (rowAt C.rows k).isSome) = C.R.length := by
    rw [List.countP_eq_length_filter, ← h1, all_len hc]
  have h4 : goneN S C = (allL S).countP fun a => decide (¬ (rowAt C.rows a).isSome = true) := by
    unfold goneN
    refine List.countP_congr fun k _ => ?_
    cases rowAt C.rows k <;> simp
  rw [all_len h] at h2
  constructor
  · omega
  · have := Nat.min_le_right ((bkOf b S sock).countP (goes keep now sock S)) (8 - 0)
    omega
/-- where there is no room nothing went, and all are there -/
theorem keeps_full (h : TI n N S) (hC : collT b keep now sock S = C) (he : (findT n b keep sock cookie now fi S).err ≠ 0) :
    findT n b keep sock cookie now fi S = ⟨C, 0, 0, 140⟩ ∧ goneN S C = 0 ∧ (allL S).length = n := by
  obtain ⟨g1, g2⟩ := gone_sum h hC
  have hc : TI n (N + 8) C := by rw [← hC]; exact collT_ok h
  rcases find_cases (b := b) (keep := keep) (sock := sock) (cookie := cookie) (now := now) (fi := fi) h with ⟨hF, hu, hl⟩ | ⟨S1, k, r, kd, hF, -⟩
  · rw [hC] at hF hu
    have := hc.cnt
    have := h.rk.len
    refine ⟨hF, by omega, ?_⟩
    rw [all_len h]
    omega
  · rw [hF] at he
    exact absurd rfl he
end
end Go.Proofs.Ytkdmlpigkmlkmaa.Tb
