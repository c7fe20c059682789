/- DERIVED. Layer 14 (table): the document's table that stands for S: contracts of its calls by S. -/
import Derived.Test.YtkdmlpigkmlkmaaTcH
set_option linter.unusedVariables false
set_option linter.unusedSimpArgs false
set_option maxRecDepth 100000
namespace Go.Proofs.Ytkdmlpigkmlkmaa.Tb
open Go.RowKit Go.Proofs.Ytkdmlpigkmlkmaa Go.Proofs.Ytkdmlpigkmlkmaa.TreeP Go.Proofs.Ytkdmlpigkmlkmaa.Tr Go.Proofs.Ytkdmlpigkmlkmaa.Bk

section
variable {vL vG : Value} {n bits M : Nat} {keep : Int} {S : T} {l : List HP} {w : World}
theorem on_some {f : Int} {k : Nat} {r : RW} {g : RW → RW} (hf : f = (k : Int)) (hk : rowAt S.rows k = some r) : onT S f g = setT S k (g r) := by
  subst hf
  unfold onT
  rw [atF_nat, hk]
  simp
theorem on_none {f : Int} {g : RW → RW} (hf : atF S f = none) : onT S f g = S := by unfold onT; rw [hf]
theorem fnd_at {f : Int} {k : Nat} {r : RW} (hf : f = (k : Int)) (hk : rowAt S.rows k = some r) : fndD (docL 0 S.rows) f = some ⟨k, r.f, r.q⟩ := by
  subst hf
  rw [doc_fnd, atF_nat, hk]
  simp
theorem on_doc {f : Int} {k : Nat} {r : RW} {g : RW → RW} (ht : TI n M S) (hf : f = (k : Int)) (hk : rowAt S.rows k = some r) : docL 0 (onT S f g).rows = withD (docL 0 S.rows) ⟨k, (g r).f, (g r).q⟩ ∧ (onT S f g).X = S.X := by
  rw [on_some hf hk]
  exact ⟨set_doc ht hk (g r), rfl⟩
theorem dc_no (h : Own (Dc vL vG S l) w) {f : Int} {g : RW → RW} (hf : atF S f = none) : Own (Dc vL vG (onT S f g) l) w := by rw [on_none hf]; exact h
theorem dget (ht : TI n M S) (h : Own (Dc vL vG S l) w) (f : Int) :
    Calls Try.prog 38 #[dv n bits keep vL vG S.X.st.length, .int .i64 f] w fun e w' => e = .returned (.tuple #[fagg (getF S f), .bool (atF S f).isSome]) ∧ Own (Dc vL vG S l) w' := by
  have hb := (dlen ht).1
  have hn := ht.n2
  have := rget_any (N := n) (bits := bits) (keep := keep) (vG := vG) (u := S.X.st.length) h rfl (by omega) (doc_uniqD S) f
  rw [doc_fnd] at this
  have e1 : oF ((atF S f).map fun r => (⟨f.toNat, r.f, r.q⟩ : DR)) = getF S f := by unfold oF getF; cases atF S f <;> rfl
  have e2 : ((atF S f).map fun r => (⟨f.toNat, r.f, r.q⟩ : DR)).isSome = (atF S f).isSome := by cases atF S f <;> rfl
  rw [e1, e2] at this
  exact this
theorem drests (ht : TI n M S) (h : Own (Dc vL vG S l) w) (f : Int) :
    Calls Try.prog 39 #[dv n bits keep vL vG S.X.st.length, .int .i64 f] w fun e w' => e = .returned (.bool (((atF S f).map (·.q)).getD false)) ∧ Own (Dc vL vG S l) w' := by
  have hb := (dlen ht).1
  have hn := ht.n2
  have := rrests_any (N := n) (bits := bits) (keep := keep) (vG := vG) (u := S.X.st.length) h rfl (by omega) (doc_uniqD S) f
  rw [doc_fnd] at this
  have e1 : oQ ((atF S f).map fun r => (⟨f.toNat, r.f, r.q⟩ : DR)) = ((atF S f).map (·.q)).getD false := by unfold oQ; cases atF S f <;> rfl
  rw [e1] at this
  exact this
theorem drest (ht : TI n M S) (h : Own (Dc vL vG S l) w) (f now : Int) :
    Calls Try.prog 32 #[dv n bits keep vL vG S.X.st.length, .int .i64 f, .int .u64 now] w fun e w' => ∃ v', e = .returned (.tuple #[dv n bits keep v' vG (onT S f (rest now)).X.st.length, .int .i64 (doneE S f)]) ∧ Own (Dc v' vG (onT S f (rest now)) l) w' := by
  have hb := (dlen ht).1
  have hn := ht.n2
  obtain ⟨ga, gk, rfl⟩ := h.swap.rowR.slice
  cases ha : atF S f with
  | none =>
    have hd : doneE S f = 2 := by unfold doneE; rw [ha]; rfl
    rw [hd]
    exact (rrest_no (N := n) (bits := bits) (keep := keep) (u := S.X.st.length) h rfl (by omega) (doc_uniqD S) f now (by rw [doc_fnd, ha]; rfl)).mono fun e w' ⟨he, h2⟩ => ⟨vL, by rw [he, on_none ha], dc_no h2 ha⟩
  | some r =>
    have hd : doneE S f = 0 := by unfold doneE; rw [ha]; rfl
    obtain ⟨k, hf, hk⟩ := atF_some ha
    obtain ⟨d1, d2⟩ := on_doc (g := rest now) ht hf hk
    rw [hd, d2]
    exact (rrest_yes (N := n) (bits := bits) (keep := keep) (u := S.X.st.length) h rfl (by omega) (doc_uniqD S) f now ⟨k, r.f, r.q⟩ (fnd_at hf hk)).mono fun e w' ⟨v', he, h2⟩ => ⟨v', he, by
      show Own (DRR v' (docL 0 (onT S f (rest now)).rows).length (docL 0 (onT S f (rest now)).rows) :: DGG _ (onT S f (rest now)).X.bk :: l) w'
      rw [d1, d2]
      exact h2⟩
theorem dbusy (ht : TI n M S) (h : Own (Dc vL vG S l) w) (f : Int) :
    Calls Try.prog 33 #[dv n bits keep vL vG S.X.st.length, .int .i64 f] w fun e w' => ∃ v', e = .returned (.tuple #[dv n bits keep v' vG (onT S f busy).X.st.length, .int .i64 (doneE S f)]) ∧ Own (Dc v' vG (onT S f busy) l) w' := by
  have hb := (dlen ht).1
  have hn := ht.n2
  obtain ⟨ga, gk, rfl⟩ := h.swap.rowR.slice
  cases ha : atF S f with
  | none =>
    have hd : doneE S f = 2 := by unfold doneE; rw [ha]; rfl
    rw [hd]
    exact (rbusy_no (N := n) (bits := bits) (keep := keep) (u := S.X.st.length) h rfl (by omega) (doc_uniqD S) f (by rw [doc_fnd, ha]; rfl)).mono fun e w' ⟨he, h2⟩ => ⟨vL, by rw [he, on_none ha], dc_no h2 ha⟩
  | some r =>
    have hd : doneE S f = 0 := by unfold doneE; rw [ha]; rfl
    obtain ⟨k, hf, hk⟩ := atF_some ha
    obtain ⟨d1, d2⟩ := on_doc (g := busy) ht hf hk
    rw [hd, d2]
    exact (rbusy_yes (N := n) (bits := bits) (keep := keep) (u := S.X.st.length) h rfl (by omega) (doc_uniqD S) f ⟨k, r.f, r.q⟩ (fnd_at hf hk)).mono fun e w' ⟨v', he, h2⟩ => ⟨v', he, by
      show Own (DRR v' (docL 0 (onT S f busy).rows).length (docL 0 (onT S f busy).rows) :: DGG _ (onT S f busy).X.bk :: l) w'
      rw [d1, d2]
      exact h2⟩
theorem dset (ht : TI n M S) (h : Own (Dc vL vG S l) w) (f : Int) (x : FD) :
    Calls Try.prog 35 #[dv n bits keep vL vG S.X.st.length, .int .i64 f, fagg x] w fun e w' => ∃ v', e = .returned (.tuple #[dv n bits keep v' vG (onT S f (put x)).X.st.length, .int .i64 (putE S f x)]) ∧ Own (Dc v' vG (onT S f (put x)) l) w' := by
  have hb := (dlen ht).1
  have hn := ht.n2
  obtain ⟨ga, gk, rfl⟩ := h.swap.rowR.slice
  cases ha : atF S f with
  | none =>
    have hd : putE S f x = 2 := by unfold putE; rw [ha]
    rw [hd]
    exact (rset_no (N := n) (bits := bits) (keep := keep) (u := S.X.st.length) h rfl (by omega) (doc_uniqD S) f x (by rw [doc_fnd, ha]; rfl)).mono fun e w' ⟨he, h2⟩ => ⟨vL, by rw [he, on_none ha], dc_no h2 ha⟩
  | some r =>
    obtain ⟨k, hf, hk⟩ := atF_some ha
    obtain ⟨d1, d2⟩ := on_doc (g := put x) ht hf hk
    by_cases hs : r.f.s = x.s
    · have hd : putE S f x = 0 := by unfold putE; rw [ha]; simp only; rw [if_pos hs]
      have hp : put x r = ⟨x, r.h, r.q⟩ := by unfold put; rw [if_pos hs]
      rw [hp] at d1
      rw [hd, d2]
      exact (rset_yes (N := n) (bits := bits) (keep := keep) (u := S.X.st.length) h rfl (by omega) (doc_uniqD S) f x ⟨k, r.f, r.q⟩ (fnd_at hf hk) hs).mono fun e w' ⟨v', he, h2⟩ => ⟨v', he, by
        show Own (DRR v' (docL 0 (onT S f (put x)).rows).length (docL 0 (onT S f (put x)).rows) :: DGG _ (onT S f (put x)).X.bk :: l) w'
        rw [d1, d2]
        exact h2⟩
    · have hd : putE S f x = 2 := by unfold putE; rw [ha]; simp only; rw [if_neg hs]
      have hp : put x r = r := by unfold put; rw [if_neg hs]
      rw [hp] at d1
      have hsame : docL 0 (onT S f (put x)).rows = docL 0 S.rows := by
        rw [d1, with_doc (rowAt_lt hk) r]
        have hlt := rowAt_lt hk
        rw [show S.rows.set k (some r) = S.rows by
          refine List.ext_getElem? fun i => ?_
          rw [List.getElem?_set]
          split
          · rename_i e
            subst e
            rw [rowAt_get hlt, hk]
          · rfl]
      rw [hd, d2]
      exact (rset_other (N := n) (bits := bits) (keep := keep) (u := S.X.st.length) h rfl (by omega) (doc_uniqD S) f x ⟨k, r.f, r.q⟩ (fnd_at hf hk) hs).mono fun e w' ⟨he, h2⟩ => ⟨vL, he, by
        show Own (DRR vL (docL 0 (onT S f (put x)).rows).length (docL 0 (onT S f (put x)).rows) :: DGG _ (onT S f (put x)).X.bk :: l) w'
        rw [hsame, d2]
        exact h2⟩
theorem ddrop (ht : TI n M S) (h : Own (Dc vL vG S l) w) (f : Int) :
    Calls Try.prog 34 #[dv n bits keep vL vG S.X.st.length, .int .i64 f] w fun e w' => ∃ v' vG', e = .returned (.tuple #[dv n bits keep v' vG' (dropF S f).X.st.length, .bool (atF S f).isSome]) ∧ Own (Dc v' vG' (dropF S f) l) w' := by
  obtain ⟨hb, hb2, -⟩ := dlen ht
  have hn := ht.n2
  cases ha : atF S f with
  | none =>
    have hS : dropF S f = S := by
      unfold dropF
      unfold atF at ha
      split
      · rename_i h0
        rw [if_pos h0] at ha
        exact dropT_none ha
      · rfl
    rw [hS]
    exact (rdrop_no (N := n) (bits := bits) (keep := keep) (u := S.X.st.length) h rfl (by omega) (doc_uniqD S) f (by rw [doc_fnd, ha]; rfl)).mono fun e w' ⟨he, h2⟩ => ⟨vL, vG, he, h2⟩
  | some r =>
    obtain ⟨k, rfl, hk⟩ := atF_some ha
    have hS : dropF S (k : Int) = ⟨S.rows.set k none, Ar.gv S.X k, del S.R (r.f.s, 0)⟩ := by
      unfold dropF
      rw [if_pos (by omega), Int.toNat_natCast]
      exact dropT_some hk
    have e1 : docL 0 (dropF S (k : Int)).rows = (docL 0 S.rows).filter fun d => decide (d.k ≠ k) := by rw [hS]; exact doc_drop0 S.rows k
    have e2 : (dropF S (k : Int)).X.bk = S.X.bk ++ [k] := by rw [hS]; rfl
    have e3 : (dropF S (k : Int)).X.st.length = S.X.st.length := by rw [hS]; exact List.length_set
    rw [e3]
    exact (rdrop_yes (N := n) (bits := bits) (keep := keep) (u := S.X.st.length) h rfl (by omega) (by omega) (doc_uniqD S) ⟨k, r.f, r.q⟩ (fnd_at rfl hk)).mono fun e w' ⟨v', vG', he, h2⟩ => ⟨v', vG', he, by
      show Own (DRR v' (docL 0 (dropF S (k : Int)).rows).length (docL 0 (dropF S (k : Int)).rows) :: DGG _ (dropF S (k : Int)).X.bk :: l) w'
      rw [e1, e2]
      exact h2⟩
theorem dslices (h : Own (Dc vL vG S l) w) : ∃ va vc ga gk, vL = .slice va (docL 0 S.rows).length vc ∧ vG = .slice ga S.X.bk.length gk := by
  obtain ⟨va, vc, e1⟩ := h.rowR.slice
  obtain ⟨ga, gk, e2⟩ := h.swap.rowR.slice
  exact ⟨va, vc, ga, gk, e1, e2⟩
end
end Go.Proofs.Ytkdmlpigkmlkmaa.Tb
