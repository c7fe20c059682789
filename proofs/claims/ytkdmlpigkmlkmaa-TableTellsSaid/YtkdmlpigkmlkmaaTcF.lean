/- DERIVED. Layer 14 (table): the document's tables: contract of collected. -/
import Derived.Test.YtkdmlpigkmlkmaaTcE
import Derived.Test.YtkdmlpigkmlkmaaTcM
set_option linter.unusedVariables false
set_option linter.unusedSimpArgs false
set_option maxRecDepth 100000
namespace Go.Proofs.Ytkdmlpigkmlkmaa.Tb
open Go.RowKit Go.Proofs.Ytkdmlpigkmlkmaa Go.Proofs.Ytkdmlpigkmlkmaa.TreeP Go.Proofs.Ytkdmlpigkmlkmaa.Tr Go.Proofs.Ytkdmlpigkmlkmaa.Bk

theorem rbk_any (s : Int) (bits : Nat) (h0 : 0 ≤ s) (h1 : s < 18446744073709551616) (hb : bits ≤ 10) (w : World) :
    Calls Try.prog 87 #[.int .u64 s, .int .i64 (bits : Int)] w fun e w' => e = .returned (.int .i64 ((β bits s : Nat) : Int)) ∧ w = w' := by
  obtain ⟨S, rfl⟩ := Int.eq_ofNat_of_zero_le h0
  exact Mx.rbucket_any S bits (show S < MixP.M by unfold MixP.M; omega) (by omega) w
/-- the best so far -/
def BestI (p : DR → Bool) (L : List DR) (k : Nat) (B : Int) : Prop :=
  (B = -1 ∧ least p (L.take k) = none) ∨ ∃ (j : Nat) (d : DR), B = (j : Int) ∧ j < L.length ∧ L[j]? = some d ∧ least p (L.take k) = some d
abbrev L5 (b n N bits u : Nat) (keep : Int) (vL vG : Value) (L : List DR) (G : List Nat) (l : List HP) : List HP := DRR vL n L :: DGG vG G :: BD (b + 1) 0 0 0 nilv nilv 0 :: BD b N bits keep vL vG u :: l
/-- the inner loop -/
def DiI (LL : List HP) (p : DR → Bool) (L : List DR) (n : Nat) (s8 s9 : Value) (wr : World) : Prop :=
  ∃ (k : Nat) (B : Int), s9 = .int .i64 (k : Int) ∧ k ≤ n ∧ s8 = .int .i64 B ∧ BestI p L k B ∧ Own LL wr
/-- the outer one -/
def DcI (b N bits u : Nat) (keep : Int) (p : DR → Bool) (L : List DR) (G : List Nat) (l : List HP) (s7 : Value) (wr : World) : Prop :=
  ∃ (m : Nat) (L2 : List DR) (G2 : List Nat) (vL vG : Value), s7 = .int .i64 (m : Int) ∧ m ≤ 8 ∧ collD p (8 - m) (L2, G2) = collD p 8 (L, G) ∧ (∀ d ∈ L2, d ∈ L) ∧ L2.length ≤ L.length ∧ G2.length ≤ G.length + m ∧ Own (L5 b L2.length N bits u keep vL vG L2 G2 l) wr
theorem best_zero (p : DR → Bool) (L : List DR) : BestI p L 0 (-1) := .inl ⟨rfl, rfl⟩
theorem best_no {p : DR → Bool} {L : List DR} {k : Nat} {B : Int} {e : DR} (h : BestI p L k B) (he : L[k]? = some e) (hp : p e = false) : BestI p L (k + 1) B := by
  have hs := least_take (p := p) he
  unfold pickS at hs
  rw [if_neg (by rw [hp]; simp)] at hs
  rcases h with ⟨h1, h2⟩ | ⟨j, d, h1, h2, h3, h4⟩
  · exact .inl ⟨h1, by rw [hs, h2]⟩
  · exact .inr ⟨j, d, h1, h2, h3, by rw [hs, h4]⟩
theorem best_new {p : DR → Bool} {L : List DR} {k : Nat} {B : Int} {e : DR} (h : BestI p L k B) (he : L[k]? = some e) (hp : p e = true) (hb : ∀ d, least p (L.take k) = some d → e.f.s < d.f.s) : BestI p L (k + 1) (k : Int) := by
  have hs := least_take (p := p) he
  unfold pickS at hs
  rw [if_pos hp] at hs
  refine .inr ⟨k, e, rfl, (List.getElem?_eq_some_iff.1 he).1, he, ?_⟩
  rw [hs]
  cases hl : least p (L.take k) with
  | none => rfl
  | some d => simp only; rw [if_pos (hb d hl)]
theorem best_old {p : DR → Bool} {L : List DR} {k : Nat} {B : Int} {e d : DR} (h : BestI p L k B) (he : L[k]? = some e) (hp : p e = true) (hd : least p (L.take k) = some d) (hb : ¬ e.f.s < d.f.s) : BestI p L (k + 1) B := by
  have hs := least_take (p := p) he
  unfold pickS at hs
  rw [if_pos hp, hd] at hs
  simp only at hs
  rw [if_neg hb] at hs
  rcases h with ⟨h1, h2⟩ | ⟨j, x, h1, h2, h3, h4⟩
  · rw [h2] at hd; cases hd
  · exact .inr ⟨j, x, h1, h2, h3, by rw [hs, ← hd, h4]⟩
theorem coll_stop {p : DR → Bool} {m : Nat} {L : List DR} {G : List Nat} (h : least p L = none) : collD p m (L, G) = (L, G) := by
  cases m with
  | zero => rfl
  | succ m => rw [collD]; simp only [h]
theorem coll_go {p : DR → Bool} {m : Nat} {L : List DR} {G : List Nat} {d : DR} (hm : m < 8) (h : least p L = some d) : collD p (8 - m) (L, G) = collD p (8 - (m + 1)) (L.filter fun x => decide (x.k ≠ d.k), G ++ [d.k]) := by
  rw [show 8 - m = (8 - (m + 1)) + 1 by omega, collD]
  simp only [h]
section
variable {b c n N bits u : Nat} {keep : Int} {vL vG : Value} {L : List DR} {G : List Nat} {l : List HP} {w : World}
theorem l5_t (h : Own (L5 b n N bits u keep vL vG L G l) w) :
    w.cell? ⟨b, 0, none⟩ = some (.int .i64 (N : Int)) ∧ w.cell? ⟨b, 1, none⟩ = some (.int .i64 (bits : Int)) ∧ w.cell? ⟨b, 2, none⟩ = some (.int .u64 keep) ∧ w.cell? ⟨b, 3, none⟩ = some vL ∧ w.cell? ⟨b, 4, none⟩ = some vG ∧ w.cell? ⟨b, 5, none⟩ = some (.int .i64 (u : Int)) := by
  obtain ⟨c0, c1, c2, c3, c4, c5, -⟩ := bd_cells (b := b) (n := N) (bits := bits) (keep := keep) (vL := vL) (vG := vG) (u := u) h (.tail _ (.tail _ (.tail _ (.head _))))
  exact ⟨c0, c1, c2, c3, c4, c5⟩
theorem bd_wr {n' bits' u' : Nat} {keep' : Int} {vL' vG' : Value} (h : Own (BD b n bits keep vL vG u :: l) w) :
    ∃ v1 v2 v3 v4 v5 v6, Wr w ⟨b, 0, none⟩ (.int .i64 (n' : Int)) v1 ∧ Wr v1 ⟨b, 1, none⟩ (.int .i64 (bits' : Int)) v2 ∧ Wr v2 ⟨b, 2, none⟩ (.int .u64 keep') v3 ∧ Wr v3 ⟨b, 3, none⟩ vL' v4 ∧ Wr v4 ⟨b, 4, none⟩ vG' v5 ∧ Wr v5 ⟨b, 5, none⟩ (.int .i64 (u' : Int)) v6 ∧ Own (BD b n' bits' keep' vL' vG' u' :: l) v6 := by
  have h1 : Own (Go.Proofs.Ytkdmlpigkmlkmaa.Blk b #[(.int .i64 (n' : Int)), .int .i64 (bits : Int), .int .u64 keep, vL, vG, .int .i64 (u : Int)] 64 :: l) _ := Go.Proofs.Ytkdmlpigkmlkmaa.Own.blkSet (o := 0) h (.int .i64 (n' : Int))
  have h2 : Own (Go.Proofs.Ytkdmlpigkmlkmaa.Blk b #[(.int .i64 (n' : Int)), (.int .i64 (bits' : Int)), .int .u64 keep, vL, vG, .int .i64 (u : Int)] 64 :: l) _ := Go.Proofs.Ytkdmlpigkmlkmaa.Own.blkSet (o := 1) h1 (.int .i64 (bits' : Int))
  have h3 : Own (Go.Proofs.Ytkdmlpigkmlkmaa.Blk b #[(.int .i64 (n' : Int)), (.int .i64 (bits' : Int)), (.int .u64 keep'), vL, vG, .int .i64 (u : Int)] 64 :: l) _ := Go.Proofs.Ytkdmlpigkmlkmaa.Own.blkSet (o := 2) h2 (.int .u64 keep')
  have h4 : Own (Go.Proofs.Ytkdmlpigkmlkmaa.Blk b #[(.int .i64 (n' : Int)), (.int .i64 (bits' : Int)), (.int .u64 keep'), vL', vG, .int .i64 (u : Int)] 64 :: l) _ := Go.Proofs.Ytkdmlpigkmlkmaa.Own.blkSet (o := 3) h3 vL'
  have h5 : Own (Go.Proofs.Ytkdmlpigkmlkmaa.Blk b #[(.int .i64 (n' : Int)), (.int .i64 (bits' : Int)), (.int .u64 keep'), vL', vG', .int .i64 (u : Int)] 64 :: l) _ := Go.Proofs.Ytkdmlpigkmlkmaa.Own.blkSet (o := 4) h4 vG'
  have h6 : Own (Go.Proofs.Ytkdmlpigkmlkmaa.Blk b #[(.int .i64 (n' : Int)), (.int .i64 (bits' : Int)), (.int .u64 keep'), vL', vG', (.int .i64 (u' : Int))] 64 :: l) _ := Go.Proofs.Ytkdmlpigkmlkmaa.Own.blkSet (o := 5) h5 (.int .i64 (u' : Int))
  have W : ∀ {cs : Array Value} {t : TypeId} {l : List HP} {w : World} (o : Nat) (x : Value), Own (Go.Proofs.Ytkdmlpigkmlkmaa.Blk b cs t :: l) w → o < cs.size → Wr w ⟨b, o, none⟩ x (w.setCell ⟨b, o, none⟩ x) := fun o x hh ho => by
    refine ⟨rfl, ?_, ?_⟩
    · simp [World.cell?, Go.Proofs.Ytkdmlpigkmlkmaa.Own.blk hh (.head _), ho]
    · simp [World.frozen?, Go.Proofs.Ytkdmlpigkmlkmaa.Own.blk hh (.head _)]
  exact ⟨_, _, _, _, _, _, W 0 _ h (by simp), W 1 _ h1 (by simp), W 2 _ h2 (by simp), W 3 _ h3 (by simp), W 4 _ h4 (by simp), W 5 _ h5 (by simp), h6⟩
theorem fnd_of (hu : UniqD L) {d : DR} (hd : d ∈ L) : fndD L (d.k : Int) = some d := by
  cases hf : fndD L (d.k : Int) with
  | none => exact absurd rfl (fnd_none hf d hd)
  | some e =>
    obtain ⟨h4, h5⟩ := fnd_some hf
    rw [hu e h4 d hd (by omega)]
end
end Go.Proofs.Ytkdmlpigkmlkmaa.Tb
