/- DERIVED. Layer 7 (walk): the law WalkTells. -/
import Derived.Test.YtekdahppacghbabWlA
import Derived.Test.YtekdahppacghbabWkM
import Derived.Test.YtekdahppacghbabWkH
import Derived.Test.YtekdahppacghbabR6E
import Derived.Deep.RegionHeld3
import Derived.Deep.DeepCutAuto
set_option linter.unusedVariables false
set_option linter.unusedSimpArgs false
set_option maxRecDepth 100000
namespace Go.Proofs.Ytekdahppacghbab.Wk
open Go.RowKit Go.Proofs.Ytekdahppacghbab Go.Proofs.Ytekdahppacghbab.TreeP Go.Proofs.Ytekdahppacghbab.Tr

abbrev RL (x : Value × List En) : HP := RR x.1 x.2
/-- what has come up, beside what there is -/
def G (L : List HP) (X : List (Value × List En)) (w : World) : Prop := Own (X.map RL ++ L) w ∧ ∀ x ∈ X, x.2.length ≤ 60000
theorem G.step {L : List HP} {X : List (Value × List En)} {w w' : World} (h : G L X w) (hx : Ext w w') : G L X w' := ⟨h.1.step hx, h.2⟩
theorem G.rest {L : List HP} {X : List (Value × List En)} {w : World} (h : G L X w) : Own L w := Own.dropL h.1
theorem G.out {L L2 : List HP} {P : HP} {X : List (Value × List En)} {w : World} (hp : L.Perm (P :: L2)) (h : G L X w) : Own (P :: (X.map RL ++ L2)) w :=
  h.1.perm ((hp.append_left _).trans List.perm_middle)
theorem G.back {L L2 : List HP} {P : HP} {X : List (Value × List En)} {v : Value} {M : List En} {w : World} (hp : L.Perm (P :: L2)) (hX : ∀ x ∈ X, x.2.length ≤ 60000) (hM : M.length ≤ 60000) (h : Own (RR v M :: P :: (X.map RL ++ L2)) w) : G L ((v, M) :: X) w :=
  ⟨h.perm (List.Perm.cons _ (List.perm_middle.symm.trans (hp.symm.append_left _))), fun x hx => by
    rcases List.mem_cons.1 hx with rfl | hx
    · exact hM
    · exact hX x hx⟩
theorem G.row {L : List HP} {X : List (Value × List En)} {w : World} (h : G L X w) {a : Value} {M : List En} (hm : (a, M) ∈ X) : ownsR w 49 3 a M.length (ents M) := by
  obtain ⟨A, B, rfl⟩ := List.append_of_mem hm
  have h1 := h.1
  rw [List.map_append, List.map_cons, List.append_assoc, List.cons_append] at h1
  exact (h1.perm List.perm_middle).rowR
theorem same_true {a b : Value} {M : List En} {w : World} (h1 : ownsR w 49 3 a M.length (ents M)) (h2 : ownsR w 49 3 b M.length (ents M)) (hM : M.length ≤ 60000) :
    Calls Try.prog 16 #[a, b] w fun e w' => e = .returned (.bool true) ∧ Ext w w' := by
  have := same_any a b M.length M.length M M w rfl rfl h1 h2 (by omega) (by omega)
  rw [show decide (M = M) = true from by simp] at this
  exact this
section
variable {L : List HP} {X : List (Value × List En)} {w : World} {a b : Value} {M : List En}
theorem g_sameA (h : G L ((a, M) :: (b, M) :: X) w) : Calls Try.prog 16 #[a, b] w fun e w' => e = .returned (.bool true) ∧ G L ((a, M) :: (b, M) :: X) w' :=
  (same_true (h.row (.head _)) (h.row (.tail _ (.head _))) (h.2 (a, M) (.head _))).mono fun e w2 ⟨he, hx⟩ => ⟨he, h.step hx⟩
theorem g_sameB (h : G L ((a, M) :: (b, M) :: X) w) : Calls Try.prog 16 #[b, a] w fun e w' => e = .returned (.bool true) ∧ G L ((a, M) :: (b, M) :: X) w' :=
  (same_true (h.row (.tail _ (.head _))) (h.row (.head _)) (h.2 (a, M) (.head _))).mono fun e w2 ⟨he, hx⟩ => ⟨he, h.step hx⟩
theorem g_sameC {L2 : List HP} {v : Value} (hp : L.Perm (RR v M :: L2)) (h : G L ((a, M) :: X) w) : Calls Try.prog 16 #[a, v] w fun e w' => e = .returned (.bool true) ∧ G L ((a, M) :: X) w' :=
  (same_true (h.row (.head _)) (h.out hp).rowR (h.2 (a, M) (.head _))).mono fun e w2 ⟨he, hx⟩ => ⟨he, h.step hx⟩
variable {p : Nat} {E : List En} {L2 : List HP}
theorem g_all (hp : L.Perm (Tree p 60 E :: L2)) (hE : E.length ≤ 60) (h : G L X w) : Calls Try.prog 19 #[.pointer (some ⟨p, 0, none⟩)] w fun e w' => ∃ v, e = .returned v ∧ G L ((v, E) :: X) w' :=
  (own_all (h.out hp)).mono fun e w2 ⟨v, he, h2⟩ => ⟨v, he, G.back hp h.2 (by omega) h2.toR⟩
theorem g_from (hp : L.Perm (Tree p 60 E :: L2)) (hr : RisingE E) (hE : E.length ≤ 60) {x s n : Int} (hn : n < 9223372036854775808) (h : G L X w) (hM : (E.filter fun e => !lt e.1 (x, s)).take n.toNat = M) :
    Calls Try.prog 11 #[.pointer (some ⟨p, 0, none⟩), Tr.key x s, .int .i64 n] w fun e w' => ∃ v, e = .returned v ∧ G L ((v, M) :: X) w' := by
  have hl : M.length ≤ 60000 := by rw [← hM, List.length_take]; have := List.length_filter_le (fun e : En => !lt e.1 (x, s)) E; omega
  exact (own_from' hr (by omega) hn (by rw [from_ge hr]; exact hM) (h.out hp)).mono fun e w2 ⟨v, he, h2⟩ => ⟨v, he, G.back hp h.2 hl h2.toR⟩
theorem g_upto (hp : L.Perm (Tree p 60 E :: L2)) (hr : RisingE E) (hb : Nn E) (hE : E.length ≤ 60) {at' n : Int} (hn : n < 9223372036854775808) (h : G L X w) (hM : (uptoL E at').take n.toNat = M) :
    Calls Try.prog 12 #[.pointer (some ⟨p, 0, none⟩), .int .u64 at', .int .i64 n] w fun e w' => ∃ v, e = .returned v ∧ G L ((v, M) :: X) w' := by
  have hl : M.length ≤ 60000 := by rw [← hM, List.length_take]; have := List.length_filter_le (fun e : En => decide (e.1.1 ≤ at')) E; unfold uptoL; omega
  exact (own_upto' hr hb (by omega) hn hM (h.out hp)).mono fun e w2 ⟨v, he, h2⟩ => ⟨v, he, G.back hp h.2 hl h2.toR⟩
theorem g_rfrom {v : Value} {room : Int} (hp : L.Perm (RR v E :: L2)) (hE : E.length ≤ 60) {x s n : Int} (h : G L X w) (hM : (E.filter fun e => !lt e.1 (x, s)).take n.toNat = M) :
    Calls Try.prog 17 #[.agg #[v, .int .i64 room], .agg #[.int .u64 x, .int .u64 s], .int .i64 n] w fun e w' => ∃ v, e = .returned v ∧ G L ((v, M) :: X) w' := by
  have hl : M.length ≤ 60000 := by rw [← hM, List.length_take]; have := List.length_filter_le (fun e : En => !lt e.1 (x, s)) E; omega
  exact (rfrom_any (h.out hp) (by omega) x s n).mono fun e w2 ⟨v, he, h2⟩ => ⟨v, he, G.back hp h.2 hl (by rw [← hM]; exact h2)⟩
theorem g_rupto {v : Value} {room : Int} (hp : L.Perm (RR v E :: L2)) (hE : E.length ≤ 60) {at' n : Int} (h : G L X w) (hM : (uptoL E at').take n.toNat = M) :
    Calls Try.prog 18 #[.agg #[v, .int .i64 room], .int .u64 at', .int .i64 n] w fun e w' => ∃ v, e = .returned v ∧ G L ((v, M) :: X) w' := by
  have hl : M.length ≤ 60000 := by rw [← hM, List.length_take]; have := List.length_filter_le (fun e : En => decide (e.1.1 ≤ at')) E; unfold uptoL; omega
  exact (rupto_any (h.out hp) (by omega) at' n).mono fun e w2 ⟨v, he, h2⟩ => ⟨v, he, G.back hp h.2 hl (by rw [← hM]; exact h2)⟩
theorem g_sweep (hp : L.Perm (Tree p 60 E :: L2)) (hr : RisingE E) (hb : Nn E) (hE : E.length ≤ 60) {x s n kx ks : Int} (hn0 : -9223372036854775808 ≤ n) (hn : n < 9223372036854775808) (h : G L X w) (hM : sweepL E (x, s) n.toNat = M) (h1 : (M.getLast?.map (·.1.1)).getD x = kx) (h2 : (M.getLast?.map (·.1.2)).getD s = ks) (hl : M.length ≤ 60000) :
    Calls Try.prog 10 #[.pointer (some ⟨p, 0, none⟩), Tr.key x s, .int .i64 n] w fun e w' => ∃ v, e = .returned (.tuple #[v, Tr.key kx ks]) ∧ G L ((v, M) :: X) w' :=
  (own_sweep' hr hb (by omega) hn0 hn hM h1 h2 (h.out hp)).mono fun e w2 ⟨v, he, h2⟩ => ⟨v, he, G.back hp h.2 hl h2.toR⟩
theorem g_rsweep {v : Value} {room : Int} (hp : L.Perm (RR v E :: L2)) (hE : E.length ≤ 60) {x s n kx ks : Int} (h : G L X w) (hM : sweepL E (x, s) n.toNat = M) (h1 : (M.getLast?.map (·.1.1)).getD x = kx) (h2 : (M.getLast?.map (·.1.2)).getD s = ks) (hl : M.length ≤ 60000) :
    Calls Try.prog 15 #[.agg #[v, .int .i64 room], .agg #[.int .u64 x, .int .u64 s], .int .i64 n] w fun e w' => ∃ v, e = .returned (.tuple #[v, Tr.key kx ks]) ∧ G L ((v, M) :: X) w' := by
  subst hM h1 h2
  exact (rsweep_any (h.out hp) (by omega) x s n).mono fun e w2 ⟨v, he, h2⟩ => ⟨v, he, G.back hp h.2 hl h2⟩
end
/-- what is gone, one by one -/
def WgI (w : World) (p b10 m : Nat) (E U : List En) (v16 s97 : Value) (wr : World) : Prop :=
  ∃ (j : Nat) (vj : Value), s97 = .int .i64 (j : Int) ∧ j ≤ m ∧ Own (BR b10 vj 60 :: RR vj (E.drop j) :: RR v16 U :: Tree p 60 (E.drop m) :: [Old w]) wr
theorem perm_at {α : Type _} (A : List α) (P : α) (B : List α) : (A ++ P :: B).Perm (P :: (A ++ B)) := List.perm_middle
set_option maxHeartbeats 8000000 in
theorem tells_main (haw : Awake) (v : Value) (N : Nat) (f : Nat → Key) (x s at' n : Int) (hn0 : -9223372036854775808 ≤ n) (hn : n < 9223372036854775808) (w : World) (ho : KOps w v N f) :
    Calls Try.prog 4 #[v, .agg #[.int .u64 x, .int .u64 s], .int .u64 at', .int .i64 n] w fun e w' => e = .returned (.bool true) ∧ Ext w w' := by
  have h0 : Own [BK w.heap.size x s, Old w] (w.alloc (.cells #[.int .u64 x, .int .u64 s] 24)) := Go.Proofs.Ytekdahppacghbab.Own.blkNew (Own.start w) _ _
  have hof := of_ops ho h0 (.tail _ (.head _))
  have hnn := nn_ofP ho.1 (Nat.min_le_left N 60)
  obtain ⟨b4, hb4⟩ : ∃ b, b = w.heap.size := ⟨_, rfl⟩
  rw [← hb4] at hof
  obtain ⟨E, hE⟩ : ∃ E, E = ofP f (min N 60) := ⟨_, rfl⟩
  rw [← hE] at hof hnn
  have HOF := Lib.hid hof
  have HNN := Lib.hid hnn
  have HB4 := Lib.hid hb4
  have HN := Lib.hid (And.intro hn0 hn)
  unfold Awake at haw
  have HAW := Lib.hid haw
  obtain ⟨hs, a, cap, rfl, -, -, -⟩ := ho
  clear hof hnn hE haw hs h0 hb4 hn0 hn
  go_enter Try.func4, Try.ntmps4
  go_wp2_with fail
  with_reducible refine (HOF.out).mono ?_
  rintro e w1 ⟨p, v', rfl, h1⟩
  rw [← HB4.out]
  obtain ⟨hr, hl60⟩ := own_rising h1
  obtain ⟨va0, vc0, rfl⟩ : ∃ va vc, v' = .slice va E.length vc := h1.swap.rowR.slice
  have HR := Lib.hid hr
  obtain ⟨L, hL⟩ : ∃ L, L = E.length := ⟨_, rfl⟩
  rw [← hL] at h1
  have hE60 : E.length ≤ 60 := hl60
  have h2 := Go.Proofs.Ytekdahppacghbab.Own.blkNew h1 #[.slice va0 L vc0, .int .i64 60] 28
  obtain ⟨b10, hb10⟩ : ∃ b, b = w1.heap.size := ⟨_, rfl⟩
  rw [← hb10] at h2
  obtain ⟨k0, k1⟩ := bk_cells (b := b4) (x := x) (s := s) h2 (.tail _ (.tail _ (.tail _ (.head _))))
  obtain ⟨W1, hW1⟩ : ∃ W1, W1 = w1.alloc (.cells #[.slice va0 L vc0, .int .i64 60] 28) := ⟨_, rfl⟩
  rw [← hW1] at h2
  -- the two sweeps
  obtain ⟨M, hM⟩ : ∃ M, sweepL E (x, s) n.toNat = M := ⟨_, rfl⟩
  have hMl : M.length ≤ 60000 := by
    rw [← hM]
    unfold sweepL
    have h8 := List.length_filter_le (fun e : En => lt (x, s) e.1) E
    have h9 := List.length_filter_le (fun e : En => !lt (x, s) e.1) E
    rw [List.length_take, List.length_append]
    unfold above lowL
    omega
  obtain ⟨kx, hkx⟩ : ∃ kx, (M.getLast?.map (·.1.1)).getD x = kx := ⟨_, rfl⟩
  obtain ⟨ks, hks⟩ : ∃ ks, (M.getLast?.map (·.1.2)).getD s = ks := ⟨_, rfl⟩
  have hg1 : G (BR b10 (.slice va0 L vc0) 60 :: Tree p 60 E :: RR (.slice va0 L vc0) E :: BK b4 x s :: [Old w]) [] W1 := ⟨h2, by simp⟩
  have HSW1 := Lib.hid (g_sweep (perm_at [_] _ _) hr HNN.out hE60 HN.out.1 HN.out.2 hg1 hM hkx hks hMl)
  have HSW2 : Hid (∀ b12 X w', G (BK b12 kx ks :: BR b10 (.slice va0 L vc0) 60 :: Tree p 60 E :: RR (.slice va0 L vc0) E :: BK b4 x s :: [Old w]) X w' → Calls Try.prog 15 #[.agg #[.slice va0 L vc0, .int .i64 60], .agg #[.int .u64 x, .int .u64 s], .int .i64 n] w' fun e w2 => ∃ v, e = .returned (.tuple #[v, Tr.key kx ks]) ∧ G (BK b12 kx ks :: BR b10 (.slice va0 L vc0) 60 :: Tree p 60 E :: RR (.slice va0 L vc0) E :: BK b4 x s :: [Old w]) ((v, M) :: X) w2) := Lib.hid fun b12 X w' h' => g_rsweep (perm_at [_, _, _] _ _) hE60 h' hM hkx hks hMl
  have HL := Lib.hid hL
  have HB10 := Lib.hid hb10
  have HW1 := Lib.hid hW1
  have HE60 := Lib.hid hE60
  rw [← hL] at hl60
  rw [← hL]
  clear h1 h2 hg1 hM hMl hkx hks hL hb10 hW1 hr hE60 HOF
  go_wp2_with fail
  rw [← HB10.out, ← HW1.out]
  with_reducible refine (HSW1.out).mono ?_
  rintro e w2 ⟨v5, rfl, h3⟩
  have hB4 : Hid (∀ X L2 w', G (X ++ BK b4 x s :: L2) [] w' → w'.cell? ⟨b4, 0, none⟩ = some (.int .u64 x) ∧ w'.cell? ⟨b4, 1, none⟩ = some (.int .u64 s)) := Lib.hid fun X L2 w' h' => bk_cells h'.1 (by simp)
  have h4 : G (BK w2.heap.size kx ks :: BR b10 (.slice va0 L vc0) 60 :: Tree p 60 E :: RR (.slice va0 L vc0) E :: BK b4 x s :: [Old w]) [(v5, M)] (w2.alloc (.cells #[.int .u64 kx, .int .u64 ks] 24)) :=
    ⟨(Go.Proofs.Ytekdahppacghbab.Own.blkNew h3.1 #[.int .u64 kx, .int .u64 ks] 24).swap, h3.2⟩
  obtain ⟨b12, hb12⟩ : ∃ b, b = w2.heap.size := ⟨_, rfl⟩
  rw [← hb12] at h4
  obtain ⟨k0', k1'⟩ := bk_cells (b := b4) (x := x) (s := s) h4.1 (by simp)
  obtain ⟨r0, r1, -⟩ := br_cells (b := b10) (v := .slice va0 L vc0) (r := 60) h4.1 (by simp)
  obtain ⟨W2, hW2⟩ : ∃ W2, W2 = w2.alloc (.cells #[.int .u64 kx, .int .u64 ks] 24) := ⟨_, rfl⟩
  rw [← hW2] at h4
  have HS2 := Lib.hid (HSW2.out _ _ _ h4)
  have HB12 := Lib.hid hb12
  have HW2 := Lib.hid hW2
  clear h3 h4 k0 k1 hb12 hW2 HSW1 HSW2 HB10 HW1
  go_wp2_with fail
  rw [← HB12.out, ← HW2.out]
  with_reducible refine (HS2.out).mono ?_
  rintro e w3 ⟨v7, rfl, h5⟩
  have h6 : G (BK w3.heap.size kx ks :: BK b12 kx ks :: BR b10 (.slice va0 L vc0) 60 :: Tree p 60 E :: RR (.slice va0 L vc0) E :: BK b4 x s :: [Old w]) [(v7, M), (v5, M)] (w3.alloc (.cells #[.int .u64 kx, .int .u64 ks] 24)) :=
    ⟨(Go.Proofs.Ytekdahppacghbab.Own.blkNew h5.1 #[.int .u64 kx, .int .u64 ks] 24).back3, h5.2⟩
  obtain ⟨b14, hb14⟩ : ∃ b, b = w3.heap.size := ⟨_, rfl⟩
  rw [← hb14] at h6
  obtain ⟨W3, hW3⟩ : ∃ W3, W3 = w3.alloc (.cells #[.int .u64 kx, .int .u64 ks] 24) := ⟨_, rfl⟩
  rw [← hW3] at h6
  obtain ⟨v0, hv0⟩ : ∃ v0, v0 = Value.slice va0 L vc0 := ⟨_, rfl⟩
  obtain ⟨LL, hLL⟩ : ∃ LL, LL = BK b14 kx ks :: BK b12 kx ks :: BR b10 v0 60 :: Tree p 60 E :: RR v0 E :: BK b4 x s :: [Old w] := ⟨_, rfl⟩
  rw [← hv0, ← hLL] at h6
  obtain ⟨LT, hLT⟩ : ∃ LT, LT = BK b14 kx ks :: BK b12 kx ks :: BR b10 v0 60 :: RR v0 E :: BK b4 x s :: [Old w] := ⟨_, rfl⟩
  have hPT : LL.Perm (Tree p 60 E :: LT) := by rw [hLL, hLT]; exact perm_at [_, _, _] _ _
  obtain ⟨LR, hPR⟩ : ∃ LR, LL.Perm (RR v0 E :: LR) := ⟨_, by rw [hLL]; exact perm_at [_, _, _, _] _ _⟩
  have HC : Hid (∀ X w', G LL X w' → w'.cell? ⟨b12, 0, none⟩ = some (.int .u64 kx) ∧ w'.cell? ⟨b12, 1, none⟩ = some (.int .u64 ks) ∧ w'.cell? ⟨b14, 0, none⟩ = some (.int .u64 kx) ∧ w'.cell? ⟨b14, 1, none⟩ = some (.int .u64 ks) ∧ w'.cell? ⟨b4, 0, none⟩ = some (.int .u64 x) ∧ w'.cell? ⟨b4, 1, none⟩ = some (.int .u64 s) ∧ w'.cell? ⟨b10, 0, none⟩ = some v0 ∧ w'.cell? ⟨b10, 1, none⟩ = some (.int .i64 60)) := Lib.hid fun X w' h' => by
    have h7 := h'.rest
    rw [hLL] at h7
    obtain ⟨a0, a1⟩ := bk_cells (b := b12) (x := kx) (s := ks) h7 (by simp)
    obtain ⟨a2, a3⟩ := bk_cells (b := b14) (x := kx) (s := ks) h7 (by simp)
    obtain ⟨a4, a5⟩ := bk_cells (b := b4) (x := x) (s := s) h7 (by simp)
    obtain ⟨a6, a7, -⟩ := br_cells (b := b10) (v := v0) (r := 60) h7 (by simp)
    exact ⟨a0, a1, a2, a3, a4, a5, a6, a7⟩
  obtain ⟨F, hF⟩ : ∃ F, (E.filter fun e => !lt e.1 (x, s)).take n.toNat = F := ⟨_, rfl⟩
  obtain ⟨U, hU⟩ : ∃ U, (uptoL E at').take n.toNat = U := ⟨_, rfl⟩
  have hUp : U <+: E := by rw [← hU]; exact upto_prefix HR.out at' n.toNat
  have hUl : U.length ≤ 60 := by have := hUp.length_le; have := HE60.out; omega
  have HFR : Hid (∀ X w', G LL X w' → Calls Try.prog 11 #[.pointer (some ⟨p, 0, none⟩), .agg #[.int .u64 x, .int .u64 s], .int .i64 n] w' fun e w2 => ∃ v, e = .returned v ∧ G LL ((v, F) :: X) w2) := Lib.hid fun X w' h' => g_from hPT HR.out HE60.out HN.out.2 h' hF
  have HRF : Hid (∀ X w', G LL X w' → Calls Try.prog 17 #[.agg #[v0, .int .i64 60], .agg #[.int .u64 x, .int .u64 s], .int .i64 n] w' fun e w2 => ∃ v, e = .returned v ∧ G LL ((v, F) :: X) w2) := Lib.hid fun X w' h' => g_rfrom hPR HE60.out h' hF
  have HUP : Hid (∀ X w', G LL X w' → Calls Try.prog 12 #[.pointer (some ⟨p, 0, none⟩), .int .u64 at', .int .i64 n] w' fun e w2 => ∃ v, e = .returned v ∧ G LL ((v, U) :: X) w2) := Lib.hid fun X w' h' => g_upto hPT HR.out HNN.out HE60.out HN.out.2 h' hU
  have HRU : Hid (∀ X w', G LL X w' → Calls Try.prog 18 #[.agg #[v0, .int .i64 60], .int .u64 at', .int .i64 n] w' fun e w2 => ∃ v, e = .returned v ∧ G LL ((v, U) :: X) w2) := Lib.hid fun X w' h' => g_rupto hPR HE60.out h' hU
  have HAL : Hid (∀ X w', G LL X w' → Calls Try.prog 19 #[.pointer (some ⟨p, 0, none⟩)] w' fun e w2 => ∃ v, e = .returned v ∧ G LL ((v, E) :: X) w2) := Lib.hid fun X w' h' => g_all hPT HE60.out h'
  have HSA : Hid (∀ X w' a b M, G LL ((a, M) :: (b, M) :: X) w' → Calls Try.prog 16 #[a, b] w' fun e w2 => e = .returned (.bool true) ∧ G LL ((a, M) :: (b, M) :: X) w2) := Lib.hid fun X w' a b M h' => g_sameA h'
  have HSB : Hid (∀ X w' a b M, G LL ((a, M) :: (b, M) :: X) w' → Calls Try.prog 16 #[b, a] w' fun e w2 => e = .returned (.bool true) ∧ G LL ((a, M) :: (b, M) :: X) w2) := Lib.hid fun X w' a b M h' => g_sameB h'
  have HSC : Hid (∀ X w' a, G LL ((a, E) :: X) w' → Calls Try.prog 16 #[a, v0] w' fun e w2 => e = .returned (.bool true) ∧ G LL ((a, E) :: X) w2) := Lib.hid fun X w' a h' => g_sameC hPR h'
  have HTK : Hid (∀ X w', G LL X w' → Calls Try.prog 13 #[.pointer (some ⟨p, 0, none⟩), .int .u64 at', .int .i64 n] w' fun e w2 => ∃ v, e = .returned v ∧ Own (RE v U :: Tree p 60 (E.drop U.length) :: (X.map RL ++ LT)) w2) := Lib.hid fun X w' h' => own_take' HR.out HNN.out (by have := HE60.out; omega) HN.out.2 hU rfl (h'.out hPT)
  obtain ⟨c0, c1, c2, c3, c4, c5, c6, c7⟩ := HC.out _ _ h6
  have hg := h6.step (Ext.refl _).drew
  have HB14 := Lib.hid hb14
  have HW3 := Lib.hid hW3
  have HV0 := Lib.hid hv0
  have HLT := Lib.hid hLT
  have HUP2 := Lib.hid hUp
  have xx : (kx == kx) = true := by simp
  have ss : (ks == ks) = true := by simp
  rw [← hv0]
  clear h5 h6 hb14 hW3 hv0 hLL hLT hPT hPR hF hU hUp HB12 HW2 HS2 k0' k1' r0 r1
  go_upto_region 5 with fail
  rw [← HB14.out, ← HW3.out]
  clear HB14 HW3
  go_cut [82] (fun s82 wx => s82 = .bool false ∧ Own LL wx)
  case first =>
    go_region_held3 (fun w' => w'.cell? ⟨b12, 0, none⟩ = some (.int .u64 kx) ∧ w'.cell? ⟨b12, 1, none⟩ = some (.int .u64 ks) ∧ w'.cell? ⟨b14, 0, none⟩ = some (.int .u64 kx) ∧ w'.cell? ⟨b14, 1, none⟩ = some (.int .u64 ks) ∧ w'.cell? ⟨b4, 0, none⟩ = some (.int .u64 x) ∧ w'.cell? ⟨b4, 1, none⟩ = some (.int .u64 s) ∧ w'.cell? ⟨b10, 0, none⟩ = some v0 ∧ w'.cell? ⟨b10, 1, none⟩ = some (.int .i64 60))
      (first
        | exact ⟨(Ext.refl _).drew.cell c0, (Ext.refl _).drew.cell c1, (Ext.refl _).drew.cell c2, (Ext.refl _).drew.cell c3, (Ext.refl _).drew.cell c4, (Ext.refl _).drew.cell c5, (Ext.refl _).drew.cell c6, (Ext.refl _).drew.cell c7⟩
        | exact HC.out _ _ (by assumption))
      (first
        | (go_at_call 16; (with_reducible refine (HSA.out _ _ _ _ _ (by assumption)).mono ?_); rintro e w6 ⟨rfl, hz⟩)
        | (go_at_call 16; (with_reducible refine (HSB.out _ _ _ _ _ (by assumption)).mono ?_); rintro e w6 ⟨rfl, hz⟩)
        | (go_at_call 16; (with_reducible refine (HSC.out _ _ _ (by assumption)).mono ?_); rintro e w6 ⟨rfl, hz⟩)
        | (go_at_call 11; (with_reducible refine (HFR.out _ _ (by assumption)).mono ?_); rintro e w6 ⟨v9, rfl, hz⟩)
        | (go_at_call 17; (with_reducible refine (HRF.out _ _ (by assumption)).mono ?_); rintro e w6 ⟨v9, rfl, hz⟩)
        | (go_at_call 12; (with_reducible refine (HUP.out _ _ (by assumption)).mono ?_); rintro e w6 ⟨v9, rfl, hz⟩)
        | (go_at_call 18; (with_reducible refine (HRU.out _ _ (by assumption)).mono ?_); rintro e w6 ⟨v9, rfl, hz⟩)
        | (go_at_call 19; (with_reducible refine (HAL.out _ _ (by assumption)).mono ?_); rintro e w6 ⟨v9, rfl, hz⟩))
    all_goals (go_wp2_with fail; go_meet; exact ⟨rfl, G.rest (by assumption)⟩)
  case rest =>
    obtain ⟨rfl, h7⟩ := hcut
    clear c0 c1 c2 c3 c4 c5 c6 c7 hg HFR HRF HUP HSA HSB HSC HAL
    have hg7 : G LL [] wc := ⟨h7, by simp⟩
    obtain ⟨-, -, -, -, c4, c5, c6, c7⟩ := HC.out _ _ hg7
    have HRU1 := Lib.hid (HRU.out _ _ hg7)
    clear h7 hg7 HRU HC
    go_wp2_with fail
    (with_reducible refine (HRU1.out).mono ?_)
    rintro e w5 ⟨v16, rfl, h8⟩
    obtain ⟨a16, c16, rfl⟩ : ∃ a c, v16 = .slice a U.length c := (h8.row (.head _)).slice
    have HT1 := Lib.hid (HTK.out _ _ h8)
    obtain ⟨m, hm⟩ : ∃ m, m = U.length := ⟨_, rfl⟩
    rw [← hm] at hUl HT1 ⊢
    have HM := Lib.hid hm
    clear h8 HRU1 HTK c4 c5 c6 c7 hm
    go_wp2_with fail
    (with_reducible refine (HT1.out).mono ?_)
    rintro e w6 ⟨v91, rfl, h9⟩
    replace h9 : Own (RE v91 U :: Tree p 60 (E.drop m) :: RR (.slice a16 m c16) U :: LT) w6 := h9
    have hs9 := same_true (ownsR_of h9.row) (h9.third.rowR) (by rw [← HM.out]; omega)
    have HS9 := Lib.hid hs9
    have H9 : Hid (∀ w', Ext w6 w' → Own (BR b10 v0 60 :: RR v0 (E.drop 0) :: RR (.slice a16 m c16) U :: Tree p 60 (E.drop m) :: [Old w]) w') := Lib.hid fun w' hx => by
      have h10 := h9.step hx
      rw [HLT.out] at h10
      have h11 : Own ([RE v91 U, BK b14 kx ks, BK b12 kx ks, BK b4 x s] ++ (BR b10 v0 60 :: RR v0 E :: RR (.slice a16 m c16) U :: Tree p 60 (E.drop m) :: [Old w])) w' := h10.perm (by
        classical
        rw [List.perm_iff_count]
        intro a
        simp only [List.count_append, List.count_cons, List.count_nil]
        omega)
      exact Own.dropL h11
    clear h9 hs9 HT1
    go_wp2_with fail
    (with_reducible refine (HS9.out).mono ?_)
    rintro e w7 ⟨rfl, hx7⟩
    have H10 := Lib.hid (H9.out w7 hx7)
    clear hx7 HS9 H9
    go_wp2_with fail
    go_loopw [97] (fun s97 wr => WgI w p b10 m E U (.slice a16 m c16) s97 wr) (fun s97 _ => m - (intOf s97).toNat)
    case atStart => exact ⟨0, v0, rfl, Nat.zero_le _, H10.out⟩
    case round =>
      clear H10
      obtain ⟨j, vj, rfl, hj, h⟩ := hrel
      by_cases hlt : j < m
      · have hltI : (j : Int) < (m : Int) := by omega
        obtain ⟨e, he⟩ : ∃ e, U[j]? = some e := ⟨_, List.getElem?_eq_getElem (by rw [← HM.out]; exact hlt)⟩
        have heE : E[j]? = some e := by
          obtain ⟨t, ht⟩ := HUP2.out
          rw [← ht, List.getElem?_append_left (by rw [← HM.out]; exact hlt)]
          exact he
        have hdj : E.drop j = e :: E.drop (j + 1) := by
          obtain ⟨h1, rfl⟩ := List.getElem?_eq_some_iff.1 heE
          exact List.drop_eq_getElem_cons h1
        have hrj : RisingE (e :: E.drop (j + 1)) := by
          rw [← hdj]
          unfold RisingE
          exact List.Pairwise.sublist (List.drop_sublist _ _) HR.out
        have hdel := del_head hrj
        obtain ⟨g, cap, ev, -, -⟩ := h.third.rowR.form (n := U.length) (by rw [← HM.out]; omega)
        rw [← HM.out] at ev
        injection ev with e1 _ e3
        subst e1 e3
        have hr16 := h.third.rowR
        rw [← HM.out] at hr16
        obtain ⟨q0, q1, q2⟩ := rowEnt hr16 he
        obtain ⟨aj, cj, rfl⟩ := h.swap.rowR.slice
        obtain ⟨q, hq⟩ : ∃ q, q = (E.drop j).length := ⟨_, rfl⟩
        have hq60 : q ≤ 60 := by rw [hq, List.length_drop]; have := HE60.out; omega
        obtain ⟨⟨ea, es⟩, ev⟩ := e
        simp only at q0 q1 q2 hdel
        rw [← hq] at h
        have h12 := Go.Proofs.Ytekdahppacghbab.Own.blkNew h #[.int .u64 ea, .int .u64 es, .int .i64 ev] 49
        obtain ⟨b18, hb18⟩ : ∃ b, b = wr.heap.size := ⟨_, rfl⟩
        rw [← hb18] at h12
        obtain ⟨wA, hwA⟩ : ∃ wA, wA = wr.alloc (.cells #[.int .u64 ea, .int .u64 es, .int .i64 ev] 49) := ⟨_, rfl⟩
        have hbb := Go.Proofs.Ytekdahppacghbab.Own.blk h12 (.head _)
        have y0 : (wr.alloc (.cells #[.int .u64 ea, .int .u64 es, .int .i64 ev] 49)).cell? ⟨b18, 0, none⟩ = some (.int .u64 ea) := by simp [World.cell?, hbb]
        have y1 : (wr.alloc (.cells #[.int .u64 ea, .int .u64 es, .int .i64 ev] 49)).cell? ⟨b18, 1, none⟩ = some (.int .u64 es) := by simp [World.cell?, hbb]
        obtain ⟨z0, z1, -⟩ := br_cells (b := b10) (v := .slice aj q cj) (r := 60) h12 (.tail _ (.head _))
        rw [← hwA] at h12
        have hdr := rdrop_any (room := 60) (a := ea) (s := es) (n := q) (l := [Blk b18 #[.int .u64 ea, .int .u64 es, .int .i64 ev] 49, BR b10 (.slice aj q cj) 60, RR (.slice (some ⟨g, 0, none⟩) m c16) U, Tree p 60 (E.drop m), Old w]) (w := wA) (v := .slice aj q cj) (E := E.drop j) (by
          have := h12.third
          unfold RR at this
          rw [← hq] at this
          exact this) hq.symm (by omega) (by rw [hdj]; exact hrj)
        rw [hdj, hdel] at hdr
        have HDR : Hid (Calls Try.prog 20 #[.agg #[.slice aj q cj, .int .i64 60], .agg #[.int .u64 ea, .int .u64 es]] wA fun e w' => ∃ v' u b, e = .returned (.tuple #[.agg #[v', .int .i64 60], u, b]) ∧ Own (RR v' (E.drop (j + 1)) :: [Blk b18 #[.int .u64 ea, .int .u64 es, .int .i64 ev] 49, BR b10 (.slice aj q cj) 60, RR (.slice (some ⟨g, 0, none⟩) m c16) U, Tree p 60 (E.drop m), Old w]) w') :=
          Lib.hid (hdr.mono fun e w2 ⟨v', he, h2⟩ => ⟨v', _, _, he, h2⟩)
        have HB18 := Lib.hid hb18
        have HWA := Lib.hid hwA
        clear h h12 hdr hq hr16 he heE hdj hrj hdel hb18 hwA hbb
        go_wp2_with fail
        rw [← HB18.out, ← HWA.out]
        (with_reducible refine (HDR.out).mono ?_)
        rintro e w8 ⟨v', uu, bb, rfl, h13⟩
        obtain ⟨av, cv, rfl⟩ := h13.rowR.slice
        obtain ⟨q', hq'⟩ : ∃ q', q' = (E.drop (j + 1)).length := ⟨_, rfl⟩
        rw [← hq'] at h13
        obtain ⟨z0, z1, f0, f1⟩ := br_cells (b := b10) (v := .slice aj q cj) (r := 60) h13 (.tail _ (.tail _ (.head _)))
        obtain ⟨w9, e9, h14⟩ := Own.brSet (v' := .slice av q' cv) (r' := 60) h13.third
        have HP : Hid (WgI w p b10 m E U (.slice (some ⟨g, 0, none⟩) m c16) (.int .i64 ((j : Int) + 1)) w9) := Lib.hid ⟨j + 1, .slice av q' cv, by go_num, by omega, h14.third.drop⟩
        rw [← hq']
        have E9 := Lib.hid e9
        clear h13 h14 e9 hq' HDR q0 q1 q2
        go_wp2_with fail
        rw [E9.out]
        exact ⟨HP.out, by simp [intOf]; omega⟩
      · obtain rfl : j = m := by omega
        obtain ⟨aj, cj, rfl⟩ := h.swap.rowR.slice
        obtain ⟨vj, hvj⟩ : ∃ vj, vj = Value.slice aj (E.drop j).length cj := ⟨_, rfl⟩
        rw [← hvj] at h
        obtain ⟨L6, hL6⟩ : ∃ L6, L6 = BR b10 vj 60 :: RR vj (E.drop j) :: RR (.slice a16 j c16) U :: Tree p 60 (E.drop j) :: [Old w] := ⟨_, rfl⟩
        have hPT : L6.Perm (Tree p 60 (E.drop j) :: [BR b10 vj 60, RR vj (E.drop j), RR (.slice a16 j c16) U, Old w]) := by rw [hL6]; exact perm_at [_, _, _] _ _
        have hPR : L6.Perm (RR vj (E.drop j) :: [BR b10 vj 60, RR (.slice a16 j c16) U, Tree p 60 (E.drop j), Old w]) := by rw [hL6]; exact perm_at [_] _ _
        have hE6 : (E.drop j).length ≤ 60 := by rw [List.length_drop]; have := HE60.out; omega
        rw [← hL6] at h
        have hg0 : G L6 [] wr := ⟨h, by simp⟩
        have HC : Hid (∀ X w', G L6 X w' → w'.cell? ⟨b10, 0, none⟩ = some vj) := Lib.hid fun X w' h' => by
          have h7 := h'.rest
          rw [hL6] at h7
          exact (br_cells (b := b10) (v := vj) (r := 60) h7 (.head _)).1
        have HAL : Hid (∀ X w', G L6 X w' → Calls Try.prog 19 #[.pointer (some ⟨p, 0, none⟩)] w' fun e w2 => ∃ v, e = .returned v ∧ G L6 ((v, E.drop j) :: X) w2) := Lib.hid fun X w' h' => g_all hPT hE6 h'
        have HSC : Hid (∀ X w' a, G L6 ((a, E.drop j) :: X) w' → Calls Try.prog 16 #[a, vj] w' fun e w2 => e = .returned (.bool true) ∧ G L6 ((a, E.drop j) :: X) w2) := Lib.hid fun X w' a h' => g_sameC hPR h'
        have HA6 : Hid (∀ X w', G L6 X w' → Calls Try.prog 14 #[] w' fun e w2 => e = .returned (.bool true) ∧ G L6 X w2) := Lib.hid fun X w' h' => (HAW.out _ _ h'.1).mono fun e w2 ⟨he, h2⟩ => ⟨he, h2, h'.2⟩
        have HOLD : Hid (∀ X w', G L6 X w' → Ext w w') := Lib.hid fun X w' h' => by
          have h7 := h'.rest
          rw [hL6] at h7
          exact h7.ext (by simp)
        have r0 := HC.out _ _ hg0
        have hg := hg0.step (Ext.refl _).drew
        clear h hg0 hL6 hPT hPR hE6 hvj hlt hj
        go_upto_region 15 with fail
        go_region_held3 (fun w' => w'.cell? ⟨b10, 0, none⟩ = some vj)
          (first
            | exact (Ext.refl _).drew.cell r0
            | exact HC.out _ _ (by assumption))
          (first
            | (go_at_call 16; (with_reducible refine (HSC.out _ _ _ (by assumption)).mono ?_); rintro e w6 ⟨rfl, hz⟩)
            | (go_at_call 19; (with_reducible refine (HAL.out _ _ (by assumption)).mono ?_); rintro e w6 ⟨v9, rfl, hz⟩)
            | (go_at_call 14; (with_reducible refine (HA6.out _ _ (by assumption)).mono ?_); rintro e w6 ⟨rfl, hz⟩))
        all_goals (go_wp2_with fail; go_ret; exact ⟨rfl, HOLD.out _ _ (by assumption)⟩)
theorem tells_row (v : Value) (x s at' n : Int) (y : Nat × (Nat → Key)) (wx : (Lit.int .u64 x).wf = true) (ws : (Lit.int .u64 s).wf = true) (wa : (Lit.int .u64 at').wf = true) (wn : (Lit.int .i64 n).wf = true) (w : World) (ho : KOps2 w v y) :
    Calls Try.prog 4 #[v, .agg #[.int .u64 x, .int .u64 s], .int .u64 at', .int .i64 n] w fun e w' => e = .returned (.bool true) ∧ Ext w w' :=
  tells_main awake_ok v y.1 y.2 x s at' n (by have := i64_bd wn; omega) (by have := i64_bd wn; omega) w ho
end Go.Proofs.Ytekdahppacghbab.Wk
