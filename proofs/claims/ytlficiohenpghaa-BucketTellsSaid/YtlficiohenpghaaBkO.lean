/- DERIVED. Layer 13 (bucket): the document's buckets: contract of Drop. -/
import Derived.Test.YtlficiohenpghaaBkN
set_option linter.unusedVariables false
set_option linter.unusedSimpArgs false
set_option maxRecDepth 100000
namespace Go.Proofs.Ytlficiohenpghaa.Bk
open Go.RowKit Go.Proofs.Ytlficiohenpghaa Go.Proofs.Ytlficiohenpghaa.TreeP Go.Proofs.Ytlficiohenpghaa.Tr

theorem blk_mem2 : ∀ {l : List HP} {w : World} {U : Nat → Prop} {b : Nat} {cs : Array Value} {t : TypeId}, OwnIn l w U → Go.Proofs.Ytlficiohenpghaa.Blk b cs t ∈ l → U b
  | [], _, _, _, _, _, _, hm => by simp at hm
  | P :: l, w, U, b, cs, t, ⟨s, V, hP, hl, _, hU⟩, hm => by
    cases hm with
    | head => exact (hU b).2 (.inl ((hP.2 b).2 rfl))
    | tail _ hm => exact (hU b).2 (.inr (blk_mem2 hl hm))
theorem own_ne2 {b b' : Nat} {cs cs' : Array Value} {t t' : TypeId} {l : List HP} {w : World} (h : Own (Go.Proofs.Ytlficiohenpghaa.Blk b cs t :: l) w) (hm : Go.Proofs.Ytlficiohenpghaa.Blk b' cs' t' ∈ l) : b ≠ b' := by
  obtain ⟨U, s, V, hP, hl, hd, hU⟩ := h
  intro e
  exact hd b ((hP.2 b).2 rfl) (e ▸ blk_mem2 hl hm)
abbrev RO (v : Value) (F : List En) : HP := Row 32 3 v F.length (Tr.ents F)
theorem Own.bsField {l : List HP} {w : World} {b bits room : Nat} {v v' : Value} (h : Own (BS b bits room v :: l) w) :
    ∃ w1, w.setCell ⟨b, 2, none⟩ v' = w1 ∧ Own (BS b bits room v' :: l) w1 := ⟨_, rfl, Go.Proofs.Ytlficiohenpghaa.Own.blkSet (o := 2) h v'⟩
theorem Own.bsSet {l : List HP} {w : World} {b bits room bits' room' : Nat} {v v' : Value} (h : Own (BS b bits room v :: l) w) :
    ∃ w1, ((w.setCell ⟨b, 0, none⟩ (.int .i64 (bits' : Int))).setCell ⟨b, 1, none⟩ (.int .i64 (room' : Int))).setCell ⟨b, 2, none⟩ v' = w1 ∧ Own (BS b bits' room' v' :: l) w1 :=
  ⟨_, rfl, Go.Proofs.Ytlficiohenpghaa.Own.blkSet (o := 2) (Go.Proofs.Ytlficiohenpghaa.Own.blkSet (o := 1) (Go.Proofs.Ytlficiohenpghaa.Own.blkSet (o := 0) h (.int .i64 (bits' : Int))) (.int .i64 (room' : Int))) v'⟩
/-- a row that has grown by one entry -/
theorem Own.roApp {F : List En} {e : En} {v v1 : Value} {l : List HP} {W w1 : World} (h : Own (RO v F :: l) W) (hr : w1.ownsRow 0 32 3 v1 (F.length + 1) (Tr.ents F ++ [.int .u64 e.1.1, .int .u64 e.1.2, .int .i64 e.2])) (hg : W.grownBy w1 v.ownBlock) (hm : Moved W v v1) : Own (RO v1 (F ++ [e]) :: l) w1 := by
  have e1 : Tr.ents (F ++ [e]) = Tr.ents F ++ [.int .u64 e.1.1, .int .u64 e.1.2, .int .i64 e.2] := by rw [ents_append]; rfl
  rw [← e1] at hr
  have := h.rowApp hr hg hm
  unfold RO
  rw [List.length_append]
  exact this
def dF (R : List En) (s : Int) (k : Nat) : List En := del (R.take k) (s, 0)
theorem dF_succ {room : Nat} {R : List En} (h : RK room R) {s : Int} {k : Nat} {e : En} (he : R[k]? = some e) : dF R s (k + 1) = if e.1.1 = s then dF R s k else dF R s k ++ [e] := by
  have hz := (h.key e (List.mem_of_getElem? he)).1
  unfold dF del
  rw [List.take_add_one, he, List.filter_append]
  by_cases hs : e.1.1 = s
  · have : e.1 = (s, 0) := Prod.ext hs hz
    simp [hs, this]
  · have : e.1 ≠ (s, 0) := fun hh => hs (congrArg Prod.fst hh)
    simp [hs, this]
def RdI (l : List HP) (b c n bits room : Nat) (v : Value) (R : List En) (s : Int) (s9 vi : Value) (wr : World) : Prop :=
  ∃ k : Nat, vi = .int .i64 (k : Int) ∧ k ≤ n ∧ Own (RO s9 (dF R s k) :: RR v n R :: BS c 0 0 (.slice none 0 0) :: BS b bits room v :: l) wr
set_option maxHeartbeats 1000000 in
theorem rdrop_any {v : Value} {n bits room r : Nat} {R : List En} {l : List HP} {w : World} (h : Own (RR v n R :: l) w) (hR : R.length = n) (bn : n ≤ 60000) (hk : RK r R) (s : Int) :
    Calls Try.prog 22 #[rs bits room v, .int .u64 s] w fun e w' => ∃ v', e = .returned (.tuple #[rs bits room v', .int .i64 ((Tr.look R (s, 0)).getD 0), .bool (Tr.look R (s, 0)).isSome]) ∧ Own (RR v' (del R (s, 0)).length (del R (s, 0)) :: l) w' := by
  obtain ⟨va, vc, rfl⟩ := h.rowR.slice
  have h1 : Own (BS w.heap.size bits room (.slice va n vc) :: RR (.slice va n vc) n R :: l) (w.alloc (.cells #[.int .i64 (bits : Int), .int .i64 (room : Int), .slice va n vc] 51)) := Go.Proofs.Ytlficiohenpghaa.Own.blkNew h _ _
  have h2 : Own (BS (w.heap.size + 1) 0 0 (.slice none 0 0) :: BS w.heap.size bits room (.slice va n vc) :: RR (.slice va n vc) n R :: l) ((w.alloc (.cells #[.int .i64 (bits : Int), .int .i64 (room : Int), .slice va n vc] 51)).alloc (.cells #[.int .i64 0, .int .i64 0, .slice none 0 0] 51)) := by
    have := Go.Proofs.Ytlficiohenpghaa.Own.blkNew h1 #[.int .i64 0, .int .i64 0, .slice none 0 0] 51
    rw [World.size_alloc] at this
    exact this
  obtain ⟨b, hb⟩ : ∃ b, b = w.heap.size := ⟨_, rfl⟩
  rw [← hb] at h2
  have hg := rget_any (bits := bits) (room := room) h2.third hR (by omega) hk s
  obtain ⟨X, hX⟩ : ∃ X, X = (Tr.look R (s, 0)).getD 0 := ⟨_, rfl⟩
  obtain ⟨B, hB⟩ : ∃ B, B = (Tr.look R (s, 0)).isSome := ⟨_, rfl⟩
  rw [← hX, ← hB] at hg ⊢
  have HG := Lib.hid hg
  have HB := Lib.hid hb
  have HK := Lib.hid hk
  have HR := Lib.hid hR
  obtain ⟨R', hR'⟩ : ∃ R', R' = del R (s, 0) := ⟨_, rfl⟩
  rw [← hR']
  have HRR := Lib.hid hR'
  clear h h1 h2 hg hb hk hX hB hR hR'
  go_enter Try.func22, Try.ntmps22
  go_wp2_with fail
  refine (HG.out).mono ?_
  rintro e w2 ⟨rfl, h2⟩
  rw [← HB.out]
  have h3 : Own (RO (.slice none 0 0) (dF R s 0) :: RR (.slice va n vc) n R :: BS (b + 1) 0 0 (.slice none 0 0) :: BS b bits room (.slice va n vc) :: l) w2 := h2.nilRow 32 3
  obtain ⟨c0, c1, c2, -, -, -⟩ := bs_cells h2 (b := b) (bits := bits) (room := room) (v := .slice va n vc) (by simp)
  have H3 := Lib.hid h3
  clear h2 h3 HG HB
  go_wp2_with fail
  go_loopw [9, 10] (fun s9 vi wr => RdI l b (b + 1) n bits room (.slice va n vc) R s s9 vi wr) (fun _ vi _ => n - (intOf vi).toNat)
  case atStart => exact ⟨0, rfl, Nat.zero_le _, H3.out⟩
  case round =>
    clear H3 c0 c1 c2
    obtain ⟨k, rfl, hk, h⟩ := hrel
    obtain ⟨c0, c1, c2, z0, z1, z2⟩ := bs_cells h (b := b) (bits := bits) (room := room) (v := .slice va n vc) (by simp)
    by_cases hlt : k < n
    · have hltI : (k : Int) < (n : Int) := by omega
      obtain ⟨e, he⟩ : ∃ e, R[k]? = some e := ⟨_, List.getElem?_eq_getElem (by rw [HR.out]; exact hlt)⟩
      obtain ⟨g, rfl, gc, r0, r1, r2⟩ := rentry h.swap hlt he
      have hs2 := dF_succ HK.out (s := s) he
      by_cases hs : e.1.1 = s
      · rw [if_pos hs] at hs2
        have HX : Hid (RdI l b (b + 1) n bits room (.slice (some ⟨g, 0, none⟩) n vc) R s u9 (.int .i64 ((k : Int) + 1)) wr) := Lib.hid ⟨k + 1, by go_num, by omega, by rw [hs2]; exact h⟩
        have hne : (e.1.1 != s) = false := by simp [hs]
        clear h he hs2 hs
        go_wp2_with fail
        exact ⟨HX.out, by simp [intOf]; omega⟩
      · rw [if_neg hs] at hs2
        have hne : (e.1.1 != s) = true := by simp [hs]
        obtain ⟨M, hM⟩ : ∃ M, M = (dF R s k).length := ⟨_, rfl⟩
        have hMk : M ≤ k := by rw [hM]; unfold dF del; exact Nat.le_trans (List.length_filter_le _ _) (by rw [List.length_take]; omega)
        obtain ⟨va9, vc9, rfl⟩ := own_slice h.row
        rw [← hM]
        have H := Lib.hid h
        have HS2 := Lib.hid hs2
        have HM := Lib.hid hM
        clear h he hs2 hs hM
        go_wp2_with (at_builtin; refine app_own (W := wr) rfl _ _ _ _ _ 3 24 rfl Try.underlying26 infoEntry rfl (by omega) (by omega) (.slice va9 M vc9) M (Tr.ents (dF R s k)) [.int .u64 e.1.1, .int .u64 e.1.2, .int .i64 e.2] rfl _ (by simp) rfl rfl (by simp [Value.oneCell']) (by rw [HM.out]; exact H.out.row) (by omega) ?_)
        intro v1 w3 hown hgrow hmv
        rw [HM.out] at hown hgrow hmv
        have h3 := Own.roApp H.out hown hgrow hmv
        rw [← HS2.out] at h3
        have HX : Hid (RdI l b (b + 1) n bits room (.slice (some ⟨g, 0, none⟩) n vc) R s v1 (.int .i64 ((k : Int) + 1)) w3) := Lib.hid ⟨k + 1, by go_num, by omega, h3⟩
        clear h3 hown hgrow hmv H
        go_wp2_with fail
        exact ⟨HX.out, by simp [intOf]; omega⟩
    · obtain rfl : k = n := by omega
      have hd : dF R s k = R' := by unfold dF; rw [List.take_of_length_le (by rw [HR.out]; exact Nat.le_refl _), HRR.out]
      rw [hd] at h
      obtain ⟨va9, vc9, rfl⟩ := own_slice h.row
      obtain ⟨w3, e3, h3⟩ := Own.bsField (v' := .slice va9 R'.length vc9) h.fourth
      obtain ⟨w4, e4, h4⟩ := Own.bsSet (bits' := bits) (room' := room) (v' := .slice va9 R'.length vc9) h3.fourth
      obtain ⟨x0, x1, x2, -, -, -⟩ := bs_cells h3 (.head _)
      obtain ⟨y0, y1, y2, f0, f1, f2⟩ := bs_cells (b := b + 1) (bits := 0) (room := 0) (v := .slice none 0 0) h3 (.tail _ (.tail _ (.tail _ (.head _))))
      obtain ⟨q0, q1, q2, -, -, -⟩ := bs_cells h4 (.head _)
      have hn2 := own_ne2 h3 (.tail _ (.tail _ (.head _)))
      have H4 := Lib.hid h4
      clear h h3 h4 hd hlt hk
      go_wp2_with fail
      exact bodyPost_ret (v := .tuple #[rs bits room (.slice va9 R'.length vc9), .int .i64 X, .bool B]) (by simp [results, Try.results22, go_sem, q0, q1, q2]) rfl ⟨_, rfl, H4.out.drop.second.toR.swap.drop.swap.drop⟩
end Go.Proofs.Ytlficiohenpghaa.Bk
