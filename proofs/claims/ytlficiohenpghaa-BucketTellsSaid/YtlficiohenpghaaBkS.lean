/- DERIVED. Layer 13 (bucket): the document's buckets: contract of Put. -/
import Derived.Test.YtlficiohenpghaaBkO
set_option linter.unusedVariables false
set_option linter.unusedSimpArgs false
set_option maxRecDepth 100000
namespace Go.Proofs.Ytlficiohenpghaa.Bk
open Go.RowKit Go.Proofs.Ytlficiohenpghaa Go.Proofs.Ytlficiohenpghaa.TreeP Go.Proofs.Ytlficiohenpghaa.Tr

def pO (A B : List En) (c : En) (k : Nat) : List En := if k ≤ A.length then A.take k else A ++ c :: B.take (k - A.length)
theorem pO_zero (A B : List En) (c : En) : pO A B c 0 = [] := by simp [pO]
theorem pO_lt {A B : List En} {c e : En} {k : Nat} (h : k < A.length) (he : (A ++ B)[k]? = some e) : pO A B c (k + 1) = pO A B c k ++ [e] ∧ e ∈ A := by
  rw [List.getElem?_append_left h] at he
  unfold pO
  rw [if_pos (by omega), if_pos (by omega), List.take_add_one, he]
  exact ⟨rfl, List.mem_of_getElem? he⟩
theorem pO_at {A B : List En} {c e : En} {k : Nat} (h : k = A.length) (he : (A ++ B)[k]? = some e) : pO A B c (k + 1) = (pO A B c k ++ [c]) ++ [e] ∧ e ∈ B := by
  subst h
  rw [List.getElem?_append_right (Nat.le_refl _), Nat.sub_self] at he
  unfold pO
  rw [if_neg (by omega), if_pos (by omega), List.take_of_length_le (Nat.le_refl _), show A.length + 1 - A.length = 0 + 1 by omega, List.take_add_one, he]
  exact ⟨by simp, List.mem_of_getElem? he⟩
theorem pO_gt {A B : List En} {c e : En} {k : Nat} (h : A.length < k) (he : (A ++ B)[k]? = some e) : pO A B c (k + 1) = pO A B c k ++ [e] := by
  rw [List.getElem?_append_right (by omega)] at he
  unfold pO
  rw [if_neg (by omega), if_neg (by omega), show k + 1 - A.length = (k - A.length) + 1 by omega, List.take_add_one, he]
  simp
theorem pO_end {A B : List En} (c : En) (hB : B ≠ []) : pO A B c (A ++ B).length = A ++ c :: B := by
  have : 0 < B.length := List.length_pos_iff.2 hB
  unfold pO
  rw [List.length_append, if_neg (by omega), List.take_of_length_le (by omega)]
theorem pO_nil {A : List En} (c : En) : pO A [] c (A ++ []).length ++ [c] = A ++ c :: [] := by
  unfold pO
  rw [List.append_nil, if_pos (Nat.le_refl _), List.take_of_length_le (Nat.le_refl _)]
theorem pO_len (A B : List En) (c : En) (k : Nat) : (pO A B c k).length ≤ k + 1 := by
  unfold pO
  split
  · rw [List.length_take]; omega
  · simp only [List.length_append, List.length_cons, List.length_take]; omega
def RpI (l : List HP) (b c n bits room : Nat) (v : Value) (R A B : List En) (x : En) (s10 s11 vi : Value) (wr : World) : Prop :=
  ∃ k : Nat, vi = .int .i64 (k : Int) ∧ k ≤ n ∧ s11 = .bool (decide (A.length < k)) ∧ Own (RO s10 (pO A B x k) :: RR v n R :: BS c 0 0 (.slice none 0 0) :: BS b bits room v :: l) wr
set_option maxHeartbeats 1000000 in
theorem rput_any {v : Value} {n bits room r : Nat} {R : List En} {l : List HP} {w : World} (h : Own (RR v n R :: l) w) (hR : R.length = n) (bn : n ≤ 60000) (hk : RK r R) (hroom : n ≤ room) (s x : Int) :
    Calls Try.prog 21 #[rs bits room v, .int .u64 s, .int .i64 x] w fun e w' => ∃ v', e = .returned (.tuple #[rs bits room v', .int .i64 (putE room R (s, 0))]) ∧ Own (RR v' (putT room R (s, 0) x).length (putT room R (s, 0) x) :: l) w' := by
  obtain ⟨va, vc, rfl⟩ := h.rowR.slice
  have h1 : Own (BS w.heap.size bits room (.slice va n vc) :: RR (.slice va n vc) n R :: l) (w.alloc (.cells #[.int .i64 (bits : Int), .int .i64 (room : Int), .slice va n vc] 51)) := Go.Proofs.Ytlficiohenpghaa.Own.blkNew h _ _
  have h2 : Own (BS (w.heap.size + 1) 0 0 (.slice none 0 0) :: BS w.heap.size bits room (.slice va n vc) :: RR (.slice va n vc) n R :: l) ((w.alloc (.cells #[.int .i64 (bits : Int), .int .i64 (room : Int), .slice va n vc] 51)).alloc (.cells #[.int .i64 0, .int .i64 0, .slice none 0 0] 51)) := by
    have := Go.Proofs.Ytlficiohenpghaa.Own.blkNew h1 #[.int .i64 0, .int .i64 0, .slice none 0 0] 51
    rw [World.size_alloc] at this
    exact this
  obtain ⟨b, hb⟩ : ∃ b, b = w.heap.size := ⟨_, rfl⟩
  rw [← hb] at h2
  have hg := rget_any (bits := bits) (room := room) h2.third hR (by omega) hk s
  obtain ⟨O, hO⟩ : ∃ O, O = Tr.look R (s, 0) := ⟨_, rfl⟩
  rw [← hO] at hg
  cases O with
  | some X =>
    have hf : putE room R (s, 0) = 60 := by unfold putE; rw [← hO]; rfl
    have hp : putT room R (s, 0) x = R := by unfold putT; rw [← hO]; rfl
    rw [hf, hp, hR]
    simp only [Option.getD_some, Option.isSome_some] at hg
    have HG := Lib.hid hg
    have HB := Lib.hid hb
    clear h h1 h2 hg hb hk hO hR hf hp
    go_enter Try.func21, Try.ntmps21
    go_wp2_with fail
    refine (HG.out).mono ?_
    rintro e w2 ⟨rfl, h2⟩
    rw [← HB.out]
    obtain ⟨c0, c1, c2, -, -, -⟩ := bs_cells h2 (.tail _ (.tail _ (.head _)))
    obtain ⟨y0, y1, y2, f0, f1, f2⟩ := bs_cells (b := b + 1) (bits := 0) (room := 0) (v := .slice none 0 0) h2 (.tail _ (.head _))
    obtain ⟨w4, e4, h4⟩ := Own.bsSet (bits' := bits) (room' := room) (v' := .slice va n vc) h2.swap
    obtain ⟨q0, q1, q2, -, -, -⟩ := bs_cells h4 (.head _)
    have H4 := Lib.hid h4
    clear h2 h4 HG HB
    go_wp2_with fail
    exact bodyPost_ret (v := .tuple #[rs bits room (.slice va n vc), .int .i64 60]) (by simp [results, Try.results21, go_sem, q0, q1, q2]) rfl ⟨_, rfl, H4.out.drop.swap.drop⟩
  | none =>
    simp only [Option.getD_none, Option.isSome_none] at hg
    by_cases hfull : n = room
    · have hf : putE room R (s, 0) = 4 := by unfold putE; rw [← hO, if_neg (by simp), if_pos (by rw [hR]; exact hfull)]
      have hp : putT room R (s, 0) x = R := by unfold putT; rw [← hO, if_neg (by simp), if_pos (by rw [hR]; exact hfull)]
      rw [hf, hp, hR]
      subst hfull
      have HG := Lib.hid hg
      have HB := Lib.hid hb
      clear h h1 h2 hg hb hk hO hR hf hp
      go_enter Try.func21, Try.ntmps21
      go_wp2_with fail
      refine (HG.out).mono ?_
      rintro e w2 ⟨rfl, h2⟩
      rw [← HB.out]
      obtain ⟨c0, c1, c2, -, -, -⟩ := bs_cells h2 (.tail _ (.tail _ (.head _)))
      obtain ⟨y0, y1, y2, f0, f1, f2⟩ := bs_cells (b := b + 1) (bits := 0) (room := 0) (v := .slice none 0 0) h2 (.tail _ (.head _))
      obtain ⟨w4, e4, h4⟩ := Own.bsSet (bits' := bits) (room' := n) (v' := .slice va n vc) h2.swap
      obtain ⟨q0, q1, q2, -, -, -⟩ := bs_cells h4 (.head _)
      have H4 := Lib.hid h4
      clear h2 h4 HG HB
      go_wp2_with fail
      exact bodyPost_ret (v := .tuple #[rs bits n (.slice va n vc), .int .i64 4]) (by simp [results, Try.results21, go_sem, q0, q1, q2]) rfl ⟨_, rfl, H4.out.drop.swap.drop⟩
    · have hlt : n < room := by omega
      have hf : putE room R (s, 0) = 0 := by unfold putE; rw [← hO, if_neg (by simp), if_neg (by rw [hR]; exact hfull)]
      have hp : putT room R (s, 0) x = ins R (s, 0) x := by unfold putT; rw [← hO, if_neg (by simp), if_neg (by rw [hR]; exact hfull)]
      rw [hf, hp]
      obtain ⟨A, B, eR, -, hA, hB⟩ : ∃ A B, R = A ++ B ∧ plc R (s, 0) = A.length ∧ (∀ e ∈ A, lt e.1 (s, 0) = true) ∧ (∀ e ∈ B, lt (s, 0) e.1 = true) := by
        rcases parts hk.rise (s, 0) with ⟨A, u, B, e1, _, _, _⟩ | h
        · exfalso
          have h' := hk.rise
          rw [e1] at h' hO
          rw [(del_parts h').2] at hO
          cases hO
        · exact h
      have hi : ins R (s, 0) x = A ++ ((s, 0), x) :: B := by rw [eR]; exact ins_parts hA hB
      have hil : (A ++ ((s, 0), x) :: B).length = n + 1 := by
        have := congrArg List.length eR
        simp at this ⊢
        omega
      rw [hi, hil]
      have hA' : ∀ e ∈ A, e.1.1 < s := fun e he => by
        have h1 := (lt_iff _ _).1 (hA e he)
        have h2 := (hk.key e (by rw [eR]; exact List.mem_append_left _ he)).1
        simp only at h1
        omega
      have hB' : ∀ e ∈ B, s < e.1.1 := fun e he => by
        have h1 := (lt_iff _ _).1 (hB e he)
        have h2 := (hk.key e (by rw [eR]; exact List.mem_append_right _ he)).1
        simp only at h1
        omega
      have hltI : (n : Int) < (room : Int) := by omega
      have HRN : Hid (decide (room ≤ n) = false) := Lib.hid (by simp; omega)
      have HG := Lib.hid hg
      have HB := Lib.hid hb
      have HR := Lib.hid hR
      have HA' := Lib.hid hA'
      have HB' := Lib.hid hB'
      have HER := Lib.hid eR
      clear h h1 h2 hg hb hk hO hR hf hp hA hB hA' hB' hi hil hroom hfull
      go_enter Try.func21, Try.ntmps21
      go_wp2_with fail
      refine (HG.out).mono ?_
      rintro e w2 ⟨rfl, h2⟩
      rw [← HB.out]
      have h3 : Own (RO (.slice none 0 0) (pO A B ((s, 0), x) 0) :: RR (.slice va n vc) n R :: BS (b + 1) 0 0 (.slice none 0 0) :: BS b bits room (.slice va n vc) :: l) w2 := by
        rw [pO_zero]; exact h2.nilRow 32 3
      obtain ⟨c0, c1, c2, -, -, -⟩ := bs_cells h2 (.tail _ (.tail _ (.head _)))
      have H3 := Lib.hid h3
      clear h2 h3 HG HB eR
      go_wp2_with fail
      rw [HRN.out]
      go_loopw [10, 11, 12] (fun s10 s11 vi wr => RpI l b (b + 1) n bits room (.slice va n vc) R A B ((s, 0), x) s10 s11 vi wr) (fun _ _ vi _ => n - (intOf vi).toNat)
      case atStart => exact ⟨0, rfl, Nat.zero_le _, rfl, H3.out⟩
      case round =>
        clear H3 c0 c1 c2
        obtain ⟨k, rfl, hk, rfl, h⟩ := hrel
        obtain ⟨c0, c1, c2, z0, z1, z2⟩ := bs_cells h (b := b) (bits := bits) (room := room) (v := .slice va n vc) (.tail _ (.tail _ (.tail _ (.head _))))
        by_cases hlt : k < n
        · have hltI : (k : Int) < (n : Int) := by omega
          obtain ⟨e, he⟩ : ∃ e, R[k]? = some e := ⟨_, List.getElem?_eq_getElem (by rw [HR.out]; exact hlt)⟩
          obtain ⟨g, rfl, gc, r0, r1, r2⟩ := rentry h.swap hlt he
          rw [HER.out] at he
          obtain ⟨M, hM⟩ : ∃ M, M = (pO A B ((s, 0), x) k).length := ⟨_, rfl⟩
          have hMk : M ≤ k + 1 := by rw [hM]; exact pO_len A B _ k
          obtain ⟨va9, vc9, rfl⟩ := own_slice h.row
          rw [← hM]
          have H := Lib.hid h
          have HM := Lib.hid hM
          by_cases h1 : k = A.length
          · obtain ⟨hs2, hmB⟩ := pO_at (c := ((s, 0), x)) h1 he
            have hq : decide (s < e.1.1) = true := by have := HB'.out e hmB; simpa using this
            have ht : decide (A.length < k) = false := by simp; omega
            have ht2 : decide (A.length < k + 1) = true := by simp; omega
            rw [ht]
            have HS2 := Lib.hid hs2
            have HT2 := Lib.hid ht2
            have HE := Lib.hid he
            clear h he hs2 hM h1 hmB ht ht2
            go_wp2_with (first
              | (at_builtin; refine app_own (W := wr) rfl _ _ _ _ _ 3 24 rfl Try.underlying26 infoEntry rfl (by omega) (by omega) (.slice va9 M vc9) M (Tr.ents (pO A B ((s, 0), x) k)) [.int .u64 s, .int .u64 0, .int .i64 x] rfl _ (by simp) rfl rfl (by simp [Value.oneCell']) (by rw [HM.out]; exact H.out.row) (by omega) ?_
                 intro v1 w3 hown hgrow hmv
                 rw [HM.out] at hown hgrow hmv
                 have h3 := Own.roApp (e := ((s, 0), x)) H.out hown hgrow hmv
                 have HL8 : Hid ((pO A B ((s, 0), x) k ++ [((s, 0), x)]).length = M + 1) := Lib.hid (by rw [List.length_append, ← HM.out]; rfl)
                 obtain ⟨va8, vc8, hv8⟩ := own_slice h3.row
                 rw [HL8.out] at hv8
                 subst hv8
                 obtain ⟨c0, c1, c2, z0, z1, z2⟩ := bs_cells h3 (b := b) (bits := bits) (room := room) (v := .slice (some ⟨g, 0, none⟩) n vc) (.tail _ (.tail _ (.tail _ (.head _))))
                 obtain ⟨g', ge, -, r0, r1, r2⟩ := rentry h3.swap hlt (by rw [HER.out]; exact HE.out)
                 obtain rfl : g = g' := by injection ge with ge; injection ge
                 have H3 := Lib.hid h3
                 clear h3 hown hgrow hmv H)
              | (at_builtin; refine app_own (W := w3) rfl _ _ _ _ _ 3 24 rfl Try.underlying26 infoEntry rfl (by omega) (by omega) (.slice va8 (M + 1) vc8) (M + 1) (Tr.ents (pO A B ((s, 0), x) k ++ [((s, 0), x)])) [.int .u64 e.1.1, .int .u64 e.1.2, .int .i64 e.2] rfl _ (by simp) rfl rfl (by simp [Value.oneCell']) (by have h := H3.out.row; rw [HL8.out] at h; exact h) (by omega) ?_
                 intro v5 w5 hown hgrow hmv
                 rw [← HL8.out] at hown
                 have h5 := Own.roApp H3.out hown hgrow hmv
                 rw [← HS2.out] at h5
                 have HX : Hid (RpI l b (b + 1) n bits room (.slice (some ⟨g, 0, none⟩) n vc) R A B ((s, 0), x) v5 (.bool true) (.int .i64 ((k : Int) + 1)) w5) := Lib.hid ⟨k + 1, by go_num, by omega, by rw [HT2.out], h5⟩
                 clear h5 hown hgrow hmv H3))
            first
              | exact ⟨HX.out, by simp [intOf]; omega⟩
              | (go_roundw
                 case rel => exact HX.out
                 case measure => simp only [intOf]; omega)
          · by_cases h2 : k < A.length
            · obtain ⟨hs2, hmA⟩ := pO_lt (c := ((s, 0), x)) h2 he
              have hq : decide (s < e.1.1) = false := by have := HA'.out e hmA; simp; omega
              have ht : decide (A.length < k) = false := by simp; omega
              have ht2 : decide (A.length < k + 1) = false := by simp; omega
              rw [ht]
              have HS2 := Lib.hid hs2
              have HT2 := Lib.hid ht2
              clear h he hs2 hM h1 h2 hmA ht ht2
              go_wp2_with (at_builtin; refine app_own (W := wr) rfl _ _ _ _ _ 3 24 rfl Try.underlying26 infoEntry rfl (by omega) (by omega) (.slice va9 M vc9) M (Tr.ents (pO A B ((s, 0), x) k)) [.int .u64 e.1.1, .int .u64 e.1.2, .int .i64 e.2] rfl _ (by simp) rfl rfl (by simp [Value.oneCell']) (by rw [HM.out]; exact H.out.row) (by omega) ?_)
              intro v1 w3 hown hgrow hmv
              rw [HM.out] at hown hgrow hmv
              have h3 := Own.roApp H.out hown hgrow hmv
              rw [← HS2.out] at h3
              have HX : Hid (RpI l b (b + 1) n bits room (.slice (some ⟨g, 0, none⟩) n vc) R A B ((s, 0), x) v1 (.bool false) (.int .i64 ((k : Int) + 1)) w3) := Lib.hid ⟨k + 1, by go_num, by omega, by rw [HT2.out], h3⟩
              clear h3 hown hgrow hmv H
              go_wp2_with fail
              exact ⟨HX.out, by simp [intOf]; omega⟩
            · have hs2 := pO_gt (c := ((s, 0), x)) (by omega) he
              have ht : decide (A.length < k) = true := by simp; omega
              have ht2 : decide (A.length < k + 1) = true := by simp; omega
              rw [ht]
              have HS2 := Lib.hid hs2
              have HT2 := Lib.hid ht2
              clear h he hs2 hM h1 h2 ht ht2
              go_wp2_with (at_builtin; refine app_own (W := wr) rfl _ _ _ _ _ 3 24 rfl Try.underlying26 infoEntry rfl (by omega) (by omega) (.slice va9 M vc9) M (Tr.ents (pO A B ((s, 0), x) k)) [.int .u64 e.1.1, .int .u64 e.1.2, .int .i64 e.2] rfl _ (by simp) rfl rfl (by simp [Value.oneCell']) (by rw [HM.out]; exact H.out.row) (by omega) ?_)
              intro v1 w3 hown hgrow hmv
              rw [HM.out] at hown hgrow hmv
              have h3 := Own.roApp H.out hown hgrow hmv
              rw [← HS2.out] at h3
              have HX : Hid (RpI l b (b + 1) n bits room (.slice (some ⟨g, 0, none⟩) n vc) R A B ((s, 0), x) v1 (.bool true) (.int .i64 ((k : Int) + 1)) w3) := Lib.hid ⟨k + 1, by go_num, by omega, by rw [HT2.out], h3⟩
              clear h3 hown hgrow hmv H
              go_wp2_with fail
              exact ⟨HX.out, by simp [intOf]; omega⟩
        · obtain rfl : k = n := by omega
          have hkl : k = (A ++ B).length := by rw [← HR.out, HER.out]
          cases B with
          | cons e0 B0 =>
            have hd := pO_end (A := A) ((s, 0), x) (List.cons_ne_nil e0 B0)
            rw [← hkl] at hd
            rw [hd] at h
            have ht : decide (A.length < k) = true := by rw [hkl]; simp
            rw [ht]
            have hL : (A ++ ((s, 0), x) :: e0 :: B0).length = k + 1 := by rw [hkl]; simp; omega
            obtain ⟨va9, vc9, rfl⟩ := own_slice h.row
            rw [hL]
            obtain ⟨w3, e3, h3⟩ := Own.bsField (v' := .slice va9 (k + 1) vc9) h.fourth
            obtain ⟨w4, e4, h4⟩ := Own.bsSet (bits' := bits) (room' := room) (v' := .slice va9 (k + 1) vc9) h3.fourth
            obtain ⟨x0, x1, x2, -, -, -⟩ := bs_cells h3 (.head _)
            obtain ⟨y0, y1, y2, f0, f1, f2⟩ := bs_cells (b := b + 1) (bits := 0) (room := 0) (v := .slice none 0 0) h3 (.tail _ (.tail _ (.tail _ (.head _))))
            obtain ⟨q0, q1, q2, -, -, -⟩ := bs_cells h4 (.head _)
            have hn2 := own_ne2 h3 (.tail _ (.tail _ (.head _)))
            have HF : Hid (Own (RR (.slice va9 (k + 1) vc9) (k + 1) (A ++ ((s, 0), x) :: e0 :: B0) :: l) w4) := Lib.hid (by have := h4.drop.second.toR.swap.drop.swap.drop; rw [hL] at this; exact this)
            clear h h3 h4 hd hlt hk hL hkl ht
            go_wp2_with fail
            exact bodyPost_ret (v := .tuple #[rs bits room (.slice va9 (k + 1) vc9), .int .i64 0]) (by simp [results, Try.results21, go_sem, q0, q1, q2]) rfl ⟨_, rfl, HF.out⟩
          | nil =>
            have hd := pO_nil (A := A) ((s, 0), x)
            rw [← hkl] at hd
            have ht : decide (A.length < k) = false := by rw [hkl]; simp
            rw [ht]
            obtain ⟨M, hM⟩ : ∃ M, M = (pO A [] ((s, 0), x) k).length := ⟨_, rfl⟩
            have hMk : M ≤ k + 1 := by rw [hM]; exact pO_len A [] _ k
            have hL : (A ++ [((s, 0), x)]).length = k + 1 := by rw [hkl]; simp
            obtain ⟨va9, vc9, rfl⟩ := own_slice h.row
            rw [← hM]
            have H := Lib.hid h
            have HM := Lib.hid hM
            have HD := Lib.hid hd
            have HL := Lib.hid hL
            clear h hM hd ht hL hkl
            go_wp2_with (at_builtin; refine app_own (W := wr) rfl _ _ _ _ _ 3 24 rfl Try.underlying26 infoEntry rfl (by omega) (by omega) (.slice va9 M vc9) M (Tr.ents (pO A [] ((s, 0), x) k)) [.int .u64 s, .int .u64 0, .int .i64 x] rfl _ (by simp) rfl rfl (by simp [Value.oneCell']) (by rw [HM.out]; exact H.out.row) (by omega) ?_)
            intro v1 w3 hown hgrow hmv
            rw [HM.out] at hown hgrow hmv
            have h := Own.roApp (e := ((s, 0), x)) H.out hown hgrow hmv
            rw [HD.out] at h
            obtain ⟨va8, vc8, rfl⟩ := own_slice h.row
            rw [HL.out]
            obtain ⟨c0, c1, c2, z0, z1, z2⟩ := bs_cells h (b := b) (bits := bits) (room := room) (v := .slice va k vc) (.tail _ (.tail _ (.tail _ (.head _))))
            obtain ⟨w3, e3, h3⟩ := Own.bsField (v' := .slice va8 (k + 1) vc8) h.fourth
            obtain ⟨w4, e4, h4⟩ := Own.bsSet (bits' := bits) (room' := room) (v' := .slice va8 (k + 1) vc8) h3.fourth
            obtain ⟨x0, x1, x2, -, -, -⟩ := bs_cells h3 (.head _)
            obtain ⟨y0, y1, y2, f0, f1, f2⟩ := bs_cells (b := b + 1) (bits := 0) (room := 0) (v := .slice none 0 0) h3 (.tail _ (.tail _ (.tail _ (.head _))))
            obtain ⟨q0, q1, q2, -, -, -⟩ := bs_cells h4 (.head _)
            have hn2 := own_ne2 h3 (.tail _ (.tail _ (.head _)))
            have HF : Hid (Own (RR (.slice va8 (k + 1) vc8) (k + 1) (A ++ [((s, 0), x)]) :: l) w4) := Lib.hid (by have := h4.drop.second.toR.swap.drop.swap.drop; rw [HL.out] at this; exact this)
            clear h h3 h4 hlt hk H hown hgrow hmv
            go_wp2_with fail
            exact bodyPost_ret (v := .tuple #[rs bits room (.slice va8 (k + 1) vc8), .int .i64 0]) (by simp [results, Try.results21, go_sem, q0, q1, q2]) rfl ⟨_, rfl, HF.out⟩
end Go.Proofs.Ytlficiohenpghaa.Bk
