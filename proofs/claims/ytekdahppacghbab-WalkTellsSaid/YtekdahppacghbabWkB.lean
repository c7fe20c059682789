/- DERIVED. Layer 7 (walk): the iterators over a tree: from. -/
import Derived.Test.YtekdahppacghbabWkA
set_option linter.unusedVariables false
set_option linter.unusedSimpArgs false
set_option maxRecDepth 100000
namespace Go.Proofs.Ytekdahppacghbab.Wk
open Go.RowKit Go.Shelf Go.Proofs.Ytekdahppacghbab Go.Proofs.Ytekdahppacghbab.TreeP Go.Proofs.Ytekdahppacghbab.Tr
attribute [local go_sem] Oper.semAt_some

/-- those from a key on -/
def fromL (E : List En) (q : Key) : List En := ((Tr.look E q).map fun v => (q, v)).toList ++ above E q
theorem above_any (a : Option Addr) (x s : Int) {l : List HP} {w : World} (h : Own l w) :
    Calls Try.prog 27 #[.pointer a, Tr.key x s] w fun e w' => ∃ b k, e = .returned (.func (.func 45) #[] #[.pointer (some ⟨b, 0, none⟩), .pointer (some ⟨k, 0, none⟩)]) ∧ Own (BT b a :: BK k x s :: l) w' := by
  have h1 := Go.Proofs.Ytekdahppacghbab.Own.blkNew (Go.Proofs.Ytekdahppacghbab.Own.blkNew h #[.pointer a] 25) #[.int .u64 x, .int .u64 s] 24
  have H := Lib.hid h1.swap
  clear h h1
  go_enter Try.func27, Try.ntmps27
  go_wp2
  go_ret
  exact ⟨_, _, rfl, by have := H.out; simpa using this⟩
theorem from_any (a : Option Addr) (x s : Int) {l : List HP} {w : World} (h : Own l w) :
    Calls Try.prog 29 #[.pointer a, Tr.key x s] w fun e w' => ∃ b k, e = .returned (.func (.func 47) #[] #[.pointer (some ⟨b, 0, none⟩), .pointer (some ⟨k, 0, none⟩)]) ∧ Own (BT b a :: BK k x s :: l) w' := by
  have h1 := Go.Proofs.Ytekdahppacghbab.Own.blkNew (Go.Proofs.Ytekdahppacghbab.Own.blkNew h #[.pointer a] 25) #[.int .u64 x, .int .u64 s] 24
  have H := Lib.hid h1.swap
  clear h h1
  go_enter Try.func29, Try.ntmps29
  go_wp2
  go_ret
  exact ⟨_, _, rfl, by have := H.out; simpa using this⟩
abbrev BY (b l : Nat) : HP := Go.Proofs.Ytekdahppacghbab.Blk b #[.func (.yield l) #[] #[]] 85
theorem perm5 {α : Type _} (A I B C T R : List α) : (A ++ ((I ++ B) ++ ((C ++ T) ++ R))).Perm ((B ++ I) ++ ((A ++ T) ++ (C ++ R))) := by
  classical
  rw [List.perm_iff_count]
  intro a
  simp only [List.count_append]
  omega
theorem perm6 {α : Type _} (A I B C T R : List α) : ((B ++ I) ++ ((A ++ T) ++ (C ++ R))).Perm ((A ++ B) ++ (I ++ ((C ++ T) ++ R))) := by
  classical
  rw [List.perm_iff_count]
  intro a
  simp only [List.count_append]
  omega
/-- the frame in a round of from's loop -/
def FrAct (by' : Nat) (e : En) (Z : List HP) (a' : Act) : Prop :=
  ∃ (be : Nat) (u0 u1 u2 u4 u5 u7 u8 u9 u10 u11 u12 u13 u14 u15 u16 u17 u18 u19 u20 u21 u22 u23 u24 u25 u26 u27 u28 u29 : Value), Z = [BE be e] ∧ a' = { tmps := #[u0, u1, u2, .pointer (some ⟨by', 0, none⟩), u4, u5, .pointer (some ⟨be, 0, none⟩), u7, u8, u9, u10, u11, u12, u13, u14, u15, u16, u17, u18, u19, u20, u21, u22, u23, u24, u25, u26, u27, u28, u29], defers := [] }
set_option maxHeartbeats 4000000 in
theorem from_seq {a : Option Addr} {TL : List HP} {E : List En} (hL : Lk a TL E) (bt kb : Nat) (x s : Int) :
    SeqO Try.prog 47 #[.pointer (some ⟨bt, 0, none⟩), .pointer (some ⟨kb, 0, none⟩)] encE (fromL E (x, s)) (BT bt a :: BK kb x s :: TL) := by
  intro l I Ix R1 W hY h0
  obtain ⟨FR, hFR⟩ : ∃ FR, FR = (BT bt a :: BK kb x s :: TL) ++ R1 := ⟨_, rfl⟩
  obtain ⟨xs, hxs⟩ : ∃ xs, xs = fromL E (x, s) := ⟨_, rfl⟩
  have HC : Hid (∀ (X : List HP) (w' : World), Own (X ++ FR) w' → w'.cell? ⟨bt, 0, none⟩ = some (.pointer a) ∧ w'.cell? ⟨kb, 0, none⟩ = some (.int .u64 x) ∧ w'.cell? ⟨kb, 1, none⟩ = some (.int .u64 s)) := Lib.hid fun X w' h' => by
    have h1 := box_in (b := bt) (cs := #[.pointer a]) (t := 25) h' (by rw [hFR]; simp)
    have h2 := box_in (b := kb) (cs := #[.int .u64 x, .int .u64 s]) (t := 24) h' (by rw [hFR]; simp)
    simp [World.cell?, h1, h2]
  have HG : Hid (∀ (X : List HP) (w' : World), Own (X ++ FR) w' → Calls Try.prog 48 #[.pointer a, Tr.key x s] w' fun e w2 => e = .returned (.tuple #[.int .i64 ((Tr.look E (x, s)).getD 0), .bool (Tr.look E (x, s)).isSome]) ∧ Own (X ++ FR) w2) := Lib.hid fun X w' h' => by
    have hp : (X ++ FR).Perm (TL ++ (X ++ (BT bt a :: BK kb x s :: R1))) := by
      rw [hFR]
      have h1 : (BT bt a :: BK kb x s :: TL ++ R1).Perm (TL ++ (BT bt a :: BK kb x s :: R1)) := (List.perm_append_comm (l₁ := [BT bt a, BK kb x s]) (l₂ := TL)).append_right R1 |>.trans (by simp)
      exact (h1.append_left X).trans (List.perm_append_comm_assoc _ _ _)
    have := hL.get _ w' x s (h'.perm hp)
    exact this.mono fun e w2 ⟨he, hw⟩ => ⟨he, hw.perm hp.symm⟩
  rw [← hFR] at h0
  rw [← hFR, ← hxs]
  rw [← hxs] at hY
  have HY := Lib.hid hY
  obtain ⟨by', hby⟩ : ∃ b, b = W.heap.size := ⟨_, rfl⟩
  have h1 : Own ((I [] ++ [BY by' l]) ++ FR) (W.alloc (.cells #[.func (.yield l) #[] #[]] 85)) := by
    have := Go.Proofs.Ytekdahppacghbab.Own.blkNew h0 #[.func (.yield l) #[] #[]] 85
    rw [← hby] at this
    exact this.perm (by simpa using List.perm_middle.symm)
  obtain ⟨c0, c1, c2⟩ := HC.out _ _ h1
  have hg := HG.out _ _ h1
  obtain ⟨O, hO⟩ : ∃ O, O = Tr.look E (x, s) := ⟨_, rfl⟩
  rw [← hO] at hg
  have HXS : Hid (xs = (O.map fun v => ((x, s), v)).toList ++ above E (x, s)) := Lib.hid (by rw [hxs, hO]; rfl)
  have HGG := Lib.hid hg
  have HBY := Lib.hid hby
  have HFR := Lib.hid hFR
  have HL := Lib.hid hL
  clear hY hxs h0 h1 hg hO hby hFR hL
  refine (callsIn_wide (n := 9)).1 (callsIn_of_wp_marks Try.func47 rfl trivial ?_)
  simp only [Try.ntmps47, List.size_toArray, List.length_cons, List.length_nil, Nat.reduceAdd, Nat.reduceSub, Array.replicate_succ, Array.replicate_zero, List.push_toArray, List.append_toArray, List.nil_append, List.cons_append]
  gi_wp2
  refine ⟨trivial, (callsIn_wide.2 HGG.out).mono ?_⟩
  rintro e w1 ⟨rfl, h1⟩
  have H1 := Lib.hid h1
  clear h1 HGG c0 c1 c2
  cases O with
  | none =>
    gi_wp2
    refine ⟨fun _ h => (by cases h), ?_⟩
    obtain ⟨hd, hhd⟩ : ∃ hd : List En, hd = [] := ⟨_, rfl⟩
    have HX : Hid (xs = hd ++ above E (x, s)) := Lib.hid (by rw [hhd, HXS.out]; rfl)
    have HD : Hid (Own ((I hd ++ [BY by' l]) ++ FR) w1) := Lib.hid (by rw [hhd]; exact H1.out)
    clear hhd H1
    obtain ⟨c0, c1, c2⟩ := HC.out _ _ HD.out
    have hy0 := box_in (X := I hd) (Y := BY by' l :: FR) (b := by') (cs := #[.func (.yield l) #[] #[]]) (t := 85) (by simpa using HD.out) (.head _)
    have hab := above_any a x s HD.out
    have HAB := Lib.hid hab
    clear hab hy0
    gi_wp2
    refine ⟨trivial, (callsIn_wide.2 HAB.out).mono ?_⟩
    rintro e w4 ⟨b2, k2, rfl, h4⟩
    have h5 : Own (BY by' l :: I (hd ++ []) ++ ((BT b2 a :: BK k2 x s :: TL) ++ (BT bt a :: BK kb x s :: R1))) w4 := by
      rw [List.append_nil]
      refine h4.perm ?_
      rw [HFR.out]
      exact perm5 [BT b2 a, BK k2 x s] (I hd) [BY by' l] [BT bt a, BK kb x s] TL R1
    have H5 := Lib.hid h5
    clear h4 h5 HAB c0 c1 c2
    gi_wp2
    rw [← HBY.out]
    refine rangeFunc_own (gf := 45) (lb := #[.pointer (some ⟨b2, 0, none⟩), .pointer (some ⟨k2, 0, none⟩)]) rfl (enters_of Try.func45 (by kernel_rfl) rfl) (above_seq HL.out b2 k2 x s) (fun _ => rfl)
      (fun pre => BY by' l :: I (hd ++ pre)) (fun c pre => [PackE (fun _ : Unit => c = .ret) (fun _ => BY by' l :: Ix (hd ++ pre))]) (BT bt a :: BK kb x s :: R1) H5.out (FrAct by') ?assign ?body ?done ?stop
    case assign =>
      intro l2 pre e W2 R K hI hK
      have hZ := Go.Proofs.Ytekdahppacghbab.Own.blkNew hI #[.int .u64 e.1.1, .int .u64 e.1.2, .int .i64 e.2] 49
      have HK := Lib.hid (fun a' hx => hK a' _ [BE W2.heap.size e] hZ hx)
      clear hI hK hZ
      gi_wp2
      exact HK.out _ ⟨_, _, _, _, _, _, _, _, _, _, _, _, _, _, _, _, _, _, _, _, _, _, _, _, _, _, _, _, _, rfl, rfl⟩
    case body =>
      rintro l2 pre e a' Z W2 R hpre ⟨be, u0, u1, u2, u4, u5, u7, u8, u9, u10, u11, u12, u13, u14, u15, u16, u17, u18, u19, u20, u21, u22, u23, u24, u25, u26, u27, u28, u29, rfl, rfl⟩ h
      have hpr : (hd ++ pre) ++ [e] <+: xs := by
        rw [HX.out, List.append_assoc]
        exact (List.prefix_append_right_inj hd).2 hpre
      have hh : Own (I (hd ++ pre) ++ (BE be e :: BY by' l :: R)) W2 := h.perm (by
        have := (List.perm_append_comm (l₁ := [BE be e, BY by' l]) (l₂ := I (hd ++ pre))).append_right R
        simpa using this)
      obtain ⟨fn, tmps, assign, body, hy, hR⟩ := HY.out _ e W2 _ hpr hh
      obtain ⟨b0, b1, b2, -, -, -⟩ := Own.blk3g h
      have hbx := Go.Proofs.Ytekdahppacghbab.Own.blk h (b := by') (cs := #[.func (.yield l) #[] #[]]) (t := 85) (by simp)
      have b3 : W2.cell? ⟨by', 0, none⟩ = some (.func (.yield l) #[] #[]) := by simp [World.cell?, hbx]
      clear h hh hbx
      gi_wp2
      refine (hR _).mono ?_
      rintro e2 W3 (⟨rfl, h2⟩ | ⟨rfl, h2⟩)
      · have H : Hid (Own ((BY by' l :: I (hd ++ (pre ++ [e]))) ++ R) W3) := Lib.hid (by
          rw [← List.append_assoc hd]
          have : (I (hd ++ pre ++ [e]) ++ (BE be e :: BY by' l :: R)).Perm (BE be e :: ((BY by' l :: I (hd ++ pre ++ [e])) ++ R)) := by
            have := (List.perm_append_comm (l₁ := I (hd ++ pre ++ [e])) (l₂ := [BE be e, BY by' l])).append_right R
            simpa using this
          exact (h2.perm this).drop)
        clear h2 hR hy b0 b1 b2 b3
        gi_wp2
        exact H.out
      · have H : Hid (Own ((BY by' l :: Ix (hd ++ (pre ++ [e]))) ++ R) W3) := Lib.hid (by
          rw [← List.append_assoc hd]
          have : (Ix (hd ++ pre ++ [e]) ++ (BE be e :: BY by' l :: R)).Perm (BE be e :: ((BY by' l :: Ix (hd ++ pre ++ [e])) ++ R)) := by
            have := (List.perm_append_comm (l₁ := Ix (hd ++ pre ++ [e])) (l₂ := [BE be e, BY by' l])).append_right R
            simpa using this
          exact (h2.perm this).drop)
        clear h2 hR hy b0 b1 b2 b3
        gi_wp2
        exact Own.pack () rfl H.out
    case done =>
      intro D W2 h
      have hobj := h.obj
      have h2 := (h.objSet (.deferred none)).drop
      have H : Hid (Own (I xs ++ FR) (W2.putObj D (.deferred none))) := Lib.hid (by
        rw [HX.out, HFR.out]
        have : ((BY by' l :: I (hd ++ above E (x, s))) ++ ((BT b2 a :: BK k2 x s :: TL) ++ (BT bt a :: BK kb x s :: R1))).Perm ([BT b2 a, BK k2 x s, BY by' l] ++ (I (hd ++ above E (x, s)) ++ ((BT bt a :: BK kb x s :: TL) ++ R1))) := perm6 [BT b2 a, BK k2 x s] (I (hd ++ above E (x, s))) [BY by' l] [BT bt a, BK kb x s] TL R1
        exact (h2.perm this).dropL)
      clear h h2
      gi_wp2
      refine ⟨by simp, .inl ⟨_, _, rfl, run_takeDeferred hobj, ?_⟩⟩
      exact ⟨_, results_none rfl _ _ _, ⟨_, rfl⟩, .inl H.out⟩
    case stop =>
      intro D c pre W2 hpre h
      have hobj := h.obj
      have h2 := (h.objSet (.deferred none)).drop
      obtain ⟨-, rfl, h3⟩ := Own.unpack (l := (BT b2 a :: BK k2 x s :: TL) ++ (BT bt a :: BK kb x s :: R1)) h2
      have H : Hid (Own (Ix (hd ++ pre) ++ FR) (W2.putObj D (.deferred none))) := Lib.hid (by
        rw [HFR.out]
        have : ((BY by' l :: Ix (hd ++ pre)) ++ ((BT b2 a :: BK k2 x s :: TL) ++ (BT bt a :: BK kb x s :: R1))).Perm ([BT b2 a, BK k2 x s, BY by' l] ++ (Ix (hd ++ pre) ++ ((BT bt a :: BK kb x s :: TL) ++ R1))) := perm6 [BT b2 a, BK k2 x s] (Ix (hd ++ pre)) [BY by' l] [BT bt a, BK kb x s] TL R1
        exact (h3.perm this).dropL)
      have hpr : hd ++ pre <+: xs := by
        rw [HX.out]
        exact (List.prefix_append_right_inj hd).2 hpre
      clear h h2 h3
      gi_wp2
      refine ⟨by simp, .inl ⟨_, _, rfl, run_takeDeferred hobj, ?_⟩⟩
      exact ⟨_, results_none rfl _ _ _, ⟨_, rfl⟩, .inr ⟨_, hpr, H.out⟩⟩
  | some v =>
    have h1 := H1.out
    have h2 : Own (I [] ++ (BY by' l :: FR)) w1 := by simpa using h1
    obtain ⟨fn, tmps, assign, body, hy, hR⟩ := HY.out [] ((x, s), v) w1 _ (by rw [HXS.out]; exact ⟨above E (x, s), rfl⟩) h2
    have hbx := Go.Proofs.Ytekdahppacghbab.Own.blk h1 (b := by') (cs := #[.func (.yield l) #[] #[]]) (t := 85) (by simp)
    rw [HBY.out] at hbx
    have b3 : w1.cell? ⟨W.heap.size, 0, none⟩ = some (.func (.yield l) #[] #[]) := by simp [World.cell?, hbx]
    obtain ⟨c0, c1, c2⟩ := HC.out _ _ h1
    clear h1 h2 hbx
    gi_wp2
    refine (hR _).mono ?_
    rintro e2 w2 (⟨rfl, h2⟩ | ⟨rfl, h2⟩)
    · obtain ⟨hd, hhd⟩ : ∃ hd : List En, hd = [((x, s), v)] := ⟨_, rfl⟩
      have HX : Hid (xs = hd ++ above E (x, s)) := Lib.hid (by rw [hhd, HXS.out]; rfl)
      have HD : Hid (Own ((I hd ++ [BY by' l]) ++ FR) w2) := Lib.hid (by rw [hhd]; simpa using h2)
      clear hhd H1 h2 hR hy b3 c0 c1 c2
      obtain ⟨c0, c1, c2⟩ := HC.out _ _ HD.out
      have hy0 := box_in (X := I hd) (Y := BY by' l :: FR) (b := by') (cs := #[.func (.yield l) #[] #[]]) (t := 85) (by simpa using HD.out) (.head _)
      have hab := above_any a x s HD.out
      have HAB := Lib.hid hab
      clear hab hy0
      gi_wp2
      refine ⟨trivial, (callsIn_wide.2 HAB.out).mono ?_⟩
      rintro e w4 ⟨b2, k2, rfl, h4⟩
      have h5 : Own (BY by' l :: I (hd ++ []) ++ ((BT b2 a :: BK k2 x s :: TL) ++ (BT bt a :: BK kb x s :: R1))) w4 := by
        rw [List.append_nil]
        refine h4.perm ?_
        rw [HFR.out]
        exact perm5 [BT b2 a, BK k2 x s] (I hd) [BY by' l] [BT bt a, BK kb x s] TL R1
      have H5 := Lib.hid h5
      clear h4 h5 HAB c0 c1 c2
      gi_wp2
      rw [← HBY.out]
      refine rangeFunc_own (gf := 45) (lb := #[.pointer (some ⟨b2, 0, none⟩), .pointer (some ⟨k2, 0, none⟩)]) rfl (enters_of Try.func45 (by kernel_rfl) rfl) (above_seq HL.out b2 k2 x s) (fun _ => rfl)
        (fun pre => BY by' l :: I (hd ++ pre)) (fun c pre => [PackE (fun _ : Unit => c = .ret) (fun _ => BY by' l :: Ix (hd ++ pre))]) (BT bt a :: BK kb x s :: R1) H5.out (FrAct by') ?assign ?body ?done ?stop
      case assign =>
        intro l2 pre e W2 R K hI hK
        have hZ := Go.Proofs.Ytekdahppacghbab.Own.blkNew hI #[.int .u64 e.1.1, .int .u64 e.1.2, .int .i64 e.2] 49
        have HK := Lib.hid (fun a' hx => hK a' _ [BE W2.heap.size e] hZ hx)
        clear hI hK hZ
        gi_wp2
        exact HK.out _ ⟨_, _, _, _, _, _, _, _, _, _, _, _, _, _, _, _, _, _, _, _, _, _, _, _, _, _, _, _, _, rfl, rfl⟩
      case body =>
        rintro l2 pre e a' Z W2 R hpre ⟨be, u0, u1, u2, u4, u5, u7, u8, u9, u10, u11, u12, u13, u14, u15, u16, u17, u18, u19, u20, u21, u22, u23, u24, u25, u26, u27, u28, u29, rfl, rfl⟩ h
        have hpr : (hd ++ pre) ++ [e] <+: xs := by
          rw [HX.out, List.append_assoc]
          exact (List.prefix_append_right_inj hd).2 hpre
        have hh : Own (I (hd ++ pre) ++ (BE be e :: BY by' l :: R)) W2 := h.perm (by
          have := (List.perm_append_comm (l₁ := [BE be e, BY by' l]) (l₂ := I (hd ++ pre))).append_right R
          simpa using this)
        obtain ⟨fn, tmps, assign, body, hy, hR⟩ := HY.out _ e W2 _ hpr hh
        obtain ⟨b0, b1, b2, -, -, -⟩ := Own.blk3g h
        have hbx := Go.Proofs.Ytekdahppacghbab.Own.blk h (b := by') (cs := #[.func (.yield l) #[] #[]]) (t := 85) (by simp)
        have b3 : W2.cell? ⟨by', 0, none⟩ = some (.func (.yield l) #[] #[]) := by simp [World.cell?, hbx]
        clear h hh hbx
        gi_wp2
        refine (hR _).mono ?_
        rintro e2 W3 (⟨rfl, h2⟩ | ⟨rfl, h2⟩)
        · have H : Hid (Own ((BY by' l :: I (hd ++ (pre ++ [e]))) ++ R) W3) := Lib.hid (by
            rw [← List.append_assoc hd]
            have : (I (hd ++ pre ++ [e]) ++ (BE be e :: BY by' l :: R)).Perm (BE be e :: ((BY by' l :: I (hd ++ pre ++ [e])) ++ R)) := by
              have := (List.perm_append_comm (l₁ := I (hd ++ pre ++ [e])) (l₂ := [BE be e, BY by' l])).append_right R
              simpa using this
            exact (h2.perm this).drop)
          clear h2 hR hy b0 b1 b2 b3
          gi_wp2
          exact H.out
        · have H : Hid (Own ((BY by' l :: Ix (hd ++ (pre ++ [e]))) ++ R) W3) := Lib.hid (by
            rw [← List.append_assoc hd]
            have : (Ix (hd ++ pre ++ [e]) ++ (BE be e :: BY by' l :: R)).Perm (BE be e :: ((BY by' l :: Ix (hd ++ pre ++ [e])) ++ R)) := by
              have := (List.perm_append_comm (l₁ := Ix (hd ++ pre ++ [e])) (l₂ := [BE be e, BY by' l])).append_right R
              simpa using this
            exact (h2.perm this).drop)
          clear h2 hR hy b0 b1 b2 b3
          gi_wp2
          exact Own.pack () rfl H.out
      case done =>
        intro D W2 h
        have hobj := h.obj
        have h2 := (h.objSet (.deferred none)).drop
        have H : Hid (Own (I xs ++ FR) (W2.putObj D (.deferred none))) := Lib.hid (by
          rw [HX.out, HFR.out]
          have : ((BY by' l :: I (hd ++ above E (x, s))) ++ ((BT b2 a :: BK k2 x s :: TL) ++ (BT bt a :: BK kb x s :: R1))).Perm ([BT b2 a, BK k2 x s, BY by' l] ++ (I (hd ++ above E (x, s)) ++ ((BT bt a :: BK kb x s :: TL) ++ R1))) := perm6 [BT b2 a, BK k2 x s] (I (hd ++ above E (x, s))) [BY by' l] [BT bt a, BK kb x s] TL R1
          exact (h2.perm this).dropL)
        clear h h2
        gi_wp2
        refine ⟨by simp, .inl ⟨_, _, rfl, run_takeDeferred hobj, ?_⟩⟩
        exact ⟨_, results_none rfl _ _ _, ⟨_, rfl⟩, .inl H.out⟩
      case stop =>
        intro D c pre W2 hpre h
        have hobj := h.obj
        have h2 := (h.objSet (.deferred none)).drop
        obtain ⟨-, rfl, h3⟩ := Own.unpack (l := (BT b2 a :: BK k2 x s :: TL) ++ (BT bt a :: BK kb x s :: R1)) h2
        have H : Hid (Own (Ix (hd ++ pre) ++ FR) (W2.putObj D (.deferred none))) := Lib.hid (by
          rw [HFR.out]
          have : ((BY by' l :: Ix (hd ++ pre)) ++ ((BT b2 a :: BK k2 x s :: TL) ++ (BT bt a :: BK kb x s :: R1))).Perm ([BT b2 a, BK k2 x s, BY by' l] ++ (Ix (hd ++ pre) ++ ((BT bt a :: BK kb x s :: TL) ++ R1))) := perm6 [BT b2 a, BK k2 x s] (Ix (hd ++ pre)) [BY by' l] [BT bt a, BK kb x s] TL R1
          exact (h3.perm this).dropL)
        have hpr : hd ++ pre <+: xs := by
          rw [HX.out]
          exact (List.prefix_append_right_inj hd).2 hpre
        clear h h2 h3
        gi_wp2
        refine ⟨by simp, .inl ⟨_, _, rfl, run_takeDeferred hobj, ?_⟩⟩
        exact ⟨_, results_none rfl _ _ _, ⟨_, rfl⟩, .inr ⟨_, hpr, H.out⟩⟩
    · have H : Hid (Own (Ix [((x, s), v)] ++ FR) w2) := Lib.hid (h2.perm List.perm_middle).drop
      have hpr : [((x, s), v)] <+: xs := by rw [HXS.out]; exact ⟨above E (x, s), rfl⟩
      clear h2 hR hy b3 c0 c1 c2 H1
      gi_wp2
      exact ⟨_, results_none rfl _ _ _, ⟨_, rfl⟩, .inr ⟨_, hpr, H.out⟩⟩
end Go.Proofs.Ytekdahppacghbab.Wk
