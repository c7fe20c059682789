/- DERIVED. Layer 14 (table): a table that is none; the law TableNone. Written by wip/mktbk.py. -/
import Derived.Test.YtkdmlpigkmlkmaaTbJ
set_option linter.unusedVariables false
set_option linter.unusedSimpArgs false
set_option maxRecDepth 100000
namespace Go.Proofs.Ytkdmlpigkmlkmaa.Tb
open Go.RowKit Go.Proofs.Ytkdmlpigkmlkmaa Go.Proofs.Ytkdmlpigkmlkmaa.TreeP Go.Proofs.Ytkdmlpigkmlkmaa.Tr Go.Proofs.Ytkdmlpigkmlkmaa.Bk

/-- no table -/
def NilT (l : List HP) (a : Option Addr) : Prop := ∀ w, Own l w → Calls Try.prog 48 #[.pointer a] w fun e w' => e = .returned (.bool true) ∧ w = w'
theorem nilT_none (l : List HP) : NilT l none := by
  intro w h
  clear h
  go_enter Try.func48, Try.ntmps48
  go_wp2
  go_ret
  exact ⟨rfl, rfl⟩
abbrev zeroT : Array Value := #[.slice none 0 0, .pointer none, .pointer none, .int .u64 0]
theorem nilT_zero (l : List HP) (b : Nat) (hm : Go.Proofs.Ytkdmlpigkmlkmaa.Blk b zeroT 82 ∈ l) : NilT l (some ⟨b, 0, none⟩) := by
  intro w h
  obtain ⟨c0, -, -, -, -⟩ := Go.Proofs.Ytkdmlpigkmlkmaa.Own.blk4 h hm
  have he : ∀ w : World, (binOp .eql 78 (.slice none 0 0) (.slice none 0 0)).run Try.prog w = .ok (.bool true) w := fun _ => rfl
  clear h hm
  go_enter Try.func48, Try.ntmps48
  go_wp2
  go_ret
  exact ⟨rfl, rfl⟩
section
variable {l : List HP} {a : Option Addr} {w : World}
theorem NilT.more (h : NilT l a) (P : HP) : NilT (P :: l) a := fun w hw => h w hw.drop
theorem nil_at (hn : NilT l a) (h : Own l w) (f : Int) : Calls Try.prog 51 #[.pointer a, .int .i64 f] w fun e w' => e = .returned (.pointer none) ∧ w = w' := by
  have HN := Lib.hid (hn w h)
  clear h hn
  go_enter Try.func51, Try.ntmps51
  go_wp2_with (go_at_call 48; (with_reducible refine (HN.out).mono ?_); rintro e w' ⟨rfl, rfl⟩)
  go_ret
  exact ⟨rfl, rfl⟩
theorem nil_does (hn : NilT l a) (h : Own l w) (f : Int) (c : Value) : Calls Try.prog 55 #[.pointer a, .int .i64 f, c] w fun e w' => e = .returned (.int .i64 1) ∧ w = w' := by
  have HN := Lib.hid (hn w h)
  have HA := Lib.hid (nil_at hn h f)
  clear h hn
  go_enter Try.func55, Try.ntmps55
  go_wp2_with (first
    | (go_at_call 48; (with_reducible refine (HN.out).mono ?_); rintro e w' ⟨rfl, rfl⟩)
    | (go_at_call 51; (with_reducible refine (HA.out).mono ?_); rintro e w' ⟨rfl, rfl⟩))
  go_ret
  exact ⟨rfl, rfl⟩
theorem nil_rests (hn : NilT l a) (h : Own l w) (f : Int) : Calls Try.prog 21 #[.pointer a, .int .i64 f] w fun e w' => e = .returned (.bool false) ∧ Own l w' := by
  have HN := Lib.hid (nil_at hn h f)
  have H := Lib.hid h
  clear h hn
  go_enter Try.func21, Try.ntmps21
  go_wp2_with (go_at_call 51; (with_reducible refine (HN.out).mono ?_); rintro e w' ⟨rfl, rfl⟩)
  go_ret
  exact ⟨rfl, H.out⟩
theorem nil_drop (hn : NilT l a) (h : Own l w) (f : Int) : Calls Try.prog 17 #[.pointer a, .int .i64 f] w fun e w' => e = .returned (.bool false) ∧ Own l w' := by
  have HN := Lib.hid (nil_at hn h f)
  have H := Lib.hid h
  clear h hn
  go_enter Try.func17, Try.ntmps17
  go_wp2_with (go_at_call 51; (with_reducible refine (HN.out).mono ?_); rintro e w' ⟨rfl, rfl⟩)
  go_ret
  exact ⟨rfl, H.out⟩
theorem nil_keep (hn : NilT l a) (h : Own l w) (k : Int) : Calls Try.prog 36 #[.pointer a, .int .u64 k] w fun e w' => e = .returned (.int .i64 1) ∧ Own l w' := by
  have HN := Lib.hid (hn w h)
  have H := Lib.hid h
  clear h hn
  go_enter Try.func36, Try.ntmps36
  go_wp2_with (go_at_call 48; (with_reducible refine (HN.out).mono ?_); rintro e w' ⟨rfl, rfl⟩)
  go_ret
  exact ⟨rfl, H.out⟩
theorem nil_rebuild (hn : NilT l a) (h : Own l w) (f : Int) : Calls Try.prog 28 #[.pointer a, .int .i64 f] w fun e w' => e = .returned (.int .i64 1) ∧ Own l w' := by
  have HN := Lib.hid (hn w h)
  have H := Lib.hid h
  clear h hn
  go_enter Try.func28, Try.ntmps28
  go_wp2_with (go_at_call 48; (with_reducible refine (HN.out).mono ?_); rintro e w' ⟨rfl, rfl⟩)
  go_ret
  exact ⟨rfl, H.out⟩
theorem nil_bits (hn : NilT l a) (h : Own l w)  : Calls Try.prog 29 #[.pointer a] w fun e w' => e = .returned (.int .i64 0) ∧ Own l w' := by
  have HN := Lib.hid (hn w h)
  have H := Lib.hid h
  clear h hn
  go_enter Try.func29, Try.ntmps29
  go_wp2_with (go_at_call 48; (with_reducible refine (HN.out).mono ?_); rintro e w' ⟨rfl, rfl⟩)
  go_ret
  exact ⟨rfl, H.out⟩
theorem nil_len (hn : NilT l a) (h : Own l w)  : Calls Try.prog 16 #[.pointer a] w fun e w' => e = .returned (.int .i64 0) ∧ Own l w' := by
  have HN := Lib.hid (hn w h)
  have H := Lib.hid h
  clear h hn
  go_enter Try.func16, Try.ntmps16
  go_wp2_with (go_at_call 48; (with_reducible refine (HN.out).mono ?_); rintro e w' ⟨rfl, rfl⟩)
  go_ret
  exact ⟨rfl, H.out⟩
theorem nil_all (hn : NilT l a) (h : Own l w)  : Calls Try.prog 23 #[.pointer a] w fun e w' => e = .returned (.slice none 0 0) ∧ Own l w' := by
  have HN := Lib.hid (hn w h)
  have H := Lib.hid h
  clear h hn
  go_enter Try.func23, Try.ntmps23
  go_wp2_with (go_at_call 48; (with_reducible refine (HN.out).mono ?_); rintro e w' ⟨rfl, rfl⟩)
  go_ret
  exact ⟨rfl, H.out⟩
theorem nil_get (hn : NilT l a) (h : Own l w) (f : Int) : Calls Try.prog 20 #[.pointer a, .int .i64 f] w fun e w' => e = .returned (.tuple #[fagg F0, .bool false]) ∧ Own l w' := by
  have h2 := h.step ((Ext.refl w).alloc (.cells #[.int .u64 0, .int .u64 0, .int .u64 0, .int .i64 0, .int .u64 0, .int .u64 0, .int .u64 0] 41))
  have HA := Lib.hid (nil_at hn h2 f)
  have HF := Lib.hid fun o => h.step ((Ext.refl w).alloc o)
  clear h h2 hn
  go_enter Try.func20, Try.ntmps20
  go_wp2_with fail
  (with_reducible refine (HA.out).mono ?_)
  rintro e w2 ⟨rfl, rfl⟩
  clear HA
  go_wp2_with fail
  exact bodyPost_ret (v := .tuple #[fagg F0, .bool false]) (by simp [results, Try.results20, go_sem, F0]) rfl ⟨rfl, HF.out _⟩
theorem nil_rest (hn : NilT l a) (h : Own l w) (f : Int) (now : Int) : Calls Try.prog 15 #[.pointer a, .int .i64 f, .int .u64 now] w fun e w' => e = .returned (.int .i64 1) ∧ Own l w' := by
  have h2 := h.step ((Ext.refl w).alloc (.cells #[.int .u64 now] 22))
  have HD := Lib.hid fun c => nil_does hn h2 f c
  have H2 := Lib.hid h2
  clear h h2 hn
  go_enter Try.func15, Try.ntmps15
  go_wp2_with fail
  (with_reducible refine (HD.out _).mono ?_)
  rintro e w2 ⟨rfl, rfl⟩
  clear HD
  go_wp2_with fail
  go_ret
  exact ⟨rfl, H2.out⟩
theorem nil_busy (hn : NilT l a) (h : Own l w) (f : Int)  : Calls Try.prog 26 #[.pointer a, .int .i64 f] w fun e w' => e = .returned (.int .i64 1) ∧ Own l w' := by
  have h2 := h
  have HD := Lib.hid fun c => nil_does hn h2 f c
  have H2 := Lib.hid h2
  clear h h2 hn
  go_enter Try.func26, Try.ntmps26
  go_wp2_with fail
  (with_reducible refine (HD.out _).mono ?_)
  rintro e w2 ⟨rfl, rfl⟩
  clear HD
  go_wp2_with fail
  go_ret
  exact ⟨rfl, H2.out⟩
theorem nil_set (hn : NilT l a) (h : Own l w) (f : Int) (x : FD) : Calls Try.prog 27 #[.pointer a, .int .i64 f, fagg x] w fun e w' => e = .returned (.int .i64 1) ∧ Own l w' := by
  have h2 := h.step ((Ext.refl w).alloc (.cells (f7 x) 41))
  have HD := Lib.hid fun c => nil_does hn h2 f c
  have H2 := Lib.hid h2
  clear h h2 hn
  go_enter Try.func27, Try.ntmps27
  go_wp2_with fail
  (with_reducible refine (HD.out _).mono ?_)
  rintro e w2 ⟨rfl, rfl⟩
  clear HD
  go_wp2_with fail
  go_ret
  exact ⟨rfl, H2.out⟩
theorem nil_find (hn : NilT l a) (h : Own l w) (sock cookie now : Int) : Calls Try.prog 13 #[.pointer a, .int .u64 sock, .int .u64 cookie, .int .u64 now, pace] w fun e w' => e = .returned (.tuple #[.int .i64 0, .int .u8 0, .int .i64 1]) ∧ Own l w' := by
  have h2 := h.step ((Ext.refl w).alloc (.cells #[.int .i64 100, .int .i64 300, .int .u64 0, .int .u64 0, .int .u64 0] 30))
  have HN := Lib.hid (hn _ h2)
  have H2 := Lib.hid h2
  clear h h2 hn
  go_enter Try.func13, Try.ntmps13
  go_wp2_with fail
  (with_reducible refine (HN.out).mono ?_)
  rintro e w2 ⟨rfl, rfl⟩
  clear HN
  go_wp2_with fail
  go_ret3
  exact ⟨rfl, H2.out⟩
end
set_option maxHeartbeats 4000000 in
theorem none_row (sock f : Int) (hs : (Lit.int .u64 sock).wf = true) (hf : (Lit.int .i64 f).wf = true) (w : World) :
    Calls Try.prog 9 #[.int .u64 sock, .int .i64 f] w fun e w' => e = .returned (.bool true) ∧ Ext w w' := by
  clear hs hf
  have h3 := Go.Proofs.Ytkdmlpigkmlkmaa.Own.blkNew (Go.Proofs.Ytkdmlpigkmlkmaa.Own.blkNew (Own.start w) zeroT 82) #[.pointer none, .pointer (some ⟨w.heap.size, 0, none⟩)] 23
  simp only [World.size_alloc] at h3
  obtain ⟨bz, hbz⟩ : ∃ b, b = w.heap.size := ⟨_, rfl⟩
  rw [← hbz] at h3
  obtain ⟨W, hW⟩ : ∃ W, W = (w.alloc (.cells zeroT 82)).alloc (.cells #[.pointer none, .pointer (some ⟨bz, 0, none⟩)] 23) := ⟨_, rfl⟩
  rw [← hW] at h3
  obtain ⟨LL, hLL⟩ : ∃ LL, LL = [Go.Proofs.Ytkdmlpigkmlkmaa.Blk (bz + 1) #[.pointer none, .pointer (some ⟨bz, 0, none⟩)] 23, Go.Proofs.Ytkdmlpigkmlkmaa.Blk bz zeroT 82, Old w] := ⟨_, rfl⟩
  rw [← hLL] at h3
  have HP : Hid (∀ w', Own LL w' → ∀ i, i < 2 → ∃ a, w'.cell? ⟨bz + 1, i, none⟩ = some (.pointer a) ∧ NilT LL a) := Lib.hid fun w' h' i hi => by
    have h2 := h'
    rw [hLL] at h2
    have hb := Go.Proofs.Ytkdmlpigkmlkmaa.Own.blk h2 (.head _)
    rcases i with _ | _ | i
    · exact ⟨none, by simp [World.cell?, hb], nilT_none _⟩
    · exact ⟨some ⟨bz, 0, none⟩, by simp [World.cell?, hb], nilT_zero _ bz (by rw [hLL]; exact .tail _ (.head _))⟩
    · omega
  have HOLD : Hid (∀ w', Own LL w' → Ext w w') := Lib.hid fun w' h' => by
    rw [hLL] at h'
    exact h'.ext (by simp)
  have H3 := Lib.hid h3
  have HW := Lib.hid hW
  have HBZ := Lib.hid hbz
  clear h3 hW hbz hLL
  go_enter Try.func9, Try.ntmps9
  go_wp2_with fail
  rw [← HBZ.out, ← HW.out]
  clear HW HBZ
  go_loopw [16] (fun vi wr => ∃ i : Nat, vi = .int .i64 (i : Int) ∧ i ≤ 2 ∧ Own LL wr) (fun vi _ => 2 - (intOf vi).toNat)
  case atStart => exact ⟨0, rfl, by omega, H3.out⟩
  case round =>
    clear H3
    obtain ⟨i, rfl, hi, h⟩ := hrel
    by_cases hlt : i < 2
    · have hltI : (i : Int) < 2 := by omega
      obtain ⟨a, ca, hN⟩ := HP.out wr h i hlt
      have HN := Lib.hid hN
      have HPA := Lib.hid (pace_own h)
      clear h hN
      go_wp2_with fail
      (with_reducible refine (HPA.out).mono ?_)
      rintro e w1 ⟨rfl, h1⟩
      have HFI := Lib.hid (nil_find HN.out h1 sock 1 2)
      clear h1 HPA ca
      go_wp2_with fail
      (with_reducible refine (HFI.out).mono ?_)
      rintro e w2 ⟨rfl, h2⟩
      have HGE := Lib.hid (nil_get HN.out h2 f)
      clear h2 HFI
      go_wp2_with fail
      (with_reducible refine (HGE.out).mono ?_)
      rintro e w3 ⟨rfl, h3⟩
      have h4 := Go.Proofs.Ytkdmlpigkmlkmaa.Own.blkNew h3 (f7 F0) 41
      obtain ⟨b10, hb10⟩ : ∃ b, b = w3.heap.size := ⟨_, rfl⟩
      rw [← hb10] at h4
      obtain ⟨b0, b1, b2, b3, b4, b5, b6⟩ := bf_cells (b := b10) (F := F0) h4 (.head _)
      simp only [F0] at b0 b1 b2 b3 b4 b5 b6
      have hset := nil_set (w := w3.alloc (.cells (f7 F0) 41)) HN.out h4.drop f F0
      simp only [F0] at hset
      obtain ⟨W4, hW4⟩ : ∃ W4, W4 = w3.alloc (.cells #[.int .u64 0, .int .u64 0, .int .u64 0, .int .i64 0, .int .u64 0, .int .u64 0, .int .u64 0] 41) := ⟨_, rfl⟩
      have HSE : Hid (Calls Try.prog 27 #[.pointer a, .int .i64 f, .agg #[.int .u64 0, .int .u64 0, .int .u64 0, .int .i64 0, .int .u64 0, .int .u64 0, .int .u64 0]] W4 fun e w' => e = .returned (.int .i64 1) ∧ Own LL w') := Lib.hid (by rw [hW4]; exact hset)
      have HB10 := Lib.hid hb10
      have HW4 := Lib.hid hW4
      have HRE : Hid (∀ w', Own LL w' → Calls Try.prog 15 #[.pointer a, .int .i64 f, .int .u64 1] w' fun e w2 => e = .returned (.int .i64 1) ∧ Own LL w2) := Lib.hid fun w' h' => nil_rest HN.out h' f 1
      have HBU : Hid (∀ w', Own LL w' → Calls Try.prog 26 #[.pointer a, .int .i64 f] w' fun e w2 => e = .returned (.int .i64 1) ∧ Own LL w2) := Lib.hid fun w' h' => nil_busy HN.out h' f
      have HKE : Hid (∀ w', Own LL w' → Calls Try.prog 36 #[.pointer a, .int .u64 1] w' fun e w2 => e = .returned (.int .i64 1) ∧ Own LL w2) := Lib.hid fun w' h' => nil_keep HN.out h' 1
      have HRB : Hid (∀ w', Own LL w' → Calls Try.prog 28 #[.pointer a, .int .i64 f] w' fun e w2 => e = .returned (.int .i64 1) ∧ Own LL w2) := Lib.hid fun w' h' => nil_rebuild HN.out h' f
      have HRS : Hid (∀ w', Own LL w' → Calls Try.prog 21 #[.pointer a, .int .i64 f] w' fun e w2 => e = .returned (.bool false) ∧ Own LL w2) := Lib.hid fun w' h' => nil_rests HN.out h' f
      have HDR : Hid (∀ w', Own LL w' → Calls Try.prog 17 #[.pointer a, .int .i64 f] w' fun e w2 => e = .returned (.bool false) ∧ Own LL w2) := Lib.hid fun w' h' => nil_drop HN.out h' f
      have HBI : Hid (∀ w', Own LL w' → Calls Try.prog 29 #[.pointer a] w' fun e w2 => e = .returned (.int .i64 0) ∧ Own LL w2) := Lib.hid fun w' h' => nil_bits HN.out h'
      have HLE : Hid (∀ w', Own LL w' → Calls Try.prog 16 #[.pointer a] w' fun e w2 => e = .returned (.int .i64 0) ∧ Own LL w2) := Lib.hid fun w' h' => nil_len HN.out h'
      have HAL : Hid (∀ w', Own LL w' → Calls Try.prog 23 #[.pointer a] w' fun e w2 => e = .returned (.slice none 0 0) ∧ Own LL w2) := Lib.hid fun w' h' => nil_all HN.out h'
      clear h3 h4 hb10 hW4 hset HGE
      unfold F0
      go_upto_region 6 with fail
      dsimp only [List.append]
      go_wp2_with fail
      try rw [← HB10.out]
      try rw [← HW4.out]
      (with_reducible refine (HSE.out).mono ?_)
      rintro e w5 ⟨rfl, hz⟩
      clear b0 b1 b2 b3 b4 b5 b6 HSE
      go_wp2_with (first
        | (go_at_call 15; (with_reducible refine (HRE.out _ (by assumption)).mono ?_); rintro e w6 ⟨rfl, hz⟩)
        | (go_at_call 26; (with_reducible refine (HBU.out _ (by assumption)).mono ?_); rintro e w6 ⟨rfl, hz⟩)
        | (go_at_call 36; (with_reducible refine (HKE.out _ (by assumption)).mono ?_); rintro e w6 ⟨rfl, hz⟩)
        | (go_at_call 28; (with_reducible refine (HRB.out _ (by assumption)).mono ?_); rintro e w6 ⟨rfl, hz⟩)
        | (go_at_call 21; (with_reducible refine (HRS.out _ (by assumption)).mono ?_); rintro e w6 ⟨rfl, hz⟩)
        | (go_at_call 17; (with_reducible refine (HDR.out _ (by assumption)).mono ?_); rintro e w6 ⟨rfl, hz⟩)
        | (go_at_call 29; (with_reducible refine (HBI.out _ (by assumption)).mono ?_); rintro e w6 ⟨rfl, hz⟩)
        | (go_at_call 16; (with_reducible refine (HLE.out _ (by assumption)).mono ?_); rintro e w6 ⟨rfl, hz⟩)
        | (go_at_call 23; (with_reducible refine (HAL.out _ (by assumption)).mono ?_); rintro e w6 ⟨rfl, hz⟩))
      exact ⟨⟨i + 1, by go_num, by omega, by assumption⟩, by simp [intOf]; omega⟩
    · obtain rfl : i = 2 := by omega
      have HA := Lib.hid (awake_any h)
      clear h
      go_wp2_with fail
      (with_reducible refine (HA.out).mono ?_)
      rintro e w8 ⟨rfl, h8⟩
      have H8 := Lib.hid h8
      clear h8 HA
      go_wp2_with fail
      go_ret
      exact ⟨rfl, HOLD.out _ H8.out⟩
end Go.Proofs.Ytkdmlpigkmlkmaa.Tb
