/- DERIVED. Layer 15 (rehash): numbers that may not be; no table; the chapter's examples; the law RehashWrong. -/
import Derived.Test.YtkdmlpigkmlkmaaReB
import Derived.Test.YtkdmlpigkmlkmaaBlk
import Derived.LoopN
set_option linter.unusedVariables false
set_option linter.unusedSimpArgs false
set_option maxRecDepth 100000
namespace Go.Proofs.Ytkdmlpigkmlkmaa.Re
open Go.RowKit Go.Proofs.Ytkdmlpigkmlkmaa Go.Proofs.Ytkdmlpigkmlkmaa.ReP

theorem want_bad (f b : Int) (h : f < 0 ∨ 4096 < f ∨ b < 0 ∨ 10 < b) (w : World) :
    Calls Try.prog 72 #[.int .i64 f, .int .i64 b] w fun e w' => e = .returned (.tuple #[.int .i64 0, .int .i64 2]) ∧ w = w' := by
  by_cases b1 : b < 0
  · have b2 : ¬ 10 < b := by omega
    by_cases f1 : f < 0
    · clear h
      go_enter Try.func72, Try.ntmps72
      go_wp2_with fail
      go_ret2
      exact ⟨rfl, rfl⟩
    · have f1' : decide (f < 0) = false := by simpa using f1
      by_cases f2 : 4096 < f
      · clear h
        go_enter Try.func72, Try.ntmps72
        go_wp2_with fail
        go_ret2
        exact ⟨rfl, rfl⟩
      · have f2' : decide (4096 < f) = false := by simpa using f2
        clear h
        go_enter Try.func72, Try.ntmps72
        go_wp2_with fail
        go_ret2
        exact ⟨rfl, rfl⟩
  · obtain ⟨k, rfl⟩ := Int.eq_ofNat_of_zero_le (show 0 ≤ b by omega)
    by_cases b2 : 10 < (k : Int)
    · by_cases f1 : f < 0
      · clear h
        go_enter Try.func72, Try.ntmps72
        go_wp2_with fail
        go_ret2
        exact ⟨rfl, rfl⟩
      · have f1' : decide (f < 0) = false := by simpa using f1
        by_cases f2 : 4096 < f
        · clear h
          go_enter Try.func72, Try.ntmps72
          go_wp2_with fail
          go_ret2
          exact ⟨rfl, rfl⟩
        · have f2' : decide (4096 < f) = false := by simpa using f2
          clear h
          go_enter Try.func72, Try.ntmps72
          go_wp2_with fail
          go_ret2
          exact ⟨rfl, rfl⟩
    · have kI : (k : Int) ≤ 10 := by omega
      by_cases f1 : f < 0
      · clear h
        go_enter Try.func72, Try.ntmps72
        go_wp2_with fail
        go_ret2
        exact ⟨rfl, rfl⟩
      · have f1' : decide (f < 0) = false := by simpa using f1
        have f2 : 4096 < f := by omega
        clear h
        go_enter Try.func72, Try.ntmps72
        go_wp2_with fail
        go_ret2
        exact ⟨rfl, rfl⟩
theorem wants_yes (n k v : Nat) (hn : n ≤ 4096) (hk : k ≤ 10) (hv : ReP.want n k = v) (w : World) :
    Calls Try.prog 73 #[.int .i64 n, .int .i64 k, .int .i64 v] w fun e w' => e = .returned (.bool true) ∧ w = w' := by
  have hc := want_fine n k hn hk w
  rw [hv] at hc
  have HC := Lib.hid hc
  clear hc hv hn hk
  go_enter Try.func73, Try.ntmps73
  go_wp2_with (go_at_call 72; refine (HC.out).mono ?_; rintro e w' ⟨rfl, rfl⟩)
  go_ret
  exact ⟨rfl, rfl⟩
def NilIn (l : List HP) (a : Option Addr) : Prop := ∀ w, Own l w → Calls Try.prog 48 #[.pointer a] w fun e w' => e = .returned (.bool true) ∧ w = w'
theorem nilIn_none (l : List HP) : NilIn l none := by
  intro w h
  clear h
  go_enter Try.func48, Try.ntmps48
  go_wp2
  go_ret
  exact ⟨rfl, rfl⟩
abbrev zeroT : Array Value := #[.slice none 0 0, .pointer none, .pointer none, .int .u64 0]
theorem nilIn_zero (l : List HP) (b : Nat) (hm : Blk b zeroT 82 ∈ l) : NilIn l (some ⟨b, 0, none⟩) := by
  intro w h
  have hb := Own.blk h hm
  have c0 : w.cell? ⟨b, 0, none⟩ = some (.slice none 0 0) := by simp [World.cell?, hb]
  have he : ∀ w : World, (binOp .eql 78 (.slice none 0 0) (.slice none 0 0)).run Try.prog w = .ok (.bool true) w := fun _ => rfl
  clear h hb
  go_enter Try.func48, Try.ntmps48
  go_wp2
  go_ret
  exact ⟨rfl, rfl⟩
section
variable {l : List HP} {a : Option Addr} {w : World}
theorem nil_bits (hn : NilIn l a) (h : Own l w) :
    Calls Try.prog 29 #[.pointer a] w fun e w' => e = .returned (.int .i64 0) ∧ w = w' := by
  have HN := Lib.hid (hn w h)
  clear h hn
  go_enter Try.func29, Try.ntmps29
  go_wp2_with (go_at_call 48; refine (HN.out).mono ?_; rintro e w' ⟨rfl, rfl⟩)
  go_ret
  exact ⟨rfl, rfl⟩
theorem nil_len (hn : NilIn l a) (h : Own l w) :
    Calls Try.prog 16 #[.pointer a] w fun e w' => e = .returned (.int .i64 0) ∧ w = w' := by
  have HN := Lib.hid (hn w h)
  clear h hn
  go_enter Try.func16, Try.ntmps16
  go_wp2_with (go_at_call 48; refine (HN.out).mono ?_; rintro e w' ⟨rfl, rfl⟩)
  go_ret
  exact ⟨rfl, rfl⟩
theorem nil_rebuild (hn : NilIn l a) (h : Own l w) (k : Int) :
    Calls Try.prog 28 #[.pointer a, .int .i64 k] w fun e w' => e = .returned (.int .i64 1) ∧ w = w' := by
  have HN := Lib.hid (hn w h)
  clear h hn
  go_enter Try.func28, Try.ntmps28
  go_wp2_with (go_at_call 48; refine (HN.out).mono ?_; rintro e w' ⟨rfl, rfl⟩)
  go_ret
  exact ⟨rfl, rfl⟩
theorem nil_fit (hn : NilIn l a) (h : Own l w) :
    Calls Try.prog 44 #[.pointer a] w fun e w' => e = .returned (.tuple #[.int .i64 0, .int .i64 1]) ∧ w = w' := by
  have h1 := nil_bits hn h
  have h2 := nil_len hn h
  have h3 := nil_rebuild hn h 0
  have h4 := want_fine 0 0 (by omega) (by omega) w
  have H1 := Lib.hid h1
  have H2 := Lib.hid h2
  have H3 := Lib.hid h3
  have H4 : Hid (Calls Try.prog 72 #[.int .i64 0, .int .i64 0] w fun e w' => e = .returned (.tuple #[.int .i64 0, .int .i64 0]) ∧ w = w') := Lib.hid h4
  clear h1 h2 h3 h4 h hn
  go_enter Try.func44, Try.ntmps44
  go_wp2_with (first
    | (go_at_call 29; refine (H1.out).mono ?_; rintro e w' ⟨rfl, rfl⟩)
    | (go_at_call 16; refine (H2.out).mono ?_; rintro e w' ⟨rfl, rfl⟩)
    | (go_at_call 28; refine (H3.out).mono ?_; rintro e w' ⟨rfl, rfl⟩)
    | (go_at_call 72; refine (H4.out).mono ?_; rintro e w' ⟨rfl, rfl⟩))
  go_ret2
  exact ⟨rfl, rfl⟩
theorem nil_none (hn : NilIn l a) (h : Own l w) :
    Calls Try.prog 70 #[.pointer a] w fun e w' => e = .returned (.bool true) ∧ w = w' := by
  have H1 := Lib.hid (nil_bits hn h)
  have H3 := Lib.hid (nil_rebuild hn h 0)
  clear h hn
  go_enter Try.func70, Try.ntmps70
  go_wp2_with (first
    | (go_at_call 29; refine (H1.out).mono ?_; rintro e w' ⟨rfl, rfl⟩)
    | (go_at_call 28; refine (H3.out).mono ?_; rintro e w' ⟨rfl, rfl⟩))
  go_ret
  exact ⟨rfl, rfl⟩
theorem nil_spread (hn : NilIn l a) (h : Own l w) :
    Calls Try.prog 41 #[.pointer a] w fun e w' => e = .returned (.slice none 0 0) ∧ w = w' := by
  have H1 := Lib.hid (nil_none hn h)
  clear h hn
  go_enter Try.func41, Try.ntmps41
  go_wp2_with (go_at_call 70; refine (H1.out).mono ?_; rintro e w' ⟨rfl, rfl⟩)
  go_ret
  exact ⟨rfl, rfl⟩
theorem max_one (g cap : Nat) (w : World) (hc : w.cell? ⟨g, 0, none⟩ = some (.int .i64 0)) :
    Calls Try.prog 71 #[.slice (some ⟨g, 0, none⟩) 1 cap] w fun e w' => e = .returned (.int .i64 0) ∧ w = w' := by
  go_enter Try.func71, Try.ntmps71
  go_wp2
  refine wp_loop_rounds 1 ?_
  rw [rounds_succ]
  go_wp2
  go_ret
  exact ⟨rfl, rfl⟩
theorem infoInt : (Try.prog.info? 3).map (fun i => (i.zero, i.size, i.bytes)) = some (some (.int .i64 0), 1, 8) := by kernel_rfl
theorem nil_fullest (hn : NilIn l a) (h : Own l w) :
    Calls Try.prog 42 #[.pointer a] w fun e w' => e = .returned (.int .i64 0) ∧ Own l w' := by
  have H1 := Lib.hid (nil_spread hn h)
  have HO := Lib.hid (h.nilRow 3 1)
  clear h hn
  go_enter Try.func42, Try.ntmps42
  go_wp2_with fail
  refine (H1.out).mono ?_
  rintro e w' ⟨rfl, rfl⟩
  go_wp2_with (at_builtin; refine app_own (W := w) rfl _ _ _ _ _ 1 8 rfl Try.underlying47 infoInt rfl (by omega) (by omega) (.slice none 0 0) 0 [] [.int .i64 0] rfl _ (by rfl) rfl rfl (by simp [Value.oneCell']) (by exact HO.out.row) (by omega) ?_)
  intro v1 w2 hown hgrow hmv
  have h2 := HO.out.rowApp hown hgrow hmv
  obtain ⟨g, cap, rfl, -, -⟩ := own_cap hown (by omega)
  have hcell : w2.cell? ⟨g, 0, none⟩ = some (.int .i64 0) := by
    obtain ⟨g', cap', e', -, hcs⟩ := own_form hown (by omega)
    injection e' with e1 _ _
    injection e1 with e1
    injection e1 with e1
    subst e1
    exact (hcs 0 _ rfl).1
  have HM : Hid (Calls Try.prog 71 #[.slice (some ⟨g, 0, none⟩) 1 cap] w2 fun e w' => e = .returned (.int .i64 0) ∧ w2 = w') := Lib.hid (max_one g cap w2 hcell)
  have H2 := Lib.hid h2.drop
  clear hown hgrow hmv h2 hcell
  go_wp2_with (go_at_call 71; refine (HM.out).mono ?_; rintro e w' ⟨rfl, rfl⟩)
  go_ret
  exact ⟨rfl, H2.out⟩
end
set_option maxHeartbeats 1000000 in
theorem awake_any {l : List HP} {w : World} (h : Own l w) :
    Calls Try.prog 43 #[] w fun e w' => e = .returned (.bool true) ∧ w = w' := by
  have H0 := Lib.hid (want_bad 4097 0 (.inr (.inl (by omega))) w)
  have H1 := Lib.hid (nil_fit (nilIn_none l) h)
  clear h
  go_enter Try.func43, Try.ntmps43
  go_wp2_with fail
  refine (H0.out).mono ?_
  rintro e w' ⟨rfl, rfl⟩
  go_wp2_with fail
  refine (H1.out).mono ?_
  rintro e w' ⟨rfl, rfl⟩
  go_wp2_with fail
  refine (wants_yes 3 0 2 (by omega) (by omega) (by decide) w).mono ?_
  rintro e w' ⟨rfl, rfl⟩
  go_wp2_with fail
  refine (wants_yes 2 0 0 (by omega) (by omega) (by decide) w).mono ?_
  rintro e w' ⟨rfl, rfl⟩
  go_wp2_with fail
  refine (wants_yes 5 1 3 (by omega) (by omega) (by decide) w).mono ?_
  rintro e w' ⟨rfl, rfl⟩
  go_wp2_with fail
  refine (wants_yes 4 1 1 (by omega) (by omega) (by decide) w).mono ?_
  rintro e w' ⟨rfl, rfl⟩
  go_wp2_with fail
  refine (wants_yes 0 0 0 (by omega) (by omega) (by decide) w).mono ?_
  rintro e w' ⟨rfl, rfl⟩
  go_wp2_with fail
  refine (wants_yes 0 3 0 (by omega) (by omega) (by decide) w).mono ?_
  rintro e w' ⟨rfl, rfl⟩
  go_wp2_with fail
  refine (wants_yes 1 3 3 (by omega) (by omega) (by decide) w).mono ?_
  rintro e w' ⟨rfl, rfl⟩
  go_wp2_with fail
  refine (wants_yes 1 4 0 (by omega) (by omega) (by decide) w).mono ?_
  rintro e w' ⟨rfl, rfl⟩
  go_wp2_with fail
  refine (wants_yes 4096 0 10 (by omega) (by omega) (by decide) w).mono ?_
  rintro e w' ⟨rfl, rfl⟩
  go_wp2_with fail
  go_ret
  exact ⟨rfl, rfl⟩
end Go.Proofs.Ytkdmlpigkmlkmaa.Re
