/- DERIVED. Layer 7 (walk): contracts of From, Upto. -/
import Derived.Test.YtekdahppacghbabWkC
set_option linter.unusedVariables false
set_option linter.unusedSimpArgs false
set_option maxRecDepth 100000
namespace Go.Proofs.Ytekdahppacghbab.Wk
open Go.RowKit Go.Shelf Go.Proofs.Ytekdahppacghbab Go.Proofs.Ytekdahppacghbab.TreeP Go.Proofs.Ytekdahppacghbab.Tr

/-- any key may be: From's and Sweep's inner functions -/
theorem may1_any (x s : Int) {l : List HP} {w : World} (h : Own l w) :
    Calls Try.prog 31 #[Tr.key x s] w fun e w' => e = .returned (.bool true) ∧ Own l w' := by
  have H := Lib.hid (h.step ((Ext.refl w).alloc (.cells #[.int .u64 x, .int .u64 s] 24)))
  clear h
  go_enter Try.func31, Try.ntmps31
  go_wp2
  go_ret
  exact ⟨rfl, H.out⟩
theorem may2_any (x s : Int) {l : List HP} {w : World} (h : Own l w) :
    Calls Try.prog 28 #[Tr.key x s] w fun e w' => e = .returned (.bool true) ∧ Own l w' := by
  have H := Lib.hid (h.step ((Ext.refl w).alloc (.cells #[.int .u64 x, .int .u64 s] 24)))
  clear h
  go_enter Try.func28, Try.ntmps28
  go_wp2
  go_ret
  exact ⟨rfl, H.out⟩
abbrev BA (b : Nat) (at' : Int) : HP := Go.Proofs.Ytekdahppacghbab.Blk b #[.int .u64 at'] 22
/-- up to an instant: Upto's inner function -/
theorem may3_any (x s at' : Int) (b : Nat) {l : List HP} {w : World} (h : Own (BA b at' :: l) w) :
    Calls Try.prog 32 #[Tr.key x s, .pointer (some ⟨b, 0, none⟩)] w fun e w' => e = .returned (.bool (decide (x ≤ at'))) ∧ Own (BA b at' :: l) w' := by
  have h1 := h.step ((Ext.refl w).alloc (.cells #[.int .u64 x, .int .u64 s] 24))
  have hb := Go.Proofs.Ytekdahppacghbab.Own.blk h1 (b := b) (cs := #[.int .u64 at']) (t := 22) (by simp)
  have b0 : (w.alloc (.cells #[.int .u64 x, .int .u64 s] 24)).cell? ⟨b, 0, none⟩ = some (.int .u64 at') := by simp [World.cell?, hb]
  obtain ⟨B, hB⟩ : ∃ B, B = decide (x ≤ at') := ⟨_, rfl⟩
  rw [← hB]
  have hB' := hB.symm
  have H := Lib.hid h1
  clear h h1 hb hB
  go_enter Try.func32, Try.ntmps32
  go_wp2
  go_ret
  exact ⟨rfl, H.out⟩
/-- not above: Sweep's other inner function -/
theorem may4_any (x s y u : Int) (b : Nat) {l : List HP} {w : World} (h : Own (BK b y u :: l) w) :
    Calls Try.prog 30 #[Tr.key x s, .pointer (some ⟨b, 0, none⟩)] w fun e w' => e = .returned (.bool (!lt (y, u) (x, s))) ∧ Own (BK b y u :: l) w' := by
  have h1 := h.step ((Ext.refl w).alloc (.cells #[.int .u64 x, .int .u64 s] 24))
  have hb := Go.Proofs.Ytekdahppacghbab.Own.blk h1 (b := b) (cs := #[.int .u64 y, .int .u64 u]) (t := 24) (by simp)
  have b0 : (w.alloc (.cells #[.int .u64 x, .int .u64 s] 24)).cell? ⟨b, 0, none⟩ = some (.int .u64 y) := by simp [World.cell?, hb]
  have b1 : (w.alloc (.cells #[.int .u64 x, .int .u64 s] 24)).cell? ⟨b, 1, none⟩ = some (.int .u64 u) := by simp [World.cell?, hb]
  have H := Lib.hid h1
  clear h h1 hb
  by_cases c1 : x < y
  · have e1 : decide (x < y) = true := by simpa using c1
    have e : (!lt (y, u) (x, s)) = true := by simp [lt]; omega
    rw [e]
    clear e
    go_enter Try.func30, Try.ntmps30
    go_wp2
    go_ret
    exact ⟨rfl, H.out⟩
  · have e1 : decide (x < y) = false := by simpa using c1
    by_cases c2 : x = y
    · subst c2
      obtain ⟨B, hB⟩ : ∃ B, B = decide (s ≤ u) := ⟨_, rfl⟩
      have e : (!lt (x, u) (x, s)) = B := by rw [hB]; simp [lt]; by_cases hh : u < s <;> simp [hh] <;> omega
      rw [e]
      have hB' := hB.symm
      clear e hB
      go_enter Try.func30, Try.ntmps30
      go_wp2
      go_ret
      exact ⟨rfl, H.out⟩
    · have e2 : (x == y) = false := by simp [c2]
      have e : (!lt (y, u) (x, s)) = false := by simp [lt]; omega
      rw [e]
      clear e
      go_enter Try.func30, Try.ntmps30
      go_wp2
      go_ret
      exact ⟨rfl, H.out⟩
theorem em1 : ∀ args w, (callFunc 31 args).run Try.prog w = .ok (.enter 31 args) w := enters_of Try.func31 (by kernel_rfl) rfl
theorem em2 : ∀ args w, (callFunc 28 args).run Try.prog w = .ok (.enter 28 args) w := enters_of Try.func28 (by kernel_rfl) rfl
theorem em3 : ∀ args w, (callFunc 32 args).run Try.prog w = .ok (.enter 32 args) w := enters_of Try.func32 (by kernel_rfl) rfl
theorem em4 : ∀ args w, (callFunc 30 args).run Try.prog w = .ok (.enter 30 args) w := enters_of Try.func30 (by kernel_rfl) rfl
theorem eg1 : ∀ args w, (callFunc 45 args).run Try.prog w = .ok (.enter 45 args) w := enters_of Try.func45 (by kernel_rfl) rfl
theorem eg2 : ∀ args w, (callFunc 47 args).run Try.prog w = .ok (.enter 47 args) w := enters_of Try.func47 (by kernel_rfl) rfl
theorem someL_true (xs : List En) (n : Nat) : someL xs n (fun _ => true) = xs.take n := by
  unfold someL
  have := List.takeWhile_append_of_pos (p := fun e : En => (fun _ : Key => true) e.1) (l₁ := xs) (l₂ := []) (fun _ _ => rfl)
  simp only [List.append_nil, List.takeWhile_nil] at this
  rw [this]
theorem someL_zero (xs : List En) (may : Key → Bool) : someL xs 0 may = [] := by unfold someL; rw [List.take_zero]
/-- some, whatever the number is -/
theorem some_all {gf mf : Nat} {lb ml : Array Value} (eg : ∀ args w, (callFunc gf args).run Try.prog w = .ok (.enter gf args) w) (em : ∀ args w, (callFunc mf args).run Try.prog w = .ok (.enter mf args) w) {xs : List En} {R0 : List HP} (hseq : SeqO Try.prog gf lb encE xs R0) (hlen : xs.length ≤ 65536)
    (may : Key → Bool) (MB : List HP) (hmay : ∀ (X : List HP) (W : World) (q : Key), Own (MB ++ X) W → Calls Try.prog mf (#[Tr.key q.1 q.2] ++ ml) W fun e W' => e = .returned (.bool (may q)) ∧ Own (MB ++ X) W')
    (n : Int) (hn2 : n < 9223372036854775808) {R1 : List HP} {w : World} (h : Own (MB ++ (R0 ++ R1)) w) :
    Calls Try.prog 26 #[.func (.func gf) #[] lb, .int .i64 n, .func (.func mf) #[] ml] w fun e w' => ∃ v, e = .returned v ∧ Own (RE v (someL xs n.toNat may) :: (MB ++ (R0 ++ R1))) w' := by
  by_cases hn : n < 1
  · have e : n.toNat = 0 := by omega
    rw [e, someL_zero]
    exact (some_none n hn h).mono fun e w2 ⟨he, hw⟩ => ⟨_, he, hw.nilRow _ 3⟩
  · obtain ⟨k, rfl⟩ := Int.eq_ofNat_of_zero_le (show 0 ≤ n by omega)
    exact some_any eg em hseq hlen may MB hmay k (by omega) (by omega) h
section
variable {a : Option Addr} {TL l : List HP} {E : List En} {w : World}
theorem own_from (hL : Lk a TL E) (hE : E.length ≤ 60000) (x s n : Int) (hn : n < 9223372036854775808) (h : Own (TL ++ l) w) :
    Calls Try.prog 11 #[.pointer a, Tr.key x s, .int .i64 n] w fun e w' => ∃ v, e = .returned v ∧ Own (RE v ((fromL E (x, s)).take n.toNat) :: (TL ++ l)) w' := by
  have h1 : Own (BK w.heap.size x s :: (TL ++ l)) (w.alloc (.cells #[.int .u64 x, .int .u64 s] 24)) := Go.Proofs.Ytekdahppacghbab.Own.blkNew h #[.int .u64 x, .int .u64 s] 24
  have hb := Go.Proofs.Ytekdahppacghbab.Own.blk h1 (.head _)
  have hl : (fromL E (x, s)).length ≤ 65536 := by
    unfold fromL above
    rw [List.length_append]
    have := List.length_filter_le (fun e : En => lt (x, s) e.1) E
    have : ((Tr.look E (x, s)).map fun v => ((x, s), v)).toList.length ≤ 1 := by cases Tr.look E (x, s) <;> simp
    omega
  have HF := Lib.hid (from_any a x s h1)
  have HS : Hid (∀ (b k : Nat) (w' : World) (l2 : List HP), Own (BT b a :: BK k x s :: (TL ++ l2)) w' → Calls Try.prog 26 #[.func (.func 47) #[] #[.pointer (some ⟨b, 0, none⟩), .pointer (some ⟨k, 0, none⟩)], .int .i64 n, .func (.func 31) #[] #[]] w' fun e w' => ∃ v, e = .returned v ∧ Own (RE v ((fromL E (x, s)).take n.toNat) :: (TL ++ l2)) w') := Lib.hid (fun b k w' l2 h' => by
    have := some_all eg2 em1 (from_seq hL b k x s) hl (fun _ => true) [] (fun X W q hX => by rw [Array.append_empty]; exact may1_any q.1 q.2 hX) n hn (R1 := l2) (w := w') h'
    rw [someL_true] at this
    exact this.mono fun e w2 ⟨v, he, hw⟩ => ⟨v, he, hw.third.third.drop.drop⟩)
  clear h1 hL hl h hn
  go_enter Try.func11, Try.ntmps11
  go_wp2_with fail
  refine (HF.out).mono ?_
  rintro e w2 ⟨b, k, rfl, h2⟩
  have H2 := Lib.hid (h2.perm (l' := BT b a :: BK k x s :: (TL ++ (BK w.heap.size x s :: l))) (by
    classical
    rw [List.perm_iff_count]
    intro a
    simp only [List.count_append, List.count_cons]
    omega))
  clear h2 HF hb
  go_wp2_with fail
  refine (HS.out b k w2 _ H2.out).mono ?_
  rintro e w3 ⟨v, rfl, h3⟩
  have H3 := Lib.hid (h3.perm (l' := BK w.heap.size x s :: RE v ((fromL E (x, s)).take n.toNat) :: (TL ++ l)) (by
    classical
    rw [List.perm_iff_count]
    intro a
    simp only [List.count_append, List.count_cons]
    omega)).drop
  clear h3 HS H2
  go_wp2_with fail
  go_ret
  exact ⟨_, rfl, H3.out⟩
theorem own_upto (hL : Lk a TL E) (hE : E.length ≤ 60000) (at' n : Int) (hn : n < 9223372036854775808) (h : Own (TL ++ l) w) :
    Calls Try.prog 12 #[.pointer a, .int .u64 at', .int .i64 n] w fun e w' => ∃ v, e = .returned v ∧ Own (RE v (someL (fromL E (0, 0)) n.toNat (fun q => decide (q.1 ≤ at'))) :: (TL ++ l)) w' := by
  have h1 : Own (BA w.heap.size at' :: (TL ++ l)) (w.alloc (.cells #[.int .u64 at'] 22)) := Go.Proofs.Ytekdahppacghbab.Own.blkNew h #[.int .u64 at'] 22
  have hl : (fromL E (0, 0)).length ≤ 65536 := by
    unfold fromL above
    rw [List.length_append]
    have := List.length_filter_le (fun e : En => lt (0, 0) e.1) E
    have : ((Tr.look E (0, 0)).map fun v => (((0 : Int), (0 : Int)), v)).toList.length ≤ 1 := by cases Tr.look E (0, 0) <;> simp
    omega
  have HF := Lib.hid (from_any a 0 0 h1)
  have HS : Hid (∀ (b k : Nat) (w' : World) (l2 : List HP), Own (BA w.heap.size at' :: (BT b a :: BK k 0 0 :: (TL ++ l2))) w' → Calls Try.prog 26 #[.func (.func 47) #[] #[.pointer (some ⟨b, 0, none⟩), .pointer (some ⟨k, 0, none⟩)], .int .i64 n, .func (.func 32) #[] #[.pointer (some ⟨w.heap.size, 0, none⟩)]] w' fun e w' => ∃ v, e = .returned v ∧ Own (RE v (someL (fromL E (0, 0)) n.toNat (fun q => decide (q.1 ≤ at'))) :: BA w.heap.size at' :: BT b a :: BK k 0 0 :: (TL ++ l2)) w') := Lib.hid (fun b k w' l2 h' => by
    exact some_all eg2 em3 (from_seq hL b k 0 0) hl (fun q => decide (q.1 ≤ at')) [BA w.heap.size at'] (fun X W q hX => by
      simp only [List.append_toArray, List.cons_append, List.nil_append]
      exact may3_any q.1 q.2 at' w.heap.size hX) n hn (R1 := l2) (w := w') h')
  have H1 := Lib.hid h1
  clear h1 hL hl h hn
  go_enter Try.func12, Try.ntmps12
  go_wp2_with fail
  refine (HF.out).mono ?_
  rintro e w2 ⟨b, k, rfl, h2⟩
  have H2 := Lib.hid (h2.perm (l' := BA w.heap.size at' :: (BT b a :: BK k 0 0 :: (TL ++ l))) (by
    classical
    rw [List.perm_iff_count]
    intro a
    simp only [List.count_append, List.count_cons]
    omega))
  clear h2 HF
  go_wp2_with fail
  refine (HS.out b k w2 _ H2.out).mono ?_
  rintro e w3 ⟨v, rfl, h3⟩
  have H3 := Lib.hid h3.swap.drop.swap.drop.swap.drop
  clear h3 HS H2
  go_wp2_with fail
  go_ret
  exact ⟨_, rfl, (H3.out)⟩
end
end Go.Proofs.Ytekdahppacghbab.Wk
