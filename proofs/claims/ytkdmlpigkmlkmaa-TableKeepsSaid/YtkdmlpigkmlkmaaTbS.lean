/- DERIVED. Layer 15 (rehash) over tables: Fit, Ints; the law RehashStays. -/
import Derived.Test.YtkdmlpigkmlkmaaTbN
import Derived.Test.YtkdmlpigkmlkmaaReC
import Derived.BigQuiet
set_option linter.unusedVariables false
set_option linter.unusedSimpArgs false
set_option maxRecDepth 100000
namespace Go.Proofs.Ytkdmlpigkmlkmaa.Tb
open Go.RowKit Go.Proofs.Ytkdmlpigkmlkmaa Go.Proofs.Ytkdmlpigkmlkmaa.TreeP Go.Proofs.Ytkdmlpigkmlkmaa.Tr Go.Proofs.Ytkdmlpigkmlkmaa.Bk

theorem fit_any {p n bits N : Nat} {keep : Int} {S : T} {l : List HP} {w : World} (h : Own (Tbl p n bits N keep S :: l) w) :
    Calls Try.prog 44 #[.pointer (some ⟨p, 0, none⟩)] w fun e w' => e = .returned (.tuple #[.int .i64 ((ReP.want S.R.length bits : Nat) : Int), .int .i64 0]) ∧ Own (Tbl p n (ReP.want S.R.length bits) N keep S :: l) w' := by
  obtain ⟨ht, hb⟩ := own_ti h
  have hL : S.R.length ≤ 4096 := by have := ht.rk.len; have := ht.n2; omega
  have HB := Lib.hid (own_bits h)
  have HL := Lib.hid (own_len h)
  have HW := Lib.hid (Re.want_fine S.R.length bits hL hb w)
  have HR := Lib.hid (rebuild_ok h (ReP.want S.R.length bits) (ReP.want_le hb))
  obtain ⟨k, hk⟩ : ∃ k, k = ReP.want S.R.length bits := ⟨_, rfl⟩
  obtain ⟨L, hLL⟩ : ∃ L, L = S.R.length := ⟨_, rfl⟩
  rw [← hk] at HW HR ⊢
  rw [← hLL] at HL HW
  clear h ht hb hL hk hLL
  go_enter Try.func44, Try.ntmps44
  go_wp2_with fail
  (with_reducible refine (HB.out).mono ?_)
  rintro e w1 ⟨rfl, rfl⟩
  go_wp2_with fail
  (with_reducible refine (HL.out).mono ?_)
  rintro e w1 ⟨rfl, rfl⟩
  go_wp2_with fail
  (with_reducible refine (HW.out).mono ?_)
  rintro e w1 ⟨rfl, rfl⟩
  go_wp2_with fail
  (with_reducible refine (HR.out).mono ?_)
  rintro e w1 ⟨rfl, h1⟩
  have H1 := Lib.hid h1
  clear h1 HB HL HW HR
  go_wp2_with fail
  go_ret2
  exact ⟨rfl, H1.out⟩
theorem rn_cells {v : Value} {xs : List Nat} {l : List HP} {w : World} {m : Nat} (h : Own (RN v xs :: l) w) (hl : xs.length = m) : ∃ a c, v = .slice a m c ∧ (0 < m → ∃ g, a = some ⟨g, 0, none⟩ ∧ ∀ (i x : Nat), xs[i]? = some x → w.cell? ⟨g, i, none⟩ = some (.int .i64 (x : Int))) := by
  have hr := ownsR_of h.row
  rw [hl] at hr
  obtain ⟨a, c, rfl⟩ := hr.slice
  refine ⟨a, c, rfl, fun hn => ?_⟩
  obtain ⟨g, cap, e1, -, -⟩ := hr.form hn
  injection e1 with e1 _ e3
  subst e1 e3
  refine ⟨g, rfl, fun i x hx => ?_⟩
  have := (hr.cells rfl i (.int .i64 (x : Int)) (by simp [Tr.ints, hx])).1
  simpa using this
set_option maxHeartbeats 1000000 in
theorem ints_same {v1 v2 : Value} {xs : List Nat} {l : List HP} {w : World} (h : Own (RN v1 xs :: RN v2 xs :: l) w) (hb : xs.length ≤ 65536) :
    Calls Try.prog 45 #[v1, v2] w fun e w' => e = .returned (.bool true) ∧ Own (RN v1 xs :: RN v2 xs :: l) w' := by
  obtain ⟨n, hn⟩ : ∃ n, n = xs.length := ⟨_, rfl⟩
  obtain ⟨a1, c1, rfl, f1⟩ := rn_cells h hn.symm
  obtain ⟨a2, c2, rfl, f2⟩ := rn_cells h.swap hn.symm
  rw [← hn] at hb
  have F1 := Lib.hid f1
  have F2 := Lib.hid f2
  have HN := Lib.hid hn
  have HH : Hid (∀ m, Own (RN (.slice a1 n c1) xs :: RN (.slice a2 n c2) xs :: l) (w.drewN m)) := Lib.hid fun m => h.step ((Ext.refl _).drewN m)
  have nn : ((n : Int) != (n : Int)) = false := by simp
  clear h f1 f2 hn
  go_enter Try.func45, Try.ntmps45
  go_wp2
  go_loopw [13] (fun vi wr => ∃ k : Nat, vi = .int .i64 (k : Int) ∧ k ≤ n ∧ ∃ m, wr = w.drewN m) (fun vi _ => n - (intOf vi).toNat)
  case atStart => exact ⟨0, rfl, Nat.zero_le _, 0, (World.drewN_zero w).symm⟩
  case round =>
    obtain ⟨k, rfl, hk, md, rfl⟩ := hrel
    by_cases hlt : k < n
    · obtain ⟨g1, rfl, f1⟩ := F1.out (by omega)
      obtain ⟨g2, rfl, f2⟩ := F2.out (by omega)
      obtain ⟨x, hx⟩ : ∃ e, xs[k]? = some e := ⟨_, List.getElem?_eq_getElem (by rw [← HN.out]; exact hlt)⟩
      have p0 := f1 k x hx
      have q0 := f2 k x hx
      have hltI : (k : Int) < (n : Int) := by omega
      have xx : ((x : Int) != (x : Int)) = false := by simp
      clear f1 f2 hx
      go_wp2_with fail
      go_quiet (fail)
      go_wp2_with fail
      exact ⟨⟨k + 1, by go_num, by omega, ⟨_, rfl⟩⟩, by simp [intOf]; omega⟩
    · obtain rfl : k = n := by omega
      clear hlt hk
      go_wp2
      go_ret
      exact ⟨rfl, HH.out _⟩
theorem fit_law {L k : Nat} (h : ReP.want L k = k) : (2 * 2 ^ k < L → k = 10) ∧ (8 * L < 2 ^ k → 2 ^ k ≤ 1) := by
  unfold ReP.want at h
  constructor
  · intro h1
    rw [if_pos (.inl h1)] at h
    obtain ⟨a1, a2, a3⟩ := ReP.room_is L
    rw [h] at a3
    rcases a3 with a3 | a3
    · exact a3
    · omega
  · intro h1
    rw [if_pos (.inr h1)] at h
    obtain ⟨a1, a2, a3⟩ := ReP.room_is L
    rw [h] at a2
    rcases k with _ | k
    · simp
    · have := a2 k (by omega)
      rw [ReP.pow_succ'] at h1 ⊢
      omega
end Go.Proofs.Ytkdmlpigkmlkmaa.Tb
