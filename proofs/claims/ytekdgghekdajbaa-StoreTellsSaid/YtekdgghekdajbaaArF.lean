/- DERIVED. Layer 4 (arena): the laws' own examples ('awake'). -/
import Derived.Test.YtekdgghekdajbaaArE
set_option linter.unusedVariables false
set_option linter.unusedSimpArgs false
set_option maxRecDepth 100000
namespace Go.Proofs.Ytekdgghekdajbaa.Ar
open Go.RowKit Go.Proofs.Ytekdgghekdajbaa

def Y1 : A := ⟨[1], [], 2, 1⟩
def Y2 : A := ⟨[1, 1], [], 2, 2⟩
def Y3 : A := ⟨[2, 1], [0], 2, 1⟩
def Y4 : A := ⟨[3, 1], [], 2, 2⟩
theorem y0 : Ok 0 (fresh 2) := ok_fresh 2 (by omega) (by omega)
theorem y1 : Ok 1 Y1 := tkA_ok y0
theorem y2 : Ok 2 Y2 := tkA_ok y1
theorem y3 : Ok 3 Y3 := gvA_ok y2 1
theorem y4 : Ok 4 Y4 := tkA_ok y3
theorem own_take' {N p : Nat} {X Y : A} {a : Nat} {b : Int} {l : List HP} {w : World} (h : Own (Arena p X :: l) w) (ho : Ok N X) (hN : N < 4294967294) (h1 : tkH X = a) (h2 : tkE X = b) (h3 : tkA X = Y) :
    Calls Try.prog 19 #[.pointer (some ⟨p, 0, none⟩)] w fun e w' => e = .returned (.tuple #[.int .u64 ((a : Nat) : Int), .int .i64 b]) ∧ Own (Arena p Y :: l) w' := by
  subst h1 h2 h3
  exact own_take h ho hN
theorem own_give' {N p : Nat} {X Y : A} {b : Int} {l : List HP} {w : World} (H : Nat) (h : Own (Arena p X :: l) w) (ho : Ok N X) (hN : N < 4294967294) (hH : H < 18446744073709551616) (h2 : gvE X H = b) (h3 : gvA X H = Y) :
    Calls Try.prog 15 #[.pointer (some ⟨p, 0, none⟩), .int .u64 H] w fun e w' => e = .returned (.int .i64 b) ∧ Own (Arena p Y :: l) w' := by
  subst h2 h3
  exact own_give h ho hN H hH
theorem own_place' {N p : Nat} {X : A} {a : Int} {b : Bool} {l : List HP} {w : World} (H : Nat) (h : Own (Arena p X :: l) w) (ho : Ok N X) (hN : N < 4294967294) (hH : H < 18446744073709551616) (h1 : pv X H = a) (h2 : pb X H = b) :
    Calls Try.prog 14 #[.pointer (some ⟨p, 0, none⟩), .int .u64 H] w fun e w' => e = .returned (.tuple #[.int .i64 a, .bool b]) ∧ w = w' := by
  subst h1 h2
  exact own_place h ho hN H hH
theorem own_handle' {N p : Nat} {X : A} {a : Int} {b : Bool} {l : List HP} {w : World} (q : Int) (h : Own (Arena p X :: l) w) (ho : Ok N X) (hN : N < 4294967294) (h1 : hv X q = a) (h2 : hb X q = b) :
    Calls Try.prog 16 #[.pointer (some ⟨p, 0, none⟩), .int .i64 q] w fun e w' => e = .returned (.tuple #[.int .u64 a, .bool b]) ∧ w = w' := by
  subst h1 h2
  exact own_handle h ho hN q
theorem awake_any {l : List HP} {w : World} (h : Own l w) :
    Calls Try.prog 18 #[] w fun e w' => e = .returned (.bool true) ∧ Own l w' := by
  have H := Lib.hid h
  clear h
  go_enter Try.func18, Try.ntmps18
  go_wp2_with (go_at_call 20; refine (own_new 2 (by omega) (by omega) H.out).mono ?_; rintro e w1 ⟨p, rfl, h1, _⟩; replace H := Lib.hid h1; clear h1)
  refine (own_take' (N := 0) (a := 1) (b := 0) (Y := Y1) H.out y0 (by omega) rfl rfl rfl).mono ?_
  rintro e w2 ⟨rfl, h2⟩
  replace H := Lib.hid h2
  clear h2
  go_wp2_with fail
  refine (own_take' (N := 1) (a := 2) (b := 0) (Y := Y2) H.out y1 (by omega) rfl rfl rfl).mono ?_
  rintro e w3 ⟨rfl, h2⟩
  replace H := Lib.hid h2
  clear h2
  go_wp2_with fail
  refine (own_take' (N := 2) (a := 0) (b := 4) (Y := Y2) H.out y2 (by omega) rfl rfl rfl).mono ?_
  rintro e w4 ⟨rfl, h2⟩
  replace H := Lib.hid h2
  clear h2
  go_wp2_with fail
  refine (own_give' (N := 2) (b := 0) (Y := Y3) 1 H.out y2 (by omega) (by omega) rfl rfl).mono ?_
  rintro e w5 ⟨rfl, h2⟩
  replace H := Lib.hid h2
  clear h2
  go_wp2_with fail
  refine (own_take' (N := 3) (a := 4294967297) (b := 0) (Y := Y4) H.out y3 (by omega) rfl rfl rfl).mono ?_
  rintro e w6 ⟨rfl, h2⟩
  replace H := Lib.hid h2
  clear h2
  go_wp2_with fail
  refine (own_give' (N := 4) (b := 40) (Y := Y4) 1 H.out y4 (by omega) (by omega) rfl rfl).mono ?_
  rintro e w7 ⟨rfl, h2⟩
  replace H := Lib.hid h2
  clear h2
  go_wp2_with fail
  refine (own_place' (N := 4) (a := 0) (b := true) 4294967297 H.out y4 (by omega) (by omega) rfl rfl).mono ?_
  rintro e w8 ⟨rfl, rfl⟩
  go_wp2_with fail
  refine (own_handle' (N := 4) (a := 2) (b := true) 1 H.out y4 (by omega) rfl rfl).mono ?_
  rintro e w8 ⟨rfl, rfl⟩
  go_wp2_with fail
  refine (new_not 0 (by omega) _).mono ?_
  rintro e w9 ⟨rfl, rfl⟩
  go_wp2_with fail
  go_ret
  exact ⟨rfl, H.out.drop⟩
end Go.Proofs.Ytekdgghekdajbaa.Ar
