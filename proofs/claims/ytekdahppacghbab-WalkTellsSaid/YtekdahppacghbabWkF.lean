/- DERIVED. Layer 7 (walk): the laws' trees: Of. -/
import Derived.Test.YtekdahppacghbabWkE
import Derived.Test.YtekdahppacghbabR6E
import Derived.Test.YtekdahppacghbabArgs
set_option linter.unusedVariables false
set_option linter.unusedSimpArgs false
set_option maxRecDepth 100000
namespace Go.Proofs.Ytekdahppacghbab.Wk
open Go.RowKit Go.Proofs.Ytekdahppacghbab Go.Proofs.Ytekdahppacghbab.TreeP Go.Proofs.Ytekdahppacghbab.Tr

/-- the entries behind the first k puts -/
def ofP (f : Nat → Key) : Nat → List En
  | 0 => []
  | k + 1 => Tr.putT 60 (ofP f k) (f k) (k : Int)
abbrev BR (b : Nat) (v : Value) (r : Int) : HP := Go.Proofs.Ytekdahppacghbab.Blk b #[v, .int .i64 r] 28
theorem Own.brSet {l : List HP} {w : World} {b : Nat} {v v' : Value} {r r' : Int} (h : Own (BR b v r :: l) w) :
    ∃ w1, (w.setCell ⟨b, 0, none⟩ v').setCell ⟨b, 1, none⟩ (.int .i64 r') = w1 ∧ Own (BR b v' r' :: l) w1 :=
  ⟨_, rfl, Go.Proofs.Ytekdahppacghbab.Own.blkSet (o := 1) (Go.Proofs.Ytekdahppacghbab.Own.blkSet (o := 0) h v') (.int .i64 r')⟩
theorem br_cells {l : List HP} {w : World} {b : Nat} {v : Value} {r : Int} (h : Own l w) (hm : BR b v r ∈ l) :
    w.cell? ⟨b, 0, none⟩ = some v ∧ w.cell? ⟨b, 1, none⟩ = some (.int .i64 r) ∧ w.frozen? ⟨b, 0, none⟩ = false ∧ w.frozen? ⟨b, 1, none⟩ = false := by
  have := Go.Proofs.Ytekdahppacghbab.Own.blk h hm
  simp [World.cell?, World.frozen?, this]
theorem bk_cells {l : List HP} {w : World} {b : Nat} {x s : Int} (h : Own l w) (hm : BK b x s ∈ l) :
    w.cell? ⟨b, 0, none⟩ = some (.int .u64 x) ∧ w.cell? ⟨b, 1, none⟩ = some (.int .u64 s) := by
  have := Go.Proofs.Ytekdahppacghbab.Own.blk h hm
  simp [World.cell?, this]
theorem own_rising {p room : Nat} {E : List En} {l : List HP} {w : World} (h : Own (Tree p room E :: l) w) : RisingE E ∧ E.length ≤ room := by
  obtain ⟨g, cap, fr, free, many, S, t, hl, hi, he, K, K2⟩ := tree_open h
  refine ⟨he ▸ hi.riseE, ?_⟩
  have := hi.cnt
  have := hi.mr
  rw [← he, List.length_map]
  omega
theorem blk_mem : ∀ {l : List HP} {w : World} {U : Nat → Prop} {b : Nat} {cs : Array Value} {t : TypeId}, OwnIn l w U → Go.Proofs.Ytekdahppacghbab.Blk b cs t ∈ l → U b
  | [], _, _, _, _, _, _, hm => by simp at hm
  | P :: l, w, U, b, cs, t, ⟨s, V, hP, hl, _, hU⟩, hm => by
    cases hm with
    | head => exact (hU b).2 (.inl ((hP.2 b).2 rfl))
    | tail _ hm => exact (hU b).2 (.inr (blk_mem hl hm))
theorem own_ne {b b' : Nat} {cs cs' : Array Value} {t t' : TypeId} {l : List HP} {w : World} (h : Own (Go.Proofs.Ytekdahppacghbab.Blk b cs t :: l) w) (hm : Go.Proofs.Ytekdahppacghbab.Blk b' cs' t' ∈ l) : b ≠ b' := by
  obtain ⟨U, s, V, hP, hl, hd, hU⟩ := h
  intro e
  exact hd b ((hP.2 b).2 rfl) (e ▸ blk_mem hl hm)
abbrev RR (v : Value) (E : List En) : HP := RowR 49 3 v E.length (Tr.ents E)
def OfI (l0 : List HP) (b6 p m : Nat) (f : Nat → Key) (vi : Value) (wr : World) : Prop :=
  ∃ (k : Nat) (v : Value), vi = .int .i64 (k : Int) ∧ k ≤ m ∧ Own (BR b6 v 60 :: Tree p 60 (ofP f k) :: RR v (ofP f k) :: l0) wr
set_option maxHeartbeats 4000000 in
theorem of_any {l : List HP} {w : World} (a : Option Addr) (cap n : Nat) (f : Nat → Key) (hc : n ≤ cap) (hm : cap ≤ maxLen)
    (HK : 0 < n → ∃ b off, a = some ⟨b, off, none⟩ ∧ ∀ (X : List HP) (w' : World), Own (X ++ l) w' → ∀ i, i < n → w'.cell? ⟨b, off + i * 2, none⟩ = some (.int .u64 (f i).1) ∧ w'.cell? ⟨b, off + i * 2 + 1, none⟩ = some (.int .u64 (f i).2)) (h : Own l w) :
    Calls Try.prog 9 #[.slice a n cap] w fun e w' => ∃ (p : Nat) (v : Value), e = .returned (.tuple #[.pointer (some ⟨p, 0, none⟩), .agg #[v, .int .i64 60]]) ∧ Own (Tree p 60 (ofP f (min n 60)) :: RR v (ofP f (min n 60)) :: l) w' := by
  have h3 : Own (BR w.heap.size (.slice none 0 0) 0 :: l) (w.alloc (.cells #[.slice none 0 0, .int .i64 0] 28)) := Go.Proofs.Ytekdahppacghbab.Own.blkNew h #[.slice none 0 0, .int .i64 0] 28
  obtain ⟨b3, hb3⟩ : ∃ b3, b3 = w.heap.size := ⟨_, rfl⟩
  rw [← hb3] at h3
  have HNW := Lib.hid (own_new 60 (by omega) (by omega) h3)
  have HKK := Lib.hid HK
  have HB3 := Lib.hid hb3
  unfold maxLen at hm
  clear h h3 HK hb3
  by_cases n1 : n < 60
  · have nI : (n : Int) < 60 := by omega
    have mI : (n : Int) ≤ (cap : Int) := by omega
    rw [show min n 60 = n by omega]
    go_enter Try.func9, Try.ntmps9
    go_wp2_with fail
    refine (HNW.out).mono ?_
    rintro e w1 ⟨p, rfl, h1⟩
    have h2 : Own (BR w1.heap.size (.slice none 0 0) 60 :: Tree p 60 (ofP f 0) :: RR (.slice none 0 0) (ofP f 0) :: BR b3 (.slice none 0 0) 0 :: l) (w1.alloc (.cells #[.slice none 0 0, .int .i64 60] 28)) := (Go.Proofs.Ytekdahppacghbab.Own.blkNew (Go.Proofs.Ytekdahppacghbab.Own.nilRowR 49 3 h1).swap #[.slice none 0 0, .int .i64 60] 28)
    obtain ⟨b6, hb6⟩ : ∃ b6, b6 = w1.heap.size := ⟨_, rfl⟩
    rw [← hb6] at h2
    have H2 := Lib.hid h2
    have HB6 := Lib.hid hb6
    clear h1 h2 HNW hb6
    rw [← HB3.out]
    go_wp2_with fail
    rw [← HB6.out]
    go_loopw [20] (fun vi wr => OfI (BR b3 (.slice none 0 0) 0 :: l) b6 p n f vi wr) (fun vi _ => n - (intOf vi).toNat)
    case atStart => exact ⟨0, _, rfl, Nat.zero_le _, H2.out⟩
    case round =>
      clear H2
      obtain ⟨k, v, rfl, hk, h⟩ := hrel
      by_cases hlt : k < n
      · have hltI : (k : Int) < (n : Int) := by omega
        obtain ⟨b, off, rfl, hcell⟩ := HKK.out (by omega)
        obtain ⟨d0, d1⟩ := hcell (BR b6 v 60 :: Tree p 60 (ofP f k) :: RR v (ofP f k) :: [BR b3 (.slice none 0 0) 0]) wr (by simpa using h) k (by omega)
        have hstep : ofP f (k + 1) = Tr.putT 60 (ofP f k) (f k) (k : Int) := rfl
        obtain ⟨x, hx⟩ : ∃ x, x = (f k).1 := ⟨_, rfl⟩
        obtain ⟨s, hs⟩ : ∃ s, s = (f k).2 := ⟨_, rfl⟩
        rw [show f k = (x, s) from by rw [hx, hs]] at hstep
        rw [← hx] at d0
        rw [← hs] at d1
        obtain ⟨hr, hl60⟩ := own_rising h.swap
        obtain ⟨E, hE⟩ : ∃ E, E = ofP f k := ⟨_, rfl⟩
        rw [← hE] at h hstep hr hl60
        have hA : Own (BK wr.heap.size x s :: BR b6 v 60 :: Tree p 60 E :: RR v E :: BR b3 (.slice none 0 0) 0 :: l) (wr.alloc (.cells #[.int .u64 x, .int .u64 s] 24)) := Go.Proofs.Ytekdahppacghbab.Own.blkNew h #[.int .u64 x, .int .u64 s] 24
        have HP := Lib.hid (own_put hA.third x s (k : Int))
        have HST := Lib.hid hstep
        have HR := Lib.hid hr
        have HL := Lib.hid hl60
        clear h hA hcell hx hs hE hstep hr hl60
        go_wp2_with fail
        refine (HP.out).mono ?_
        rintro e w2 ⟨rfl, h2⟩
        obtain ⟨c0, c1, -, -⟩ := br_cells h2 (b := b6) (v := v) (r := 60) (by simp)
        obtain ⟨q0, q1⟩ := bk_cells h2 (b := wr.heap.size) (x := x) (s := s) (by simp)
        have hp := rput_any (room := 60) h2.fourth rfl (by have := HL.out; omega) HR.out HL.out (by omega) x s (k : Int)
        rw [← HST.out] at hp h2
        have HQ := Lib.hid hp
        obtain ⟨va, vc, rfl⟩ := (h2.fourth).rowR.slice
        clear h2 HP hp d0 d1
        go_wp2_with fail
        refine (HQ.out).mono ?_
        rintro e w3 ⟨v', rfl, h3⟩
        replace h3 : Own (RR v' (ofP f (k + 1)) :: Tree p 60 (ofP f (k + 1)) :: BK wr.heap.size x s :: BR b6 (.slice va E.length vc) 60 :: BR b3 (.slice none 0 0) 0 :: l) w3 := h3
        obtain ⟨va', vc', rfl⟩ := h3.rowR.slice
        obtain ⟨z0, z1, z2, z3⟩ := br_cells h3 (b := b6) (v := .slice va E.length vc) (r := 60) (by simp)
        obtain ⟨w4, e4, h4⟩ := Own.brSet (v' := .slice va' (ofP f (k + 1)).length vc') (r' := 60) h3.fourth
        have HX : Hid (OfI (BR b3 (.slice none 0 0) 0 :: l) b6 p n f (.int .i64 ((k : Int) + 1)) w4) := Lib.hid ⟨k + 1, _, by go_num, by omega, by
          exact (h4.perm (l' := BK wr.heap.size x s :: BR b6 (.slice va' (ofP f (k + 1)).length vc') 60 :: Tree p 60 (ofP f (k + 1)) :: RR (.slice va' (ofP f (k + 1)).length vc') (ofP f (k + 1)) :: BR b3 (.slice none 0 0) 0 :: l) (by
            classical
            rw [List.perm_iff_count]
            intro a
            simp only [List.count_append, List.count_cons]
            omega)).drop⟩
        clear h3 h4 HQ c0 c1 q0 q1
        go_wp2_with fail
        exact ⟨HX.out, by simp [intOf]; omega⟩
      · have hge : k = n := by omega
        subst hge
        obtain ⟨va, vc, rfl⟩ := (h.third).rowR.slice
        obtain ⟨N, hN⟩ : ∃ N, N = (ofP f k).length := ⟨_, rfl⟩
        have hne := own_ne h (b' := b3) (cs' := #[.slice none 0 0, .int .i64 0]) (t' := 28) (by simp)
        have hne' : b3 ≠ b6 := fun e => hne e.symm
        obtain ⟨c0, c1, -, -⟩ := br_cells h (b := b6) (v := .slice va (ofP f k).length vc) (r := 60) (by simp)
        obtain ⟨z0, z1, z2, z3⟩ := br_cells h (b := b3) (v := .slice none 0 0) (r := 0) (by simp)
        obtain ⟨w4, e4, h4⟩ := Own.brSet (v' := .slice va (ofP f k).length vc) (r' := 60) (Own.fourth h)
        rw [← hN] at c0 e4
        have HF : Hid (Own (BR b3 (.slice va N vc) 60 :: BR b6 (.slice va N vc) 60 :: Tree p 60 (ofP f k) :: RR (.slice va N vc) (ofP f k) :: l) w4) := Lib.hid (by rw [← hN] at h4; exact h4)
        have E4 := Lib.hid e4
        clear h h4 hlt hk e4 hN
        go_wp2_with fail
        go_region_held3 (fun w' => w'.cell? ⟨b6, 0, none⟩ = some (.slice va N vc) ∧ w'.cell? ⟨b6, 1, none⟩ = some (.int .i64 60))
          (first | go_keep | skip)
          (fail)
        rename_i hh
        rw [E4.out]
        obtain ⟨y0, y1, -, -⟩ := br_cells HF.out (b := b3) (v := .slice va N vc) (r := 60) (by simp)
        clear hh c0 c1 z0 z1 z2 z3 E4
        go_wp2_with fail
        exact bodyPost_ret (v := .tuple #[.pointer (some ⟨p, 0, none⟩), .agg #[.slice va N vc, .int .i64 60]]) (by simp [results, Try.results9, go_sem, y0, y1]) rfl ⟨p, _, rfl, (HF.out.drop.drop.step ((Ext.refl w4).drewN 1))⟩
  · by_cases n2 : 60 < n
    · have nI : (60 : Int) < (n : Int) := by omega
      have mI : (60 : Int) ≤ (cap : Int) := by omega
      rw [show min n 60 = 60 by omega]
      go_enter Try.func9, Try.ntmps9
      go_wp2_with fail
      refine (HNW.out).mono ?_
      rintro e w1 ⟨p, rfl, h1⟩
      have h2 : Own (BR w1.heap.size (.slice none 0 0) 60 :: Tree p 60 (ofP f 0) :: RR (.slice none 0 0) (ofP f 0) :: BR b3 (.slice none 0 0) 0 :: l) (w1.alloc (.cells #[.slice none 0 0, .int .i64 60] 28)) := (Go.Proofs.Ytekdahppacghbab.Own.blkNew (Go.Proofs.Ytekdahppacghbab.Own.nilRowR 49 3 h1).swap #[.slice none 0 0, .int .i64 60] 28)
      obtain ⟨b6, hb6⟩ : ∃ b6, b6 = w1.heap.size := ⟨_, rfl⟩
      rw [← hb6] at h2
      have H2 := Lib.hid h2
      have HB6 := Lib.hid hb6
      clear h1 h2 HNW hb6
      rw [← HB3.out]
      go_wp2_with fail
      rw [← HB6.out]
      go_loopw [20] (fun vi wr => OfI (BR b3 (.slice none 0 0) 0 :: l) b6 p 60 f vi wr) (fun vi _ => 60 - (intOf vi).toNat)
      case atStart => exact ⟨0, _, rfl, Nat.zero_le _, H2.out⟩
      case round =>
        clear H2
        obtain ⟨k, v, rfl, hk, h⟩ := hrel
        by_cases hlt : k < 60
        · have hltI : (k : Int) < (60 : Int) := by omega
          obtain ⟨b, off, rfl, hcell⟩ := HKK.out (by omega)
          obtain ⟨d0, d1⟩ := hcell (BR b6 v 60 :: Tree p 60 (ofP f k) :: RR v (ofP f k) :: [BR b3 (.slice none 0 0) 0]) wr (by simpa using h) k (by omega)
          have hstep : ofP f (k + 1) = Tr.putT 60 (ofP f k) (f k) (k : Int) := rfl
          obtain ⟨x, hx⟩ : ∃ x, x = (f k).1 := ⟨_, rfl⟩
          obtain ⟨s, hs⟩ : ∃ s, s = (f k).2 := ⟨_, rfl⟩
          rw [show f k = (x, s) from by rw [hx, hs]] at hstep
          rw [← hx] at d0
          rw [← hs] at d1
          obtain ⟨hr, hl60⟩ := own_rising h.swap
          obtain ⟨E, hE⟩ : ∃ E, E = ofP f k := ⟨_, rfl⟩
          rw [← hE] at h hstep hr hl60
          have hA : Own (BK wr.heap.size x s :: BR b6 v 60 :: Tree p 60 E :: RR v E :: BR b3 (.slice none 0 0) 0 :: l) (wr.alloc (.cells #[.int .u64 x, .int .u64 s] 24)) := Go.Proofs.Ytekdahppacghbab.Own.blkNew h #[.int .u64 x, .int .u64 s] 24
          have HP := Lib.hid (own_put hA.third x s (k : Int))
          have HST := Lib.hid hstep
          have HR := Lib.hid hr
          have HL := Lib.hid hl60
          clear h hA hcell hx hs hE hstep hr hl60
          go_wp2_with fail
          refine (HP.out).mono ?_
          rintro e w2 ⟨rfl, h2⟩
          obtain ⟨c0, c1, -, -⟩ := br_cells h2 (b := b6) (v := v) (r := 60) (by simp)
          obtain ⟨q0, q1⟩ := bk_cells h2 (b := wr.heap.size) (x := x) (s := s) (by simp)
          have hp := rput_any (room := 60) h2.fourth rfl (by have := HL.out; omega) HR.out HL.out (by omega) x s (k : Int)
          rw [← HST.out] at hp h2
          have HQ := Lib.hid hp
          obtain ⟨va, vc, rfl⟩ := (h2.fourth).rowR.slice
          clear h2 HP hp d0 d1
          go_wp2_with fail
          refine (HQ.out).mono ?_
          rintro e w3 ⟨v', rfl, h3⟩
          replace h3 : Own (RR v' (ofP f (k + 1)) :: Tree p 60 (ofP f (k + 1)) :: BK wr.heap.size x s :: BR b6 (.slice va E.length vc) 60 :: BR b3 (.slice none 0 0) 0 :: l) w3 := h3
          obtain ⟨va', vc', rfl⟩ := h3.rowR.slice
          obtain ⟨z0, z1, z2, z3⟩ := br_cells h3 (b := b6) (v := .slice va E.length vc) (r := 60) (by simp)
          obtain ⟨w4, e4, h4⟩ := Own.brSet (v' := .slice va' (ofP f (k + 1)).length vc') (r' := 60) h3.fourth
          have HX : Hid (OfI (BR b3 (.slice none 0 0) 0 :: l) b6 p 60 f (.int .i64 ((k : Int) + 1)) w4) := Lib.hid ⟨k + 1, _, by go_num, by omega, by
            exact (h4.perm (l' := BK wr.heap.size x s :: BR b6 (.slice va' (ofP f (k + 1)).length vc') 60 :: Tree p 60 (ofP f (k + 1)) :: RR (.slice va' (ofP f (k + 1)).length vc') (ofP f (k + 1)) :: BR b3 (.slice none 0 0) 0 :: l) (by
              classical
              rw [List.perm_iff_count]
              intro a
              simp only [List.count_append, List.count_cons]
              omega)).drop⟩
          clear h3 h4 HQ c0 c1 q0 q1
          go_wp2_with fail
          exact ⟨HX.out, by simp [intOf]; omega⟩
        · have hge : k = 60 := by omega
          subst hge
          obtain ⟨va, vc, rfl⟩ := (h.third).rowR.slice
          obtain ⟨N, hN⟩ : ∃ N, N = (ofP f 60).length := ⟨_, rfl⟩
          have hne := own_ne h (b' := b3) (cs' := #[.slice none 0 0, .int .i64 0]) (t' := 28) (by simp)
          have hne' : b3 ≠ b6 := fun e => hne e.symm
          obtain ⟨c0, c1, -, -⟩ := br_cells h (b := b6) (v := .slice va (ofP f 60).length vc) (r := 60) (by simp)
          obtain ⟨z0, z1, z2, z3⟩ := br_cells h (b := b3) (v := .slice none 0 0) (r := 0) (by simp)
          obtain ⟨w4, e4, h4⟩ := Own.brSet (v' := .slice va (ofP f 60).length vc) (r' := 60) (Own.fourth h)
          rw [← hN] at c0 e4
          have HF : Hid (Own (BR b3 (.slice va N vc) 60 :: BR b6 (.slice va N vc) 60 :: Tree p 60 (ofP f 60) :: RR (.slice va N vc) (ofP f 60) :: l) w4) := Lib.hid (by rw [← hN] at h4; exact h4)
          have E4 := Lib.hid e4
          clear h h4 hlt hk e4 hN
          go_wp2_with fail
          go_region_held3 (fun w' => w'.cell? ⟨b6, 0, none⟩ = some (.slice va N vc) ∧ w'.cell? ⟨b6, 1, none⟩ = some (.int .i64 60))
            (first | go_keep | skip)
            (fail)
          rename_i hh
          rw [E4.out]
          obtain ⟨y0, y1, -, -⟩ := br_cells HF.out (b := b3) (v := .slice va N vc) (r := 60) (by simp)
          clear hh c0 c1 z0 z1 z2 z3 E4
          go_wp2_with fail
          exact bodyPost_ret (v := .tuple #[.pointer (some ⟨p, 0, none⟩), .agg #[.slice va N vc, .int .i64 60]]) (by simp [results, Try.results9, go_sem, y0, y1]) rfl ⟨p, _, rfl, (HF.out.drop.drop.step ((Ext.refl w4).drewN 1))⟩
    · obtain rfl : n = 60 := by omega
      clear n1 n2
      have mI : (60 : Int) ≤ (cap : Int) := by omega
      rw [show min 60 60 = 60 by omega]
      go_enter Try.func9, Try.ntmps9
      go_wp2_with fail
      refine (HNW.out).mono ?_
      rintro e w1 ⟨p, rfl, h1⟩
      have h2 : Own (BR w1.heap.size (.slice none 0 0) 60 :: Tree p 60 (ofP f 0) :: RR (.slice none 0 0) (ofP f 0) :: BR b3 (.slice none 0 0) 0 :: l) (w1.alloc (.cells #[.slice none 0 0, .int .i64 60] 28)) := (Go.Proofs.Ytekdahppacghbab.Own.blkNew (Go.Proofs.Ytekdahppacghbab.Own.nilRowR 49 3 h1).swap #[.slice none 0 0, .int .i64 60] 28)
      obtain ⟨b6, hb6⟩ : ∃ b6, b6 = w1.heap.size := ⟨_, rfl⟩
      rw [← hb6] at h2
      have H2 := Lib.hid h2
      have HB6 := Lib.hid hb6
      clear h1 h2 HNW hb6
      rw [← HB3.out]
      go_wp2_with fail
      rw [← HB6.out]
      go_loopw [20] (fun vi wr => OfI (BR b3 (.slice none 0 0) 0 :: l) b6 p 60 f vi wr) (fun vi _ => 60 - (intOf vi).toNat)
      case atStart => exact ⟨0, _, rfl, Nat.zero_le _, H2.out⟩
      case round =>
        clear H2
        obtain ⟨k, v, rfl, hk, h⟩ := hrel
        by_cases hlt : k < 60
        · have hltI : (k : Int) < (60 : Int) := by omega
          obtain ⟨b, off, rfl, hcell⟩ := HKK.out (by omega)
          obtain ⟨d0, d1⟩ := hcell (BR b6 v 60 :: Tree p 60 (ofP f k) :: RR v (ofP f k) :: [BR b3 (.slice none 0 0) 0]) wr (by simpa using h) k (by omega)
          have hstep : ofP f (k + 1) = Tr.putT 60 (ofP f k) (f k) (k : Int) := rfl
          obtain ⟨x, hx⟩ : ∃ x, x = (f k).1 := ⟨_, rfl⟩
          obtain ⟨s, hs⟩ : ∃ s, s = (f k).2 := ⟨_, rfl⟩
          rw [show f k = (x, s) from by rw [hx, hs]] at hstep
          rw [← hx] at d0
          rw [← hs] at d1
          obtain ⟨hr, hl60⟩ := own_rising h.swap
          obtain ⟨E, hE⟩ : ∃ E, E = ofP f k := ⟨_, rfl⟩
          rw [← hE] at h hstep hr hl60
          have hA : Own (BK wr.heap.size x s :: BR b6 v 60 :: Tree p 60 E :: RR v E :: BR b3 (.slice none 0 0) 0 :: l) (wr.alloc (.cells #[.int .u64 x, .int .u64 s] 24)) := Go.Proofs.Ytekdahppacghbab.Own.blkNew h #[.int .u64 x, .int .u64 s] 24
          have HP := Lib.hid (own_put hA.third x s (k : Int))
          have HST := Lib.hid hstep
          have HR := Lib.hid hr
          have HL := Lib.hid hl60
          clear h hA hcell hx hs hE hstep hr hl60
          go_wp2_with fail
          refine (HP.out).mono ?_
          rintro e w2 ⟨rfl, h2⟩
          obtain ⟨c0, c1, -, -⟩ := br_cells h2 (b := b6) (v := v) (r := 60) (by simp)
          obtain ⟨q0, q1⟩ := bk_cells h2 (b := wr.heap.size) (x := x) (s := s) (by simp)
          have hp := rput_any (room := 60) h2.fourth rfl (by have := HL.out; omega) HR.out HL.out (by omega) x s (k : Int)
          rw [← HST.out] at hp h2
          have HQ := Lib.hid hp
          obtain ⟨va, vc, rfl⟩ := (h2.fourth).rowR.slice
          clear h2 HP hp d0 d1
          go_wp2_with fail
          refine (HQ.out).mono ?_
          rintro e w3 ⟨v', rfl, h3⟩
          replace h3 : Own (RR v' (ofP f (k + 1)) :: Tree p 60 (ofP f (k + 1)) :: BK wr.heap.size x s :: BR b6 (.slice va E.length vc) 60 :: BR b3 (.slice none 0 0) 0 :: l) w3 := h3
          obtain ⟨va', vc', rfl⟩ := h3.rowR.slice
          obtain ⟨z0, z1, z2, z3⟩ := br_cells h3 (b := b6) (v := .slice va E.length vc) (r := 60) (by simp)
          obtain ⟨w4, e4, h4⟩ := Own.brSet (v' := .slice va' (ofP f (k + 1)).length vc') (r' := 60) h3.fourth
          have HX : Hid (OfI (BR b3 (.slice none 0 0) 0 :: l) b6 p 60 f (.int .i64 ((k : Int) + 1)) w4) := Lib.hid ⟨k + 1, _, by go_num, by omega, by
            exact (h4.perm (l' := BK wr.heap.size x s :: BR b6 (.slice va' (ofP f (k + 1)).length vc') 60 :: Tree p 60 (ofP f (k + 1)) :: RR (.slice va' (ofP f (k + 1)).length vc') (ofP f (k + 1)) :: BR b3 (.slice none 0 0) 0 :: l) (by
              classical
              rw [List.perm_iff_count]
              intro a
              simp only [List.count_append, List.count_cons]
              omega)).drop⟩
          clear h3 h4 HQ c0 c1 q0 q1
          go_wp2_with fail
          exact ⟨HX.out, by simp [intOf]; omega⟩
        · have hge : k = 60 := by omega
          subst hge
          obtain ⟨va, vc, rfl⟩ := (h.third).rowR.slice
          obtain ⟨N, hN⟩ : ∃ N, N = (ofP f 60).length := ⟨_, rfl⟩
          have hne := own_ne h (b' := b3) (cs' := #[.slice none 0 0, .int .i64 0]) (t' := 28) (by simp)
          have hne' : b3 ≠ b6 := fun e => hne e.symm
          obtain ⟨c0, c1, -, -⟩ := br_cells h (b := b6) (v := .slice va (ofP f 60).length vc) (r := 60) (by simp)
          obtain ⟨z0, z1, z2, z3⟩ := br_cells h (b := b3) (v := .slice none 0 0) (r := 0) (by simp)
          obtain ⟨w4, e4, h4⟩ := Own.brSet (v' := .slice va (ofP f 60).length vc) (r' := 60) (Own.fourth h)
          rw [← hN] at c0 e4
          have HF : Hid (Own (BR b3 (.slice va N vc) 60 :: BR b6 (.slice va N vc) 60 :: Tree p 60 (ofP f 60) :: RR (.slice va N vc) (ofP f 60) :: l) w4) := Lib.hid (by rw [← hN] at h4; exact h4)
          have E4 := Lib.hid e4
          clear h h4 hlt hk e4 hN
          go_wp2_with fail
          go_region_held3 (fun w' => w'.cell? ⟨b6, 0, none⟩ = some (.slice va N vc) ∧ w'.cell? ⟨b6, 1, none⟩ = some (.int .i64 60))
            (first | go_keep | skip)
            (fail)
          rename_i hh
          rw [E4.out]
          obtain ⟨y0, y1, -, -⟩ := br_cells HF.out (b := b3) (v := .slice va N vc) (r := 60) (by simp)
          clear hh c0 c1 z0 z1 z2 z3 E4
          go_wp2_with fail
          exact bodyPost_ret (v := .tuple #[.pointer (some ⟨p, 0, none⟩), .agg #[.slice va N vc, .int .i64 60]]) (by simp [results, Try.results9, go_sem, y0, y1]) rfl ⟨p, _, rfl, (HF.out.drop.drop.step ((Ext.refl w4).drewN 1))⟩
end Go.Proofs.Ytekdahppacghbab.Wk
