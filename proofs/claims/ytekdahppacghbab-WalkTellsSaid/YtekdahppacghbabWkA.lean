/- DERIVED. Layer 7 (walk): the iterators over a tree: above. -/
import Derived.Test.YtekdahppacghbabRF
import Derived.Test.YtekdahppacghbabTrQ
import Derived.Test.YtekdahppacghbabTrT
import Derived.Test.YtekdahppacghbabBlk
import Derived.Test.YtekdahppacghbabTrD
import Derived.Shelf.Abstract
import Derived.Shelf.RegionOpen
import Derived.OwnWalkIn
import Derived.TacticsInMore
import Derived.LoopNIn
import Derived.LoopIn
set_option linter.unusedVariables false
set_option linter.unusedSimpArgs false
set_option maxRecDepth 100000
namespace Go.Proofs.Ytekdahppacghbab.Wk
open Go.RowKit Go.Shelf Go.Proofs.Ytekdahppacghbab Go.Proofs.Ytekdahppacghbab.TreeP Go.Proofs.Ytekdahppacghbab.Tr
attribute [local go_sem] Oper.semAt_some

/-- a tree that is looked at: where it lies, what it holds -/
structure Lk (a : Option Addr) (TL : List HP) (E : List En) : Prop where
  rise : RisingE E
  next : ∀ (l : List HP) (W : World) (x s : Int), Own (TL ++ l) W → Calls Try.prog 46 #[.pointer a, Tr.key x s] W fun e W' => e = .returned (.tuple #[entO (nextE E (x, s)), .bool (nextE E (x, s)).isSome]) ∧ Own (TL ++ l) W'
  get : ∀ (l : List HP) (W : World) (x s : Int), Own (TL ++ l) W → Calls Try.prog 48 #[.pointer a, Tr.key x s] W fun e W' => e = .returned (.tuple #[.int .i64 ((Tr.look E (x, s)).getD 0), .bool (Tr.look E (x, s)).isSome]) ∧ Own (TL ++ l) W'
theorem lk_tree (p room : Nat) (E : List En) (h : RisingE E) : Lk (some ⟨p, 0, none⟩) [Tree p room E] E :=
  ⟨h, fun l W x s h => own_next h x s, fun l W x s h => own_get h x s⟩
theorem lk_nil {a : Option Addr} {TL : List HP} (h : ∀ l, NilIn (TL ++ l) a) : Lk a TL [] :=
  ⟨List.Pairwise.nil, fun l W x s hw => nil_next (h l) hw x s, fun l W x s hw => nil_get (h l) hw x s⟩
/-- those above a key -/
def above (E : List En) (q : Key) : List En := E.filter fun e => lt q e.1
theorem next_above (E : List En) (q : Key) : nextE E q = (above E q).head? := by
  unfold nextE above
  rw [List.head?_filter]
theorem above_tail {E : List En} (h : RisingE E) {q : Key} {e : En} {pre rest : List En} (he : above E q = pre ++ e :: rest) : above E e.1 = rest := by
  have hm : e ∈ above E q := by rw [he]; simp
  have hq : lt q e.1 = true := (List.mem_filter.1 hm).2
  have h1 : above E e.1 = (above E q).filter fun x => lt e.1 x.1 := by
    unfold above
    rw [List.filter_filter]
    congr 1
    funext x
    by_cases hx : lt e.1 x.1 = true
    · simp [hx, lt_trans hq hx]
    · simp [hx]
  have hs : RisingE (above E q) := h.filter _
  rw [he] at h1 hs
  unfold RisingE at hs
  rw [List.pairwise_append, List.pairwise_cons] at hs
  obtain ⟨-, ⟨hr, -⟩, hp⟩ := hs
  rw [h1, List.filter_append, List.filter_cons_of_neg (by simpa using lt_irrefl e.1), List.filter_eq_nil_iff.2 (fun x hx => by
    have := lt_asymm (hp x hx e (.head _)); simp [this]), List.nil_append]
  exact List.filter_eq_self.2 fun x hx => hr x hx
abbrev encE (e : En) : Array Value := #[Tr.ent e.1.1 e.1.2 e.2]
abbrev BT (b : Nat) (a : Option Addr) : HP := Go.Proofs.Ytekdahppacghbab.Blk b #[.pointer a] 25
abbrev BK (b : Nat) (x s : Int) : HP := Go.Proofs.Ytekdahppacghbab.Blk b #[.int .u64 x, .int .u64 s] 24
abbrev BE (b : Nat) (e : En) : HP := Go.Proofs.Ytekdahppacghbab.Blk b #[.int .u64 e.1.1, .int .u64 e.1.2, .int .i64 e.2] 49
theorem box_in {X Y : List HP} {b : Nat} {cs : Array Value} {t : TypeId} {w : World} (h : Own (X ++ Y) w) (hm : Go.Proofs.Ytekdahppacghbab.Blk b cs t ∈ Y) : w.heap[b]? = some (.cells cs t (0, 0)) := Go.Proofs.Ytekdahppacghbab.Own.blk h (List.mem_append.2 (.inr hm))
/-- the loop of 'above' -/
def AbI (I : List En → List HP) (FR : List HP) (xs : List En) (s4 s5 : Value) (wr : World) (k : Nat) : Prop :=
  ∃ (pre rest : List En) (be : Nat) (B : Bool) (c : En), xs = pre ++ rest ∧ rest.length = k ∧ s4 = .pointer (some ⟨be, 0, none⟩) ∧ s5 = .bool B ∧ B = rest.head?.isSome ∧ c = rest.head?.getD ((0, 0), 0) ∧ Own (I pre ++ (BE be c :: FR)) wr
theorem entO_c (o : Option En) : entO o = Tr.ent (o.getD ((0, 0), 0)).1.1 (o.getD ((0, 0), 0)).1.2 (o.getD ((0, 0), 0)).2 := by cases o <;> rfl
theorem Own.blkSet3e {l : List HP} {w : World} {b : Nat} {x y z : Value} {t : TypeId} (h : Own (Go.Proofs.Ytekdahppacghbab.Blk b #[x, y, z] t :: l) w) (a0 a1 a2 : Value) :
    ∃ w1, ((w.setCell ⟨b, 0, none⟩ a0).setCell ⟨b, 1, none⟩ a1).setCell ⟨b, 2, none⟩ a2 = w1 ∧ Own (Go.Proofs.Ytekdahppacghbab.Blk b #[a0, a1, a2] t :: l) w1 :=
  ⟨_, rfl, Go.Proofs.Ytekdahppacghbab.Own.blkSet (Go.Proofs.Ytekdahppacghbab.Own.blkSet (Go.Proofs.Ytekdahppacghbab.Own.blkSet h a0) a1) a2⟩
theorem Own.blk3g {l : List HP} {w : World} {b : Nat} {x y z : Value} {t : TypeId} (h : Own (Go.Proofs.Ytekdahppacghbab.Blk b #[x, y, z] t :: l) w) :
    w.cell? ⟨b, 0, none⟩ = some x ∧ w.cell? ⟨b, 1, none⟩ = some y ∧ w.cell? ⟨b, 2, none⟩ = some z ∧ w.frozen? ⟨b, 0, none⟩ = false ∧ w.frozen? ⟨b, 1, none⟩ = false ∧ w.frozen? ⟨b, 2, none⟩ = false := by
  simp [World.cell?, World.frozen?, Go.Proofs.Ytekdahppacghbab.Own.blk h (.head _)]
set_option maxHeartbeats 4000000 in
theorem above_seq {a : Option Addr} {TL : List HP} {E : List En} (hL : Lk a TL E) (bt kb : Nat) (x s : Int) :
    SeqO Try.prog 45 #[.pointer (some ⟨bt, 0, none⟩), .pointer (some ⟨kb, 0, none⟩)] encE (above E (x, s)) (BT bt a :: BK kb x s :: TL) := by
  intro l I Ix R1 W hY h0
  obtain ⟨FR, hFR⟩ : ∃ FR, FR = (BT bt a :: BK kb x s :: TL) ++ R1 := ⟨_, rfl⟩
  obtain ⟨xs, hxs⟩ : ∃ xs, xs = above E (x, s) := ⟨_, rfl⟩
  have HC : Hid (∀ (X : List HP) (w' : World), Own (X ++ FR) w' → w'.cell? ⟨bt, 0, none⟩ = some (.pointer a) ∧ w'.cell? ⟨kb, 0, none⟩ = some (.int .u64 x) ∧ w'.cell? ⟨kb, 1, none⟩ = some (.int .u64 s)) := Lib.hid fun X w' h' => by
    have h1 := box_in (b := bt) (cs := #[.pointer a]) (t := 25) h' (by rw [hFR]; simp)
    have h2 := box_in (b := kb) (cs := #[.int .u64 x, .int .u64 s]) (t := 24) h' (by rw [hFR]; simp)
    simp [World.cell?, h1, h2]
  have HN : Hid (∀ (X : List HP) (w' : World) (y u : Int), Own (X ++ FR) w' → Calls Try.prog 46 #[.pointer a, Tr.key y u] w' fun e w2 => e = .returned (.tuple #[entO (above E (y, u)).head?, .bool (above E (y, u)).head?.isSome]) ∧ Own (X ++ FR) w2) := Lib.hid fun X w' y u h' => by
    have hp : (X ++ FR).Perm (TL ++ (X ++ (BT bt a :: BK kb x s :: R1))) := by
      rw [hFR]
      have h1 : (BT bt a :: BK kb x s :: TL ++ R1).Perm (TL ++ (BT bt a :: BK kb x s :: R1)) := (List.perm_append_comm (l₁ := [BT bt a, BK kb x s]) (l₂ := TL)).append_right R1 |>.trans (by simp)
      exact (h1.append_left X).trans (List.perm_append_comm_assoc _ _ _)
    have := hL.next _ w' y u (h'.perm hp)
    rw [next_above] at this
    exact this.mono fun e w2 ⟨he, hw⟩ => ⟨he, hw.perm hp.symm⟩
  have HT : Hid (∀ (e : En) (pre rest : List En), xs = pre ++ e :: rest → above E e.1 = rest) := Lib.hid fun e pre rest he => above_tail hL.rise (hxs ▸ he)
  rw [← hFR] at h0
  rw [← hFR, ← hxs]
  rw [← hxs] at hY
  have HY := Lib.hid hY
  have HX := Lib.hid hxs
  have H0 := Lib.hid h0
  obtain ⟨c0, c1, c2⟩ := HC.out _ _ h0
  have HN0 := HN.out (I []) W x s h0
  rw [← hxs, entO_c] at HN0
  obtain ⟨c, hc⟩ : ∃ c, c = xs.head?.getD ((0, 0), 0) := ⟨_, rfl⟩
  obtain ⟨B, hB⟩ : ∃ B, B = xs.head?.isSome := ⟨_, rfl⟩
  rw [← hc, ← hB] at HN0
  have HN1 := Lib.hid HN0
  have HCC := Lib.hid hc
  have HBB := Lib.hid hB
  clear hL hY hFR hxs h0 HN0 hc hB
  refine (callsIn_wide (n := 9)).1 (callsIn_of_wp Try.func45 rfl trivial ?_)
  simp only [Try.ntmps45, List.size_toArray, List.length_cons, List.length_nil, Nat.reduceAdd, Nat.reduceSub, Array.replicate_succ, Array.replicate_zero, List.push_toArray, List.append_toArray, List.nil_append, List.cons_append]
  gi_wp2
  refine ⟨trivial, (callsIn_wide.2 HN1.out).mono ?_⟩
  rintro e w1 ⟨rfl, h1⟩
  clear HN1
  obtain ⟨be, hbe⟩ : ∃ be, be = w1.heap.size := ⟨_, rfl⟩
  have HB : Hid (Own (I [] ++ (BE be c :: FR)) (w1.alloc (.cells #[.int .u64 c.1.1, .int .u64 c.1.2, .int .i64 c.2] 49))) := Lib.hid (by
    have := Go.Proofs.Ytekdahppacghbab.Own.blkNew h1 #[.int .u64 c.1.1, .int .u64 c.1.2, .int .i64 c.2] 49
    rw [← hbe] at this
    exact this.perm List.perm_middle.symm)
  have HBE := Lib.hid hbe
  clear h1 hbe c0 c1 c2
  gi_wp2
  rw [← HBE.out]
  gi_loopw [4, 5] (fun s4 s5 wr => ∃ k, AbI I FR xs s4 s5 wr k) (fun s4 s5 wr => least (AbI I FR xs s4 s5 wr))
  case atStart => exact ⟨_, [], xs, be, B, c, rfl, rfl, rfl, rfl, HBB.out, HCC.out, HB.out⟩
  case round =>
    clear HB HBE HCC HBB
    obtain ⟨hP, -⟩ := least_spec hrel
    clear hrel
    obtain ⟨j, ej⟩ : ∃ j, j = least (AbI I FR xs u4 u5 wr) := ⟨_, rfl⟩
    rw [← ej] at hP
    have EJ := Lib.hid ej
    clear ej
    obtain ⟨pre, rest, be, B2, e, hxs, hk, rfl, rfl, hB2, he, h⟩ := hP
    cases rest with
    | nil =>
      obtain rfl : B2 = false := hB2
      have H : Hid (Own (I xs ++ FR) wr) := Lib.hid (by
        rw [hxs, List.append_nil]
        exact (h.perm List.perm_middle).drop)
      clear h hxs hk he
      gi_wp2
      go_end0
      exact ⟨⟨_, rfl⟩, .inl H.out⟩
    | cons e1 rest =>
      obtain rfl : B2 = true := hB2
      obtain rfl : e = e1 := he
      have hpre : pre ++ [e] <+: xs := ⟨rest, by rw [hxs]; simp⟩
      obtain ⟨fn, tmps, assign, body, hy, hR⟩ := HY.out pre e wr (BE be e :: FR) hpre h
      obtain ⟨b0, b1, b2, -, -, -⟩ := Own.blk3g (h.perm List.perm_middle)
      have HP := Lib.hid hpre
      have HK := Lib.hid hk
      have HXS := Lib.hid hxs
      clear h hpre hk hxs
      gi_wp2
      refine (hR _).mono ?_
      rintro e2 w2 (⟨rfl, h2⟩ | ⟨rfl, h2⟩)
      · clear hR hy b0 b1 b2
        obtain ⟨b0, b1, b2, -, -, -⟩ := Own.blk3g (h2.perm List.perm_middle)
        obtain ⟨b3, hb3⟩ : ∃ b3, b3 = w2.heap.size := ⟨_, rfl⟩
        have h3 : Own (BE b3 e :: (I (pre ++ [e]) ++ (BE be e :: FR))) (w2.alloc (.cells #[.int .u64 e.1.1, .int .u64 e.1.2, .int .i64 e.2] 49)) := by
          have := Go.Proofs.Ytekdahppacghbab.Own.blkNew h2 #[.int .u64 e.1.1, .int .u64 e.1.2, .int .i64 e.2] 49
          rw [← hb3] at this
          exact this
        have hab : above E e.1 = rest := HT.out e pre rest HXS.out
        have e5 : BE b3 e :: (I (pre ++ [e]) ++ (BE be e :: FR)) = (BE b3 e :: (I (pre ++ [e]) ++ [BE be e])) ++ FR := by simp
        rw [e5] at h3
        obtain ⟨k0, k1, k2⟩ := HC.out _ _ h3
        have hn := HN.out _ _ e.1.1 e.1.2 h3
        rw [show ((e.1.1, e.1.2) : Key) = e.1 from rfl, hab, entO_c] at hn
        obtain ⟨c, hc⟩ : ∃ c, c = rest.head?.getD ((0, 0), 0) := ⟨_, rfl⟩
        obtain ⟨B, hB⟩ : ∃ B, B = rest.head?.isSome := ⟨_, rfl⟩
        rw [← hc, ← hB] at hn
        have HNN := Lib.hid hn
        have HCC := Lib.hid hc
        have HBB := Lib.hid hB
        have HB3 := Lib.hid hb3
        clear hn hc hB h3 h2 hab e5 hb3
        gi_wp2
        refine ⟨trivial, (callsIn_wide.2 HNN.out).mono ?_⟩
        rintro e2 w3 ⟨rfl, h3⟩
        have h4 : Own (BE b3 e :: (I (pre ++ [e]) ++ (BE be e :: FR))) w3 := by simpa using h3
        obtain ⟨q0, q1, q2, f0, f1, f2⟩ := Own.blk3g h4
        obtain ⟨w4, e4, h5⟩ := Own.blkSet3e h4 (.int .u64 c.1.1) (.int .u64 c.1.2) (.int .i64 c.2)
        have HP4 : Hid (AbI I FR xs (.pointer (some ⟨b3, 0, none⟩)) (.bool B) w4 rest.length) := Lib.hid ⟨pre ++ [e], rest, b3, B, c, by rw [HXS.out]; simp, rfl, rfl, rfl, HBB.out, HCC.out, by
          have h6 : Own (BE be e :: (BE b3 c :: (I (pre ++ [e]) ++ FR))) w4 := h5.perm (by
            have h1 : (I (pre ++ [e]) ++ (BE be e :: FR)).Perm (BE be e :: (I (pre ++ [e]) ++ FR)) := List.perm_middle
            exact (h1.cons _).trans (List.Perm.swap _ _ _))
          exact h6.drop.perm List.perm_middle.symm⟩
        rw [← HB3.out]
        clear h3 h4 h5 HNN b0 b1 b2 k0 k1 k2
        gi_wp2
        exact ⟨⟨_, HP4.out⟩, least_lt HP4.out (by have := HK.out; simp at this; omega) EJ.out⟩
      · have H : Hid (Own (Ix (pre ++ [e]) ++ FR) w2) := Lib.hid (h2.perm List.perm_middle).drop
        clear h2 hR hy b0 b1 b2
        gi_wp2
        refine bodyPost_ret (results_none rfl _ _ _) rfl ?_
        exact ⟨⟨_, rfl⟩, .inr ⟨_, HP.out, H.out⟩⟩
end Go.Proofs.Ytekdahppacghbab.Wk
