/- DERIVED. Merged by wip/mergeset.py from XTbP XTbQ XTbA XTbB XTbC XTbE XTbF XTbG XTbH XTbD XTbI. -/
import Derived.Test.YtkdmlpigkmlkmaaArZ
import Derived.Test.YtkdmlpigkmlkmaaBkZ
import Derived.Test.YtkdmlpigkmlkmaaHz
import Derived.BigQuiet
import Derived.Deep.RegionHeld3
import Derived.BigRegion
import Derived.Deep.DeepCutAuto
import Derived.Test.YtkdmlpigkmlkmaaArgs
--  DERIVED. Layer 14 (table), plainly: rows by their numbers, the arena behind them, all sockets as one rising list. 
set_option linter.unusedVariables false
set_option linter.unusedSimpArgs false
namespace Go.Proofs.Ytkdmlpigkmlkmaa.Tb
open Go.RowKit Go.Proofs.Ytkdmlpigkmlkmaa Go.Proofs.Ytkdmlpigkmlkmaa.TreeP Go.Proofs.Ytkdmlpigkmlkmaa.Tr Go.Proofs.Ytkdmlpigkmlkmaa.Bk

/-- a flow: socket, cookie, rate, credit, next, debt, age -/
structure FD where
  s : Int
  c : Int
  ra : Int
  cr : Int
  nx : Int
  db : Int
  ag : Int
/-- a row that is there: its flow, its handle, whether it rests -/
structure RW where
  f : FD
  h : Nat
  q : Bool
abbrev Rows := List (Option RW)
def fc (f : FD) : List Value := [.int .u64 f.s, .int .u64 f.c, .int .u64 f.ra, .int .i64 f.cr, .int .u64 f.nx, .int .u64 f.db, .int .u64 f.ag]
def F0 : FD := ⟨0, 0, 0, 0, 0, 0, 0⟩
def rc : Option RW → List Value
  | none => [.int .u64 0, .int .u64 0, .int .u64 0, .int .i64 0, .int .u64 0, .int .u64 0, .int .u64 0, .int .u64 0, .bool false]
  | some r => [.int .u64 r.f.s, .int .u64 r.f.c, .int .u64 r.f.ra, .int .i64 r.f.cr, .int .u64 r.f.nx, .int .u64 r.f.db, .int .u64 r.f.ag, .int .u64 (r.h : Int), .bool r.q]
theorem rc_len : ∀ x, (rc x).length = 9
  | none => rfl
  | some _ => rfl
def rowAt (L : Rows) (k : Nat) : Option RW := L.getD k none
theorem rowAt_set {L : Rows} {k : Nat} (hk : k < L.length) (x : Option RW) (j : Nat) : rowAt (L.set k x) j = if j = k then x else rowAt L j := by
  unfold rowAt
  by_cases h : j = k
  · subst h; simp [List.getD, hk]
  · rw [if_neg h]; simp [List.getD, List.getElem?_set_ne (Ne.symm h)]
theorem rowAt_lt {L : Rows} {k : Nat} {r : RW} (h : rowAt L k = some r) : k < L.length := by
  unfold rowAt at h
  by_cases hk : k < L.length
  · exact hk
  · simp [List.getD, List.getElem?_eq_none (by omega : L.length ≤ k)] at h
theorem rowAt_get {L : Rows} {k : Nat} (hk : k < L.length) : L[k]? = some (rowAt L k) := by
  unfold rowAt
  simp [List.getD, hk]
/-- a table -/
structure T where
  rows : Rows
  X : Ar.A
  R : List En
def InF (f : FD) : Prop := (0 ≤ f.s ∧ f.s < 18446744073709551616) ∧ 0 ≤ f.ag ∧ f.ag < 18446744073709551616
/-- what holds of a table of n flows behind N calls of its arena -/
structure TI (n N : Nat) (S : T) : Prop where
  n1 : 1 ≤ n
  n2 : n ≤ 4096
  len : S.rows.length = n
  ok : Ar.Ok N S.X
  room : S.X.room = n
  rk : RK n S.R
  cnt : S.X.used = S.R.length
  hd : ∀ k r, rowAt S.rows k = some r → (k < S.X.st.length ∧ S.X.st.getD k 0 % 2 = 1) ∧ r.h = Ar.hdl S.X k ∧ InF r.f
  no : ∀ k, rowAt S.rows k = none → S.X.st.getD k 0 % 2 = 0
  mem : ∀ s v, ((s, 0), v) ∈ S.R ↔ ∃ k r, rowAt S.rows k = some r ∧ v = (k : Int) ∧ r.f.s = s
theorem TI.mono {n N M : Nat} {S : T} (h : TI n N S) (hM : N ≤ M) : TI n M S := ⟨h.n1, h.n2, h.len, h.ok.mono hM, h.room, h.rk, h.cnt, h.hd, h.no, h.mem⟩
theorem hdl_same {X Y : Ar.A} {k : Nat} (h : X.st.getD k 0 = Y.st.getD k 0) : Ar.hdl X k = Ar.hdl Y k := by unfold Ar.hdl; rw [h]
section
variable {n N : Nat} {S : T}
theorem TI.look (h : TI n N S) (s v : Int) : Tr.look S.R (s, 0) = some v ↔ ∃ k r, rowAt S.rows k = some r ∧ v = (k : Int) ∧ r.f.s = s :=
  (look_iff h.rk.rise (s, 0) v).trans (h.mem s v)
theorem TI.look_row (h : TI n N S) {k : Nat} {r : RW} (hr : rowAt S.rows k = some r) : Tr.look S.R (r.f.s, 0) = some (k : Int) := (h.look r.f.s k).2 ⟨k, r, hr, rfl, rfl⟩
theorem TI.uniq (h : TI n N S) {j k : Nat} {r r' : RW} (hr : rowAt S.rows j = some r) (hr' : rowAt S.rows k = some r') (e : r.f.s = r'.f.s) : j = k := by
  have h1 := h.look_row hr
  have h2 := h.look_row hr'
  rw [e, h2] at h1
  injection h1 with h1
  omega
theorem TI.place (h : TI n N S) (hN : N < 4294967295) {k : Nat} {r : RW} (hr : rowAt S.rows k = some r) : Ar.pb S.X (r.h : Int) = true ∧ Ar.pv S.X (r.h : Int) = (k : Int) ∧ r.h < 18446744073709551616 := by
  obtain ⟨⟨h1, h2⟩, h3, _⟩ := h.hd k r hr
  have hl := h.ok.len
  have hr2 := h.ok.r2
  have hb := h.ok.bd k
  have e1 := Ar.hdl_at (X := S.X) (q := k) h2
  have e2 : Ar.pb S.X (r.h : Int) = true := by
    rw [h3, e1, Ar.pb_at _ _ _ h1 (by omega), decide_eq_true_eq]
    omega
  refine ⟨e2, ?_, by rw [h3, e1]; omega⟩
  unfold Ar.pv
  rw [if_pos e2, h3, e1]
  omega
/-- a flow is dropped -/
def dropT (S : T) (k : Nat) : T := match rowAt S.rows k with
  | none => S
  | some r => ⟨S.rows.set k none, Ar.gv S.X k, del S.R (r.f.s, 0)⟩
theorem dropT_some {k : Nat} {r : RW} (hr : rowAt S.rows k = some r) : dropT S k = ⟨S.rows.set k none, Ar.gv S.X k, del S.R (r.f.s, 0)⟩ := by unfold dropT; rw [hr]
theorem dropT_none {k : Nat} (hr : rowAt S.rows k = none) : dropT S k = S := by unfold dropT; rw [hr]
theorem mem_del {E : List En} {q : Key} {e : En} : e ∈ del E q ↔ e ∈ E ∧ e.1 ≠ q := by unfold del; simp
theorem drop_ok (h : TI n N S) {k : Nat} {r : RW} (hr : rowAt S.rows k = some r) : TI n (N + 1) (dropT S k) := by
  rw [dropT_some hr]
  obtain ⟨⟨a1, a2⟩, a3, a4⟩ := h.hd k r hr
  obtain ⟨o1, o2, o3, o4⟩ := Ar.give_spec h.ok k a1 a2
  have hk := rowAt_lt hr
  have hset := rowAt_set hk none
  have hlk := h.look_row hr
  have hdl := del_length h.rk.rise (r.f.s, 0)
  rw [hlk] at hdl
  simp only [Option.isSome_some, if_true] at hdl
  have hX : (Ar.gv S.X k).used = S.X.used - 1 := rfl
  refine ⟨h.n1, h.n2, by rw [List.length_set]; exact h.len, o1, h.room, h.rk.drop _, ?_, fun j r' hj => ?_, fun j hj => ?_, fun s v => ?_⟩
  · show (Ar.gv S.X k).used = (del S.R (r.f.s, 0)).length
    rw [hX, h.cnt]
    omega
  · simp only at hj ⊢
    rw [hset] at hj
    split at hj
    · cases hj
    · rename_i hne
      obtain ⟨⟨b1, b2⟩, b3, b4⟩ := h.hd j r' hj
      have e : (Ar.gv S.X k).st.getD j 0 = S.X.st.getD j 0 := by rw [o3, if_neg hne]
      exact ⟨⟨by rw [o4]; exact b1, by rw [e]; exact b2⟩, by rw [hdl_same e]; exact b3, b4⟩
  · simp only at hj ⊢
    rw [hset] at hj
    rw [o3]
    split
    · omega
    · rename_i hne
      rw [if_neg hne] at hj
      exact h.no j hj
  · simp only
    rw [mem_del, h.mem]
    constructor
    · rintro ⟨⟨j, r', h1, h2, h3⟩, h4⟩
      refine ⟨j, r', ?_, h2, h3⟩
      rw [hset, if_neg]
      · exact h1
      · intro e
        subst e
        rw [hr] at h1
        injection h1 with h1
        subst h1
        exact h4 (by rw [h3])
    · rintro ⟨j, r', h1, h2, h3⟩
      rw [hset] at h1
      split at h1
      · cases h1
      · rename_i hne
        refine ⟨⟨j, r', h1, h2, h3⟩, fun e => hne ?_⟩
        injection e with e
        exact h.uniq h1 hr (by rw [h3, e])
/-- a row is turned -/
def setT (S : T) (k : Nat) (r : RW) : T := ⟨S.rows.set k (some r), S.X, S.R⟩
theorem set_ok (h : TI n N S) {k : Nat} {r r' : RW} (hr : rowAt S.rows k = some r) (e1 : r'.h = r.h) (e2 : r'.f.s = r.f.s) (e3 : 0 ≤ r'.f.ag ∧ r'.f.ag < 18446744073709551616) : TI n N (setT S k r') := by
  have hk := rowAt_lt hr
  have hset := rowAt_set hk (some r')
  refine ⟨h.n1, h.n2, by unfold setT; rw [List.length_set]; exact h.len, h.ok, h.room, h.rk, h.cnt, fun j x hj => ?_, fun j hj => ?_, fun s v => ?_⟩
  · unfold setT at hj ⊢
    simp only at hj ⊢
    rw [hset] at hj
    split at hj
    · rename_i e
      subst e
      injection hj with hj
      subst hj
      obtain ⟨b1, b2, b3⟩ := h.hd j r hr
      exact ⟨b1, by rw [e1]; exact b2, by rw [e2]; exact b3.1, e3⟩
    · exact h.hd j x hj
  · unfold setT at hj ⊢
    simp only at hj ⊢
    rw [hset] at hj
    split at hj
    · cases hj
    · exact h.no j hj
  · unfold setT
    simp only
    rw [h.mem]
    constructor
    · rintro ⟨j, x, h1, h2, h3⟩
      by_cases e : j = k
      · subst e
        rw [hr] at h1
        injection h1 with h1
        subst h1
        exact ⟨j, r', by rw [hset, if_pos rfl], h2, by rw [e2]; exact h3⟩
      · exact ⟨j, x, by rw [hset, if_neg e]; exact h1, h2, h3⟩
    · rintro ⟨j, x, h1, h2, h3⟩
      rw [hset] at h1
      split at h1
      · rename_i e
        subst e
        injection h1 with h1
        subst h1
        exact ⟨j, r, hr, h2, by rw [← e2]; exact h3⟩
      · exact ⟨j, x, h1, h2, h3⟩
/-- a fresh one -/
def newT (S : T) (f : FD) : T := ⟨S.rows.set (Ar.tq S.X) (some ⟨f, Ar.hdl (Ar.tk S.X) (Ar.tq S.X), false⟩), Ar.tk S.X, ins S.R (f.s, 0) ((Ar.tq S.X : Nat) : Int)⟩
theorem new_at (h : TI n N S) (hu : S.X.used < n) : Ar.tq S.X < n ∧ rowAt S.rows (Ar.tq S.X) = none := by
  obtain ⟨t, o⟩ := Ar.take_spec h.ok (by rw [h.room]; exact hu)
  have h1 : (Ar.tk S.X).room = n := h.room
  have h2 := o.len
  have h3 := t.q
  refine ⟨by omega, ?_⟩
  cases hr : rowAt S.rows (Ar.tq S.X) with
  | none => rfl
  | some r => have := (h.hd _ r hr).1.2; have := t.was; omega
theorem new_ok (h : TI n N S) {f : FD} (hf : InF f) (hl : Tr.look S.R (f.s, 0) = none) (hu : S.X.used < n) : TI n (N + 1) (newT S f) := by
  obtain ⟨t, o⟩ := Ar.take_spec h.ok (by rw [h.room]; exact hu)
  obtain ⟨q1, q2⟩ := new_at h hu
  have hk : Ar.tq S.X < S.rows.length := by rw [h.len]; exact q1
  have hset := rowAt_set hk (some ⟨f, Ar.hdl (Ar.tk S.X) (Ar.tq S.X), false⟩)
  obtain ⟨r1, r2, r3, _, _⟩ := rise_ins h.rk.rise (f.s, 0) ((Ar.tq S.X : Nat) : Int) hl
  have hX : (Ar.tk S.X).used = S.X.used + 1 := rfl
  unfold newT
  refine ⟨h.n1, h.n2, by rw [List.length_set]; exact h.len, o, h.room, h.rk.put hf.1.1 hf.1.2 hl (by rw [← h.cnt]; exact hu), ?_, fun j x hj => ?_, fun j hj => ?_, fun s v => ?_⟩
  · show (Ar.tk S.X).used = (ins S.R (f.s, 0) ((Ar.tq S.X : Nat) : Int)).length
    rw [r2, hX, h.cnt]
  · simp only at hj ⊢
    rw [hset] at hj
    split at hj
    · rename_i e
      subst e
      injection hj with hj
      subst hj
      have := t.was
      exact ⟨⟨t.q, by rw [t.now]; omega⟩, rfl, hf⟩
    · rename_i hne
      obtain ⟨⟨b1, b2⟩, b3, b4⟩ := h.hd j x hj
      exact ⟨⟨by have := t.old; omega, by rw [t.other j hne]; exact b2⟩, by rw [hdl_same (t.other j hne)]; exact b3, b4⟩
  · simp only at hj ⊢
    rw [hset] at hj
    split at hj
    · cases hj
    · rename_i hne
      rw [t.other j hne]
      exact h.no j hj
  · simp only
    rw [r3, h.mem]
    constructor
    · rintro (e | ⟨j, x, h1, h2, h3⟩)
      · injection e with e e2
        injection e with e
        exact ⟨Ar.tq S.X, _, by rw [hset, if_pos rfl], e2, e.symm⟩
      · refine ⟨j, x, ?_, h2, h3⟩
        rw [hset, if_neg]
        · exact h1
        · intro e
          subst e
          rw [q2] at h1
          cases h1
    · rintro ⟨j, x, h1, h2, h3⟩
      rw [hset] at h1
      split at h1
      · rename_i e
        subst e
        injection h1 with h1
        subst h1
        exact .inl (by rw [h2, ← h3])
      · exact .inr ⟨j, x, h1, h2, h3⟩
/-- has a row rested longer than Keep? -/
def oldR (keep now : Int) (r : RW) : Bool := r.q && decide (Hz.sat r.f.ag keep < now)
/-- does an entry of the bucket go? -/
def goes (keep now sock : Int) (S : T) (e : En) : Bool := decide (e.1.1 ≠ sock) && ((rowAt S.rows e.2.toNat).map (oldR keep now)).getD false
def coll (keep now sock : Int) : List En → Nat → T → T
  | [], _, S => S
  | e :: l, m, S => if m = 8 then S else if goes keep now sock S e = true then coll keep now sock l (m + 1) (dropT S e.2.toNat) else coll keep now sock l m S
theorem TI.row_of (h : TI n N S) {e : En} (he : e ∈ S.R) : ∃ k r, rowAt S.rows k = some r ∧ e = ((r.f.s, 0), (k : Int)) := by
  obtain ⟨k1, k2, k3⟩ := h.rk.key e he
  obtain ⟨⟨s, z⟩, v⟩ := e
  simp only at k1
  subst k1
  obtain ⟨k, r, h1, h2, h3⟩ := (h.mem s v).1 he
  exact ⟨k, r, h1, by rw [h2, h3]⟩
/-- the others stay -/
theorem mem_drop (h : TI n N S) {k : Nat} {r : RW} (hr : rowAt S.rows k = some r) {e : En} (he : e ∈ S.R) (hne : e.1 ≠ (r.f.s, 0)) : e ∈ (dropT S k).R := by
  rw [dropT_some hr]
  exact mem_del.2 ⟨he, hne⟩
theorem coll_ok {keep now sock : Int} : ∀ {l : List En} {m N : Nat} {S : T}, TI n N S → RisingE l → (∀ e ∈ l, e ∈ S.R) → m ≤ 8 → TI n (N + (8 - m)) (coll keep now sock l m S)
  | [], m, N, S, h, _, _, hm => h.mono (by omega)
  | e :: l, m, N, S, h, hl, hi, hm => by
    unfold coll
    unfold RisingE at hl
    rw [List.pairwise_cons] at hl
    split
    · exact h.mono (by omega)
    · rename_i hm8
      split
      · obtain ⟨k, r, hr, he⟩ := h.row_of (hi e (.head _))
        have hk : e.2.toNat = k := by rw [he]; simp
        rw [hk]
        refine (coll_ok (drop_ok h hr) hl.2 (fun x hx => mem_drop h hr (hi x (.tail _ hx)) (fun e2 => ?_)) (by omega)).mono (by omega)
        have := hl.1 x hx
        rw [e2, he] at this
        exact lt_irrefl _ this
      · exact coll_ok h hl.2 (fun x hx => hi x (.tail _ hx)) hm
end
/-- those of a socket's bucket -/
def bkOf (bits : Nat) (S : T) (sock : Int) : List En := inB (β bits) S.R (β bits sock)
theorem bk_rise {n N bits : Nat} {S : T} (h : TI n N S) (sock : Int) : RisingE (bkOf bits S sock) ∧ ∀ e ∈ bkOf bits S sock, e ∈ S.R := by
  unfold bkOf inB RisingE
  exact ⟨List.Pairwise.sublist List.filter_sublist h.rk.rise, fun e he => (List.mem_filter.1 he).1⟩
def collT (bits : Nat) (keep now sock : Int) (S : T) : T := coll keep now sock (bkOf bits S sock) 0 S
theorem collT_ok {n N bits : Nat} {keep now sock : Int} {S : T} (h : TI n N S) : TI n (N + 8) (collT bits keep now sock S) := by
  have := bk_rise (bits := bits) h sock
  exact TI.mono (N := N + (8 - 0)) (coll_ok h this.1 this.2 (Nat.zero_le _)) (by omega)
def bornF (sock cookie fi : Int) : FD := ⟨sock, cookie, 0, fi, 0, 0, 0⟩
/-- what Find answers: the number, what is found, the error -/
structure Fnd where
  S : T
  f : Int
  kind : Int
  err : Int
def foundT (n : Nat) (sock cookie fi : Int) (S : T) : Fnd :=
  match Tr.look S.R (sock, 0) with
  | some v => match rowAt S.rows v.toNat with
    | some r => if r.f.c = cookie then ⟨S, v, 0, 0⟩ else ⟨setT S v.toNat ⟨{ bornF sock cookie fi with ag := r.f.ag }, r.h, r.q⟩, v, 2, 0⟩
    | none => ⟨S, v, 0, 0⟩
  | none => if S.X.used = n then ⟨S, 0, 0, 140⟩ else ⟨newT S (bornF sock cookie fi), ((Ar.tq S.X : Nat) : Int), 1, 0⟩
def findT (n bits : Nat) (keep sock cookie now fi : Int) (S : T) : Fnd := foundT n sock cookie fi (collT bits keep now sock S)
theorem found_ok {n N : Nat} {sock cookie fi : Int} {S : T} (h : TI n N S) (h0 : 0 ≤ sock) (h1 : sock < 18446744073709551616) : TI n (N + 1) (foundT n sock cookie fi S).S := by
  unfold foundT
  cases hl : Tr.look S.R (sock, 0) with
  | some v =>
    obtain ⟨k, r, hr, hv, hs⟩ := (h.look sock v).1 hl
    have hk : v.toNat = k := by rw [hv]; simp
    simp only [hk, hr]
    split
    · exact h.mono (by omega)
    · have := (h.hd k r hr).2.2
      exact TI.mono (N := N) (set_ok h hr rfl hs.symm this.2) (by omega)
  | none =>
    simp only
    split
    · exact h.mono (by omega)
    · have hu : S.X.used < n := by have := h.ok.used_le; have := h.room; omega
      exact new_ok h ⟨⟨h0, h1⟩, by simp [bornF]⟩ hl hu
theorem find_ok {n N bits : Nat} {keep sock cookie now fi : Int} {S : T} (h : TI n N S) (h0 : 0 ≤ sock) (h1 : sock < 18446744073709551616) : TI n (N + 9) (findT n bits keep sock cookie now fi S).S :=
  found_ok (collT_ok h) h0 h1
def freshT (n : Nat) : T := ⟨List.replicate n none, Ar.fresh n, []⟩
theorem fresh_ok {n : Nat} (h1 : 1 ≤ n) (h2 : n ≤ 4096) : TI n 0 (freshT n) := by
  have hz : ∀ k, rowAt (List.replicate n none) k = none := fun k => by
    unfold rowAt
    by_cases hk : k < n
    · simp [List.getD, hk]
    · simp [List.getD, List.getElem?_eq_none (by simp; omega : (List.replicate n (none : Option RW)).length ≤ k)]
  refine ⟨h1, h2, by simp [freshT], Ar.ok_fresh n h1 (by omega), rfl, rk_nil n, rfl, fun k r hr => ?_, fun k _ => by simp [freshT, Ar.fresh], fun s v => ?_⟩
  · simp only [freshT] at hr
    rw [hz] at hr
    cases hr
  · simp only [freshT]
    constructor
    · intro h; cases h
    · rintro ⟨k, r, hr, _⟩
      rw [hz] at hr
      cases hr
end Go.Proofs.Ytkdmlpigkmlkmaa.Tb
--  DERIVED. Layer 14 (table), plainly: what each call makes of a table. 
set_option linter.unusedVariables false
set_option linter.unusedSimpArgs false
namespace Go.Proofs.Ytkdmlpigkmlkmaa.Tb
open Go.RowKit Go.Proofs.Ytkdmlpigkmlkmaa Go.Proofs.Ytkdmlpigkmlkmaa.TreeP Go.Proofs.Ytkdmlpigkmlkmaa.Tr Go.Proofs.Ytkdmlpigkmlkmaa.Bk

def atF (S : T) (f : Int) : Option RW := if 0 ≤ f then rowAt S.rows f.toNat else none
theorem atF_nat (S : T) (k : Nat) : atF S (k : Int) = rowAt S.rows k := by unfold atF; rw [if_pos (by omega), Int.toNat_natCast]
theorem atF_some {S : T} {f : Int} {r : RW} (h : atF S f = some r) : ∃ k : Nat, f = (k : Int) ∧ rowAt S.rows k = some r := by
  unfold atF at h
  split at h
  · exact ⟨f.toNat, by omega, h⟩
  · cases h
def onT (S : T) (f : Int) (g : RW → RW) : T := match atF S f with
  | some r => setT S f.toNat (g r)
  | none => S
def rest (now : Int) (r : RW) : RW := ⟨{ r.f with ag := now }, r.h, true⟩
def busy (r : RW) : RW := ⟨r.f, r.h, false⟩
def put (x : FD) (r : RW) : RW := if r.f.s = x.s then ⟨x, r.h, r.q⟩ else r
def dropF (S : T) (f : Int) : T := if 0 ≤ f then dropT S f.toNat else S
def doneE (S : T) (f : Int) : Int := if (atF S f).isSome then 0 else 2
def putE (S : T) (f : Int) (x : FD) : Int := match atF S f with
  | some r => if r.f.s = x.s then 0 else 2
  | none => 2
theorem onT_ok {n N : Nat} {S : T} {f : Int} {g : RW → RW} (h : TI n N S) (hg : ∀ r, InF r.f → (g r).h = r.h ∧ (g r).f.s = r.f.s ∧ 0 ≤ (g r).f.ag ∧ (g r).f.ag < 18446744073709551616) : TI n N (onT S f g) := by
  unfold onT
  cases ha : atF S f with
  | none => exact h
  | some r =>
    obtain ⟨k, rfl, hk⟩ := atF_some ha
    obtain ⟨g1, g2, g3⟩ := hg r (h.hd k r hk).2.2
    simp only [Int.toNat_natCast]
    exact set_ok h hk g1 g2 g3
theorem rest_ok {n N : Nat} {S : T} {f now : Int} (h : TI n N S) (h0 : 0 ≤ now) (h1 : now < 18446744073709551616) : TI n N (onT S f (rest now)) := onT_ok h fun r _ => ⟨rfl, rfl, h0, h1⟩
theorem busy_ok {n N : Nat} {S : T} {f : Int} (h : TI n N S) : TI n N (onT S f busy) := onT_ok h fun r hr => ⟨rfl, rfl, hr.2⟩
theorem put_ok {n N : Nat} {S : T} {f : Int} {x : FD} (h : TI n N S) (hx : 0 ≤ x.ag ∧ x.ag < 18446744073709551616) : TI n N (onT S f (put x)) := onT_ok h fun r hr => by
  unfold put
  split
  · rename_i e
    exact ⟨rfl, e.symm, hx⟩
  · exact ⟨rfl, rfl, hr.2⟩
theorem dropF_ok {n N : Nat} {S : T} {f : Int} (h : TI n N S) : TI n (N + 1) (dropF S f) := by
  unfold dropF
  split
  · cases hr : rowAt S.rows f.toNat with
    | none => rw [dropT_none hr]; exact h.mono (by omega)
    | some r => exact drop_ok h hr
  · exact h.mono (by omega)
/-- the numbers of all flows -/
def allL (S : T) : List Nat := (List.range S.rows.length).filter fun k => (rowAt S.rows k).isSome
theorem mem_all {S : T} {k : Nat} : k ∈ allL S ↔ (rowAt S.rows k).isSome = true := by
  unfold allL
  rw [List.mem_filter, List.mem_range]
  constructor
  · exact fun h => h.2
  · intro h
    refine ⟨?_, h⟩
    obtain ⟨r, hr⟩ := Option.isSome_iff_exists.1 h
    exact rowAt_lt hr
theorem all_nodup (S : T) : (allL S).Nodup := List.Nodup.sublist List.filter_sublist List.nodup_range
theorem all_len {n N : Nat} {S : T} (h : TI n N S) : (allL S).length = S.R.length := by
  have hp : ((allL S).map fun k : Nat => (k : Int)).Perm (S.R.map (·.2)) := by
    refine (List.perm_ext_iff_of_nodup ?_ ?_).2 fun v => ?_
    · refine List.Pairwise.map _ (fun a b hab e => hab ?_) (all_nodup S)
      omega
    · refine List.pairwise_map.2 (List.Pairwise.imp_of_mem (fun {a b} ha hb hab e => ?_) h.rk.rise)
      obtain ⟨k, r, h1, h2⟩ := h.row_of ha
      obtain ⟨j, r', h3, h4⟩ := h.row_of hb
      rw [h2, h4] at e
      simp only at e
      obtain rfl : k = j := by omega
      rw [h1] at h3
      injection h3 with h3
      rw [h2, h4, h3] at hab
      exact lt_irrefl _ hab
    · rw [List.mem_map, List.mem_map]
      constructor
      · rintro ⟨k, hk, rfl⟩
        obtain ⟨r, hr⟩ := Option.isSome_iff_exists.1 (mem_all.1 hk)
        exact ⟨((r.f.s, 0), (k : Int)), (h.mem _ _).2 ⟨k, r, hr, rfl, rfl⟩, rfl⟩
      · rintro ⟨e, he, rfl⟩
        obtain ⟨k, r, h1, h2⟩ := h.row_of he
        exact ⟨k, mem_all.2 (by rw [h1]; rfl), by rw [h2]⟩
  simpa using hp.length_eq
/-! ### Collection -/
/-- what a collection makes of a row: it stays, or it was old and is gone -/
theorem coll_row {n : Nat} {keep now sock : Int} : ∀ {l : List En} {m N : Nat} {S : T}, TI n N S → RisingE l → (∀ e ∈ l, e ∈ S.R) → ∀ k,
    rowAt (coll keep now sock l m S).rows k = rowAt S.rows k ∨ (rowAt (coll keep now sock l m S).rows k = none ∧ ∃ r, rowAt S.rows k = some r ∧ oldR keep now r = true ∧ r.f.s ≠ sock ∧ ((r.f.s, 0), (k : Int)) ∈ l)
  | [], m, N, S, h, _, _, k => .inl rfl
  | e :: l, m, N, S, h, hl, hi, k => by
    unfold coll
    have hl' := hl
    unfold RisingE at hl
    rw [List.pairwise_cons] at hl
    split
    · exact .inl rfl
    · split
      · rename_i hg
        obtain ⟨j, r, hr, he⟩ := h.row_of (hi e (.head _))
        have hk : e.2.toNat = j := by rw [he]; simp
        rw [hk]
        have hin : ∀ x ∈ l, x ∈ (dropT S j).R := fun x hx => mem_drop h hr (hi x (.tail _ hx)) (fun e2 => by
          have := hl.1 x hx
          rw [e2, he] at this
          exact lt_irrefl _ this)
        unfold goes at hg
        rw [hk, hr] at hg
        simp only [Option.map_some, Option.getD_some, Bool.and_eq_true, decide_eq_true_eq] at hg
        have hset := rowAt_set (rowAt_lt hr) none k
        have hd : rowAt (dropT S j).rows k = if k = j then none else rowAt S.rows k := by rw [dropT_some hr]; exact hset
        rcases coll_row (drop_ok h hr) hl.2 hin k with h1 | ⟨h1, x, h2, h3, h4, h5⟩
        · by_cases e1 : k = j
          · subst e1
            rw [hd, if_pos rfl] at h1
            exact .inr ⟨h1, r, hr, hg.2, by have := hg.1; rw [he] at this; exact this, by rw [he]; exact .head _⟩
          · rw [hd, if_neg e1] at h1
            exact .inl h1
        · by_cases e1 : k = j
          · rw [hd, if_pos e1] at h2
            cases h2
          · rw [hd, if_neg e1] at h2
            exact .inr ⟨h1, x, h2, h3, h4, .tail _ h5⟩
      · rcases coll_row h hl.2 (fun x hx => hi x (.tail _ hx)) k with h1 | ⟨h1, x, h2, h3, h4, h5⟩
        · exact .inl h1
        · exact .inr ⟨h1, x, h2, h3, h4, .tail _ h5⟩
theorem collT_row {n N bits : Nat} {keep now sock : Int} {S : T} (h : TI n N S) (k : Nat) :
    rowAt (collT bits keep now sock S).rows k = rowAt S.rows k ∨ (rowAt (collT bits keep now sock S).rows k = none ∧ ∃ r, rowAt S.rows k = some r ∧ oldR keep now r = true ∧ r.f.s ≠ sock ∧ β bits r.f.s = β bits sock) := by
  have hb := bk_rise (bits := bits) h sock
  rcases coll_row h hb.1 hb.2 k with h1 | ⟨h1, r, h2, h3, h4, h5⟩
  · exact .inl h1
  · refine .inr ⟨h1, r, h2, h3, h4, ?_⟩
    unfold bkOf inB at h5
    simpa using (List.mem_filter.1 h5).2
/-- the socket's own row stays -/
theorem collT_own {n N bits : Nat} {keep now sock : Int} {S : T} (h : TI n N S) {k : Nat} {r : RW} (hr : rowAt S.rows k = some r) (hs : r.f.s = sock) : rowAt (collT bits keep now sock S).rows k = some r := by
  rcases collT_row (bits := bits) (keep := keep) (now := now) (sock := sock) h k with h1 | ⟨h1, x, h2, h3, h4, _⟩
  · rw [h1, hr]
  · rw [hr] at h2
    injection h2 with h2
    subst h2
    exact absurd hs h4
/-- where nothing is old nothing goes -/
theorem coll_none {keep now sock : Int} {S : T} (hn : ∀ k r, rowAt S.rows k = some r → oldR keep now r = false) : ∀ (l : List En) (m : Nat), coll keep now sock l m S = S
  | [], m => rfl
  | e :: l, m => by
    unfold coll
    have hg : goes keep now sock S e = false := by
      unfold goes
      cases hr : rowAt S.rows e.2.toNat with
      | none => simp
      | some r => simp [hn _ r hr]
    split
    · rfl
    · rw [if_neg (by rw [hg]; simp)]
      exact coll_none hn l m
def Never : Int := 18446744073709551615
theorem old_never {now : Int} {r : RW} (h0 : 0 ≤ r.f.ag) (h1 : now < 18446744073709551616) : oldR Never now r = false := by
  unfold oldR Hz.sat Never
  cases r.q
  · rfl
  · simp only [Bool.true_and, decide_eq_false_iff_not]
    split <;> omega
theorem collT_never {n N bits : Nat} {now sock : Int} {S : T} (h : TI n N S) (h1 : now < 18446744073709551616) : collT bits Never now sock S = S :=
  coll_none (fun k r hr => old_never (h.hd k r hr).2.2.2.1 h1) _ _
end Go.Proofs.Ytkdmlpigkmlkmaa.Tb
--  DERIVED. Layer 14 (table): rows in memory; none, at. 
set_option linter.unusedVariables false
set_option linter.unusedSimpArgs false
set_option maxRecDepth 100000
namespace Go.Proofs.Ytkdmlpigkmlkmaa.Tb
open Go.RowKit Go.Proofs.Ytkdmlpigkmlkmaa Go.Proofs.Ytkdmlpigkmlkmaa.TreeP Go.Proofs.Ytkdmlpigkmlkmaa.Tr Go.Proofs.Ytkdmlpigkmlkmaa.Bk

abbrev TBl (p g n pb pa : Nat) (keep : Int) : HP := Go.Proofs.Ytkdmlpigkmlkmaa.Blk p #[.slice (some ⟨g, 0, none⟩) n n, .pointer (some ⟨pb, 0, none⟩), .pointer (some ⟨pa, 0, none⟩), .int .u64 keep] 82
abbrev RWs (g n : Nat) (L : Rows) : HP := Row 103 9 (.slice (some ⟨g, 0, none⟩) n n) n (L.flatMap rc)
theorem rows_len : ∀ L : Rows, (L.flatMap rc).length = L.length * 9
  | [] => rfl
  | x :: L => by rw [List.flatMap_cons, List.length_append, rows_len L, rc_len, List.length_cons]; omega
theorem rows_split : ∀ (L : Rows) (k : Nat), k < L.length → ∃ pre post : List Value, pre.length = k * 9 ∧ L.flatMap rc = pre ++ (rc (rowAt L k) ++ post) ∧ ∀ y, (L.set k y).flatMap rc = pre ++ (rc y ++ post)
  | [], k, h => by simp at h
  | x :: L, 0, h => ⟨[], L.flatMap rc, rfl, by simp [rowAt], fun y => by simp⟩
  | x :: L, k + 1, h => by
    obtain ⟨pre, post, h1, h2, h3⟩ := rows_split L k (by simpa using h)
    refine ⟨rc x ++ pre, post, by rw [List.length_append, rc_len, h1]; omega, ?_, fun y => ?_⟩
    · rw [List.flatMap_cons, h2, show rowAt (x :: L) (k + 1) = rowAt L k by simp [rowAt], List.append_assoc]
    · rw [List.set_cons_succ, List.flatMap_cons, h3, List.append_assoc]
theorem set_mid {pre r post : List Value} {k c : Nat} (hp : pre.length = k * 9) (hc : c < r.length) (v : Value) : (pre ++ (r ++ post)).set (k * 9 + c) v = pre ++ (r.set c v ++ post) := by
  rw [List.set_append_right _ _ (by omega), hp, show k * 9 + c - k * 9 = c by omega, List.set_append_left _ _ hc]
theorem get_mid {pre r post : List Value} {k c : Nat} (hp : pre.length = k * 9) (hc : c < r.length) : (pre ++ (r ++ post))[k * 9 + c]? = r[c]? := by
  rw [List.getElem?_append_right (by omega), hp, show k * 9 + c - k * 9 = c by omega, List.getElem?_append_left hc]
section
variable {p g n pb pa : Nat} {keep : Int} {L : Rows} {l : List HP} {w : World}
theorem row_cell (h : w.ownsRow 0 103 9 (.slice (some ⟨g, 0, none⟩) n n) n (L.flatMap rc)) {k c : Nat} (hk : k < L.length) (hc : c < 9) {v : Value} (hv : (rc (rowAt L k))[c]? = some v) : w.cell? ⟨g, k * 9 + c, none⟩ = some v := by
  obtain ⟨pre, post, h1, h2, -⟩ := rows_split L k hk
  have := h.cells (g := g) rfl (k * 9 + c) v (by rw [h2, get_mid h1 (by rw [rc_len]; exact hc)]; exact hv)
  rw [add_plain] at this
  exact this
/-- all nine of a row that is there -/
structure Nine (w : World) (g k : Nat) (r : RW) : Prop where
  c0 : w.cell? ⟨g, k * 9, none⟩ = some (.int .u64 r.f.s)
  c1 : w.cell? ⟨g, k * 9 + 1, none⟩ = some (.int .u64 r.f.c)
  c2 : w.cell? ⟨g, k * 9 + 2, none⟩ = some (.int .u64 r.f.ra)
  c3 : w.cell? ⟨g, k * 9 + 3, none⟩ = some (.int .i64 r.f.cr)
  c4 : w.cell? ⟨g, k * 9 + 4, none⟩ = some (.int .u64 r.f.nx)
  c5 : w.cell? ⟨g, k * 9 + 5, none⟩ = some (.int .u64 r.f.db)
  c6 : w.cell? ⟨g, k * 9 + 6, none⟩ = some (.int .u64 r.f.ag)
  c7 : w.cell? ⟨g, k * 9 + 7, none⟩ = some (.int .u64 (r.h : Int))
  c8 : w.cell? ⟨g, k * 9 + 8, none⟩ = some (.bool r.q)
theorem nine_of (h : w.ownsRow 0 103 9 (.slice (some ⟨g, 0, none⟩) n n) n (L.flatMap rc)) {k : Nat} {r : RW} (hr : rowAt L k = some r) : Nine w g k r := by
  have hk := rowAt_lt hr
  have hh : ∀ c v, c < 9 → (rc (some r))[c]? = some v → w.cell? ⟨g, k * 9 + c, none⟩ = some v := fun c v hc hv => row_cell h hk hc (by rw [hr]; exact hv)
  exact ⟨hh 0 _ (by omega) rfl, hh 1 _ (by omega) rfl, hh 2 _ (by omega) rfl, hh 3 _ (by omega) rfl, hh 4 _ (by omega) rfl, hh 5 _ (by omega) rfl, hh 6 _ (by omega) rfl, hh 7 _ (by omega) rfl, hh 8 _ (by omega) rfl⟩
theorem row_put_in {k : Nat} (hk : k < n) {pre post : List Value} (hp : pre.length = k * 9) : ∀ (cs : List (Nat × Value)) (r : List Value) (w : World), r.length = 9 → (∀ c ∈ cs, c.1 < 9) →
    Own (Row 103 9 (.slice (some ⟨g, 0, none⟩) n n) n (pre ++ (r ++ post)) :: l) w →
    Own (Row 103 9 (.slice (some ⟨g, 0, none⟩) n n) n (pre ++ (cs.foldl (fun a c => a.set c.1 c.2) r ++ post)) :: l) (cs.foldl (fun w c => w.setCell ⟨g, k * 9 + c.1, none⟩ c.2) w)
  | [], r, w, _, _, h => h
  | c :: cs, r, w, hr, hc, h => by
    have hc0 := hc c (.head _)
    have h1 := h.rowSet (o := k * 9 + c.1) (by omega) c.2
    rw [set_mid hp (by rw [hr]; exact hc0)] at h1
    exact row_put_in hk hp cs (r.set c.1 c.2) _ (by rw [List.length_set]; exact hr) (fun x hx => hc x (.tail _ hx)) h1
/-- a row written in part, or whole -/
theorem row_put (h : Own (RWs g n L :: l) w) {k : Nat} (hl : L.length = n) (hk : k < n) (cs : List (Nat × Value)) (hc : ∀ c ∈ cs, c.1 < 9) {y : Option RW} (hy : cs.foldl (fun a c => a.set c.1 c.2) (rc (rowAt L k)) = rc y) :
    Own (RWs g n (L.set k y) :: l) (cs.foldl (fun w c => w.setCell ⟨g, k * 9 + c.1, none⟩ c.2) w) := by
  obtain ⟨pre, post, h1, h2, h3⟩ := rows_split L k (by omega)
  unfold RWs at h ⊢
  rw [h2] at h
  have := row_put_in hk h1 cs _ w (rc_len _) hc h
  rw [hy, ← h3] at this
  exact this
theorem tb_cells (h : Own l w) (hm : TBl p g n pb pa keep ∈ l) :
    w.cell? ⟨p, 0, none⟩ = some (.slice (some ⟨g, 0, none⟩) n n) ∧ w.cell? ⟨p, 1, none⟩ = some (.pointer (some ⟨pb, 0, none⟩)) ∧ w.cell? ⟨p, 2, none⟩ = some (.pointer (some ⟨pa, 0, none⟩)) ∧ w.cell? ⟨p, 3, none⟩ = some (.int .u64 keep) ∧ ∀ o, w.frozen? ⟨p, o, none⟩ = false :=
  Go.Proofs.Ytkdmlpigkmlkmaa.Own.blk4 h hm
set_option maxHeartbeats 400000 in
theorem none_any (h : Own (TBl p g n pb pa keep :: l) w) :
    Calls Try.prog 48 #[.pointer (some ⟨p, 0, none⟩)] w fun e w' => e = .returned (.bool false) ∧ w = w' := by
  obtain ⟨c0, c1, c2, c3, hf⟩ := tb_cells h (.head _)
  have he : ∀ w : World, (binOp .eql 78 (.slice (some ⟨g, 0, none⟩) n n) (.slice none 0 0)).run Try.prog w = .ok (.bool false) w := fun _ => rfl
  clear h
  go_enter Try.func48, Try.ntmps48
  go_wp2
  go_ret
  exact ⟨rfl, rfl⟩
/-- where 'at' points -/
def atP (g : Nat) (L : Rows) (f : Int) : Option Addr := if 0 ≤ f then (rowAt L f.toNat).map fun _ => ⟨g, f.toNat * 9, none⟩ else none
set_option maxHeartbeats 1000000 in
theorem at_any (h : Own (TBl p g n pb pa keep :: RWs g n L :: l) w) (hl : L.length = n) (hn : n ≤ 4096) (hh : ∀ k r, rowAt L k = some r → 0 < r.h) (f : Int) :
    Calls Try.prog 51 #[.pointer (some ⟨p, 0, none⟩), .int .i64 f] w fun e w' => e = .returned (.pointer (atP g L f)) ∧ w = w' := by
  obtain ⟨c0, -, -, -, -⟩ := tb_cells h (.head _)
  have HNN := Lib.hid (none_any h)
  by_cases h0 : f < 0
  · have ea : atP g L f = none := by unfold atP; rw [if_neg (by omega)]
    rw [ea]
    clear h hh hl
    go_enter Try.func51, Try.ntmps51
    go_wp2_with (go_at_call 48; (with_reducible refine (HNN.out).mono ?_); rintro e w' ⟨rfl, rfl⟩)
    go_ret
    exact ⟨rfl, rfl⟩
  · obtain ⟨k, rfl⟩ := Int.eq_ofNat_of_zero_le (show 0 ≤ f by omega)
    by_cases h1 : n ≤ k
    · have ea : atP g L (k : Int) = none := by
        unfold atP
        rw [if_pos (by omega), Int.toNat_natCast]
        cases hr : rowAt L k with
        | none => rfl
        | some r => have := rowAt_lt hr; omega
      rw [ea]
      have hk1 : (n : Int) ≤ (k : Int) := by omega
      clear h hh hl
      go_enter Try.func51, Try.ntmps51
      go_wp2_with (go_at_call 48; (with_reducible refine (HNN.out).mono ?_); rintro e w' ⟨rfl, rfl⟩)
      go_ret
      exact ⟨rfl, rfl⟩
    · have hk1 : (k : Int) < (n : Int) := by omega
      have hk2 : k < L.length := by omega
      have hrow := h.swap.row
      have hc : ∀ c v, c < 9 → (rc (rowAt L k))[c]? = some v → w.cell? ⟨g, k * 9 + c, none⟩ = some v := fun c v hc hv => row_cell hrow hk2 hc hv
      cases hr : rowAt L k with
      | none =>
        have ea : atP g L (k : Int) = none := by unfold atP; rw [if_pos (by omega), Int.toNat_natCast, hr]; rfl
        rw [ea]
        rw [hr] at hc
        have y0 := hc 0 _ (by omega) rfl
        have y1 := hc 1 _ (by omega) rfl
        have y2 := hc 2 _ (by omega) rfl
        have y3 := hc 3 _ (by omega) rfl
        have y4 := hc 4 _ (by omega) rfl
        have y5 := hc 5 _ (by omega) rfl
        have y6 := hc 6 _ (by omega) rfl
        have y7 := hc 7 _ (by omega) rfl
        have y8 := hc 8 _ (by omega) rfl
        simp only [Nat.add_zero] at y0
        clear h hh hl hr ea hrow hc
        go_enter Try.func51, Try.ntmps51
        go_wp2_with (go_at_call 48; (with_reducible refine (HNN.out).mono ?_); rintro e w' ⟨rfl, rfl⟩)
        go_ret
        exact ⟨rfl, rfl⟩
      | some r =>
        have ea : atP g L (k : Int) = some ⟨g, k * 9, none⟩ := by unfold atP; rw [if_pos (by omega), Int.toNat_natCast, hr]; rfl
        rw [ea]
        obtain ⟨y0, y1, y2, y3, y4, y5, y6, y7, y8⟩ := nine_of hrow hr
        have hp := hh k r hr
        have h7 : ((r.h : Int) == 0) = false := by rw [beq_eq_false_iff_ne]; omega
        clear h hh hl hr ea hrow hc
        go_enter Try.func51, Try.ntmps51
        go_wp2_with (go_at_call 48; (with_reducible refine (HNN.out).mono ?_); rintro e w' ⟨rfl, rfl⟩)
        go_ret
        exact ⟨rfl, rfl⟩
end
end Go.Proofs.Ytkdmlpigkmlkmaa.Tb
--  DERIVED. Layer 14 (table): a table in memory; Get, Rests, Keep, Len, Bits; what flows are born as. 
set_option linter.unusedVariables false
set_option linter.unusedSimpArgs false
set_option maxRecDepth 100000
namespace Go.Proofs.Ytkdmlpigkmlkmaa.Tb
open Go.RowKit Go.Proofs.Ytkdmlpigkmlkmaa Go.Proofs.Ytkdmlpigkmlkmaa.TreeP Go.Proofs.Ytkdmlpigkmlkmaa.Tr Go.Proofs.Ytkdmlpigkmlkmaa.Bk

def Tbl (p n bits N : Nat) (keep : Int) (S : T) : HP :=
  PackE (fun x : Nat × Nat × Nat => TI n N S ∧ bits ≤ 10 ∧ 0 ≤ keep ∧ keep ≤ 18446744073709551615)
    (fun x => [TBl p x.1 n x.2.1 x.2.2 keep, RWs x.1 n S.rows, Bkt x.2.1 bits n S.R, Ar.Arena x.2.2 S.X])
abbrev fagg (F : FD) : Value := .agg #[.int .u64 F.s, .int .u64 F.c, .int .u64 F.ra, .int .i64 F.cr, .int .u64 F.nx, .int .u64 F.db, .int .u64 F.ag]
abbrev f7 (F : FD) : Array Value := #[.int .u64 F.s, .int .u64 F.c, .int .u64 F.ra, .int .i64 F.cr, .int .u64 F.nx, .int .u64 F.db, .int .u64 F.ag]
def getF (S : T) (f : Int) : FD := ((atF S f).map (·.f)).getD F0
section
variable {p g n pb pa bits N : Nat} {keep : Int} {S : T} {l : List HP} {w : World}
theorem tb_open (h : Own (Tbl p n bits N keep S :: l) w) : ∃ g pb pa, (TI n N S ∧ bits ≤ 10 ∧ 0 ≤ keep ∧ keep ≤ 18446744073709551615) ∧ Own (TBl p g n pb pa keep :: RWs g n S.rows :: Bkt pb bits n S.R :: Ar.Arena pa S.X :: l) w := by
  obtain ⟨⟨g, pb, pa⟩, hx, h⟩ := h.unpack
  exact ⟨g, pb, pa, hx, h⟩
theorem tb_shut (hx : TI n N S ∧ bits ≤ 10 ∧ 0 ≤ keep ∧ keep ≤ 18446744073709551615) (h : Own (TBl p g n pb pa keep :: RWs g n S.rows :: Bkt pb bits n S.R :: Ar.Arena pa S.X :: l) w) : Own (Tbl p n bits N keep S :: l) w :=
  Own.pack (g, pb, pa) hx h
theorem own_ti (h : Own (Tbl p n bits N keep S :: l) w) : TI n N S ∧ bits ≤ 10 := by
  obtain ⟨g, pb, pa, hx, -⟩ := tb_open h
  exact ⟨hx.1, hx.2.1⟩
theorem hd_pos (h : TI n N S) : ∀ k r, rowAt S.rows k = some r → 0 < r.h := fun k r hr => by
  obtain ⟨⟨h1, h2⟩, h3, _⟩ := h.hd k r hr
  rw [h3, Ar.hdl_at h2]
  omega
theorem own_none (h : Own (Tbl p n bits N keep S :: l) w) : Calls Try.prog 48 #[.pointer (some ⟨p, 0, none⟩)] w fun e w' => e = .returned (.bool false) ∧ w = w' := by
  obtain ⟨g, pb, pa, hx, h⟩ := tb_open h
  exact none_any h
theorem atP_some {k : Nat} {r : RW} (hr : rowAt S.rows k = some r) : atP g S.rows (k : Int) = some ⟨g, k * 9, none⟩ := by unfold atP; rw [if_pos (by omega), Int.toNat_natCast, hr]; rfl
theorem atP_none {f : Int} (hr : atF S f = none) : atP g S.rows f = none := by
  unfold atP
  unfold atF at hr
  split
  · rename_i h0; rw [if_pos h0] at hr; rw [hr]; rfl
  · rfl
theorem at_yes (h : Own (TBl p g n pb pa keep :: RWs g n S.rows :: l) w) (ht : TI n N S) {k : Nat} {r : RW} (hr : rowAt S.rows k = some r) :
    Calls Try.prog 51 #[.pointer (some ⟨p, 0, none⟩), .int .i64 (k : Int)] w fun e w' => e = .returned (.pointer (some ⟨g, k * 9, none⟩)) ∧ w = w' := by
  have := at_any h ht.len ht.n2 (hd_pos ht) (k : Int)
  rw [atP_some hr] at this
  exact this
theorem at_no (h : Own (TBl p g n pb pa keep :: RWs g n S.rows :: l) w) (ht : TI n N S) {f : Int} (hr : atF S f = none) :
    Calls Try.prog 51 #[.pointer (some ⟨p, 0, none⟩), .int .i64 f] w fun e w' => e = .returned (.pointer none) ∧ w = w' := by
  have := at_any h ht.len ht.n2 (hd_pos ht) f
  rw [atP_none hr] at this
  exact this
set_option maxHeartbeats 400000 in
theorem own_get (h : Own (Tbl p n bits N keep S :: l) w) (f : Int) :
    Calls Try.prog 20 #[.pointer (some ⟨p, 0, none⟩), .int .i64 f] w fun e w' => e = .returned (.tuple #[fagg (getF S f), .bool (atF S f).isSome]) ∧ Own (Tbl p n bits N keep S :: l) w' := by
  obtain ⟨g, pb, pa, hx, h1⟩ := tb_open h
  have h2 := h1.step ((Ext.refl w).alloc (.cells #[.int .u64 0, .int .u64 0, .int .u64 0, .int .i64 0, .int .u64 0, .int .u64 0, .int .u64 0] 41))
  cases ha : atF S f with
  | none =>
    have hat := at_no h2 hx.1 ha
    have eg : getF S f = F0 := by unfold getF; rw [ha]; rfl
    rw [eg]
    have HAT := Lib.hid hat
    have HF := Lib.hid fun o => h.step ((Ext.refl w).alloc o)
    clear h h1 h2 hat ha eg hx
    go_enter Try.func20, Try.ntmps20
    go_wp2_with fail
    (with_reducible refine (HAT.out).mono ?_)
    rintro e w2 ⟨rfl, rfl⟩
    clear HAT
    go_wp2_with fail
    exact bodyPost_ret (v := .tuple #[fagg F0, .bool false]) (by simp [results, Try.results20, go_sem, F0]) rfl ⟨rfl, HF.out _⟩
  | some r =>
    obtain ⟨k, rfl, hr⟩ := atF_some ha
    have hat := at_yes h2 hx.1 hr
    have eg : getF S (k : Int) = r.f := by unfold getF; rw [ha]; rfl
    rw [eg]
    obtain ⟨y0, y1, y2, y3, y4, y5, y6, -, -⟩ := nine_of (h2.swap.row) hr
    have HAT := Lib.hid hat
    have HF := Lib.hid fun o => h.step ((Ext.refl w).alloc o)
    clear h h1 h2 hat ha eg hx hr
    go_enter Try.func20, Try.ntmps20
    go_wp2_with fail
    (with_reducible refine (HAT.out).mono ?_)
    rintro e w2 ⟨rfl, rfl⟩
    clear HAT
    go_wp2_with fail
    exact bodyPost_ret (v := .tuple #[fagg r.f, .bool true]) (by simp [results, Try.results20, go_sem]) rfl ⟨rfl, HF.out _⟩
theorem own_rests (h : Own (Tbl p n bits N keep S :: l) w) (f : Int) :
    Calls Try.prog 21 #[.pointer (some ⟨p, 0, none⟩), .int .i64 f] w fun e w' => e = .returned (.bool (((atF S f).map (·.q)).getD false)) ∧ w = w' := by
  obtain ⟨g, pb, pa, hx, h1⟩ := tb_open h
  cases ha : atF S f with
  | none =>
    have HAT := Lib.hid (at_no h1 hx.1 ha)
    simp only [Option.map_none, Option.getD_none]
    clear h h1 ha hx
    go_enter Try.func21, Try.ntmps21
    go_wp2_with (go_at_call 51; (with_reducible refine (HAT.out).mono ?_); rintro e w2 ⟨rfl, rfl⟩)
    go_ret
    exact ⟨rfl, rfl⟩
  | some r =>
    obtain ⟨k, rfl, hr⟩ := atF_some ha
    have HAT := Lib.hid (at_yes h1 hx.1 hr)
    obtain ⟨-, -, -, -, -, -, -, -, y8⟩ := nine_of (h1.swap.row) hr
    simp only [Option.map_some, Option.getD_some]
    clear h h1 ha hx hr
    go_enter Try.func21, Try.ntmps21
    go_wp2_with (go_at_call 51; (with_reducible refine (HAT.out).mono ?_); rintro e w2 ⟨rfl, rfl⟩)
    go_ret
    exact ⟨rfl, rfl⟩
theorem own_len (h : Own (Tbl p n bits N keep S :: l) w) :
    Calls Try.prog 16 #[.pointer (some ⟨p, 0, none⟩)] w fun e w' => e = .returned (.int .i64 (S.R.length : Nat)) ∧ w = w' := by
  obtain ⟨g, pb, pa, hx, h1⟩ := tb_open h
  obtain ⟨-, c1, -, -, -⟩ := tb_cells h1 (.head _)
  have HNN := Lib.hid (none_any h1)
  have HL := Lib.hid (Bk.own_len h1.third)
  clear h h1 hx
  go_enter Try.func16, Try.ntmps16
  go_wp2_with (first
    | (go_at_call 48; (with_reducible refine (HNN.out).mono ?_); rintro e w' ⟨rfl, rfl⟩)
    | (go_at_call 58; (with_reducible refine (HL.out).mono ?_); rintro e w' ⟨rfl, rfl⟩))
  go_ret
  exact ⟨rfl, rfl⟩
theorem own_bits (h : Own (Tbl p n bits N keep S :: l) w) :
    Calls Try.prog 29 #[.pointer (some ⟨p, 0, none⟩)] w fun e w' => e = .returned (.int .i64 (bits : Nat)) ∧ w = w' := by
  obtain ⟨g, pb, pa, hx, h1⟩ := tb_open h
  obtain ⟨-, c1, -, -, -⟩ := tb_cells h1 (.head _)
  have HNN := Lib.hid (none_any h1)
  have HL := Lib.hid (Bk.own_bits h1.third)
  clear h h1 hx
  go_enter Try.func29, Try.ntmps29
  go_wp2_with (first
    | (go_at_call 48; (with_reducible refine (HNN.out).mono ?_); rintro e w' ⟨rfl, rfl⟩)
    | (go_at_call 65; (with_reducible refine (HL.out).mono ?_); rintro e w' ⟨rfl, rfl⟩))
  go_ret
  exact ⟨rfl, rfl⟩
theorem own_keep (h : Own (Tbl p n bits N keep S :: l) w) (k' : Int) (h0 : 0 ≤ k') (h9 : k' ≤ 18446744073709551615) :
    Calls Try.prog 36 #[.pointer (some ⟨p, 0, none⟩), .int .u64 k'] w fun e w' => e = .returned (.int .i64 0) ∧ Own (Tbl p n bits N k' S :: l) w' := by
  obtain ⟨g, pb, pa, hx, h1⟩ := tb_open h
  obtain ⟨-, -, -, c3, hf⟩ := tb_cells h1 (.head _)
  have f3 := hf 3
  have HNN := Lib.hid (none_any h1)
  have HF : Hid (Own (Tbl p n bits N k' S :: l) (w.setCell ⟨p, 3, none⟩ (.int .u64 k'))) := Lib.hid (tb_shut (g := g) (pb := pb) (pa := pa) ⟨hx.1, hx.2.1, h0, h9⟩ (Go.Proofs.Ytkdmlpigkmlkmaa.Own.blkSet (o := 3) h1 (.int .u64 k')))
  clear h h1 hx hf h0 h9
  go_enter Try.func36, Try.ntmps36
  go_wp2_with (go_at_call 48; (with_reducible refine (HNN.out).mono ?_); rintro e w' ⟨rfl, rfl⟩)
  go_ret
  exact ⟨rfl, HF.out⟩
end
theorem born_any (sock cookie qu fi rf mo lo : Int) (w : World) :
    Calls Try.prog 22 #[.int .u64 sock, .int .u64 cookie, .agg #[.int .i64 qu, .int .i64 fi, .int .u64 rf, .int .u64 mo, .int .u64 lo]] w fun e w' => e = .returned (fagg (bornF sock cookie fi)) ∧ Ext w w' := by
  go_enter Try.func22, Try.ntmps22
  go_wp2_with fail
  exact bodyPost_ret (v := fagg (bornF sock cookie fi)) (by simp [results, Try.results22, go_sem, bornF]) rfl ⟨rfl, ((Ext.refl w).alloc _).alloc _⟩
theorem frest_any (F : FD) (now : Int) (w : World) :
    Calls Try.prog 57 #[fagg F, .int .u64 now] w fun e w' => e = .returned (fagg { F with ag := now }) ∧ Ext w w' := by
  go_enter Try.func57, Try.ntmps57
  go_wp2_with fail
  exact bodyPost_ret (v := fagg { F with ag := now }) (by simp [results, Try.results57, go_sem]) rfl ⟨rfl, ((Ext.refl w).alloc _).alloc _⟩
end Go.Proofs.Ytkdmlpigkmlkmaa.Tb
--  DERIVED. Layer 14 (table): Rest, Busy, Set. 
set_option linter.unusedVariables false
set_option linter.unusedSimpArgs false
set_option maxRecDepth 100000
namespace Go.Proofs.Ytkdmlpigkmlkmaa.Tb
open Go.RowKit Go.Proofs.Ytkdmlpigkmlkmaa Go.Proofs.Ytkdmlpigkmlkmaa.TreeP Go.Proofs.Ytkdmlpigkmlkmaa.Tr Go.Proofs.Ytkdmlpigkmlkmaa.Bk

section
variable {p g n pb pa bits N k : Nat} {keep : Int} {S : T} {l : List HP} {w : World} {L : Rows} {r : RW}
theorem row_frozen (h : Own (RWs g n L :: l) w) (j : Nat) : w.frozen? ⟨g, j, none⟩ = false := h.row.frozen' rfl j
/-- a cell is written -/
def Wr (w : World) (a : Addr) (u : Value) (v : World) : Prop := w.setCell a u = v ∧ (∃ x, w.cell? a = some x) ∧ w.frozen? a = false
theorem wr_one {pre r post : List Value} (hp : pre.length = k * 9) (hk : k < n) (h : Own (Row 103 9 (.slice (some ⟨g, 0, none⟩) n n) n (pre ++ (r ++ post)) :: l) w) (hr : r.length = 9) (c : Nat) (hc : c < 9) (u : Value) :
    ∃ v, Wr w ⟨g, k * 9 + c, none⟩ u v ∧ Own (Row 103 9 (.slice (some ⟨g, 0, none⟩) n n) n (pre ++ (r.set c u ++ post)) :: l) v ∧ (r.set c u).length = 9 := by
  have hg : (pre ++ (r ++ post))[k * 9 + c]? = some r[c] := by rw [get_mid hp (by omega)]; exact List.getElem?_eq_getElem (by omega)
  have hc1 := h.row.cells (g := g) rfl _ _ hg
  rw [add_plain] at hc1
  have h1 := h.rowSet (o := k * 9 + c) (by omega) u
  rw [set_mid hp (by omega)] at h1
  exact ⟨_, ⟨rfl, ⟨_, hc1⟩, h.row.frozen' rfl _⟩, h1, by rw [List.length_set]; exact hr⟩
/-- a flow written -/
theorem flow_wr (h : Own (RWs g n L :: l) w) (hl : L.length = n) (hr : rowAt L k = some r) (F : FD) :
    ∃ v1 v2 v3 v4 v5 v6 v7, Wr w ⟨g, k * 9, none⟩ (.int .u64 F.s) v1 ∧ Wr v1 ⟨g, k * 9 + 1, none⟩ (.int .u64 F.c) v2 ∧ Wr v2 ⟨g, k * 9 + 2, none⟩ (.int .u64 F.ra) v3 ∧ Wr v3 ⟨g, k * 9 + 3, none⟩ (.int .i64 F.cr) v4 ∧ Wr v4 ⟨g, k * 9 + 4, none⟩ (.int .u64 F.nx) v5 ∧ Wr v5 ⟨g, k * 9 + 5, none⟩ (.int .u64 F.db) v6 ∧ Wr v6 ⟨g, k * 9 + 6, none⟩ (.int .u64 F.ag) v7 ∧ Own (RWs g n (L.set k (some ⟨F, r.h, r.q⟩)) :: l) v7 := by
  have hkl := rowAt_lt hr
  have hk : k < n := by omega
  obtain ⟨pre, post, hp, h2, h3⟩ := rows_split L k hkl
  unfold RWs at h
  rw [h2, hr] at h
  obtain ⟨v1, w1, h1, q1⟩ := wr_one hp hk h (rc_len _) 0 (by omega) (.int .u64 F.s)
  obtain ⟨v2, w2, h1, q1⟩ := wr_one hp hk h1 q1 1 (by omega) (.int .u64 F.c)
  obtain ⟨v3, w3, h1, q1⟩ := wr_one hp hk h1 q1 2 (by omega) (.int .u64 F.ra)
  obtain ⟨v4, w4, h1, q1⟩ := wr_one hp hk h1 q1 3 (by omega) (.int .i64 F.cr)
  obtain ⟨v5, w5, h1, q1⟩ := wr_one hp hk h1 q1 4 (by omega) (.int .u64 F.nx)
  obtain ⟨v6, w6, h1, q1⟩ := wr_one hp hk h1 q1 5 (by omega) (.int .u64 F.db)
  obtain ⟨v7, w7, h1, q1⟩ := wr_one hp hk h1 q1 6 (by omega) (.int .u64 F.ag)
  refine ⟨v1, v2, v3, v4, v5, v6, v7, w1, w2, w3, w4, w5, w6, w7, ?_⟩
  unfold RWs
  rw [h3]
  exact h1
theorem rests_wr (h : Own (RWs g n L :: l) w) (hl : L.length = n) (hr : rowAt L k = some r) (q : Bool) :
    ∃ v1, Wr w ⟨g, k * 9 + 8, none⟩ (.bool q) v1 ∧ Own (RWs g n (L.set k (some ⟨r.f, r.h, q⟩)) :: l) v1 := by
  have hkl := rowAt_lt hr
  have hk : k < n := by omega
  obtain ⟨pre, post, hp, h2, h3⟩ := rows_split L k hkl
  unfold RWs at h
  rw [h2, hr] at h
  obtain ⟨v1, w1, h1, q1⟩ := wr_one hp hk h (rc_len _) 8 (by omega) (.bool q)
  refine ⟨v1, w1, ?_⟩
  unfold RWs
  rw [h3]
  exact h1
theorem set_set (L : Rows) (k : Nat) (x y : Option RW) : (L.set k x).set k y = L.set k y := List.set_set ..
abbrev BU (b : Nat) (x : Int) : HP := Go.Proofs.Ytkdmlpigkmlkmaa.Blk b #[.int .u64 x] 22
abbrev BF (b : Nat) (F : FD) : HP := Go.Proofs.Ytkdmlpigkmlkmaa.Blk b (f7 F) 41
theorem bu_cell {b : Nat} {x : Int} (h : Own l w) (hm : BU b x ∈ l) : w.cell? ⟨b, 0, none⟩ = some (.int .u64 x) := by
  have := Go.Proofs.Ytkdmlpigkmlkmaa.Own.blk h hm
  simp [World.cell?, this]
theorem bf_cells {b : Nat} {F : FD} (h : Own l w) (hm : BF b F ∈ l) :
    w.cell? ⟨b, 0, none⟩ = some (.int .u64 F.s) ∧ w.cell? ⟨b, 1, none⟩ = some (.int .u64 F.c) ∧ w.cell? ⟨b, 2, none⟩ = some (.int .u64 F.ra) ∧ w.cell? ⟨b, 3, none⟩ = some (.int .i64 F.cr) ∧ w.cell? ⟨b, 4, none⟩ = some (.int .u64 F.nx) ∧ w.cell? ⟨b, 5, none⟩ = some (.int .u64 F.db) ∧ w.cell? ⟨b, 6, none⟩ = some (.int .u64 F.ag) := by
  have := Go.Proofs.Ytkdmlpigkmlkmaa.Own.blk h hm
  simp [World.cell?, this]
set_option maxHeartbeats 300000 in
theorem rest1 {b : Nat} {now : Int} (h : Own (RWs g n L :: BU b now :: l) w) (hl : L.length = n) (hr : rowAt L k = some r) :
    Calls Try.prog 56 #[.pointer (some ⟨g, k * 9, none⟩), .pointer (some ⟨b, 0, none⟩)] w fun e w' => e = .returned (.bool true) ∧ Own (RWs g n (L.set k (some (rest now r))) :: BU b now :: l) w' := by
  obtain ⟨y0, y1, y2, y3, y4, y5, y6, -, -⟩ := nine_of h.row hr
  have u0 := bu_cell h (.tail _ (.head _))
  have HW : Hid (∀ w', Ext w w' → ∃ v1 v2 v3 v4 v5 v6 v7 v8, Wr w' ⟨g, k * 9, none⟩ (.int .u64 r.f.s) v1 ∧ Wr v1 ⟨g, k * 9 + 1, none⟩ (.int .u64 r.f.c) v2 ∧ Wr v2 ⟨g, k * 9 + 2, none⟩ (.int .u64 r.f.ra) v3 ∧ Wr v3 ⟨g, k * 9 + 3, none⟩ (.int .i64 r.f.cr) v4 ∧ Wr v4 ⟨g, k * 9 + 4, none⟩ (.int .u64 r.f.nx) v5 ∧ Wr v5 ⟨g, k * 9 + 5, none⟩ (.int .u64 r.f.db) v6 ∧ Wr v6 ⟨g, k * 9 + 6, none⟩ (.int .u64 now) v7 ∧ Wr v7 ⟨g, k * 9 + 8, none⟩ (.bool true) v8 ∧ Own (RWs g n (L.set k (some (rest now r))) :: BU b now :: l) v8) := Lib.hid fun w' hx => by
    obtain ⟨v1, v2, v3, v4, v5, v6, v7, w1, w2, w3, w4, w5, w6, w7, h7⟩ := flow_wr (h.step hx) hl hr { r.f with ag := now }
    have hk := rowAt_lt hr
    obtain ⟨v8, w8, h8⟩ := rests_wr (k := k) (r := ⟨{ r.f with ag := now }, r.h, r.q⟩) h7 (by rw [List.length_set]; exact hl) (by rw [rowAt_set hk, if_pos rfl]) true
    rw [set_set] at h8
    exact ⟨v1, v2, v3, v4, v5, v6, v7, v8, w1, w2, w3, w4, w5, w6, w7, w8, h8⟩
  have HFR := Lib.hid fun w' => frest_any r.f now w'
  clear h hr hl
  go_enter Try.func56, Try.ntmps56
  go_wp2_with fail
  go_region_with ((go_at_call 57; (with_reducible refine (HFR.out _).mono ?_); rintro e w2 ⟨rfl, hx⟩; obtain ⟨v1, v2, v3, v4, v5, v6, v7, v8, ⟨e1, ⟨x1, z1⟩, f1⟩, ⟨e2, ⟨x2, z2⟩, f2⟩, ⟨e3, ⟨x3, z3⟩, f3⟩, ⟨e4, ⟨x4, z4⟩, f4⟩, ⟨e5, ⟨x5, z5⟩, f5⟩, ⟨e6, ⟨x6, z6⟩, f6⟩, ⟨e7, ⟨x7, z7⟩, f7⟩, ⟨e8, ⟨x8, z8⟩, f8⟩, h8⟩ := HW.out _ ((Ext.refl w).drew.trans hx); have H8 := Lib.hid h8; clear hx h8))
  all_goals (go_wp2_with fail; go_ret; exact ⟨rfl, H8.out⟩)
end
end Go.Proofs.Ytkdmlpigkmlkmaa.Tb
--  DERIVED. Layer 14 (table): Drop. 
set_option linter.unusedVariables false
set_option linter.unusedSimpArgs false
set_option maxRecDepth 100000
namespace Go.Proofs.Ytkdmlpigkmlkmaa.Tb
open Go.RowKit Go.Proofs.Ytkdmlpigkmlkmaa Go.Proofs.Ytkdmlpigkmlkmaa.TreeP Go.Proofs.Ytkdmlpigkmlkmaa.Tr Go.Proofs.Ytkdmlpigkmlkmaa.Bk

section
variable {p g n pb pa bits N k : Nat} {keep : Int} {S : T} {l : List HP} {w : World} {L : Rows} {r : RW}
/-- a row written whole -/
theorem nine_wr (h : Own (RWs g n L :: l) w) (hl : L.length = n) (hk : k < n) (y : Option RW) (a0 a1 a2 a3 a4 a5 a6 a7 a8 : Value) (ey : rc y = [a0, a1, a2, a3, a4, a5, a6, a7, a8]) :
    ∃ v1 v2 v3 v4 v5 v6 v7 v8 v9, Wr w ⟨g, k * 9, none⟩ a0 v1 ∧ Wr v1 ⟨g, k * 9 + 1, none⟩ a1 v2 ∧ Wr v2 ⟨g, k * 9 + 2, none⟩ a2 v3 ∧ Wr v3 ⟨g, k * 9 + 3, none⟩ a3 v4 ∧ Wr v4 ⟨g, k * 9 + 4, none⟩ a4 v5 ∧ Wr v5 ⟨g, k * 9 + 5, none⟩ a5 v6 ∧ Wr v6 ⟨g, k * 9 + 6, none⟩ a6 v7 ∧ Wr v7 ⟨g, k * 9 + 7, none⟩ a7 v8 ∧ Wr v8 ⟨g, k * 9 + 8, none⟩ a8 v9 ∧ Own (RWs g n (L.set k y) :: l) v9 := by
  obtain ⟨pre, post, hp, h2, h3⟩ := rows_split L k (by omega)
  unfold RWs at h
  rw [h2] at h
  obtain ⟨b0, b1, b2, b3, b4, b5, b6, b7, b8, eb⟩ : ∃ b0 b1 b2 b3 b4 b5 b6 b7 b8, rc (rowAt L k) = [b0, b1, b2, b3, b4, b5, b6, b7, b8] := by
    cases rowAt L k with
    | none => exact ⟨_, _, _, _, _, _, _, _, _, rfl⟩
    | some r => exact ⟨_, _, _, _, _, _, _, _, _, rfl⟩
  rw [eb] at h
  obtain ⟨v1, w1, h1, q1⟩ := wr_one hp hk h rfl 0 (by omega) a0
  obtain ⟨v2, w2, h1, q1⟩ := wr_one hp hk h1 q1 1 (by omega) a1
  obtain ⟨v3, w3, h1, q1⟩ := wr_one hp hk h1 q1 2 (by omega) a2
  obtain ⟨v4, w4, h1, q1⟩ := wr_one hp hk h1 q1 3 (by omega) a3
  obtain ⟨v5, w5, h1, q1⟩ := wr_one hp hk h1 q1 4 (by omega) a4
  obtain ⟨v6, w6, h1, q1⟩ := wr_one hp hk h1 q1 5 (by omega) a5
  obtain ⟨v7, w7, h1, q1⟩ := wr_one hp hk h1 q1 6 (by omega) a6
  obtain ⟨v8, w8, h1, q1⟩ := wr_one hp hk h1 q1 7 (by omega) a7
  obtain ⟨v9, w9, h1, q1⟩ := wr_one hp hk h1 q1 8 (by omega) a8
  refine ⟨v1, v2, v3, v4, v5, v6, v7, v8, v9, w1, w2, w3, w4, w5, w6, w7, w8, w9, ?_⟩
  unfold RWs
  rw [h3, ey]
  exact h1
set_option maxHeartbeats 2000000 in
theorem own_drop (h : Own (Tbl p n bits N keep S :: l) w) (hN : N ≤ 60000) (f : Int) :
    Calls Try.prog 17 #[.pointer (some ⟨p, 0, none⟩), .int .i64 f] w fun e w' => e = .returned (.bool (atF S f).isSome) ∧ Own (Tbl p n bits (N + 1) keep (dropF S f) :: l) w' := by
  have hok := fun hh : TI n N S => dropF_ok (f := f) hh
  obtain ⟨g, pb, pa, hx, h1⟩ := tb_open h
  have hok := hok hx.1
  cases ha : atF S f with
  | none =>
    have ed : dropF S f = S := by
      unfold dropF
      unfold atF at ha
      split
      · rename_i h0
        rw [if_pos h0] at ha
        exact dropT_none ha
      · rfl
    have HAT := Lib.hid (at_no h1 hx.1 ha)
    have HF : Hid (Own (Tbl p n bits (N + 1) keep (dropF S f) :: l) w) := Lib.hid (tb_shut (g := g) (pb := pb) (pa := pa) ⟨hok, hx.2⟩ (by rw [ed]; exact h1))
    clear h h1 hx hok ha ed hN
    go_enter Try.func17, Try.ntmps17
    go_wp2_with fail
    (with_reducible refine (HAT.out).mono ?_)
    rintro e w2 ⟨rfl, rfl⟩
    go_wp2_with fail
    go_ret
    exact ⟨rfl, HF.out⟩
  | some r =>
    obtain ⟨k, rfl, hr⟩ := atF_some ha
    have ed : dropF S (k : Int) = ⟨S.rows.set k none, Ar.gv S.X k, del S.R (r.f.s, 0)⟩ := by
      unfold dropF
      rw [if_pos (by omega), Int.toNat_natCast]
      exact dropT_some hr
    have hrk := rowAt_lt hr
    have hkn : k < n := by have := hx.1.len; omega
    obtain ⟨s0, s1⟩ := ((hx.1.hd k r hr).2.2).1
    obtain ⟨hp1, hp2, hp3⟩ := hx.1.place (by omega) hr
    have hga : Ar.gvA S.X r.h = Ar.gv S.X k := by
      unfold Ar.gvA
      rw [if_pos hp1, hp2, Int.toNat_natCast]
    have HAT := Lib.hid (at_yes h1 hx.1 hr)
    have HBD : Hid (∀ w', Own (TBl p g n pb pa keep :: RWs g n S.rows :: Bkt pb bits n S.R :: Ar.Arena pa S.X :: l) w' → Calls Try.prog 59 #[.pointer (some ⟨pb, 0, none⟩), .int .u64 r.f.s] w' fun e w2 => (∃ v, e = .returned v) ∧ Own (TBl p g n pb pa keep :: RWs g n S.rows :: Bkt pb bits n (del S.R (r.f.s, 0)) :: Ar.Arena pa S.X :: l) w2) := Lib.hid fun w' h' => (Bk.own_drop h'.third r.f.s s0 s1).mono fun e w2 ⟨he, h2⟩ => ⟨⟨_, he⟩, h2.back3⟩
    have HGV : Hid (∀ w', Own (TBl p g n pb pa keep :: RWs g n S.rows :: Bkt pb bits n (del S.R (r.f.s, 0)) :: Ar.Arena pa S.X :: l) w' → Calls Try.prog 60 #[.pointer (some ⟨pa, 0, none⟩), .int .u64 (r.h : Int)] w' fun e w2 => (∃ v, e = .returned v) ∧ Own (TBl p g n pb pa keep :: RWs g n S.rows :: Bkt pb bits n (del S.R (r.f.s, 0)) :: Ar.Arena pa (Ar.gv S.X k) :: l) w2) := Lib.hid fun w' h' => (Ar.own_give h'.fourth hx.1.ok (by omega) r.h hp3).mono fun e w2 ⟨he, h2⟩ => ⟨⟨_, he⟩, by rw [hga] at h2; exact h2.back4⟩
    have HWR : Hid (∀ w', Own (TBl p g n pb pa keep :: RWs g n S.rows :: Bkt pb bits n (del S.R (r.f.s, 0)) :: Ar.Arena pa (Ar.gv S.X k) :: l) w' → ∃ v1 v2 v3 v4 v5 v6 v7 v8 v9, Wr w' ⟨g, k * 9, none⟩ (.int .u64 0) v1 ∧ Wr v1 ⟨g, k * 9 + 1, none⟩ (.int .u64 0) v2 ∧ Wr v2 ⟨g, k * 9 + 2, none⟩ (.int .u64 0) v3 ∧ Wr v3 ⟨g, k * 9 + 3, none⟩ (.int .i64 0) v4 ∧ Wr v4 ⟨g, k * 9 + 4, none⟩ (.int .u64 0) v5 ∧ Wr v5 ⟨g, k * 9 + 5, none⟩ (.int .u64 0) v6 ∧ Wr v6 ⟨g, k * 9 + 6, none⟩ (.int .u64 0) v7 ∧ Wr v7 ⟨g, k * 9 + 7, none⟩ (.int .u64 0) v8 ∧ Wr v8 ⟨g, k * 9 + 8, none⟩ (.bool false) v9 ∧ Own (Tbl p n bits (N + 1) keep (dropF S (k : Int)) :: l) v9) := Lib.hid fun w' h' => by
      obtain ⟨v1, v2, v3, v4, v5, v6, v7, v8, v9, q1, q2, q3, q4, q5, q6, q7, q8, q9, h9⟩ := nine_wr h'.swap hx.1.len hkn none _ _ _ _ _ _ _ _ _ rfl
      exact ⟨v1, v2, v3, v4, v5, v6, v7, v8, v9, q1, q2, q3, q4, q5, q6, q7, q8, q9, tb_shut (g := g) (pb := pb) (pa := pa) ⟨hok, hx.2⟩ (by rw [ed]; exact h9.swap)⟩
    have HC : Hid (∀ (R : List En) (X : Ar.A) (w' : World), Own (TBl p g n pb pa keep :: RWs g n S.rows :: Bkt pb bits n R :: Ar.Arena pa X :: l) w' → w'.cell? ⟨p, 1, none⟩ = some (.pointer (some ⟨pb, 0, none⟩)) ∧ w'.cell? ⟨p, 2, none⟩ = some (.pointer (some ⟨pa, 0, none⟩)) ∧ w'.cell? ⟨g, k * 9, none⟩ = some (.int .u64 r.f.s) ∧ w'.cell? ⟨g, k * 9 + 7, none⟩ = some (.int .u64 (r.h : Int))) := Lib.hid fun R X w' h' => by
      obtain ⟨-, c1, c2, -, -⟩ := tb_cells h' (.head _)
      have := nine_of h'.swap.row hr
      exact ⟨c1, c2, this.c0, this.c7⟩
    obtain ⟨c1, c2, y0, y7⟩ := HC.out _ _ _ h1
    have hd1 := h1.step (Ext.refl w).drew
    clear h hx hok ha ed hN hga hp1 hp2 hp3 s0 s1 hkn hrk
    go_enter Try.func17, Try.ntmps17
    go_wp2_with fail
    (with_reducible refine (HAT.out).mono ?_)
    rintro e w2 ⟨rfl, rfl⟩
    clear HAT
    go_wp2_with fail
    go_region_held3 (fun w' => w'.cell? ⟨p, 1, none⟩ = some (.pointer (some ⟨pb, 0, none⟩)) ∧ w'.cell? ⟨g, k * 9, none⟩ = some (.int .u64 r.f.s))
      (first | exact ⟨(Ext.refl _).drew.cell c1, (Ext.refl _).drew.cell y0⟩ | exact ⟨d1, z0⟩)
      ((go_at_call 59; (with_reducible refine (HBD.out _ hd1).mono ?_); rintro e w3 ⟨⟨v3, rfl⟩, h3⟩; obtain ⟨d1, d2, z0, z7⟩ := HC.out _ _ _ h3))
    clear hd1 c1 c2 y0 y7
    have hd3 := h3.step (Ext.refl _).drew
    go_wp2_with fail
    go_region_held3 (fun w' => w'.cell? ⟨p, 2, none⟩ = some (.pointer (some ⟨pa, 0, none⟩)) ∧ w'.cell? ⟨g, k * 9 + 7, none⟩ = some (.int .u64 (r.h : Int)))
      (first | exact ⟨(Ext.refl _).drew.cell d2, (Ext.refl _).drew.cell z7⟩ | exact ⟨b2, x7⟩)
      ((go_at_call 60; (with_reducible refine (HGV.out _ hd3).mono ?_); rintro e w4 ⟨⟨v4, rfl⟩, h4⟩; obtain ⟨b1, b2, x0, x7⟩ := HC.out _ _ _ h4))
    obtain ⟨v1, v2, v3, v4, v5, v6, v7, v8, v9, ⟨e1, ⟨x1, z1⟩, f1⟩, ⟨e2, ⟨x2, z2⟩, f2⟩, ⟨e3, ⟨x3, z3⟩, f3⟩, ⟨e4, ⟨x4, z4⟩, f4⟩, ⟨e5, ⟨x5, z5⟩, f5⟩, ⟨e6, ⟨x6, z6⟩, f6⟩, ⟨e7, ⟨x7, z7⟩, f7⟩, ⟨e8, ⟨x8, z8⟩, f8⟩, ⟨e9, ⟨x9, z9⟩, f9⟩, h9⟩ := HWR.out _ h4
    have H9 := Lib.hid h9
    clear h1 h3 hd3 h4 h9 d1 d2 z0 b1 b2 x0
    go_wp2_with fail
    go_ret
    exact ⟨rfl, H9.out⟩
end
end Go.Proofs.Ytkdmlpigkmlkmaa.Tb
--  DERIVED. Layer 14 (table): collect. 
set_option linter.unusedVariables false
set_option linter.unusedSimpArgs false
set_option maxRecDepth 100000
namespace Go.Proofs.Ytkdmlpigkmlkmaa.Tb
open Go.RowKit Go.Proofs.Ytkdmlpigkmlkmaa Go.Proofs.Ytkdmlpigkmlkmaa.TreeP Go.Proofs.Ytkdmlpigkmlkmaa.Tr Go.Proofs.Ytkdmlpigkmlkmaa.Bk

theorem tb_mono {p n bits N M : Nat} {keep : Int} {S : T} {l : List HP} {w : World} (h : Own (Tbl p n bits N keep S :: l) w) (hM : N ≤ M) : Own (Tbl p n bits M keep S :: l) w := by
  obtain ⟨g, pb, pa, hx, h1⟩ := tb_open h
  exact tb_shut ⟨hx.1.mono hM, hx.2⟩ h1
abbrev RE (v : Value) (E : List En) : HP := Row 132 3 v E.length (Tr.ents E)
/-- the loop of 'collect' -/
def CoI (p n bits N : Nat) (keep now sock : Int) (Sf : T) (L0 : List En) (v : Value) (l : List HP) (s6 s22 : Value) (wr : World) : Prop :=
  ∃ (i m : Nat) (S : T), s22 = .int .i64 (i : Int) ∧ s6 = .int .i64 (m : Int) ∧ m ≤ 8 ∧ i ≤ L0.length ∧ coll keep now sock (L0.drop i) m S = Sf ∧ (∀ e ∈ L0.drop i, e ∈ S.R) ∧ Own (RE v L0 :: Tbl p n bits (N + m) keep S :: l) wr
theorem drop_at {α : Type _} {E : List α} {j : Nat} {e : α} (h : E[j]? = some e) : E.drop j = e :: E.drop (j + 1) := by
  obtain ⟨h1, rfl⟩ := List.getElem?_eq_some_iff.1 h
  exact List.drop_eq_getElem_cons h1
theorem own_slice {e size n : Nat} {v : Value} {xs : List Value} {w : World} (h : w.ownsRow 0 e size v n xs) : ∃ a c, v = .slice a n c := (ownsR_of h).slice
set_option maxHeartbeats 4000000 in
theorem own_collect {p n bits N : Nat} {keep : Int} {S : T} {l : List HP} {w : World} (h : Own (Tbl p n bits N keep S :: l) w) (hN : N ≤ 50000) (sock now : Int) (s0 : 0 ≤ sock) (s1 : sock < 18446744073709551616) :
    Calls Try.prog 49 #[.pointer (some ⟨p, 0, none⟩), .int .u64 sock, .int .u64 now] w fun e w' => e = .returned (.tuple #[]) ∧ Own (Tbl p n bits (N + 8) keep (collT bits keep now sock S) :: l) w' := by
  obtain ⟨g, pb, pa, hx, h1⟩ := tb_open h
  obtain ⟨L0, hL0⟩ : ∃ L0, L0 = bkOf bits S sock := ⟨_, rfl⟩
  obtain ⟨Sf, hSf⟩ : ∃ Sf, Sf = collT bits keep now sock S := ⟨_, rfl⟩
  have hbr := bk_rise (bits := bits) hx.1 sock
  rw [← hL0] at hbr
  have hlen : L0.length ≤ 4096 := by
    have h2 : L0.length ≤ S.R.length := by rw [hL0]; exact in_len _
    have := hx.1.rk.len
    have := hx.1.n2
    omega
  obtain ⟨-, c1, -, -, -⟩ := tb_cells h1 (.head _)
  have HOF : Hid (∀ w', Own (TBl p g n pb pa keep :: RWs g n S.rows :: Bkt pb bits n S.R :: Ar.Arena pa S.X :: l) w' → Calls Try.prog 75 #[.pointer (some ⟨pb, 0, none⟩), .int .u64 sock] w' fun e w2 => e = .returned (.int .i64 ((β bits sock : Nat) : Int)) ∧ Own (TBl p g n pb pa keep :: RWs g n S.rows :: Bkt pb bits n S.R :: Ar.Arena pa S.X :: l) w2) := Lib.hid fun w' h' => (Bk.own_of h'.third sock s0 s1).mono fun e w2 ⟨he, hx2⟩ => ⟨he, h'.step hx2⟩
  have HIN : Hid (∀ w', Own (TBl p g n pb pa keep :: RWs g n S.rows :: Bkt pb bits n S.R :: Ar.Arena pa S.X :: l) w' → Calls Try.prog 74 #[.pointer (some ⟨pb, 0, none⟩), .int .i64 ((β bits sock : Nat) : Int)] w' fun e w2 => ∃ a c, e = .returned (.slice a L0.length c) ∧ w2.cell? ⟨p, 1, none⟩ = some (.pointer (some ⟨pb, 0, none⟩)) ∧ Own (RE (.slice a L0.length c) L0 :: Tbl p n bits N keep S :: l) w2) := Lib.hid fun w' h' => (Bk.own_in h'.third (β bits sock) (β_lt bits sock hx.2.1)).mono fun e w2 ⟨v, he, h2⟩ => by
    have e2 : inB (β bits) S.R (β bits sock) = L0 := hL0.symm
    rw [e2] at h2
    obtain ⟨a, c, rfl⟩ := own_slice h2.row
    have h3 : Own (RE (.slice a L0.length c) L0 :: TBl p g n pb pa keep :: RWs g n S.rows :: Bkt pb bits n S.R :: Ar.Arena pa S.X :: l) w2 := h2.tail OwnIn.back3
    exact ⟨a, c, he, (tb_cells h3 (.tail _ (.head _))).2.1, h3.tail fun h => OwnIn.packIn (g, pb, pa) hx h⟩
  have HC : Hid (∀ w', Own (TBl p g n pb pa keep :: RWs g n S.rows :: Bkt pb bits n S.R :: Ar.Arena pa S.X :: l) w' → w'.cell? ⟨p, 1, none⟩ = some (.pointer (some ⟨pb, 0, none⟩))) := Lib.hid fun w' h' => (tb_cells h' (.head _)).2.1
  have hg := h1.step (Ext.refl w).drew
  have HSF : Hid (coll keep now sock L0 0 S = Sf) := Lib.hid (by rw [hSf, hL0]; rfl)
  have HBR := Lib.hid hbr
  obtain ⟨m0, hm0⟩ : ∃ m0, m0 = L0.length := ⟨_, rfl⟩
  rw [← hm0] at HIN hlen
  have HM0 := Lib.hid hm0
  rw [← hSf]
  clear h h1 hx hL0 hSf hbr hm0
  go_enter Try.func49, Try.ntmps49
  go_wp2_with fail
  go_region_held3 (fun w' => w'.cell? ⟨p, 1, none⟩ = some (.pointer (some ⟨pb, 0, none⟩)))
    (first | exact (Ext.refl _).drew.cell c1 | exact HC.out _ (by assumption) | assumption)
    (first
      | (go_at_call 75; (with_reducible refine (HOF.out _ (by assumption)).mono ?_); rintro e w2 ⟨rfl, hz⟩)
      | (go_at_call 74; (with_reducible refine (HIN.out _ (by assumption)).mono ?_); rintro e w3 ⟨a0, c0, rfl, hc3, h3⟩))
  have H3 := Lib.hid h3
  clear h3 hc3 hz hg c1 HOF HIN HC
  go_wp2_with fail
  go_loopw [6, 22] (fun s6 s22 wr => CoI p n bits N keep now sock Sf L0 (.slice a0 m0 c0) l s6 s22 wr) (fun _ s22 _ => m0 - (intOf s22).toNat)
  case atStart => exact ⟨0, 0, S, rfl, rfl, by omega, Nat.zero_le _, HSF.out, HBR.out.2, H3.out⟩
  case round =>
    clear H3
    obtain ⟨i, m, S', rfl, rfl, hm, hi, hcoll, hmem, h⟩ := hrel
    rw [← HM0.out] at hi
    by_cases hlt : i < m0
    · have hltI : (i : Int) < (m0 : Int) := by omega
      obtain ⟨e, he⟩ : ∃ e, L0[i]? = some e := ⟨_, List.getElem?_eq_getElem (by rw [← HM0.out]; exact hlt)⟩
      rw [drop_at he] at hcoll hmem
      have hrow := ownsR_of h.row
      rw [← HM0.out] at hrow
      obtain ⟨g2, cap, ev, -, -⟩ := hrow.form (by omega)
      injection ev with e1 _ e3
      subst e1 e3
      obtain ⟨q0, q1, q2⟩ := rowEnt hrow he
      obtain ⟨hti, -⟩ := own_ti h.swap
      obtain ⟨k, r, hr, hek⟩ := hti.row_of (hmem e (.head _))
      subst hek
      simp only at q0 q1 q2
      have h4 := Go.Proofs.Ytkdmlpigkmlkmaa.Own.blkNew h #[.int .u64 r.f.s, .int .u64 0, .int .i64 (k : Int)] 132
      obtain ⟨b8, hb8⟩ : ∃ b, b = wr.heap.size := ⟨_, rfl⟩
      rw [← hb8] at h4
      have hbb := Go.Proofs.Ytkdmlpigkmlkmaa.Own.blk h4 (.head _)
      have z0 : (wr.alloc (.cells #[.int .u64 r.f.s, .int .u64 0, .int .i64 (k : Int)] 132)).cell? ⟨b8, 0, none⟩ = some (.int .u64 r.f.s) := by simp [World.cell?, hbb]
      have z2 : (wr.alloc (.cells #[.int .u64 r.f.s, .int .u64 0, .int .i64 (k : Int)] 132)).cell? ⟨b8, 2, none⟩ = some (.int .i64 (k : Int)) := by simp [World.cell?, hbb]
      obtain ⟨g, pb', pa', hx, h5⟩ := tb_open h4.third
      have hat := at_yes h5 hx.1 hr
      obtain ⟨-, -, -, d3, -⟩ := tb_cells h5 (.head _)
      obtain ⟨-, -, -, -, -, -, y6, -, y8⟩ := nine_of h5.swap.row hr
      obtain ⟨-, -, hinf⟩ := hx.1.hd k r hr
      obtain ⟨W1, hW1⟩ : ∃ W1, W1 = wr.alloc (.cells #[.int .u64 r.f.s, .int .u64 0, .int .i64 (k : Int)] 132) := ⟨_, rfl⟩
      rw [← hW1] at hat
      have HAT := Lib.hid hat
      have HW1 := Lib.hid hW1
      have HB8 := Lib.hid hb8
      have H6 : Hid (Own (Tbl p n bits (N + m) keep S' :: RE (.slice (some ⟨g2, 0, none⟩) m0 c0) L0 :: l) W1) := Lib.hid (by rw [hW1]; exact h4.drop.swap)
      obtain ⟨sv, hsv⟩ : ∃ sv, sv = Hz.sat r.f.ag keep := ⟨_, rfl⟩
      have HSAT : Hid (∀ w', Calls Try.prog 24 #[.int .u64 r.f.ag, .int .u64 keep] w' fun e w2 => e = .returned (.int .u64 sv) ∧ w' = w2) := Lib.hid fun w' => by rw [hsv]; exact Hz.sat_add r.f.ag keep w' hinf.2.1 (by have := hinf.2.2; omega) hx.2.2.1 hx.2.2.2
      have HGO : Hid (goes keep now sock S' ((r.f.s, 0), (k : Int)) = (decide (r.f.s ≠ sock) && (r.q && decide (sv < now)))) := Lib.hid (by
        unfold goes oldR
        simp only [Int.toNat_natCast, hr, Option.map_some, Option.getD_some]
        rw [hsv])
      have HCO := Lib.hid hcoll
      have HME := Lib.hid hmem
      have HHD : Hid (rowAt S'.rows k = some r ∧ RisingE (((r.f.s, 0), (k : Int)) :: L0.drop (i + 1)) ∧ TI n (N + m) S') := Lib.hid ⟨hr, by
        rw [← drop_at he]
        unfold RisingE
        exact List.Pairwise.sublist (List.drop_sublist _ _) HBR.out.1, hx.1⟩
      clear h h4 h5 hx hr he hat hcoll hmem hrow hti hinf hbb hW1 hb8 hsv
      go_wp2_with fail
      rw [← HB8.out, ← HW1.out]
      rw [← HW1.out] at z0 z2 d3 y6 y8
      clear HB8 HW1
      (with_reducible refine (HAT.out).mono ?_)
      rintro e w2 ⟨rfl, rfl⟩
      clear HAT q0 q1 q2
      by_cases hm8 : m = 8
      · subst hm8
        have hS : S' = Sf := by
          have := HCO.out
          unfold coll at this
          rw [if_pos rfl] at this
          exact this
        subst hS
        have HF := Lib.hid (tb_mono (M := N + 8) (H6.out.swap.drop) (by omega))
        go_wp2_with fail
        exact bodyPost_ret (v := .tuple #[]) (by simp [results, Try.results49, go_sem]) rfl ⟨rfl, HF.out⟩
      · have mm : ((m : Int) == 8) = false := by rw [beq_eq_false_iff_ne]; omega
        have hm7 : m ≤ 7 := by omega
        obtain ⟨Gv, hGv⟩ : ∃ Gv, Gv = (decide (r.f.s ≠ sock) && (r.q && decide (sv < now))) := ⟨_, rfl⟩
        have HGV := Lib.hid hGv
        clear hGv hm8
        go_upto_region 6 with fail
        go_cut [56] (fun s56 wx => s56 = .bool Gv ∧ ∃ q, wx = W1.drewN q)
        case first =>
          by_cases t1 : r.f.s = sock
          · have sne : (r.f.s != sock) = false := by simp [t1]
            have hG : Gv = false := by rw [HGV.out]; simp [t1]
            subst hG
            clear t1
            go_quiet (fail)
            go_wp2_with fail
            go_meet
            exact ⟨rfl, _, rfl⟩
          · have sne : (r.f.s != sock) = true := by simp [t1]
            have hG : Gv = (r.q && decide (sv < now)) := by rw [HGV.out]; simp [t1]
            clear t1
            obtain ⟨rq, hrq⟩ : ∃ rq, rq = r.q := ⟨_, rfl⟩
            rw [← hrq] at y8 hG
            cases rq with
            | false =>
              obtain rfl : Gv = false := by rw [hG]; rfl
              clear hrq hG
              go_quiet (fail)
              go_wp2_with fail
              go_meet
              exact ⟨rfl, _, rfl⟩
            | true =>
              have hG2 : Gv = decide (sv < now) := by rw [hG]; rfl
              subst hG2
              clear hrq hG
              go_quiet ((go_at_call 24; exact Calls.quiet_of_same ((HSAT.out _).mono (fun _ _ h => ⟨h.1, h.2.symm⟩))))
              go_wp2_with fail
              go_meet
              exact ⟨rfl, _, rfl⟩
        case rest =>
          obtain ⟨rfl, q, rfl⟩ := hcut
          obtain ⟨hr, hris, hti⟩ := HHD.out
          have hgo := HGO.out
          rw [← HGV.out] at hgo
          have hco := HCO.out
          unfold coll at hco
          rw [if_neg (by omega), hgo] at hco
          cases Gv with
          | false =>
            rw [if_neg (by simp)] at hco
            have HP : Hid (CoI p n bits N keep now sock Sf L0 (.slice (some ⟨g2, 0, none⟩) m0 c0) l (.int .i64 (m : Int)) (.int .i64 ((i : Int) + 1)) (W1.drewN q)) := Lib.hid ⟨i + 1, m, S', by go_num, rfl, hm, by rw [← HM0.out]; omega, hco, fun x hx => HME.out x (.tail _ hx), (H6.out.step ((Ext.refl W1).drewN q)).swap⟩
            clear hr hris hti hgo hco z0 z2 d3 y6 y8
            go_wp2_with fail
            exact ⟨HP.out, by simp [intOf]; omega⟩
          | true =>
            rw [if_pos rfl] at hco
            simp only [Int.toNat_natCast] at hco
            have hdr := own_drop (H6.out.step ((Ext.refl W1).drewN q)) (by omega) (k : Int)
            rw [atF_nat, hr, show dropF S' (k : Int) = dropT S' k by unfold dropF; rw [if_pos (by omega), Int.toNat_natCast]] at hdr
            have HDR := Lib.hid hdr
            unfold RisingE at hris
            rw [List.pairwise_cons] at hris
            have hin : ∀ x ∈ L0.drop (i + 1), x ∈ (dropT S' k).R := fun x hx => mem_drop hti hr (HME.out x (.tail _ hx)) (fun e2 => by
              have := hris.1 x hx
              rw [e2] at this
              exact lt_irrefl _ this)
            have HIN := Lib.hid hin
            have HCO2 := Lib.hid hco
            have z2' : (W1.drewN q).cell? ⟨b8, 2, none⟩ = some (.int .i64 (k : Int)) := ((Ext.refl W1).drewN q).cell z2
            clear hr hris hti hgo hco z0 z2 d3 y6 y8 hdr hin
            go_wp2_with fail
            (with_reducible refine (HDR.out).mono ?_)
            rintro e w5 ⟨rfl, h7⟩
            have HP : Hid (CoI p n bits N keep now sock Sf L0 (.slice (some ⟨g2, 0, none⟩) m0 c0) l (.int .i64 ((m : Int) + 1)) (.int .i64 ((i : Int) + 1)) w5) := Lib.hid ⟨i + 1, m + 1, dropT S' k, by go_num, by go_num, by omega, by rw [← HM0.out]; omega, HCO2.out, HIN.out, h7.swap⟩
            clear h7 HDR
            go_wp2_with fail
            exact ⟨HP.out, by simp [intOf]; omega⟩
    · obtain rfl : i = m0 := by omega
      have hS : S' = Sf := by
        rw [List.drop_eq_nil_of_le (by rw [← HM0.out]; exact Nat.le_refl _)] at hcoll
        exact hcoll
      subst hS
      have HF := Lib.hid (tb_mono (M := N + 8) h.drop (by omega))
      clear h hlt hi hcoll hmem
      go_wp2_with fail
      go_end0
      exact ⟨rfl, HF.out⟩
end Go.Proofs.Ytkdmlpigkmlkmaa.Tb
--  DERIVED. Layer 14 (table): Find. 
set_option linter.unusedVariables false
set_option linter.unusedSimpArgs false
set_option maxRecDepth 100000
namespace Go.Proofs.Ytkdmlpigkmlkmaa.Tb
open Go.RowKit Go.Proofs.Ytkdmlpigkmlkmaa Go.Proofs.Ytkdmlpigkmlkmaa.TreeP Go.Proofs.Ytkdmlpigkmlkmaa.Tr Go.Proofs.Ytkdmlpigkmlkmaa.Bk

abbrev BPc (b : Nat) (qu fi rf mo lo : Int) : HP := Go.Proofs.Ytkdmlpigkmlkmaa.Blk b #[.int .i64 qu, .int .i64 fi, .int .u64 rf, .int .u64 mo, .int .u64 lo] 30
theorem bpc_cells {b : Nat} {qu fi rf mo lo : Int} {l : List HP} {w : World} (h : Own l w) (hm : BPc b qu fi rf mo lo ∈ l) :
    w.cell? ⟨b, 0, none⟩ = some (.int .i64 qu) ∧ w.cell? ⟨b, 1, none⟩ = some (.int .i64 fi) ∧ w.cell? ⟨b, 2, none⟩ = some (.int .u64 rf) ∧ w.cell? ⟨b, 3, none⟩ = some (.int .u64 mo) ∧ w.cell? ⟨b, 4, none⟩ = some (.int .u64 lo) := by
  have := Go.Proofs.Ytkdmlpigkmlkmaa.Own.blk h hm
  simp [World.cell?, this]
theorem bf_set {b : Nat} {F : FD} {l : List HP} {w : World} (h : Own (BF b F :: l) w) (a : Int) : ∃ v, Wr w ⟨b, 6, none⟩ (.int .u64 a) v ∧ Own (BF b { F with ag := a } :: l) v := by
  have hb := Go.Proofs.Ytkdmlpigkmlkmaa.Own.blk h (.head _)
  exact ⟨_, ⟨rfl, ⟨_, by simp [World.cell?, hb]; rfl⟩, by simp [World.frozen?, hb]⟩, Go.Proofs.Ytkdmlpigkmlkmaa.Own.blkSet (o := 6) h (.int .u64 a)⟩
set_option maxHeartbeats 4000000 in
theorem own_find {p n bits N : Nat} {keep : Int} {S : T} {l : List HP} {w : World} (h : Own (Tbl p n bits N keep S :: l) w) (hN : N ≤ 40000) (sock cookie now qu fi rf mo lo : Int) (s0 : 0 ≤ sock) (s1 : sock < 18446744073709551616) :
    Calls Try.prog 13 #[.pointer (some ⟨p, 0, none⟩), .int .u64 sock, .int .u64 cookie, .int .u64 now, .agg #[.int .i64 qu, .int .i64 fi, .int .u64 rf, .int .u64 mo, .int .u64 lo]] w fun e w' =>
      e = .returned (.tuple #[.int .i64 (findT n bits keep sock cookie now fi S).f, .int .u8 (findT n bits keep sock cookie now fi S).kind, .int .i64 (findT n bits keep sock cookie now fi S).err]) ∧ Own (Tbl p n bits (N + 9) keep (findT n bits keep sock cookie now fi S).S :: l) w' := by
  have h1 := (Go.Proofs.Ytkdmlpigkmlkmaa.Own.blkNew h #[.int .i64 qu, .int .i64 fi, .int .u64 rf, .int .u64 mo, .int .u64 lo] 30).swap
  obtain ⟨b9, hb9⟩ : ∃ b, b = w.heap.size := ⟨_, rfl⟩
  rw [← hb9] at h1
  have HNN := Lib.hid (own_none h1)
  have HCL := Lib.hid (own_collect h1 (by omega) sock now s0 s1)
  obtain ⟨S1, hS1⟩ : ∃ S1, S1 = collT bits keep now sock S := ⟨_, rfl⟩
  rw [← hS1] at HCL
  have hF : findT n bits keep sock cookie now fi S = foundT n sock cookie fi S1 := by unfold findT; rw [hS1]
  rw [hF]
  obtain ⟨FF, hFF⟩ : ∃ FF, FF = foundT n sock cookie fi S1 := ⟨_, rfl⟩
  rw [← hFF]
  have HFF := Lib.hid hFF
  clear hFF
  have HB9 := Lib.hid hb9
  clear h h1 hS1 hF hb9
  go_enter Try.func13, Try.ntmps13
  go_wp2_with fail
  (with_reducible refine (HNN.out).mono ?_)
  rintro e w1 ⟨rfl, rfl⟩
  clear HNN
  go_wp2_with fail
  (with_reducible refine (HCL.out).mono ?_)
  rintro e w2 ⟨rfl, h2⟩
  rw [← HB9.out]
  clear HCL HB9
  obtain ⟨p0, p1, p2, p3, p4⟩ := bpc_cells (b := b9) h2 (.tail _ (.head _))
  have HBO : Hid (∀ w', Calls Try.prog 22 #[.int .u64 sock, .int .u64 cookie, .agg #[.int .i64 qu, .int .i64 fi, .int .u64 rf, .int .u64 mo, .int .u64 lo]] w' fun e w2 => e = .returned (fagg (bornF sock cookie fi)) ∧ Ext w' w2) := Lib.hid fun w' => born_any sock cookie qu fi rf mo lo w'
  have H2 := Lib.hid h2
  clear h2
  go_wp2_with fail
  (with_reducible refine (HBO.out _).mono ?_)
  rintro e w3 ⟨rfl, hx3⟩
  have h3 := Go.Proofs.Ytkdmlpigkmlkmaa.Own.blkNew (H2.out.step hx3) (f7 (bornF sock cookie fi)) 41
  obtain ⟨b13, hb13⟩ : ∃ b, b = w3.heap.size := ⟨_, rfl⟩
  rw [← hb13] at h3
  obtain ⟨g, pb, pa, hx, h4⟩ := tb_open h3.swap
  obtain ⟨c0, c1, c2, -, -⟩ := tb_cells h4 (.head _)
  have hget := (Bk.own_get h4.third sock s0 s1).mono (fun e w2 ⟨he, h2⟩ => (⟨he, h2.back3⟩ : e = Ending.returned (.tuple #[.int .i64 ((Tr.look S1.R (sock, 0)).getD 0), .bool (Tr.look S1.R (sock, 0)).isSome]) ∧ Own (TBl p g n pb pa keep :: RWs g n S1.rows :: Bkt pb bits n S1.R :: Ar.Arena pa S1.X :: BF b13 (bornF sock cookie fi) :: BPc b9 qu fi rf mo lo :: l) w2))
  obtain ⟨W3, hW3⟩ : ∃ W3, W3 = w3.alloc (.cells (f7 (bornF sock cookie fi)) 41) := ⟨_, rfl⟩
  rw [← hW3] at hget
  have HG := Lib.hid hget
  have HX := Lib.hid hx
  have HW3 := Lib.hid hW3
  have HB13 := Lib.hid hb13
  clear hx hx3 h3 hget hb13 H2 p0 p1 p2 p3 p4 h4 hW3
  go_wp2_with fail
  rw [← HB13.out, ← HW3.out]
  have hok := found_ok (sock := sock) (cookie := cookie) (fi := fi) HX.out.1 s0 s1
  cases hl : Tr.look S1.R (sock, 0) with
  | some v =>
    obtain ⟨k, r, hr, rfl, hs⟩ := (HX.out.1.look sock v).1 hl
    have hg := HG.out
    rw [hl] at hg
    have HG1 : Hid (Calls Try.prog 50 #[.pointer (some ⟨pb, 0, none⟩), .int .u64 sock] W3 fun e w2 => e = .returned (.tuple #[.int .i64 (k : Int), .bool true]) ∧ Own (TBl p g n pb pa keep :: RWs g n S1.rows :: Bkt pb bits n S1.R :: Ar.Arena pa S1.X :: BF b13 (bornF sock cookie fi) :: BPc b9 qu fi rf mo lo :: l) w2) := Lib.hid hg
    clear hg HG c0 c1 c2 HB13 HW3
    (with_reducible refine (HG1.out).mono ?_)
    rintro e w5 ⟨rfl, h5⟩
    clear HG1
    have HAT := Lib.hid (at_yes h5 HX.out.1 hr)
    have ninth := nine_of h5.swap.row hr
    obtain ⟨-, y1, -, -, -, -, y6, -, -⟩ := id ninth
    have H5 := Lib.hid h5
    by_cases hc : r.f.c = cookie
    · have hFv : foundT n sock cookie fi S1 = ⟨S1, (k : Int), 0, 0⟩ := by
        unfold foundT
        rw [hl]
        simp only [Int.toNat_natCast]
        rw [hr]
        simp only
        rw [if_pos hc]
      have hFe := HFF.out.trans hFv
      clear HFF
      subst hFe
      have cc : (r.f.c == cookie) = true := by simp [hc]
      have HF : Hid (Own (Tbl p n bits (N + 9) keep S1 :: l) w5) := Lib.hid ((tb_shut (N := N + 9) (g := g) (pb := pb) (pa := pa) ⟨HX.out.1.mono (by omega), HX.out.2⟩ h5).swap.drop.swap.drop)
      clear h5 ninth hr hl hok hFv hc H5 y6
      go_wp2_with (go_at_call 51; (with_reducible refine (HAT.out).mono ?_); rintro e w6 ⟨rfl, rfl⟩)
      go_ret3
      exact ⟨rfl, HF.out⟩
    · obtain ⟨F2, hF2⟩ : ∃ F2, F2 = { bornF sock cookie fi with ag := r.f.ag } := ⟨_, rfl⟩
      have hFv : foundT n sock cookie fi S1 = ⟨setT S1 k ⟨F2, r.h, r.q⟩, (k : Int), 2, 0⟩ := by
        unfold foundT
        rw [hl]
        simp only [Int.toNat_natCast]
        rw [hr]
        simp only
        rw [if_neg hc, hF2]
      rw [hFv] at hok
      have hFe := HFF.out.trans hFv
      clear HFF
      subst hFe
      have cc : (r.f.c == cookie) = false := by simp [hc]
      obtain ⟨v0, ⟨e0, ⟨x0, z0⟩, f0⟩, h6⟩ := bf_set h5.fifth r.f.ag
      rw [← hF2] at h6
      have h7 := h6.back5
      obtain ⟨b0, b1, b2, b3, b4, b5, b6⟩ := bf_cells (b := b13) (F := F2) h7 (by simp)
      obtain ⟨v1, v2, v3, v4, v5, v6, v7, ⟨e1, ⟨x1, z1⟩, f1⟩, ⟨e2, ⟨x2, z2⟩, f2⟩, ⟨e3, ⟨x3, z3⟩, f3⟩, ⟨e4, ⟨x4, z4⟩, f4⟩, ⟨e5, ⟨x5, z5⟩, f5⟩, ⟨e6, ⟨x6, z6⟩, f6⟩, ⟨e7, ⟨x7, z7⟩, f7⟩, h8⟩ := flow_wr h7.swap HX.out.1.len hr F2
      have HF : Hid (Own (Tbl p n bits (N + 9) keep (setT S1 k ⟨F2, r.h, r.q⟩) :: l) v7) := Lib.hid ((tb_shut (S := setT S1 k ⟨F2, r.h, r.q⟩) (N := N + 9) (g := g) (pb := pb) (pa := pa) ⟨hok, HX.out.2⟩ h8.swap).swap.drop.swap.drop)
      clear h5 h6 h7 h8 ninth hr hl hok hFv hc H5 hF2
      go_wp2_with (go_at_call 51; (with_reducible refine (HAT.out).mono ?_); rintro e w6 ⟨rfl, rfl⟩)
      go_ret3
      exact ⟨rfl, HF.out⟩
  | none =>
    have hg := HG.out
    rw [hl] at hg
    have HG1 : Hid (Calls Try.prog 50 #[.pointer (some ⟨pb, 0, none⟩), .int .u64 sock] W3 fun e w2 => e = .returned (.tuple #[.int .i64 0, .bool false]) ∧ Own (TBl p g n pb pa keep :: RWs g n S1.rows :: Bkt pb bits n S1.R :: Ar.Arena pa S1.X :: BF b13 (bornF sock cookie fi) :: BPc b9 qu fi rf mo lo :: l) w2) := Lib.hid hg
    clear hg HG c0 c1 c2 HB13 HW3
    (with_reducible refine (HG1.out).mono ?_)
    rintro e w5 ⟨rfl, h5⟩
    clear HG1
    obtain ⟨c0, c1, c2, -, -⟩ := tb_cells h5 (.head _)
    have htk := Ar.own_take h5.fourth HX.out.1.ok (by omega)
    by_cases hu : S1.X.used = n
    · have hur : S1.X.used = S1.X.room := by rw [hu, HX.out.1.room]
      have hFv : foundT n sock cookie fi S1 = ⟨S1, 0, 0, 140⟩ := by
        unfold foundT
        rw [hl]
        simp only
        rw [if_pos hu]
      have hFe := HFF.out.trans hFv
      clear HFF
      subst hFe
      unfold Ar.tkH Ar.tkE Ar.tkA at htk
      rw [if_pos hur, if_pos hur, if_pos hur] at htk
      have HT : Hid (Calls Try.prog 52 #[.pointer (some ⟨pa, 0, none⟩)] w5 fun e w2 => e = .returned (.tuple #[.int .u64 0, .int .i64 4]) ∧ Own (Tbl p n bits (N + 9) keep S1 :: l) w2) := Lib.hid (htk.mono fun e w2 ⟨he, h6⟩ => ⟨he, (tb_shut (N := N + 9) (g := g) (pb := pb) (pa := pa) ⟨HX.out.1.mono (by omega), HX.out.2⟩ h6.back4).swap.drop.swap.drop⟩)
      clear h5 htk hur hu hFv hok hl
      go_wp2_with fail
      (with_reducible refine (HT.out).mono ?_)
      rintro e w6 ⟨rfl, h6⟩
      have H6 := Lib.hid h6
      clear h6 HT
      go_wp2_with fail
      go_ret3
      exact ⟨rfl, H6.out⟩
    · have hun : S1.X.used < n := by have := HX.out.1.ok.used_le; have := HX.out.1.room; omega
      have hur : ¬ S1.X.used = S1.X.room := by rw [HX.out.1.room]; exact hu
      have hFv : foundT n sock cookie fi S1 = ⟨newT S1 (bornF sock cookie fi), ((Ar.tq S1.X : Nat) : Int), 1, 0⟩ := by
        unfold foundT
        rw [hl]
        simp only
        rw [if_neg hu]
      obtain ⟨k, hk⟩ : ∃ k, k = Ar.tq S1.X := ⟨_, rfl⟩
      rw [← hk] at hFv
      rw [hFv] at hok
      have hFe := HFF.out.trans hFv
      clear HFF
      subst hFe
      unfold Ar.tkH Ar.tkE Ar.tkA at htk
      rw [if_neg hur, if_neg hur, if_neg hur] at htk
      obtain ⟨q1, q2⟩ := new_at HX.out.1 hun
      obtain ⟨hd, hhd⟩ : ∃ hd, hd = Ar.hdl (Ar.tk S1.X) (Ar.tq S1.X) := ⟨_, rfl⟩
      have hnew : newT S1 (bornF sock cookie fi) = ⟨S1.rows.set k (some ⟨bornF sock cookie fi, hd, false⟩), Ar.tk S1.X, ins S1.R (sock, 0) (k : Int)⟩ := by unfold newT; rw [hk, hhd]; rfl
      obtain ⟨pl1, pl2, pl3⟩ := TI.place hok (by omega) (k := k) (r := ⟨bornF sock cookie fi, hd, false⟩) (by rw [hnew]; simp only; rw [rowAt_set (by rw [HX.out.1.len, hk]; exact q1), if_pos rfl])
      rw [hnew] at pl1 pl2
      simp only at pl1 pl2 pl3
      have HT : Hid (Calls Try.prog 52 #[.pointer (some ⟨pa, 0, none⟩)] w5 fun e w2 => e = .returned (.tuple #[.int .u64 (hd : Int), .int .i64 0]) ∧ Own (TBl p g n pb pa keep :: RWs g n S1.rows :: Bkt pb bits n S1.R :: Ar.Arena pa (Ar.tk S1.X) :: BF b13 (bornF sock cookie fi) :: BPc b9 qu fi rf mo lo :: l) w2) := Lib.hid (htk.mono fun e w2 ⟨he, h6⟩ => ⟨by rw [he, hhd], h6.back4⟩)
      have hok2 : Ar.Ok (N + 8 + 1) (Ar.tk S1.X) := (Ar.take_spec HX.out.1.ok (by rw [HX.out.1.room]; exact hun)).2
      have HPL : Hid (∀ w', Own (TBl p g n pb pa keep :: RWs g n S1.rows :: Bkt pb bits n S1.R :: Ar.Arena pa (Ar.tk S1.X) :: BF b13 (bornF sock cookie fi) :: BPc b9 qu fi rf mo lo :: l) w' → Calls Try.prog 53 #[.pointer (some ⟨pa, 0, none⟩), .int .u64 (hd : Int)] w' fun e w2 => e = .returned (.tuple #[.int .i64 (k : Int), .bool true]) ∧ w' = w2) := Lib.hid fun w' h' => by
        have := Ar.own_place h'.fourth hok2 (by omega) hd pl3
        rw [pl1, pl2] at this
        exact this
      have hkl : k < n := by rw [hk]; exact q1
      have hlen : S1.R.length ≠ n := by rw [← HX.out.1.cnt]; exact hu
      have HPU : Hid (∀ w', Own (TBl p g n pb pa keep :: RWs g n (S1.rows.set k (some ⟨bornF sock cookie fi, hd, false⟩)) :: Bkt pb bits n S1.R :: Ar.Arena pa (Ar.tk S1.X) :: BF b13 (bornF sock cookie fi) :: BPc b9 qu fi rf mo lo :: l) w' → Calls Try.prog 54 #[.pointer (some ⟨pb, 0, none⟩), .int .u64 sock, .int .i64 (k : Int)] w' fun e w2 => e = .returned (.int .i64 0) ∧ Own (Tbl p n bits (N + 9) keep (newT S1 (bornF sock cookie fi)) :: l) w2) := Lib.hid fun w' h' => by
        have h8 := Bk.own_put h'.third sock (k : Int) s0 s1
        have e1 : Tr.putE n S1.R (sock, 0) = 0 := by unfold Tr.putE; rw [hl, if_neg (by simp), if_neg hlen]
        have e2 : Tr.putT n S1.R (sock, 0) (k : Int) = ins S1.R (sock, 0) (k : Int) := by unfold Tr.putT; rw [hl, if_neg (by simp), if_neg hlen]
        rw [e1, e2] at h8
        exact h8.mono fun e w2 ⟨he, h9⟩ => ⟨he, (tb_shut (S := newT S1 (bornF sock cookie fi)) (N := N + 9) (g := g) (pb := pb) (pa := pa) ⟨hok, HX.out.2⟩ (by rw [hnew]; exact h9.back3)).swap.drop.swap.drop⟩
      have HWR : Hid (∀ w', Own (TBl p g n pb pa keep :: RWs g n S1.rows :: Bkt pb bits n S1.R :: Ar.Arena pa (Ar.tk S1.X) :: BF b13 (bornF sock cookie fi) :: BPc b9 qu fi rf mo lo :: l) w' → ∃ v1 v2 v3 v4 v5 v6 v7 v8 v9, Wr w' ⟨g, k * 9, none⟩ (.int .u64 sock) v1 ∧ Wr v1 ⟨g, k * 9 + 1, none⟩ (.int .u64 cookie) v2 ∧ Wr v2 ⟨g, k * 9 + 2, none⟩ (.int .u64 0) v3 ∧ Wr v3 ⟨g, k * 9 + 3, none⟩ (.int .i64 fi) v4 ∧ Wr v4 ⟨g, k * 9 + 4, none⟩ (.int .u64 0) v5 ∧ Wr v5 ⟨g, k * 9 + 5, none⟩ (.int .u64 0) v6 ∧ Wr v6 ⟨g, k * 9 + 6, none⟩ (.int .u64 0) v7 ∧ Wr v7 ⟨g, k * 9 + 7, none⟩ (.int .u64 (hd : Int)) v8 ∧ Wr v8 ⟨g, k * 9 + 8, none⟩ (.bool false) v9 ∧ Own (TBl p g n pb pa keep :: RWs g n (S1.rows.set k (some ⟨bornF sock cookie fi, hd, false⟩)) :: Bkt pb bits n S1.R :: Ar.Arena pa (Ar.tk S1.X) :: BF b13 (bornF sock cookie fi) :: BPc b9 qu fi rf mo lo :: l) v9) := Lib.hid fun w' h' => by
        obtain ⟨v1, v2, v3, v4, v5, v6, v7, v8, v9, q1, q2, q3, q4, q5, q6, q7, q8, q9, h9⟩ := nine_wr h'.swap HX.out.1.len hkl (some ⟨bornF sock cookie fi, hd, false⟩) _ _ _ _ _ _ _ _ _ rfl
        exact ⟨v1, v2, v3, v4, v5, v6, v7, v8, v9, q1, q2, q3, q4, q5, q6, q7, q8, q9, h9.swap⟩
      have hkI : (k : Int) < (n : Int) := by omega
      clear h5 htk hur hun hFv hok hl hu q1 q2 hnew pl1 pl2 pl3 hok2 hlen hk hhd hkl
      go_wp2_with fail
      (with_reducible refine (HT.out).mono ?_)
      rintro e w6 ⟨rfl, h6⟩
      obtain ⟨d0, d1, d2, -, -⟩ := tb_cells h6 (.head _)
      obtain ⟨b0, b1, b2, b3, b4, b5, b6⟩ := bf_cells (b := b13) (F := bornF sock cookie fi) h6 (by simp)
      simp only [bornF] at b0 b1 b2 b3 b4 b5 b6
      have HP6 := Lib.hid (HPL.out _ h6)
      have hw := HWR.out _ (h6.step (Ext.refl w6).drew)
      clear h6 HT HPL HWR c0 c1 c2
      go_wp2_with fail
      (with_reducible refine (HP6.out).mono ?_)
      rintro e w7 ⟨rfl, rfl⟩
      clear HP6
      obtain ⟨v1, v2, v3, v4, v5, v6, v7, v8, v9, ⟨e1, ⟨x1, z1⟩, f1⟩, ⟨e2, ⟨x2, z2⟩, f2⟩, ⟨e3, ⟨x3, z3⟩, f3⟩, ⟨e4, ⟨x4, z4⟩, f4⟩, ⟨e5, ⟨x5, z5⟩, f5⟩, ⟨e6, ⟨x6, z6⟩, f6⟩, ⟨e7, ⟨x7, z7⟩, f7⟩, ⟨e8, ⟨x8, z8⟩, f8⟩, ⟨e9, ⟨x9, z9⟩, f9⟩, h9⟩ := hw
      obtain ⟨-, t1, -, -, -⟩ := tb_cells h9 (.head _)
      have HP9 := Lib.hid (HPU.out _ h9)
      clear h9 HPU
      go_wp2_with fail
      go_region
      go_wp2_with fail
      (with_reducible refine (HP9.out).mono ?_)
      rintro e w8 ⟨rfl, h10⟩
      have H10 := Lib.hid h10
      clear h10 HP9
      go_wp2_with fail
      go_ret3
      exact ⟨rfl, H10.out⟩
end Go.Proofs.Ytkdmlpigkmlkmaa.Tb
--  DERIVED. Layer 14 (table): All, Rebuild. 
set_option linter.unusedVariables false
set_option linter.unusedSimpArgs false
set_option maxRecDepth 100000
namespace Go.Proofs.Ytkdmlpigkmlkmaa.Tb
open Go.RowKit Go.Proofs.Ytkdmlpigkmlkmaa Go.Proofs.Ytkdmlpigkmlkmaa.TreeP Go.Proofs.Ytkdmlpigkmlkmaa.Tr Go.Proofs.Ytkdmlpigkmlkmaa.Bk

theorem infoI : (Try.prog.info? 3).map (fun i => (i.zero, i.size, i.bytes)) = some (some (.int .i64 0), 1, 8) := by kernel_rfl
def allK (S : T) (k : Nat) : List Nat := (List.range k).filter fun j => (rowAt S.rows j).isSome
theorem allK_yes {S : T} {k : Nat} {r : RW} (h : rowAt S.rows k = some r) : allK S (k + 1) = allK S k ++ [k] := by
  unfold allK
  rw [List.range_succ, List.filter_append]
  simp [h]
theorem allK_no {S : T} {k : Nat} (h : rowAt S.rows k = none) : allK S (k + 1) = allK S k := by
  unfold allK
  rw [List.range_succ, List.filter_append]
  simp [h]
theorem allK_le (S : T) (k : Nat) : (allK S k).length ≤ k := by
  have := List.length_filter_le (fun j => (rowAt S.rows j).isSome) (List.range k)
  unfold allK
  simpa using this
abbrev RN (v : Value) (l : List Nat) : HP := Row 3 1 v l.length (Tr.ints l)
def AlI (p n bits N : Nat) (keep : Int) (S : T) (l : List HP) (s3 s12 : Value) (wr : World) : Prop :=
  ∃ k : Nat, s12 = .int .i64 (k : Int) ∧ k ≤ n ∧ Own (RN s3 (allK S k) :: Tbl p n bits N keep S :: l) wr
section
variable {p n bits N : Nat} {keep : Int} {S : T} {l : List HP} {w : World}
set_option maxHeartbeats 2000000 in
theorem own_all (h : Own (Tbl p n bits N keep S :: l) w) :
    Calls Try.prog 23 #[.pointer (some ⟨p, 0, none⟩)] w fun e w' => ∃ v, e = .returned v ∧ Own (RN v (allL S) :: Tbl p n bits N keep S :: l) w' := by
  have HNN := Lib.hid (own_none h)
  obtain ⟨hti, -⟩ := own_ti h
  have hn2 := hti.n2
  have hall : allL S = allK S n := by unfold allL allK; rw [hti.len]
  rw [hall]
  have HC : Hid (∀ X w', Own (X :: Tbl p n bits N keep S :: l) w' → ∃ g, w'.cell? ⟨p, 0, none⟩ = some (.slice (some ⟨g, 0, none⟩) n n)) := Lib.hid fun X w' h' => by
    obtain ⟨g, pb, pa, hx, h1⟩ := tb_open h'.swap
    exact ⟨g, (tb_cells h1 (.head _)).1⟩
  have HAT : Hid (∀ X w' (k : Nat), Own (X :: Tbl p n bits N keep S :: l) w' → Calls Try.prog 51 #[.pointer (some ⟨p, 0, none⟩), .int .i64 (k : Int)] w' fun e w2 => (∃ a, e = .returned (.pointer a) ∧ a.isSome = (rowAt S.rows k).isSome) ∧ w' = w2) := Lib.hid fun X w' k h' => by
    obtain ⟨g, pb, pa, hx, h1⟩ := tb_open h'.swap
    refine (at_any h1 hx.1.len hx.1.n2 (hd_pos hx.1) (k : Int)).mono fun e w2 ⟨he, hw⟩ => ⟨⟨_, he, ?_⟩, hw⟩
    unfold atP
    rw [if_pos (by omega), Int.toNat_natCast]
    cases rowAt S.rows k <;> rfl
  have H0 := Lib.hid (h.nilRow 3 1)
  obtain ⟨g0, hg0⟩ := HC.out _ _ H0.out
  clear h hti hall
  go_enter Try.func23, Try.ntmps23
  go_wp2_with (go_at_call 48; (with_reducible refine (HNN.out).mono ?_); rintro e w' ⟨rfl, rfl⟩)
  go_loopw [3, 12] (fun s3 s12 wr => AlI p n bits N keep S l s3 s12 wr) (fun _ s12 _ => n - (intOf s12).toNat)
  case atStart => exact ⟨0, rfl, Nat.zero_le _, H0.out⟩
  case round =>
    clear H0
    obtain ⟨k, rfl, hk, h⟩ := hrel
    by_cases hlt : k < n
    · have hltI : (k : Int) < (n : Int) := by omega
      have hq := allK_le S k
      obtain ⟨q, hq2⟩ : ∃ q, q = (allK S k).length := ⟨_, rfl⟩
      rw [← hq2] at hq
      have HQ := Lib.hid hq2
      have HA := Lib.hid (HAT.out _ wr k h)
      have H := Lib.hid h
      cases hr : rowAt S.rows k with
      | none =>
        have HP : Hid (AlI p n bits N keep S l u3 (.int .i64 ((k : Int) + 1)) wr) := Lib.hid ⟨k + 1, by go_num, by omega, by rw [allK_no hr]; exact h⟩
        have hx := HA.out
        rw [hr] at hx
        have HX := Lib.hid hx
        clear h hq2 hr hx HA
        go_wp2_with fail
        (with_reducible refine (HX.out).mono ?_)
        rintro e w2 ⟨⟨a, rfl, ha⟩, rfl⟩
        obtain rfl : a = none := by cases a with
          | none => rfl
          | some a => simp at ha
        clear ha
        go_wp2_with fail
        exact ⟨HP.out, by simp [intOf]; omega⟩
      | some r =>
        have hay := allK_yes hr
        have hints : Tr.ints (allK S (k + 1)) = Tr.ints (allK S k) ++ [.int .i64 (k : Int)] := by rw [hay]; simp [Tr.ints]
        have hl1 : (allK S (k + 1)).length = q + 1 := by rw [hay, List.length_append, hq2]; rfl
        have HI := Lib.hid hints
        have HL1 := Lib.hid hl1
        have hx := HA.out
        rw [hr] at hx
        have HX := Lib.hid hx
        clear h hq2 hr hx HA hay hints hl1
        go_wp2_with fail
        (with_reducible refine (HX.out).mono ?_)
        rintro e w2 ⟨⟨a, rfl, ha⟩, rfl⟩
        obtain ⟨a, rfl⟩ : ∃ b, a = some b := Option.isSome_iff_exists.1 ha
        clear ha
        go_wp2_with (at_builtin; refine app_own (W := wr) rfl _ _ _ _ _ 1 8 rfl Try.underlying47 infoI rfl (by omega) (by omega) u3 q (Tr.ints (allK S k)) [.int .i64 (k : Int)] rfl _ rfl rfl rfl (by simp [Value.oneCell']) (by rw [HQ.out]; exact H.out.row) (by omega) ?_)
        intro v1 w3 hown hgrow hmv
        rw [← HI.out] at hown
        have h3 := H.out.rowApp hown hgrow hmv
        rw [← HL1.out] at h3
        have HP : Hid (AlI p n bits N keep S l v1 (.int .i64 ((k : Int) + 1)) w3) := Lib.hid ⟨k + 1, by go_num, by omega, h3⟩
        clear hown hgrow hmv h3 H
        go_wp2_with fail
        exact ⟨HP.out, by simp [intOf]; omega⟩
    · obtain rfl : k = n := by omega
      have HF := Lib.hid h
      clear h hlt hk
      go_wp2_with fail
      go_ret
      exact ⟨_, rfl, HF.out⟩
/-! ### Rebuild -/
/-- the first j flows, put again -/
structure RbS (n j : Nat) (S : T) (R : List En) : Prop where
  rk : RK n R
  mem : ∀ s v, ((s, 0), v) ∈ R ↔ ∃ k r, k ∈ (allL S).take j ∧ rowAt S.rows k = some r ∧ v = (k : Int) ∧ r.f.s = s
  len : R.length = j
theorem rbs_zero (S : T) (n : Nat) : RbS n 0 S [] := ⟨rk_nil n, fun s v => by simp, rfl⟩
theorem rbs_step {j k : Nat} {R : List En} (ht : TI n N S) (h : RbS n j S R) (hj : (allL S)[j]? = some k) : ∃ r, rowAt S.rows k = some r ∧ Tr.putE n R (r.f.s, 0) = 0 ∧ RbS n (j + 1) S (Tr.putT n R (r.f.s, 0) (k : Int)) := by
  obtain ⟨r, hr⟩ := Option.isSome_iff_exists.1 (mem_all.1 (List.mem_of_getElem? hj))
  have hlt := (List.getElem?_eq_some_iff.1 hj).1
  have hn : Tr.look R (r.f.s, 0) = none := by
    cases hl : Tr.look R (r.f.s, 0) with
    | none => rfl
    | some v =>
      exfalso
      obtain ⟨k', r', h1, h2, h3, h4⟩ := (h.mem _ _).1 (look_some hl)
      have hkk := ht.uniq h2 hr h4
      subst hkk
      obtain ⟨i, hi⟩ := List.getElem?_of_mem h1
      rw [List.getElem?_take] at hi
      split at hi
      · rename_i hij
        have := (List.pairwise_iff_getElem.1 (all_nodup S)) i j (by omega) hlt hij
        rw [(List.getElem?_eq_some_iff.1 hi).2, (List.getElem?_eq_some_iff.1 hj).2] at this
        exact this rfl
      · cases hi
  have hln : R.length < n := by
    have h1 := all_len ht
    have h2 := ht.rk.len
    have := h.len
    omega
  have e1 : Tr.putE n R (r.f.s, 0) = 0 := by unfold Tr.putE; rw [hn, if_neg (by simp), if_neg (by omega)]
  have e2 : Tr.putT n R (r.f.s, 0) (k : Int) = ins R (r.f.s, 0) (k : Int) := by unfold Tr.putT; rw [hn, if_neg (by simp), if_neg (by omega)]
  obtain ⟨s0, s1⟩ := (ht.hd k r hr).2.2.1
  obtain ⟨r1, r2, r3, _, _⟩ := rise_ins h.rk.rise (r.f.s, 0) (k : Int) hn
  refine ⟨r, hr, e1, by rw [e2]; exact h.rk.put s0 s1 hn hln, fun s v => ?_, by rw [e2, r2, h.len]⟩
  rw [e2, r3, h.mem, List.take_add_one, hj]
  constructor
  · rintro (e | ⟨k', r', h1, h2, h3, h4⟩)
    · injection e with e e2
      injection e with e
      exact ⟨k, r, by simp, hr, e2, e.symm⟩
    · exact ⟨k', r', by simp [h1], h2, h3, h4⟩
  · rintro ⟨k', r', h1, h2, h3, h4⟩
    rw [List.mem_append] at h1
    rcases h1 with h1 | h1
    · exact .inr ⟨k', r', h1, h2, h3, h4⟩
    · have : k' = k := by simpa using h1
      subst this
      rw [hr] at h2
      injection h2 with h2
      subst h2
      exact .inl (by rw [h3, ← h4])
theorem rise_ext : ∀ {E F : List En}, RisingE E → RisingE F → (∀ e, e ∈ E ↔ e ∈ F) → E = F
  | [], [], _, _, _ => rfl
  | [], f :: F, _, _, h => by have := (h f).2 (.head _); cases this
  | e :: E, [], _, _, h => by have := (h e).1 (.head _); cases this
  | e :: E, f :: F, hE, hF, h => by
    unfold RisingE at hE hF
    rw [List.pairwise_cons] at hE hF
    have hef : e = f := by
      rcases List.mem_cons.1 ((h e).1 (.head _)) with h1 | h1
      · exact h1
      · rcases List.mem_cons.1 ((h f).2 (.head _)) with h2 | h2
        · exact h2.symm
        · exact absurd (hF.1 e h1) (lt_asymm (hE.1 f h2))
    subst hef
    rw [rise_ext (E := E) (F := F) hE.2 hF.2 fun x => ?_]
    constructor
    · intro hx
      rcases List.mem_cons.1 ((h x).1 (.tail _ hx)) with rfl | h1
      · exact absurd (hE.1 x hx) (lt_irrefl _)
      · exact h1
    · intro hx
      rcases List.mem_cons.1 ((h x).2 (.tail _ hx)) with rfl | h1
      · exact absurd (hF.1 x hx) (lt_irrefl _)
      · exact h1
theorem rbs_done {R : List En} (ht : TI n N S) (h : RbS n (allL S).length S R) : R = S.R := by
  refine rise_ext h.rk.rise ht.rk.rise fun e => ?_
  obtain ⟨⟨s, z⟩, v⟩ := e
  have hh : ∀ s v, ((s, 0), v) ∈ R ↔ ((s, 0), v) ∈ S.R := fun s v => by
    rw [h.mem, ht.mem, List.take_length]
    constructor
    · rintro ⟨k, r, h1, h2, h3, h4⟩
      exact ⟨k, r, h2, h3, h4⟩
    · rintro ⟨k, r, h2, h3, h4⟩
      exact ⟨k, r, mem_all.2 (by rw [h2]; rfl), h2, h3, h4⟩
  constructor
  · intro he
    have h1 := (h.rk.key _ he).1
    simp only at h1
    subst h1
    exact (hh s v).1 he
  · intro he
    have h1 := (ht.rk.key _ he).1
    simp only at h1
    subst h1
    exact (hh s v).2 he
theorem rebuild_bad (h : Own (Tbl p n bits N keep S :: l) w) (b : Int) (hb : b < 0 ∨ 10 < b) :
    Calls Try.prog 28 #[.pointer (some ⟨p, 0, none⟩), .int .i64 b] w fun e w' => e = .returned (.int .i64 2) ∧ Own (Tbl p n bits N keep S :: l) w' := by
  have HNN := Lib.hid (own_none h)
  obtain ⟨g, pb, pa, hx, h1⟩ := tb_open h
  obtain ⟨c0, -, -, -, -⟩ := tb_cells h1 (.head _)
  have HNB := Lib.hid (Bk.new_not b (n : Int) (by omega) w)
  have H := Lib.hid h
  clear h h1 hx
  go_enter Try.func28, Try.ntmps28
  go_wp2_with (first
    | (go_at_call 48; (with_reducible refine (HNN.out).mono ?_); rintro e w' ⟨rfl, rfl⟩)
    | (go_at_call 46; (with_reducible refine (HNB.out).mono ?_); rintro e w' ⟨rfl, rfl⟩))
  go_ret
  exact ⟨rfl, H.out⟩
def RbI (p n bits N b pb' : Nat) (keep : Int) (S : T) (v : Value) (l : List HP) (s27 : Value) (wr : World) : Prop :=
  ∃ (j : Nat) (R : List En), s27 = .int .i64 (j : Int) ∧ j ≤ (allL S).length ∧ RbS n j S R ∧ Own (RN v (allL S) :: Tbl p n bits N keep S :: Bkt pb' b n R :: l) wr
set_option maxHeartbeats 2000000 in
theorem rebuild_ok (h : Own (Tbl p n bits N keep S :: l) w) (b : Nat) (hb : b ≤ 10) :
    Calls Try.prog 28 #[.pointer (some ⟨p, 0, none⟩), .int .i64 (b : Int)] w fun e w' => e = .returned (.int .i64 0) ∧ Own (Tbl p n b N keep S :: l) w' := by
  have HNN := Lib.hid (own_none h)
  obtain ⟨hti, -⟩ := own_ti h
  have HTI := Lib.hid hti
  have hn2 := hti.n2
  have HC : Hid (∀ w' (L2 : List HP), Own (Tbl p n bits N keep S :: L2) w' → ∃ g, w'.cell? ⟨p, 0, none⟩ = some (.slice (some ⟨g, 0, none⟩) n n) ∧ ∀ k r, rowAt S.rows k = some r → w'.cell? ⟨g, k * 9, none⟩ = some (.int .u64 r.f.s)) := Lib.hid fun w' L2 h' => by
    obtain ⟨g, pb, pa, hx, h1⟩ := tb_open h'
    exact ⟨g, (tb_cells h1 (.head _)).1, fun k r hr => (nine_of h1.swap.row hr).c0⟩
  obtain ⟨g0, c0, -⟩ := HC.out _ _ h
  have HNB := Lib.hid (Bk.own_new b n hb hti.n1 hti.n2 h)
  have HBB := Lib.hid hb
  clear h hti
  go_enter Try.func28, Try.ntmps28
  go_wp2_with (go_at_call 48; (with_reducible refine (HNN.out).mono ?_); rintro e w' ⟨rfl, rfl⟩)
  (with_reducible refine (HNB.out).mono ?_)
  rintro e w1 ⟨pb', rfl, h1⟩
  have HAL := Lib.hid (own_all h1.swap)
  clear h1 HNB c0
  go_wp2_with fail
  (with_reducible refine (HAL.out).mono ?_)
  rintro e w2 ⟨v, rfl, h2⟩
  obtain ⟨va, vc, rfl⟩ := own_slice h2.row
  obtain ⟨m, hm⟩ : ∃ m, m = (allL S).length := ⟨_, rfl⟩
  have hmn : m ≤ 4096 := by rw [hm, all_len HTI.out]; have := HTI.out.rk.len; omega
  rw [← hm] at h2 ⊢
  have HM := Lib.hid hm
  have H2 := Lib.hid h2
  clear h2 hm HAL
  go_wp2_with fail
  go_loopw [27] (fun s27 wr => RbI p n bits N b pb' keep S (.slice va m vc) l s27 wr) (fun s27 _ => m - (intOf s27).toNat)
  case atStart => exact ⟨0, [], rfl, Nat.zero_le _, rbs_zero S n, by have := H2.out; rw [HM.out] at this ⊢; exact this⟩
  case round =>
    clear H2
    obtain ⟨j, R, rfl, hj, hrb, h⟩ := hrel
    rw [← HM.out] at hj
    by_cases hlt : j < m
    · have hltI : (j : Int) < (m : Int) := by omega
      obtain ⟨k, hk⟩ : ∃ k, (allL S)[j]? = some k := ⟨_, List.getElem?_eq_getElem (by rw [← HM.out]; exact hlt)⟩
      obtain ⟨r, hr, hpe, hrb2⟩ := rbs_step HTI.out hrb hk
      obtain ⟨s0, s1⟩ := (HTI.out.hd k r hr).2.2.1
      have hrow := ownsR_of h.row
      rw [← HM.out] at hrow
      obtain ⟨g2, cap, ev, -, -⟩ := hrow.form (by omega)
      injection ev with e1 _ e3
      subst e1 e3
      have q0 : wr.cell? ⟨g2, j, none⟩ = some (.int .i64 (k : Int)) := (hrow.cells rfl j _ (by simp [Tr.ints, hk])).1
      obtain ⟨g, c0, hc⟩ := HC.out _ _ h.swap
      have q1 := hc k r hr
      have hkn : k < n := by have := rowAt_lt hr; have := HTI.out.len; omega
      have hkI : (k : Int) < (n : Int) := by omega
      have hpu := Bk.own_put h.third r.f.s (k : Int) s0 s1
      rw [hpe] at hpu
      obtain ⟨R2, hR2⟩ : ∃ R2, R2 = Tr.putT n R (r.f.s, 0) (k : Int) := ⟨_, rfl⟩
      rw [← hR2] at hpu hrb2
      have HPU := Lib.hid hpu
      have HRB := Lib.hid hrb2
      clear h hrb hrb2 hrow hc hr hk hpe hpu hR2 s0 s1
      go_wp2_with fail
      (with_reducible refine (HPU.out).mono ?_)
      rintro e w5 ⟨rfl, h5⟩
      have HP : Hid (RbI p n bits N b pb' keep S (.slice (some ⟨g2, 0, none⟩) m vc) l (.int .i64 ((j : Int) + 1)) w5) := Lib.hid ⟨j + 1, R2, by go_num, by rw [← HM.out]; omega, HRB.out, h5.back3⟩
      clear h5 HPU q0 q1 c0
      go_wp2_with fail
      exact ⟨HP.out, by simp [intOf]; omega⟩
    · obtain rfl : j = m := by omega
      have hR : R = S.R := rbs_done HTI.out (by rw [← HM.out]; exact hrb)
      subst hR
      obtain ⟨g, pb, pa, hx, h1⟩ := tb_open h.drop
      obtain ⟨c0, c1, -, -, hf⟩ := tb_cells h1 (.head _)
      have f1 := hf 1
      have h2 := Go.Proofs.Ytkdmlpigkmlkmaa.Own.blkSet (o := 1) h1 (.pointer (some ⟨pb', 0, none⟩))
      have HF : Hid (Own (Tbl p n b N keep S :: l) (wr.setCell ⟨p, 1, none⟩ (.pointer (some ⟨pb', 0, none⟩)))) := Lib.hid (tb_shut (g := g) (pb := pb') (pa := pa) ⟨hx.1, HBB.out, hx.2.2⟩ (by
        have h3 : Own (TBl p g n pb' pa keep :: RWs g n S.rows :: Bkt pb bits n S.R :: Ar.Arena pa S.X :: Bkt pb' b n S.R :: l) _ := h2
        exact (h3.third.drop.fourth).back3))
      clear h h1 h2 hf hx hrb c0 hj hlt
      go_wp2_with fail
      go_ret
      exact ⟨rfl, HF.out⟩
end
end Go.Proofs.Ytkdmlpigkmlkmaa.Tb
--  DERIVED. Layer 14 (table): does, Rest, Busy, Set. Written by wip/mktbc.py. 
set_option linter.unusedVariables false
set_option linter.unusedSimpArgs false
set_option maxRecDepth 100000
namespace Go.Proofs.Ytkdmlpigkmlkmaa.Tb
open Go.RowKit Go.Proofs.Ytkdmlpigkmlkmaa Go.Proofs.Ytkdmlpigkmlkmaa.TreeP Go.Proofs.Ytkdmlpigkmlkmaa.Tr Go.Proofs.Ytkdmlpigkmlkmaa.Bk

section
variable {p g n pb pa bits N k : Nat} {keep : Int} {S : T} {l : List HP} {w : World} {L : Rows} {r : RW}
set_option maxHeartbeats 400000 in
theorem busy1 (h : Own (RWs g n L :: l) w) (hl : L.length = n) (hr : rowAt L k = some r) :
    Calls Try.prog 63 #[.pointer (some ⟨g, k * 9, none⟩)] w fun e w' => e = .returned (.bool true) ∧ Own (RWs g n (L.set k (some (busy r))) :: l) w' := by
  obtain ⟨v1, ⟨e1, ⟨x1, z1⟩, f1⟩, h1⟩ := rests_wr h hl hr false
  have H1 : Hid (Own (RWs g n (L.set k (some (busy r))) :: l) v1) := Lib.hid h1
  clear h hr hl h1
  go_enter Try.func63, Try.ntmps63
  go_wp2_with fail
  go_ret
  exact ⟨rfl, H1.out⟩
set_option maxHeartbeats 1000000 in
theorem set1 {b : Nat} {x : FD} (h : Own (RWs g n L :: BF b x :: l) w) (hl : L.length = n) (hr : rowAt L k = some r) :
    Calls Try.prog 64 #[.pointer (some ⟨g, k * 9, none⟩), .pointer (some ⟨b, 0, none⟩)] w fun e w' => e = .returned (.bool (decide (r.f.s = x.s))) ∧ Own (RWs g n (L.set k (some (put x r))) :: BF b x :: l) w' := by
  obtain ⟨y0, -, -, -, -, -, -, -, -⟩ := nine_of h.row hr
  obtain ⟨b0, b1, b2, b3, b4, b5, b6⟩ := bf_cells h (.tail _ (.head _))
  by_cases hs : r.f.s = x.s
  · rw [decide_eq_true hs]
    have HW : Hid (∀ q, ∃ v1 v2 v3 v4 v5 v6 v7, Wr (w.drewN q) ⟨g, k * 9, none⟩ (.int .u64 x.s) v1 ∧ Wr v1 ⟨g, k * 9 + 1, none⟩ (.int .u64 x.c) v2 ∧ Wr v2 ⟨g, k * 9 + 2, none⟩ (.int .u64 x.ra) v3 ∧ Wr v3 ⟨g, k * 9 + 3, none⟩ (.int .i64 x.cr) v4 ∧ Wr v4 ⟨g, k * 9 + 4, none⟩ (.int .u64 x.nx) v5 ∧ Wr v5 ⟨g, k * 9 + 5, none⟩ (.int .u64 x.db) v6 ∧ Wr v6 ⟨g, k * 9 + 6, none⟩ (.int .u64 x.ag) v7 ∧ Own (RWs g n (L.set k (some (put x r))) :: BF b x :: l) v7) := Lib.hid fun q => by
      have := flow_wr (h.step ((Ext.refl w).drewN q)) hl hr x
      unfold put
      rw [if_pos hs]
      exact this
    have ss : (r.f.s != x.s) = false := by simp [hs]
    clear h hr hl hs
    go_enter Try.func64, Try.ntmps64
    go_wp2_with fail
    go_quiet (fail)
    have hw := HW.out nq
    clear HW
    obtain ⟨v1, v2, v3, v4, v5, v6, v7, ⟨e1, ⟨x1, z1⟩, f1⟩, ⟨e2, ⟨x2, z2⟩, f2⟩, ⟨e3, ⟨x3, z3⟩, f3⟩, ⟨e4, ⟨x4, z4⟩, f4⟩, ⟨e5, ⟨x5, z5⟩, f5⟩, ⟨e6, ⟨x6, z6⟩, f6⟩, ⟨e7, ⟨x7, z7⟩, f7⟩, h7⟩ := hw
    have H7 := Lib.hid h7
    clear h7
    go_wp2_with fail
    go_ret
    exact ⟨rfl, H7.out⟩
  · rw [decide_eq_false hs]
    have HF : Hid (∀ q, Own (RWs g n (L.set k (some (put x r))) :: BF b x :: l) (w.drewN q)) := Lib.hid fun q => by
      have e : L.set k (some (put x r)) = L := by
        unfold put
        rw [if_neg hs, ← hr]
        have hk := rowAt_lt hr
        have := rowAt_get hk
        obtain ⟨h1, h2⟩ := List.getElem?_eq_some_iff.1 this
        rw [← h2]
        exact List.set_getElem_self h1
      rw [e]
      exact h.step ((Ext.refl w).drewN q)
    have ss : (r.f.s != x.s) = true := by simp [hs]
    clear h hr hl hs
    go_enter Try.func64, Try.ntmps64
    go_wp2_with fail
    go_quiet (fail)
    go_wp2_with fail
    go_ret
    exact ⟨rfl, HF.out _⟩
set_option maxHeartbeats 400000 in
theorem doesRest {LA LB : List HP} {B : Bool} {f : Int} {a : Addr} {b : Nat} (h : Own LA w) (hat : Calls Try.prog 51 #[.pointer (some ⟨p, 0, none⟩), .int .i64 f] w fun e w2 => e = .returned (.pointer (some a)) ∧ w = w2)
    (hno : Calls Try.prog 48 #[.pointer (some ⟨p, 0, none⟩)] w fun e w2 => e = .returned (.bool false) ∧ w = w2)
    (hcl : Calls Try.prog 56 #[.pointer (some a), .pointer (some ⟨b, 0, none⟩)] w fun e w2 => e = .returned (.bool B) ∧ Own LB w2) :
    Calls Try.prog 55 #[.pointer (some ⟨p, 0, none⟩), .int .i64 f, .func (.func 56) #[] #[.pointer (some ⟨b, 0, none⟩)]] w fun e w' => e = .returned (.int .i64 (if B = true then 0 else 2)) ∧ Own LB w' := by
  have HA := Lib.hid hat
  have HN := Lib.hid hno
  have HC := Lib.hid hcl
  clear h hat hno hcl
  cases B with
  | false =>
    go_enter Try.func55, Try.ntmps55
    go_wp2_with (first
      | (go_at_call 51; (with_reducible refine (HA.out).mono ?_); rintro e w2 ⟨rfl, rfl⟩)
      | (go_at_call 48; (with_reducible refine (HN.out).mono ?_); rintro e w2 ⟨rfl, rfl⟩)
      | (go_at_call 56; (with_reducible refine (HC.out).mono ?_); rintro e w2 ⟨rfl, h2⟩; have H2 := Lib.hid h2; clear h2))
    go_ret
    exact ⟨rfl, H2.out⟩
  | true =>
    go_enter Try.func55, Try.ntmps55
    go_wp2_with (first
      | (go_at_call 51; (with_reducible refine (HA.out).mono ?_); rintro e w2 ⟨rfl, rfl⟩)
      | (go_at_call 48; (with_reducible refine (HN.out).mono ?_); rintro e w2 ⟨rfl, rfl⟩)
      | (go_at_call 56; (with_reducible refine (HC.out).mono ?_); rintro e w2 ⟨rfl, h2⟩; have H2 := Lib.hid h2; clear h2))
    go_ret
    exact ⟨rfl, H2.out⟩
set_option maxHeartbeats 400000 in
theorem doesBusy {LA LB : List HP} {B : Bool} {f : Int} {a : Addr} (h : Own LA w) (hat : Calls Try.prog 51 #[.pointer (some ⟨p, 0, none⟩), .int .i64 f] w fun e w2 => e = .returned (.pointer (some a)) ∧ w = w2)
    (hno : Calls Try.prog 48 #[.pointer (some ⟨p, 0, none⟩)] w fun e w2 => e = .returned (.bool false) ∧ w = w2)
    (hcl : Calls Try.prog 63 #[.pointer (some a)] w fun e w2 => e = .returned (.bool B) ∧ Own LB w2) :
    Calls Try.prog 55 #[.pointer (some ⟨p, 0, none⟩), .int .i64 f, .func (.func 63) #[] #[]] w fun e w' => e = .returned (.int .i64 (if B = true then 0 else 2)) ∧ Own LB w' := by
  have HA := Lib.hid hat
  have HN := Lib.hid hno
  have HC := Lib.hid hcl
  clear h hat hno hcl
  cases B with
  | false =>
    go_enter Try.func55, Try.ntmps55
    go_wp2_with (first
      | (go_at_call 51; (with_reducible refine (HA.out).mono ?_); rintro e w2 ⟨rfl, rfl⟩)
      | (go_at_call 48; (with_reducible refine (HN.out).mono ?_); rintro e w2 ⟨rfl, rfl⟩)
      | (go_at_call 63; (with_reducible refine (HC.out).mono ?_); rintro e w2 ⟨rfl, h2⟩; have H2 := Lib.hid h2; clear h2))
    go_ret
    exact ⟨rfl, H2.out⟩
  | true =>
    go_enter Try.func55, Try.ntmps55
    go_wp2_with (first
      | (go_at_call 51; (with_reducible refine (HA.out).mono ?_); rintro e w2 ⟨rfl, rfl⟩)
      | (go_at_call 48; (with_reducible refine (HN.out).mono ?_); rintro e w2 ⟨rfl, rfl⟩)
      | (go_at_call 63; (with_reducible refine (HC.out).mono ?_); rintro e w2 ⟨rfl, h2⟩; have H2 := Lib.hid h2; clear h2))
    go_ret
    exact ⟨rfl, H2.out⟩
set_option maxHeartbeats 400000 in
theorem doesSet {LA LB : List HP} {B : Bool} {f : Int} {a : Addr} {b : Nat} (h : Own LA w) (hat : Calls Try.prog 51 #[.pointer (some ⟨p, 0, none⟩), .int .i64 f] w fun e w2 => e = .returned (.pointer (some a)) ∧ w = w2)
    (hno : Calls Try.prog 48 #[.pointer (some ⟨p, 0, none⟩)] w fun e w2 => e = .returned (.bool false) ∧ w = w2)
    (hcl : Calls Try.prog 64 #[.pointer (some a), .pointer (some ⟨b, 0, none⟩)] w fun e w2 => e = .returned (.bool B) ∧ Own LB w2) :
    Calls Try.prog 55 #[.pointer (some ⟨p, 0, none⟩), .int .i64 f, .func (.func 64) #[] #[.pointer (some ⟨b, 0, none⟩)]] w fun e w' => e = .returned (.int .i64 (if B = true then 0 else 2)) ∧ Own LB w' := by
  have HA := Lib.hid hat
  have HN := Lib.hid hno
  have HC := Lib.hid hcl
  clear h hat hno hcl
  cases B with
  | false =>
    go_enter Try.func55, Try.ntmps55
    go_wp2_with (first
      | (go_at_call 51; (with_reducible refine (HA.out).mono ?_); rintro e w2 ⟨rfl, rfl⟩)
      | (go_at_call 48; (with_reducible refine (HN.out).mono ?_); rintro e w2 ⟨rfl, rfl⟩)
      | (go_at_call 64; (with_reducible refine (HC.out).mono ?_); rintro e w2 ⟨rfl, h2⟩; have H2 := Lib.hid h2; clear h2))
    go_ret
    exact ⟨rfl, H2.out⟩
  | true =>
    go_enter Try.func55, Try.ntmps55
    go_wp2_with (first
      | (go_at_call 51; (with_reducible refine (HA.out).mono ?_); rintro e w2 ⟨rfl, rfl⟩)
      | (go_at_call 48; (with_reducible refine (HN.out).mono ?_); rintro e w2 ⟨rfl, rfl⟩)
      | (go_at_call 64; (with_reducible refine (HC.out).mono ?_); rintro e w2 ⟨rfl, h2⟩; have H2 := Lib.hid h2; clear h2))
    go_ret
    exact ⟨rfl, H2.out⟩
set_option maxHeartbeats 400000 in
theorem does_no {f : Int} {c : Value} (hat : Calls Try.prog 51 #[.pointer (some ⟨p, 0, none⟩), .int .i64 f] w fun e w2 => e = .returned (.pointer none) ∧ w = w2)
    (hno : Calls Try.prog 48 #[.pointer (some ⟨p, 0, none⟩)] w fun e w2 => e = .returned (.bool false) ∧ w = w2) :
    Calls Try.prog 55 #[.pointer (some ⟨p, 0, none⟩), .int .i64 f, c] w fun e w' => e = .returned (.int .i64 2) ∧ w = w' := by
  have HA := Lib.hid hat
  have HN := Lib.hid hno
  clear hat hno
  go_enter Try.func55, Try.ntmps55
  go_wp2_with (first
    | (go_at_call 51; (with_reducible refine (HA.out).mono ?_); rintro e w2 ⟨rfl, rfl⟩)
    | (go_at_call 48; (with_reducible refine (HN.out).mono ?_); rintro e w2 ⟨rfl, rfl⟩))
  go_ret
  exact ⟨rfl, rfl⟩
set_option maxHeartbeats 400000 in
theorem own_rest (h : Own (Tbl p n bits N keep S :: l) w) (f : Int) (now : Int) (h0 : 0 ≤ now) (h9 : now < 18446744073709551616) :
    Calls Try.prog 15 #[.pointer (some ⟨p, 0, none⟩), .int .i64 f, .int .u64 now] w fun e w' => e = .returned (.int .i64 (doneE S f)) ∧ Own (Tbl p n bits N keep (onT S f (rest now)) :: l) w' := by
  have hok := fun hh : TI n N S => (show TI n N (onT S f (rest now)) from rest_ok hh h0 h9)
  obtain ⟨g, pb, pa, hx, h1⟩ := tb_open h
  have hok := hok hx.1
  have h2 : Own (TBl p g n pb pa keep :: RWs g n S.rows :: BU w.heap.size now :: Bkt pb bits n S.R :: Ar.Arena pa S.X :: l) (w.alloc (.cells #[.int .u64 now] 22)) := (Go.Proofs.Ytkdmlpigkmlkmaa.Own.blkNew h1 _ _).back3
  have HNN := none_any h2
  cases ha : atF S f with
  | none =>
    have ee : doneE S f = 2 := by unfold doneE; rw [ha]; rfl
    have eo : onT S f (rest now) = S := by unfold onT; rw [ha]
    rw [ee, eo]
    have HD := Lib.hid fun c => does_no (c := c) (at_no h2 hx.1 ha) HNN
    have HF := Lib.hid (h.step ((Ext.refl w).alloc (.cells #[.int .u64 now] 22)))
    clear h h1 h2 ha ee eo hx hok HNN
    go_enter Try.func15, Try.ntmps15
    go_wp2_with fail
    (with_reducible refine (HD.out _).mono ?_)
    rintro e w2 ⟨rfl, rfl⟩
    go_wp2_with fail
    go_ret
    exact ⟨rfl, HF.out⟩
  | some r =>
    obtain ⟨k, rfl, hr⟩ := atF_some ha
    have eo : onT S (k : Int) (rest now) = ⟨S.rows.set k (some (rest now r)), S.X, S.R⟩ := by unfold onT; rw [ha]; simp only [Int.toNat_natCast]; rfl
    have ee : doneE S (k : Int) = if true = true then 0 else 2 := by unfold doneE; rw [ha]; rfl
    have h3 : Own (RWs g n S.rows :: BU w.heap.size now :: TBl p g n pb pa keep :: Bkt pb bits n S.R :: Ar.Arena pa S.X :: l) (w.alloc (.cells #[.int .u64 now] 22)) := h2.swap.tail OwnIn.swap
    have hd := doesRest (LB := RWs g n (S.rows.set k (some (rest now r))) :: BU w.heap.size now :: TBl p g n pb pa keep :: Bkt pb bits n S.R :: Ar.Arena pa S.X :: l) h2 (at_yes h2 hx.1 hr) HNN (rest1 h3 hx.1.len hr)
    rw [← ee] at hd
    have HD := Lib.hid hd
    have HF : Hid (∀ w', Own (RWs g n (S.rows.set k (some (rest now r))) :: BU w.heap.size now :: TBl p g n pb pa keep :: Bkt pb bits n S.R :: Ar.Arena pa S.X :: l) w' → Own (Tbl p n bits N keep (onT S (k : Int) (rest now)) :: l) w') := Lib.hid fun w' h4 => tb_shut (g := g) (pb := pb) (pa := pa) ⟨hok, hx.2⟩ (by rw [eo]; exact h4.swap.drop.swap)
    clear h h1 h2 h3 ha ee hx hok HNN hr hd
    go_enter Try.func15, Try.ntmps15
    go_wp2_with fail
    (with_reducible refine (HD.out).mono ?_)
    rintro e w2 ⟨rfl, h4⟩
    have H4 := Lib.hid (HF.out _ h4)
    clear h4 HF HD eo
    go_wp2_with fail
    go_ret
    exact ⟨rfl, H4.out⟩
set_option maxHeartbeats 400000 in
theorem own_busy (h : Own (Tbl p n bits N keep S :: l) w) (f : Int)  :
    Calls Try.prog 26 #[.pointer (some ⟨p, 0, none⟩), .int .i64 f] w fun e w' => e = .returned (.int .i64 (doneE S f)) ∧ Own (Tbl p n bits N keep (onT S f (busy)) :: l) w' := by
  have hok := fun hh : TI n N S => (show TI n N (onT S f (busy)) from busy_ok hh)
  obtain ⟨g, pb, pa, hx, h1⟩ := tb_open h
  have hok := hok hx.1
  have h2 := h1
  have HNN := none_any h2
  cases ha : atF S f with
  | none =>
    have ee : doneE S f = 2 := by unfold doneE; rw [ha]; rfl
    have eo : onT S f (busy) = S := by unfold onT; rw [ha]
    rw [ee, eo]
    have HD := Lib.hid fun c => does_no (c := c) (at_no h2 hx.1 ha) HNN
    have HF := Lib.hid h
    clear h h1 h2 ha ee eo hx hok HNN
    go_enter Try.func26, Try.ntmps26
    go_wp2_with fail
    (with_reducible refine (HD.out _).mono ?_)
    rintro e w2 ⟨rfl, rfl⟩
    go_wp2_with fail
    go_ret
    exact ⟨rfl, HF.out⟩
  | some r =>
    obtain ⟨k, rfl, hr⟩ := atF_some ha
    have eo : onT S (k : Int) (busy) = ⟨S.rows.set k (some (busy r)), S.X, S.R⟩ := by unfold onT; rw [ha]; simp only [Int.toNat_natCast]; rfl
    have ee : doneE S (k : Int) = if true = true then 0 else 2 := by unfold doneE; rw [ha]; rfl
    have h3 : Own (RWs g n S.rows :: TBl p g n pb pa keep :: Bkt pb bits n S.R :: Ar.Arena pa S.X :: l) w := h2.swap
    have hd := doesBusy (LB := RWs g n (S.rows.set k (some (busy r))) :: TBl p g n pb pa keep :: Bkt pb bits n S.R :: Ar.Arena pa S.X :: l) h2 (at_yes h2 hx.1 hr) HNN (busy1 h3 hx.1.len hr)
    rw [← ee] at hd
    have HD := Lib.hid hd
    have HF : Hid (∀ w', Own (RWs g n (S.rows.set k (some (busy r))) :: TBl p g n pb pa keep :: Bkt pb bits n S.R :: Ar.Arena pa S.X :: l) w' → Own (Tbl p n bits N keep (onT S (k : Int) (busy)) :: l) w') := Lib.hid fun w' h4 => tb_shut (g := g) (pb := pb) (pa := pa) ⟨hok, hx.2⟩ (by rw [eo]; exact h4.swap)
    clear h h1 h2 h3 ha ee hx hok HNN hr hd
    go_enter Try.func26, Try.ntmps26
    go_wp2_with fail
    (with_reducible refine (HD.out).mono ?_)
    rintro e w2 ⟨rfl, h4⟩
    have H4 := Lib.hid (HF.out _ h4)
    clear h4 HF HD eo
    go_wp2_with fail
    go_ret
    exact ⟨rfl, H4.out⟩
set_option maxHeartbeats 400000 in
theorem own_set (h : Own (Tbl p n bits N keep S :: l) w) (f : Int) (x : FD) (hx0 : 0 ≤ x.ag ∧ x.ag < 18446744073709551616) :
    Calls Try.prog 27 #[.pointer (some ⟨p, 0, none⟩), .int .i64 f, fagg x] w fun e w' => e = .returned (.int .i64 (putE S f x)) ∧ Own (Tbl p n bits N keep (onT S f (put x)) :: l) w' := by
  have hok := fun hh : TI n N S => (show TI n N (onT S f (put x)) from put_ok hh hx0)
  obtain ⟨g, pb, pa, hx, h1⟩ := tb_open h
  have hok := hok hx.1
  have h2 : Own (TBl p g n pb pa keep :: RWs g n S.rows :: BF w.heap.size x :: Bkt pb bits n S.R :: Ar.Arena pa S.X :: l) (w.alloc (.cells (f7 x) 41)) := (Go.Proofs.Ytkdmlpigkmlkmaa.Own.blkNew h1 _ _).back3
  have HNN := none_any h2
  cases ha : atF S f with
  | none =>
    have ee : putE S f x = 2 := by unfold putE; rw [ha]
    have eo : onT S f (put x) = S := by unfold onT; rw [ha]
    rw [ee, eo]
    have HD := Lib.hid fun c => does_no (c := c) (at_no h2 hx.1 ha) HNN
    have HF := Lib.hid (h.step ((Ext.refl w).alloc (.cells (f7 x) 41)))
    clear h h1 h2 ha ee eo hx hok HNN
    go_enter Try.func27, Try.ntmps27
    go_wp2_with fail
    (with_reducible refine (HD.out _).mono ?_)
    rintro e w2 ⟨rfl, rfl⟩
    go_wp2_with fail
    go_ret
    exact ⟨rfl, HF.out⟩
  | some r =>
    obtain ⟨k, rfl, hr⟩ := atF_some ha
    have eo : onT S (k : Int) (put x) = ⟨S.rows.set k (some (put x r)), S.X, S.R⟩ := by unfold onT; rw [ha]; simp only [Int.toNat_natCast]; rfl
    have ee : putE S (k : Int) x = if decide (r.f.s = x.s) = true then 0 else 2 := by unfold putE; rw [ha]; simp
    have h3 : Own (RWs g n S.rows :: BF w.heap.size x :: TBl p g n pb pa keep :: Bkt pb bits n S.R :: Ar.Arena pa S.X :: l) (w.alloc (.cells (f7 x) 41)) := h2.swap.tail OwnIn.swap
    have hd := doesSet (LB := RWs g n (S.rows.set k (some (put x r))) :: BF w.heap.size x :: TBl p g n pb pa keep :: Bkt pb bits n S.R :: Ar.Arena pa S.X :: l) h2 (at_yes h2 hx.1 hr) HNN (set1 h3 hx.1.len hr)
    rw [← ee] at hd
    have HD := Lib.hid hd
    have HF : Hid (∀ w', Own (RWs g n (S.rows.set k (some (put x r))) :: BF w.heap.size x :: TBl p g n pb pa keep :: Bkt pb bits n S.R :: Ar.Arena pa S.X :: l) w' → Own (Tbl p n bits N keep (onT S (k : Int) (put x)) :: l) w') := Lib.hid fun w' h4 => tb_shut (g := g) (pb := pb) (pa := pa) ⟨hok, hx.2⟩ (by rw [eo]; exact h4.swap.drop.swap)
    clear h h1 h2 h3 ha ee hx hok HNN hr hd
    go_enter Try.func27, Try.ntmps27
    go_wp2_with fail
    (with_reducible refine (HD.out).mono ?_)
    rintro e w2 ⟨rfl, h4⟩
    have H4 := Lib.hid (HF.out _ h4)
    clear h4 HF HD eo
    go_wp2_with fail
    go_ret
    exact ⟨rfl, H4.out⟩
end
end Go.Proofs.Ytkdmlpigkmlkmaa.Tb
--  DERIVED. Layer 14 (table): New; a table that is none. 
set_option linter.unusedVariables false
set_option linter.unusedSimpArgs false
set_option maxRecDepth 100000
namespace Go.Proofs.Ytkdmlpigkmlkmaa.Tb
open Go.RowKit Go.Proofs.Ytkdmlpigkmlkmaa Go.Proofs.Ytkdmlpigkmlkmaa.TreeP Go.Proofs.Ytkdmlpigkmlkmaa.Tr Go.Proofs.Ytkdmlpigkmlkmaa.Bk

abbrev zrow : Value := .agg #[.int .u64 0, .int .u64 0, .int .u64 0, .int .i64 0, .int .u64 0, .int .u64 0, .int .u64 0, .int .u64 0, .bool false]
theorem infoRow : (Try.prog.info? 103).map (fun i => (i.zero, i.size, i.bytes)) = some (some zrow, 9, 72) := by kernel_rfl
theorem made_rows (n : Nat) : (madeCells zrow.cells (n * 9)).toList = (List.replicate n none).flatMap rc := by
  apply List.ext_getElem?
  intro j
  have hl : ((List.replicate n none).flatMap rc).length = n * 9 := by rw [rows_len, List.length_replicate]
  by_cases hj : j < n * 9
  · obtain ⟨k, c, hk, hc, rfl⟩ : ∃ k c, k < n ∧ c < 9 ∧ j = k * 9 + c := ⟨j / 9, j % 9, by omega, by omega, by omega⟩
    obtain ⟨pre, post, h1, h2, -⟩ := rows_split (List.replicate n none) k (by simpa using hk)
    have hr : rowAt (List.replicate n none) k = none := by unfold rowAt; simp [List.getD, hk]
    rw [h2, hr, get_mid h1 (by rw [rc_len]; exact hc)]
    have hm : (k * 9 + c) % 9 = c := by omega
    have hz : zrow.cells.size = 9 := rfl
    simp only [madeCells, hz]
    rw [Array.getElem?_toList, Array.getElem?_map, Array.getElem?_range, if_pos hj, Option.map_some]
    have : c = 0 ∨ c = 1 ∨ c = 2 ∨ c = 3 ∨ c = 4 ∨ c = 5 ∨ c = 6 ∨ c = 7 ∨ c = 8 := by omega
    simp only [hm]
    rcases this with rfl | rfl | rfl | rfl | rfl | rfl | rfl | rfl | rfl <;> rfl
  · rw [List.getElem?_eq_none (by simp [size_madeCells]; omega), List.getElem?_eq_none (by omega)]
theorem new_bad (n b k : Int) (hb : n < 1 ∨ 4096 < n ∨ b < 0 ∨ 10 < b) (w : World) :
    Calls Try.prog 12 #[.int .i64 n, .int .i64 b, .int .u64 k] w fun e w' => e = .returned (.tuple #[.pointer none, .int .i64 2]) ∧ w = w' := by
  have HNB := Lib.hid (Bk.new_not b n (by omega) w)
  clear hb
  go_enter Try.func12, Try.ntmps12
  go_wp2_with (go_at_call 46; (with_reducible refine (HNB.out).mono ?_); rintro e w' ⟨rfl, rfl⟩)
  go_ret2
  exact ⟨rfl, rfl⟩
set_option maxHeartbeats 1000000 in
theorem own_new {l : List HP} {w : World} (n b : Nat) (keep : Int) (n1 : 1 ≤ n) (n2 : n ≤ 4096) (hb : b ≤ 10) (k0 : 0 ≤ keep) (k1 : keep ≤ 18446744073709551615) (h : Own l w) :
    Calls Try.prog 12 #[.int .i64 (n : Int), .int .i64 (b : Int), .int .u64 keep] w fun e w' => ∃ p, e = .returned (.tuple #[.pointer (some ⟨p, 0, none⟩), .int .i64 0]) ∧ Own (Tbl p n b 0 keep (freshT n) :: l) w' := by
  obtain ⟨i0, hi, hzz⟩ := Option.map_eq_some_iff.1 infoRow
  simp only [Prod.mk.injEq] at hzz
  obtain ⟨hz0, hz1, hz2⟩ := hzz
  have HNB := Lib.hid (Bk.own_new b n hb n1 n2 h)
  have HI := Lib.hid hi
  have HZ0 := Lib.hid hz0
  have HZ1 := Lib.hid hz1
  have B2 := Lib.hid (show i0.bytes * n ≤ 281474976710656 by rw [hz2]; omega)
  have B3 := Lib.hid (show n ≤ maxLen by simp only [maxLen]; omega)
  have HOK : Hid (TI n 0 (freshT n) ∧ b ≤ 10 ∧ 0 ≤ keep ∧ keep ≤ 18446744073709551615) := Lib.hid ⟨fresh_ok n1 n2, hb, k0, k1⟩
  have HN1 := Lib.hid (And.intro n1 n2)
  clear hi hz0 hz1 hz2 h hb k0 k1
  go_enter Try.func12, Try.ntmps12
  go_wp2_with fail
  (with_reducible refine (HNB.out).mono ?_)
  rintro e w1 ⟨pb, rfl, h1⟩
  have HAN := Lib.hid (Ar.own_new n HN1.out.1 (by have := HN1.out.2; omega) h1)
  clear h1 HNB
  go_wp2_with fail
  (with_reducible refine (HAN.out).mono ?_)
  rintro e w2 ⟨pa, rfl, h2, -⟩
  have H2 := Lib.hid h2
  clear h2 HAN
  go_wp2_with (refine wpList_make_full w2 rfl _ _ 78 rfl 0 103 i0 _ 9 Try.underlying78 HI.out HZ0.out HZ1.out .i64 .i64 (n : Int) (n : Int) n rfl rfl rfl rfl B2.out B3.out (Nat.zero_le _) ?_; intro w3 hrow hgrow; rw [made_rows] at hrow; have H3 := Lib.hid (H2.out.new (P := RWs w2.heap.size n (List.replicate n none)) (s := fun b => b = w2.heap.size) (Step.to_ext ((Step.refl _ w2).grown hgrow (fun k hk => by cases hk))) ⟨hrow, fun b => by simp [Value.ownBlock, eq_comm]⟩ (fun b hb => by rw [hb]; exact Nat.le_refl _)); clear hrow hgrow)
  have h4 := Go.Proofs.Ytkdmlpigkmlkmaa.Own.blkNew H3.out #[.slice (some ⟨w2.heap.size, 0, none⟩) n n, .pointer (some ⟨pb, 0, none⟩), .pointer (some ⟨pa, 0, none⟩), .int .u64 keep] 82
  have H4 : Hid (Own (Tbl w3.heap.size n b 0 keep (freshT n) :: l) (w3.alloc (.cells #[.slice (some ⟨w2.heap.size, 0, none⟩) n n, .pointer (some ⟨pb, 0, none⟩), .pointer (some ⟨pa, 0, none⟩), .int .u64 keep] 82))) := Lib.hid (tb_shut (S := freshT n) (g := w2.heap.size) (pb := pb) (pa := pa) HOK.out (by
    have h5 : Own (TBl w3.heap.size w2.heap.size n pb pa keep :: RWs w2.heap.size n (List.replicate n none) :: Ar.Arena pa (Ar.fresh n) :: Bkt pb b n [] :: l) _ := h4
    exact h5.tail fun h => h.tail OwnIn.swap))
  clear h4 H3 H2
  go_wp2_with fail
  go_ret2
  exact ⟨_, rfl, H4.out⟩
end Go.Proofs.Ytkdmlpigkmlkmaa.Tb
