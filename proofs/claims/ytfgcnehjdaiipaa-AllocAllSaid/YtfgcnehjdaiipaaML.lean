/- Contracts of ir.of, Sort, Reads, Writes, place, and of the document's. -/
import Derived.Test.YtfgcnehjdaiipaaMK
import Derived.Test.YtfgcnehjdaiipaaTA
import Derived.Test.YtfgcnehjdaiipaaMC
import Derived.Test.YtfgcnehjdaiipaaMI
/- sync/atomic of the program. -/
namespace Go.Lm
open Go.Proofs
theorem ald_tc {k off e : Nat} {ro : Bool} {c : Array Value} {n : Int} {m : Mem} (hm : m.get k = .cells ro e c) (hc : c[off]? = some (.int .i64 n)) {Q : Value → Mem → Prop} (h : Q (.int .i64 n) m) : TC Try.prog 173 [.pointer (some ⟨k, off, none⟩)] m Q :=
  atomicLoad_tc Try.func173 rfl (by decide) (by kernel_rfl) (by kernel_rfl) hm hc h
theorem aad_tc {k off e : Nat} {c : Array Value} {n d : Int} {m : Mem} (hm : m.get k = .cells false e c) (hc : c[off]? = some (.int .i64 n)) {Q : Value → Mem → Prop}
    (h : Q (.int .i64 (IntKind.i64.wrap (n + d))) (m.put k (.cells false e (c.setIfInBounds off (.int .i64 (IntKind.i64.wrap (n + d))))))) : TC Try.prog 167 [.pointer (some ⟨k, off, none⟩), .int .i64 d] m Q :=
  atomicAdd_tc Try.func167 rfl (by decide) (by kernel_rfl) (by kernel_rfl) hm hc h
end Go.Lm
/- page: contracts. -/
set_option linter.unusedSimpArgs false
set_option linter.unusedVariables false
namespace Go.Lm
open Go.Proofs

/-- a page: its bytes, what it may be, how often it was written -/
structure Pg where
  b : List Nat
  perm : Nat
  writes : Int
def u8V (n : Nat) : Value := .int .u8 (n : Int)
def pgA (p : Pg) : Array Value := (p.b.map u8V ++ [Value.int .i64 p.perm, Value.int .i64 p.writes]).toArray
structure Pg.ok (p : Pg) : Prop where
  len : p.b.length = 256
  lt : ∀ x ∈ p.b, x < 256
  perm : p.perm < 8
def noPg (perm : Nat) : Pg := ⟨List.replicate 256 0, perm, 0⟩

theorem pgA_size {p : Pg} (h : p.ok) : (pgA p).size = 258 := by simp [pgA, h.len]
theorem pgA_perm {p : Pg} (h : p.ok) : (pgA p)[256]? = some (.int .i64 p.perm) := by
  simp only [pgA, List.getElem?_toArray]
  rw [List.getElem?_append_right (by simp [h.len])]; simp [h.len]
theorem pgA_writes {p : Pg} (h : p.ok) : (pgA p)[257]? = some (.int .i64 p.writes) := by
  simp only [pgA, List.getElem?_toArray]
  rw [List.getElem?_append_right (by simp [h.len])]; simp [h.len]
theorem pgA_byte {p : Pg} (h : p.ok) {i : Nat} (hi : i < 256) : (pgA p)[i]? = some (u8V (p.b.getD i 0)) := by
  simp only [pgA, List.getElem?_toArray]
  rw [List.getElem?_append_left (by simp [h.len]; exact hi), List.getElem?_map, List.getD_eq_getElem?_getD, List.getElem?_eq_getElem (by rw [h.len]; exact hi)]; rfl
theorem pgA_setPerm {p : Pg} (h : p.ok) (q : Nat) : (pgA p).setIfInBounds 256 (.int .i64 (q : Int)) = pgA { p with perm := q } := by
  simp [pgA, List.set_append, h.len]
theorem pgA_setWrites {p : Pg} (h : p.ok) (q : Int) : (pgA p).setIfInBounds 257 (.int .i64 q) = pgA { p with writes := q } := by
  simp [pgA, List.set_append, h.len]
theorem pgA_setByte {p : Pg} (h : p.ok) {i : Nat} (hi : i < 256) (v : Nat) : (pgA p).setIfInBounds i (u8V v) = pgA { p with b := p.b.set i v } := by
  simp [pgA, List.set_append, h.len, hi, List.map_set]
theorem pgA_gnd (p : Pg) : ∀ x ∈ pgA p, gnd0 x = true := by
  intro x hx
  simp only [pgA, List.mem_toArray, List.mem_append, List.mem_map, List.mem_cons, List.not_mem_nil, or_false] at hx
  rcases hx with ⟨_, _, rfl⟩ | rfl | rfl <;> rfl

theorem and7 (x : Int) : iand .i64 x 7 = ((x % 8).toNat : Int) := by
  unfold iand
  have e1 : (BitVec.ofInt IntKind.i64.bits x).toNat = (x % 18446744073709551616).toNat := by
    rw [BitVec.toNat_ofInt]; rfl
  have e2 : (BitVec.ofInt IntKind.i64.bits 7).toNat = 2 ^ 3 - 1 := rfl
  rw [BitVec.toNat_and, e1, e2, Nat.and_two_pow_sub_one_eq_mod]
  have : (x % 18446744073709551616).toNat % 2 ^ 3 = (x % 8).toNat := by omega
  rw [this]
  exact wI64 (by omega) (by omega)

theorem pgPerm_tc {p : Pg} (h : p.ok) {k : Nat} {m : Mem} (hm : m.get k = .cells false 0 (pgA p)) {Q : Value → Mem → Prop} (hq : Q (.int .i64 p.perm) m) : TC Try.prog 140 [.pointer (some ⟨k, 0, none⟩)] m Q := by
  refine TC_fn mixed Try.func140 rfl Try.ntmps140 rfl (by decide) (by simp) ?_
  have htop := lt_cells hm
  simp -dsimp [get_base, htop, hm, pgA_perm h]
  exact fin_ret rfl (leave_pure (by simp) hq)

theorem pgSetPerm_tc {p : Pg} (h : p.ok) {k : Nat} {m : Mem} (hm : m.get k = .cells false 0 (pgA p)) (x : Int) {Q : Value → Mem → Prop} (hq : Q (.tuple #[]) (m.put k (.cells false 0 (pgA { p with perm := (x % 8).toNat })))) :
    TC Try.prog 139 [.pointer (some ⟨k, 0, none⟩), .int .i64 x] m Q := by
  refine TC_fn mixed Try.func139 rfl Try.ntmps139 rfl (by decide) (by simp) ?_
  have htop := lt_cells hm
  have h7 := and7 x
  generalize (x % 8).toNat = q at *
  simp -dsimp [get_base, put_base, htop, hm, pgA_size h, h7, pgA_setPerm h]
  exact fin_end (v := .tuple #[]) (by simp) (leave_put (by rw [hm]; intro x; cases x) (by intro x; cases x) (by simp) (fun x hx => okS_gnd0 (pgA_gnd _ x hx)) hq)

theorem pgByte_tc {p : Pg} (h : p.ok) {k : Nat} {m : Mem} (hm : m.get k = .cells false 0 (pgA p)) (i : Nat) (hi : i < 256) {Q : Value → Mem → Prop} (hq : Q (u8V (p.b.getD i 0)) m) :
    TC Try.prog 174 [.pointer (some ⟨k, 0, none⟩), .int .i64 i] m Q := by
  refine TC_fn mixed Try.func174 rfl Try.ntmps174 rfl (by decide) (by simp) ?_
  have htop := lt_cells hm
  have h1 : ¬ (i : Int) < 0 := by omega
  have h2 : ¬ (256 : Int) ≤ i := by omega
  have h3 : (i : Int) < 256 := by omega
  simp -dsimp [get_base, htop, hm, h1, h2, h3, pgA_byte h hi, undef]
  exact fin_ret rfl (leave_pure (by simp [u8V]) hq)

theorem Mset_Mset (M : Nat → Ob) (k : Nat) (a b : Ob) : Mset (Mset M k a) k b = Mset M k b := by
  funext j
  simp only [Mset]
  split <;> rfl

theorem aLoad_tc {k off e : Nat} {ro : Bool} {c : Array Value} {n : Int} {m : Mem} (hm : m.get k = .cells ro e c) (hc : c[off]? = some (.int .i64 n)) {Q : Value → Mem → Prop} (h : Q (.int .i64 n) m) : TC Try.prog 141 [.pointer (some ⟨k, off, none⟩)] m Q := by
  refine TC_fn mixed Try.func141 rfl Try.ntmps141 rfl (by decide) (by simp) ?_
  have htop := lt_cells hm
  simp -dsimp
  refine ald_tc (ro := ro) (e := e) (c := c) (by simp -dsimp [get_base, htop, hm]) hc ?_
  simp -dsimp
  exact fin_ret rfl (leave_pure (by simp) h)
theorem aAdd_tc {k off e : Nat} {c : Array Value} (c' : Array Value) {n d : Int} {m : Mem} (hm : m.get k = .cells false e c) (hc : c[off]? = some (.int .i64 n)) (hok : okO (fun k => m.get k ≠ .free) (.cells false e c))
    (hc' : c.setIfInBounds off (.int .i64 (IntKind.i64.wrap (n + d))) = c') {Q : Value → Mem → Prop} (h : Q (.int .i64 (IntKind.i64.wrap (n + d))) (m.put k (.cells false e c'))) : TC Try.prog 115 [.pointer (some ⟨k, off, none⟩), .int .i64 d] m Q := by
  subst hc'
  refine TC_fn mixed Try.func115 rfl Try.ntmps115 rfl (by decide) (by simp) ?_
  have htop := lt_cells hm
  simp -dsimp
  refine aad_tc (e := e) (c := c) (n := n) (by simp -dsimp [get_base, htop, hm]) hc ?_
  simp -dsimp [put_base, htop]
  refine fin_ret rfl (leave_put (by rw [hm]; intro x; cases x) (by intro x; cases x) (by simp) (fun x hx => ?_) h)
  rcases Array.mem_or_eq_of_mem_setIfInBounds hx with h1 | h1
  · exact hok x h1
  · subst h1; exact okS_gnd0 rfl

set_option maxRecDepth 100000 in
theorem pgSetByte_tc {p : Pg} (h : p.ok) {k : Nat} {m : Mem} (hm : m.get k = .cells false 0 (pgA p)) (i v : Nat) (hi : i < 256) {Q : Value → Mem → Prop}
    (hq : Q (.tuple #[]) (m.put k (.cells false 0 (pgA { p with b := p.b.set i v, writes := IntKind.i64.wrap (p.writes + 1) })))) : TC Try.prog 144 [.pointer (some ⟨k, 0, none⟩), .int .i64 i, u8V v] m Q := by
  refine TC_fn mixed Try.func144 rfl Try.ntmps144 rfl (by decide) (by simp) ?_
  have htop := lt_cells hm
  have h1 : ¬ (i : Int) < 0 := by omega
  have h2 : ¬ (256 : Int) ≤ i := by omega
  have h3 : (i : Int) < 256 := by omega
  have h4 : i < 258 := by omega
  have h5 : i + 1 ≤ 258 := by omega
  have hset := pgA_setByte h hi v
  unfold u8V at hset
  have hok2 : ({ p with b := p.b.set i v } : Pg).ok ∨ True := .inr trivial
  have hlen : (p.b.set i v).length = 256 := by rw [List.length_set]; exact h.len
  have hw : (pgA { p with b := p.b.set i v })[257]? = some (.int .i64 p.writes) := by
    simp [pgA, List.getElem?_append, h.len]
  have hsw : (pgA { p with b := p.b.set i v }).setIfInBounds 257 (.int .i64 (IntKind.i64.wrap (p.writes + 1))) = pgA { p with b := p.b.set i v, writes := IntKind.i64.wrap (p.writes + 1) } := by
    simp [pgA, List.set_append, h.len]
  unfold u8V
  refine wpc_sq fun K hK => ?_
  simp -dsimp [h1, h2, undef]
  refine hK _ _ ?_
  clear hK K
  refine wpc_st fun K hK => ?_
  simp -dsimp [get_base, put_base, htop, hm, pgA_size h, h3, h4, h5, hset]
  refine hK _ _ ?_
  clear hK K
  simp -dsimp
  refine aAdd_tc (e := 0) (c := pgA { p with b := p.b.set i v }) _ (n := p.writes) (by simp -dsimp [get_base, htop]) hw (fun x hx => okS_gnd0 (pgA_gnd _ x hx)) hsw ?_
  have hg : ∀ x ∈ pgA { p with b := p.b.set i v, writes := IntKind.i64.wrap (p.writes + 1) }, gnd0 x = true := pgA_gnd _
  clear hsw hw hset
  generalize pgA { p with b := p.b.set i v, writes := IntKind.i64.wrap (p.writes + 1) } = A at *
  generalize pgA { p with b := p.b.set i v } = A' at *
  simp -dsimp [put_base, htop, Mset_Mset]
  exact fin_end (v := .tuple #[]) (by simp) (leave_put (by rw [hm]; intro x; cases x) (by intro x; cases x) (by simp) (fun x hx => okS_gnd0 (hg x hx)) hq)

/-- A new object is handed back by its place. -/
theorem leave_ptr {m : Mem} {loc : List Ob} {i e : Nat} {c : Array Value} {Q : Value → Mem → Prop} (hi : loc[i]? = some (.cells false e c)) (hc : ∀ x ∈ c, gnd0 x = true)
    (h : Q (.pointer (some ⟨m.top, 0, none⟩)) (m.put m.top (.cells false e c))) :
    ∃ m0 v1, Nonempty (Leave m { base := m.get, n := m.top, loc := loc } (.pointer (some ⟨m.top + i, 0, none⟩)) m0 v1) ∧ Q v1 m0 := by
  have ht := tau_ge m (fun _ => i) 0
  rw [Nat.add_zero] at ht
  refine leave_all m [.cells false e c] (fun _ => i) rfl (fun k hk => hk) (fun k hk ha => .inl ⟨rfl, rfl⟩) (fun j o hj ha => ?_) (fun j j' hne h1 h2 => absurd hne (by simp at h1 h2; omega)) (v0 := .pointer (some ⟨m.top, 0, none⟩)) ?_ ?_ ?_
  · cases j with
    | succ j => simp at hj
    | zero =>
      simp only [List.getElem?_cons_zero, Option.some.injEq] at hj
      subst hj
      refine ⟨?_, fun x hx => okS_gnd0 (hc x hx)⟩
      simp only [hi, Option.getD_some, rnO, rn_gnds hc]
  · show Value.pointer _ = Value.pointer (some (rnA _ _))
    simp only [rnA, ht]
  · show (m.adds _).get m.top ≠ .free
    have := m.adds_ge [.cells false e c] 0
    rw [Nat.add_zero] at this
    rw [this]
    simp
  · rw [Mem.adds_one]; exact h

/-- A new object is handed back under a number that is free. -/
theorem leave_ptr_at {m : Mem} {loc : List Ob} {i e kk : Nat} {c : Array Value} {Q : Value → Mem → Prop} (hi : loc[i]? = some (.cells false e c)) (hc : ∀ x ∈ c, gnd0 x = true) (hf : m.get kk = .free)
    (h : Q (.pointer (some ⟨kk, 0, none⟩)) (m.put kk (.cells false e c))) :
    ∃ m0 v1, Nonempty (Leave m { base := m.get, n := m.top, loc := loc } (.pointer (some ⟨m.top + i, 0, none⟩)) m0 v1) ∧ Q v1 m0 := by
  have hg : (m.put kk (.cells false e c)).get = Mset m.get kk (.cells false e c) := Mem.get_put _ _ _
  have hlt : ∀ k, k ≠ kk → ((m.put kk (.cells false e c)).get k).alive = true → (m.get k).alive = true ∧ k < m.top := fun k hk ha => by
    rw [hg, Mset_ne _ _ hk] at ha
    exact ⟨ha, get_lt fun e => by rw [e] at ha; cases ha⟩
  refine ⟨m.put kk (.cells false e c), .pointer (some ⟨kk, 0, none⟩), ⟨⟨fun x => if x = kk then m.top + i else x, ?_, ?_, fun k hk => ⟨?_, ?_⟩, fun k hk => ?_, fun k k' hne hk hk' => ?_⟩⟩, h⟩
  · show Value.pointer _ = Value.pointer (some (rnA _ _))
    simp only [rnA, if_true]
  · show (m.put kk _).get kk ≠ .free
    rw [hg, Mset_same]; intro e; cases e
  · have e1 : k ≠ kk := fun e => hk (by rw [e]; exact hf)
    exact if_neg e1
  · have e1 : k ≠ kk := fun e => hk (by rw [e]; exact hf)
    rw [hg, Mset_ne _ _ e1]; exact hk
  · by_cases e1 : k = kk
    · right
      rw [if_pos e1, e1, hg, Mset_same, get_loc, hi]
      refine ⟨?_, fun x hx => okS_gnd0 (hc x hx)⟩
      simp only [Option.getD_some, rnO, rn_gnds hc]
    · left
      obtain ⟨h1, h2⟩ := hlt k e1 hk
      exact ⟨fun e => (by rw [e] at h1; cases h1), by rw [hg, Mset_ne _ _ e1], get_base _ _ _ h2⟩
  · by_cases e1 : k = kk
    · by_cases e2 : k' = kk
      · exact absurd (e1.trans e2.symm) hne
      · rw [if_pos e1, if_neg e2]; have := (hlt k' e2 hk').2; omega
    · by_cases e2 : k' = kk
      · rw [if_neg e1, if_pos e2]; have := (hlt k e1 hk).2; omega
      · rw [if_neg e1, if_neg e2]; exact hne

set_option maxRecDepth 100000 in
theorem pgNew_tc (x : Int) {m : Mem} (kk : Nat) (hf : m.get kk = .free) {Q : Value → Mem → Prop} (hq : Q (.pointer (some ⟨kk, 0, none⟩)) (m.put kk (.cells false 0 (pgA (noPg (x % 8).toNat))))) : TC Try.prog 142 [.int .i64 x] m Q := by
  refine TC_fn mixed Try.func142 rfl Try.ntmps142 rfl (by decide) (by simp) ?_
  have h7 := and7 x
  generalize (x % 8).toNat = q at *
  simp -dsimp [h7]
  exact fin_ret rfl (leave_ptr_at (i := 0) (c := pgA (noPg q)) (by kernel_rfl) (pgA_gnd _) hf hq)
end Go.Lm
/- ir.of, the document's Sort: what a kind of operation reads and writes. Written by gen_g1.py. -/
set_option linter.unusedSimpArgs false
set_option linter.unusedVariables false
namespace Go.Lm
open Go.Proofs

/-- what a kind reads (1 A, 2 B, 4 D), whether it writes D (8), has a number (16), ends a block (32); 0: it is none -/
def sortN (k : Int) : Nat :=
  if k = 1 then 24 else if k = 2 ∨ k = 21 ∨ k = 22 ∨ (27 ≤ k ∧ k ≤ 30) then 9 else if (3 ≤ k ∧ k ≤ 20) ∨ k = 25 ∨ k = 26 ∨ k = 31 ∨ k = 32 then 11 else if k = 23 ∨ k = 24 then 15
  else if 33 ≤ k ∧ k ≤ 38 then 3 else if 40 ≤ k ∧ k ≤ 46 then 27 else if 50 ≤ k ∧ k ≤ 54 then 19 else if k = 60 then 48 else if k = 61 then 33 else if k = 62 then 49 else 0
def bitN (n b : Nat) : Bool := decide (n / b % 2 = 1)
def shapeV (n : Nat) : Value := .agg #[.bool (bitN n 1), .bool (bitN n 2), .bool (bitN n 4), .bool (bitN n 8), .bool (bitN n 16)]

theorem sort_cases (k : Int) : k ≤ 0 ∨ k = 1 ∨ k = 2 ∨ (3 ≤ k ∧ k ≤ 20) ∨ k = 21 ∨ k = 22 ∨ k = 23 ∨ k = 24 ∨ k = 25 ∨ k = 26 ∨ (27 ≤ k ∧ k ≤ 30) ∨ k = 31 ∨ k = 32 ∨ (33 ≤ k ∧ k ≤ 38) ∨ k = 39 ∨ (40 ≤ k ∧ k ≤ 46) ∨ (47 ≤ k ∧ k ≤ 49) ∨ (50 ≤ k ∧ k ≤ 54) ∨ (55 ≤ k ∧ k ≤ 59) ∨ k = 60 ∨ k = 61 ∨ k = 62 ∨ 63 ≤ k := by omega

set_option maxRecDepth 100000 in
set_option maxHeartbeats 16000000 in
theorem rsort_tc (k : Int) (m : Mem) (Q) (h : Q (.int .i64 (sortN k : Nat)) m) : TC Try.prog 113 [.int .i64 k] m Q := by
  refine TC_fn mixed Try.func113 rfl Try.ntmps113 rfl (by decide) (by simp) ?_
  rcases sort_cases k with hc | hc | hc | hc | hc | hc | hc | hc | hc | hc | hc | hc | hc | hc | hc | hc | hc | hc | hc | hc | hc | hc | hc
  · have hv : sortN k = 0 := by unfold sortN; (repeat' split) <;> omega
    rw [hv] at h
    clear hv
    have a0 : ¬ k = 1 := by omega
    have a1 : ¬ 1 ≤ k := by omega
    have a2 : k ≤ 1 := by omega
    have a3 : ¬ k = 2 := by omega
    have a4 : ¬ 2 ≤ k := by omega
    have a5 : k ≤ 2 := by omega
    have a6 : ¬ k = 3 := by omega
    have a7 : ¬ 3 ≤ k := by omega
    have a8 : k ≤ 3 := by omega
    have a9 : ¬ k = 20 := by omega
    have a10 : ¬ 20 ≤ k := by omega
    have a11 : k ≤ 20 := by omega
    have a12 : ¬ k = 21 := by omega
    have a13 : ¬ 21 ≤ k := by omega
    have a14 : k ≤ 21 := by omega
    have a15 : ¬ k = 22 := by omega
    have a16 : ¬ 22 ≤ k := by omega
    have a17 : k ≤ 22 := by omega
    have a18 : ¬ k = 23 := by omega
    have a19 : ¬ 23 ≤ k := by omega
    have a20 : k ≤ 23 := by omega
    have a21 : ¬ k = 24 := by omega
    have a22 : ¬ 24 ≤ k := by omega
    have a23 : k ≤ 24 := by omega
    have a24 : ¬ k = 25 := by omega
    have a25 : ¬ 25 ≤ k := by omega
    have a26 : k ≤ 25 := by omega
    have a27 : ¬ k = 26 := by omega
    have a28 : ¬ 26 ≤ k := by omega
    have a29 : k ≤ 26 := by omega
    have a30 : ¬ k = 27 := by omega
    have a31 : ¬ 27 ≤ k := by omega
    have a32 : k ≤ 27 := by omega
    have a33 : ¬ k = 30 := by omega
    have a34 : ¬ 30 ≤ k := by omega
    have a35 : k ≤ 30 := by omega
    have a36 : ¬ k = 31 := by omega
    have a37 : ¬ 31 ≤ k := by omega
    have a38 : k ≤ 31 := by omega
    have a39 : ¬ k = 32 := by omega
    have a40 : ¬ 32 ≤ k := by omega
    have a41 : k ≤ 32 := by omega
    have a42 : ¬ k = 33 := by omega
    have a43 : ¬ 33 ≤ k := by omega
    have a44 : k ≤ 33 := by omega
    have a45 : ¬ k = 38 := by omega
    have a46 : ¬ 38 ≤ k := by omega
    have a47 : k ≤ 38 := by omega
    have a48 : ¬ k = 40 := by omega
    have a49 : ¬ 40 ≤ k := by omega
    have a50 : k ≤ 40 := by omega
    have a51 : ¬ k = 46 := by omega
    have a52 : ¬ 46 ≤ k := by omega
    have a53 : k ≤ 46 := by omega
    have a54 : ¬ k = 50 := by omega
    have a55 : ¬ 50 ≤ k := by omega
    have a56 : k ≤ 50 := by omega
    have a57 : ¬ k = 54 := by omega
    have a58 : ¬ 54 ≤ k := by omega
    have a59 : k ≤ 54 := by omega
    have a60 : ¬ k = 60 := by omega
    have a61 : ¬ 60 ≤ k := by omega
    have a62 : k ≤ 60 := by omega
    have a63 : ¬ k = 61 := by omega
    have a64 : ¬ 61 ≤ k := by omega
    have a65 : k ≤ 61 := by omega
    have a66 : ¬ k = 62 := by omega
    have a67 : ¬ 62 ≤ k := by omega
    have a68 : k ≤ 62 := by omega
    simp -dsimp -implicitDefEqProofs [undef, a0, a1, a2, a3, a4, a5, a6, a7, a8, a9, a10, a11, a12, a13, a14, a15, a16, a17, a18, a19, a20, a21, a22, a23, a24, a25, a26, a27, a28, a29, a30, a31, a32, a33, a34, a35, a36, a37, a38, a39, a40, a41, a42, a43, a44, a45, a46, a47, a48, a49, a50, a51, a52, a53, a54, a55, a56, a57, a58, a59, a60, a61, a62, a63, a64, a65, a66, a67, a68]
    exact fin_ret rfl (leave_pure (by simp) h)
  · have hv : sortN k = 24 := by unfold sortN; (repeat' split) <;> omega
    rw [hv] at h
    clear hv
    subst hc
    simp -dsimp -implicitDefEqProofs [undef]
    exact fin_ret rfl (leave_pure (by simp) h)
  · have hv : sortN k = 9 := by unfold sortN; (repeat' split) <;> omega
    rw [hv] at h
    clear hv
    subst hc
    simp -dsimp -implicitDefEqProofs [undef]
    exact fin_ret rfl (leave_pure (by simp) h)
  · have hv : sortN k = 11 := by unfold sortN; (repeat' split) <;> omega
    rw [hv] at h
    clear hv
    have a0 : ¬ k = 1 := by omega
    have a1 : 1 ≤ k := by omega
    have a2 : ¬ k ≤ 1 := by omega
    have a3 : ¬ k = 2 := by omega
    have a4 : 2 ≤ k := by omega
    have a5 : ¬ k ≤ 2 := by omega
    have a6 : 3 ≤ k := by omega
    have a7 : k ≤ 20 := by omega
    have a8 : ¬ k = 21 := by omega
    have a9 : ¬ 21 ≤ k := by omega
    have a10 : k ≤ 21 := by omega
    have a11 : ¬ k = 22 := by omega
    have a12 : ¬ 22 ≤ k := by omega
    have a13 : k ≤ 22 := by omega
    have a14 : ¬ k = 23 := by omega
    have a15 : ¬ 23 ≤ k := by omega
    have a16 : k ≤ 23 := by omega
    have a17 : ¬ k = 24 := by omega
    have a18 : ¬ 24 ≤ k := by omega
    have a19 : k ≤ 24 := by omega
    have a20 : ¬ k = 25 := by omega
    have a21 : ¬ 25 ≤ k := by omega
    have a22 : k ≤ 25 := by omega
    have a23 : ¬ k = 26 := by omega
    have a24 : ¬ 26 ≤ k := by omega
    have a25 : k ≤ 26 := by omega
    have a26 : ¬ k = 27 := by omega
    have a27 : ¬ 27 ≤ k := by omega
    have a28 : k ≤ 27 := by omega
    have a29 : ¬ k = 30 := by omega
    have a30 : ¬ 30 ≤ k := by omega
    have a31 : k ≤ 30 := by omega
    have a32 : ¬ k = 31 := by omega
    have a33 : ¬ 31 ≤ k := by omega
    have a34 : k ≤ 31 := by omega
    have a35 : ¬ k = 32 := by omega
    have a36 : ¬ 32 ≤ k := by omega
    have a37 : k ≤ 32 := by omega
    have a38 : ¬ k = 33 := by omega
    have a39 : ¬ 33 ≤ k := by omega
    have a40 : k ≤ 33 := by omega
    have a41 : ¬ k = 38 := by omega
    have a42 : ¬ 38 ≤ k := by omega
    have a43 : k ≤ 38 := by omega
    have a44 : ¬ k = 40 := by omega
    have a45 : ¬ 40 ≤ k := by omega
    have a46 : k ≤ 40 := by omega
    have a47 : ¬ k = 46 := by omega
    have a48 : ¬ 46 ≤ k := by omega
    have a49 : k ≤ 46 := by omega
    have a50 : ¬ k = 50 := by omega
    have a51 : ¬ 50 ≤ k := by omega
    have a52 : k ≤ 50 := by omega
    have a53 : ¬ k = 54 := by omega
    have a54 : ¬ 54 ≤ k := by omega
    have a55 : k ≤ 54 := by omega
    have a56 : ¬ k = 60 := by omega
    have a57 : ¬ 60 ≤ k := by omega
    have a58 : k ≤ 60 := by omega
    have a59 : ¬ k = 61 := by omega
    have a60 : ¬ 61 ≤ k := by omega
    have a61 : k ≤ 61 := by omega
    have a62 : ¬ k = 62 := by omega
    have a63 : ¬ 62 ≤ k := by omega
    have a64 : k ≤ 62 := by omega
    simp -dsimp -implicitDefEqProofs [undef, a0, a1, a2, a3, a4, a5, a6, a7, a8, a9, a10, a11, a12, a13, a14, a15, a16, a17, a18, a19, a20, a21, a22, a23, a24, a25, a26, a27, a28, a29, a30, a31, a32, a33, a34, a35, a36, a37, a38, a39, a40, a41, a42, a43, a44, a45, a46, a47, a48, a49, a50, a51, a52, a53, a54, a55, a56, a57, a58, a59, a60, a61, a62, a63, a64]
    exact fin_ret rfl (leave_pure (by simp) h)
  · have hv : sortN k = 9 := by unfold sortN; (repeat' split) <;> omega
    rw [hv] at h
    clear hv
    subst hc
    simp -dsimp -implicitDefEqProofs [undef]
    exact fin_ret rfl (leave_pure (by simp) h)
  · have hv : sortN k = 9 := by unfold sortN; (repeat' split) <;> omega
    rw [hv] at h
    clear hv
    subst hc
    simp -dsimp -implicitDefEqProofs [undef]
    exact fin_ret rfl (leave_pure (by simp) h)
  · have hv : sortN k = 15 := by unfold sortN; (repeat' split) <;> omega
    rw [hv] at h
    clear hv
    subst hc
    simp -dsimp -implicitDefEqProofs [undef]
    exact fin_ret rfl (leave_pure (by simp) h)
  · have hv : sortN k = 15 := by unfold sortN; (repeat' split) <;> omega
    rw [hv] at h
    clear hv
    subst hc
    simp -dsimp -implicitDefEqProofs [undef]
    exact fin_ret rfl (leave_pure (by simp) h)
  · have hv : sortN k = 11 := by unfold sortN; (repeat' split) <;> omega
    rw [hv] at h
    clear hv
    subst hc
    simp -dsimp -implicitDefEqProofs [undef]
    exact fin_ret rfl (leave_pure (by simp) h)
  · have hv : sortN k = 11 := by unfold sortN; (repeat' split) <;> omega
    rw [hv] at h
    clear hv
    subst hc
    simp -dsimp -implicitDefEqProofs [undef]
    exact fin_ret rfl (leave_pure (by simp) h)
  · have hv : sortN k = 9 := by unfold sortN; (repeat' split) <;> omega
    rw [hv] at h
    clear hv
    have a0 : ¬ k = 1 := by omega
    have a1 : 1 ≤ k := by omega
    have a2 : ¬ k ≤ 1 := by omega
    have a3 : ¬ k = 2 := by omega
    have a4 : 2 ≤ k := by omega
    have a5 : ¬ k ≤ 2 := by omega
    have a6 : ¬ k = 3 := by omega
    have a7 : 3 ≤ k := by omega
    have a8 : ¬ k ≤ 3 := by omega
    have a9 : ¬ k = 20 := by omega
    have a10 : 20 ≤ k := by omega
    have a11 : ¬ k ≤ 20 := by omega
    have a12 : ¬ k = 21 := by omega
    have a13 : 21 ≤ k := by omega
    have a14 : ¬ k ≤ 21 := by omega
    have a15 : ¬ k = 22 := by omega
    have a16 : 22 ≤ k := by omega
    have a17 : ¬ k ≤ 22 := by omega
    have a18 : ¬ k = 23 := by omega
    have a19 : 23 ≤ k := by omega
    have a20 : ¬ k ≤ 23 := by omega
    have a21 : ¬ k = 24 := by omega
    have a22 : 24 ≤ k := by omega
    have a23 : ¬ k ≤ 24 := by omega
    have a24 : ¬ k = 25 := by omega
    have a25 : 25 ≤ k := by omega
    have a26 : ¬ k ≤ 25 := by omega
    have a27 : ¬ k = 26 := by omega
    have a28 : 26 ≤ k := by omega
    have a29 : ¬ k ≤ 26 := by omega
    have a30 : 27 ≤ k := by omega
    have a31 : k ≤ 30 := by omega
    have a32 : ¬ k = 31 := by omega
    have a33 : ¬ 31 ≤ k := by omega
    have a34 : k ≤ 31 := by omega
    have a35 : ¬ k = 32 := by omega
    have a36 : ¬ 32 ≤ k := by omega
    have a37 : k ≤ 32 := by omega
    have a38 : ¬ k = 33 := by omega
    have a39 : ¬ 33 ≤ k := by omega
    have a40 : k ≤ 33 := by omega
    have a41 : ¬ k = 38 := by omega
    have a42 : ¬ 38 ≤ k := by omega
    have a43 : k ≤ 38 := by omega
    have a44 : ¬ k = 40 := by omega
    have a45 : ¬ 40 ≤ k := by omega
    have a46 : k ≤ 40 := by omega
    have a47 : ¬ k = 46 := by omega
    have a48 : ¬ 46 ≤ k := by omega
    have a49 : k ≤ 46 := by omega
    have a50 : ¬ k = 50 := by omega
    have a51 : ¬ 50 ≤ k := by omega
    have a52 : k ≤ 50 := by omega
    have a53 : ¬ k = 54 := by omega
    have a54 : ¬ 54 ≤ k := by omega
    have a55 : k ≤ 54 := by omega
    have a56 : ¬ k = 60 := by omega
    have a57 : ¬ 60 ≤ k := by omega
    have a58 : k ≤ 60 := by omega
    have a59 : ¬ k = 61 := by omega
    have a60 : ¬ 61 ≤ k := by omega
    have a61 : k ≤ 61 := by omega
    have a62 : ¬ k = 62 := by omega
    have a63 : ¬ 62 ≤ k := by omega
    have a64 : k ≤ 62 := by omega
    simp -dsimp -implicitDefEqProofs [undef, a0, a1, a2, a3, a4, a5, a6, a7, a8, a9, a10, a11, a12, a13, a14, a15, a16, a17, a18, a19, a20, a21, a22, a23, a24, a25, a26, a27, a28, a29, a30, a31, a32, a33, a34, a35, a36, a37, a38, a39, a40, a41, a42, a43, a44, a45, a46, a47, a48, a49, a50, a51, a52, a53, a54, a55, a56, a57, a58, a59, a60, a61, a62, a63, a64]
    exact fin_ret rfl (leave_pure (by simp) h)
  · have hv : sortN k = 11 := by unfold sortN; (repeat' split) <;> omega
    rw [hv] at h
    clear hv
    subst hc
    simp -dsimp -implicitDefEqProofs [undef]
    exact fin_ret rfl (leave_pure (by simp) h)
  · have hv : sortN k = 11 := by unfold sortN; (repeat' split) <;> omega
    rw [hv] at h
    clear hv
    subst hc
    simp -dsimp -implicitDefEqProofs [undef]
    exact fin_ret rfl (leave_pure (by simp) h)
  · have hv : sortN k = 3 := by unfold sortN; (repeat' split) <;> omega
    rw [hv] at h
    clear hv
    have a0 : ¬ k = 1 := by omega
    have a1 : 1 ≤ k := by omega
    have a2 : ¬ k ≤ 1 := by omega
    have a3 : ¬ k = 2 := by omega
    have a4 : 2 ≤ k := by omega
    have a5 : ¬ k ≤ 2 := by omega
    have a6 : ¬ k = 3 := by omega
    have a7 : 3 ≤ k := by omega
    have a8 : ¬ k ≤ 3 := by omega
    have a9 : ¬ k = 20 := by omega
    have a10 : 20 ≤ k := by omega
    have a11 : ¬ k ≤ 20 := by omega
    have a12 : ¬ k = 21 := by omega
    have a13 : 21 ≤ k := by omega
    have a14 : ¬ k ≤ 21 := by omega
    have a15 : ¬ k = 22 := by omega
    have a16 : 22 ≤ k := by omega
    have a17 : ¬ k ≤ 22 := by omega
    have a18 : ¬ k = 23 := by omega
    have a19 : 23 ≤ k := by omega
    have a20 : ¬ k ≤ 23 := by omega
    have a21 : ¬ k = 24 := by omega
    have a22 : 24 ≤ k := by omega
    have a23 : ¬ k ≤ 24 := by omega
    have a24 : ¬ k = 25 := by omega
    have a25 : 25 ≤ k := by omega
    have a26 : ¬ k ≤ 25 := by omega
    have a27 : ¬ k = 26 := by omega
    have a28 : 26 ≤ k := by omega
    have a29 : ¬ k ≤ 26 := by omega
    have a30 : ¬ k = 27 := by omega
    have a31 : 27 ≤ k := by omega
    have a32 : ¬ k ≤ 27 := by omega
    have a33 : ¬ k = 30 := by omega
    have a34 : 30 ≤ k := by omega
    have a35 : ¬ k ≤ 30 := by omega
    have a36 : ¬ k = 31 := by omega
    have a37 : 31 ≤ k := by omega
    have a38 : ¬ k ≤ 31 := by omega
    have a39 : ¬ k = 32 := by omega
    have a40 : 32 ≤ k := by omega
    have a41 : ¬ k ≤ 32 := by omega
    have a42 : 33 ≤ k := by omega
    have a43 : k ≤ 38 := by omega
    have a44 : ¬ k = 40 := by omega
    have a45 : ¬ 40 ≤ k := by omega
    have a46 : k ≤ 40 := by omega
    have a47 : ¬ k = 46 := by omega
    have a48 : ¬ 46 ≤ k := by omega
    have a49 : k ≤ 46 := by omega
    have a50 : ¬ k = 50 := by omega
    have a51 : ¬ 50 ≤ k := by omega
    have a52 : k ≤ 50 := by omega
    have a53 : ¬ k = 54 := by omega
    have a54 : ¬ 54 ≤ k := by omega
    have a55 : k ≤ 54 := by omega
    have a56 : ¬ k = 60 := by omega
    have a57 : ¬ 60 ≤ k := by omega
    have a58 : k ≤ 60 := by omega
    have a59 : ¬ k = 61 := by omega
    have a60 : ¬ 61 ≤ k := by omega
    have a61 : k ≤ 61 := by omega
    have a62 : ¬ k = 62 := by omega
    have a63 : ¬ 62 ≤ k := by omega
    have a64 : k ≤ 62 := by omega
    simp -dsimp -implicitDefEqProofs [undef, a0, a1, a2, a3, a4, a5, a6, a7, a8, a9, a10, a11, a12, a13, a14, a15, a16, a17, a18, a19, a20, a21, a22, a23, a24, a25, a26, a27, a28, a29, a30, a31, a32, a33, a34, a35, a36, a37, a38, a39, a40, a41, a42, a43, a44, a45, a46, a47, a48, a49, a50, a51, a52, a53, a54, a55, a56, a57, a58, a59, a60, a61, a62, a63, a64]
    exact fin_ret rfl (leave_pure (by simp) h)
  · have hv : sortN k = 0 := by unfold sortN; (repeat' split) <;> omega
    rw [hv] at h
    clear hv
    subst hc
    simp -dsimp -implicitDefEqProofs [undef]
    exact fin_ret rfl (leave_pure (by simp) h)
  · have hv : sortN k = 27 := by unfold sortN; (repeat' split) <;> omega
    rw [hv] at h
    clear hv
    have a0 : ¬ k = 1 := by omega
    have a1 : 1 ≤ k := by omega
    have a2 : ¬ k ≤ 1 := by omega
    have a3 : ¬ k = 2 := by omega
    have a4 : 2 ≤ k := by omega
    have a5 : ¬ k ≤ 2 := by omega
    have a6 : ¬ k = 3 := by omega
    have a7 : 3 ≤ k := by omega
    have a8 : ¬ k ≤ 3 := by omega
    have a9 : ¬ k = 20 := by omega
    have a10 : 20 ≤ k := by omega
    have a11 : ¬ k ≤ 20 := by omega
    have a12 : ¬ k = 21 := by omega
    have a13 : 21 ≤ k := by omega
    have a14 : ¬ k ≤ 21 := by omega
    have a15 : ¬ k = 22 := by omega
    have a16 : 22 ≤ k := by omega
    have a17 : ¬ k ≤ 22 := by omega
    have a18 : ¬ k = 23 := by omega
    have a19 : 23 ≤ k := by omega
    have a20 : ¬ k ≤ 23 := by omega
    have a21 : ¬ k = 24 := by omega
    have a22 : 24 ≤ k := by omega
    have a23 : ¬ k ≤ 24 := by omega
    have a24 : ¬ k = 25 := by omega
    have a25 : 25 ≤ k := by omega
    have a26 : ¬ k ≤ 25 := by omega
    have a27 : ¬ k = 26 := by omega
    have a28 : 26 ≤ k := by omega
    have a29 : ¬ k ≤ 26 := by omega
    have a30 : ¬ k = 27 := by omega
    have a31 : 27 ≤ k := by omega
    have a32 : ¬ k ≤ 27 := by omega
    have a33 : ¬ k = 30 := by omega
    have a34 : 30 ≤ k := by omega
    have a35 : ¬ k ≤ 30 := by omega
    have a36 : ¬ k = 31 := by omega
    have a37 : 31 ≤ k := by omega
    have a38 : ¬ k ≤ 31 := by omega
    have a39 : ¬ k = 32 := by omega
    have a40 : 32 ≤ k := by omega
    have a41 : ¬ k ≤ 32 := by omega
    have a42 : ¬ k = 33 := by omega
    have a43 : 33 ≤ k := by omega
    have a44 : ¬ k ≤ 33 := by omega
    have a45 : ¬ k = 38 := by omega
    have a46 : 38 ≤ k := by omega
    have a47 : ¬ k ≤ 38 := by omega
    have a48 : 40 ≤ k := by omega
    have a49 : k ≤ 46 := by omega
    have a50 : ¬ k = 50 := by omega
    have a51 : ¬ 50 ≤ k := by omega
    have a52 : k ≤ 50 := by omega
    have a53 : ¬ k = 54 := by omega
    have a54 : ¬ 54 ≤ k := by omega
    have a55 : k ≤ 54 := by omega
    have a56 : ¬ k = 60 := by omega
    have a57 : ¬ 60 ≤ k := by omega
    have a58 : k ≤ 60 := by omega
    have a59 : ¬ k = 61 := by omega
    have a60 : ¬ 61 ≤ k := by omega
    have a61 : k ≤ 61 := by omega
    have a62 : ¬ k = 62 := by omega
    have a63 : ¬ 62 ≤ k := by omega
    have a64 : k ≤ 62 := by omega
    simp -dsimp -implicitDefEqProofs [undef, a0, a1, a2, a3, a4, a5, a6, a7, a8, a9, a10, a11, a12, a13, a14, a15, a16, a17, a18, a19, a20, a21, a22, a23, a24, a25, a26, a27, a28, a29, a30, a31, a32, a33, a34, a35, a36, a37, a38, a39, a40, a41, a42, a43, a44, a45, a46, a47, a48, a49, a50, a51, a52, a53, a54, a55, a56, a57, a58, a59, a60, a61, a62, a63, a64]
    exact fin_ret rfl (leave_pure (by simp) h)
  · have hv : sortN k = 0 := by unfold sortN; (repeat' split) <;> omega
    rw [hv] at h
    clear hv
    have a0 : ¬ k = 1 := by omega
    have a1 : 1 ≤ k := by omega
    have a2 : ¬ k ≤ 1 := by omega
    have a3 : ¬ k = 2 := by omega
    have a4 : 2 ≤ k := by omega
    have a5 : ¬ k ≤ 2 := by omega
    have a6 : ¬ k = 3 := by omega
    have a7 : 3 ≤ k := by omega
    have a8 : ¬ k ≤ 3 := by omega
    have a9 : ¬ k = 20 := by omega
    have a10 : 20 ≤ k := by omega
    have a11 : ¬ k ≤ 20 := by omega
    have a12 : ¬ k = 21 := by omega
    have a13 : 21 ≤ k := by omega
    have a14 : ¬ k ≤ 21 := by omega
    have a15 : ¬ k = 22 := by omega
    have a16 : 22 ≤ k := by omega
    have a17 : ¬ k ≤ 22 := by omega
    have a18 : ¬ k = 23 := by omega
    have a19 : 23 ≤ k := by omega
    have a20 : ¬ k ≤ 23 := by omega
    have a21 : ¬ k = 24 := by omega
    have a22 : 24 ≤ k := by omega
    have a23 : ¬ k ≤ 24 := by omega
    have a24 : ¬ k = 25 := by omega
    have a25 : 25 ≤ k := by omega
    have a26 : ¬ k ≤ 25 := by omega
    have a27 : ¬ k = 26 := by omega
    have a28 : 26 ≤ k := by omega
    have a29 : ¬ k ≤ 26 := by omega
    have a30 : ¬ k = 27 := by omega
    have a31 : 27 ≤ k := by omega
    have a32 : ¬ k ≤ 27 := by omega
    have a33 : ¬ k = 30 := by omega
    have a34 : 30 ≤ k := by omega
    have a35 : ¬ k ≤ 30 := by omega
    have a36 : ¬ k = 31 := by omega
    have a37 : 31 ≤ k := by omega
    have a38 : ¬ k ≤ 31 := by omega
    have a39 : ¬ k = 32 := by omega
    have a40 : 32 ≤ k := by omega
    have a41 : ¬ k ≤ 32 := by omega
    have a42 : ¬ k = 33 := by omega
    have a43 : 33 ≤ k := by omega
    have a44 : ¬ k ≤ 33 := by omega
    have a45 : ¬ k = 38 := by omega
    have a46 : 38 ≤ k := by omega
    have a47 : ¬ k ≤ 38 := by omega
    have a48 : ¬ k = 40 := by omega
    have a49 : 40 ≤ k := by omega
    have a50 : ¬ k ≤ 40 := by omega
    have a51 : ¬ k = 46 := by omega
    have a52 : 46 ≤ k := by omega
    have a53 : ¬ k ≤ 46 := by omega
    have a54 : ¬ k = 50 := by omega
    have a55 : ¬ 50 ≤ k := by omega
    have a56 : k ≤ 50 := by omega
    have a57 : ¬ k = 54 := by omega
    have a58 : ¬ 54 ≤ k := by omega
    have a59 : k ≤ 54 := by omega
    have a60 : ¬ k = 60 := by omega
    have a61 : ¬ 60 ≤ k := by omega
    have a62 : k ≤ 60 := by omega
    have a63 : ¬ k = 61 := by omega
    have a64 : ¬ 61 ≤ k := by omega
    have a65 : k ≤ 61 := by omega
    have a66 : ¬ k = 62 := by omega
    have a67 : ¬ 62 ≤ k := by omega
    have a68 : k ≤ 62 := by omega
    simp -dsimp -implicitDefEqProofs [undef, a0, a1, a2, a3, a4, a5, a6, a7, a8, a9, a10, a11, a12, a13, a14, a15, a16, a17, a18, a19, a20, a21, a22, a23, a24, a25, a26, a27, a28, a29, a30, a31, a32, a33, a34, a35, a36, a37, a38, a39, a40, a41, a42, a43, a44, a45, a46, a47, a48, a49, a50, a51, a52, a53, a54, a55, a56, a57, a58, a59, a60, a61, a62, a63, a64, a65, a66, a67, a68]
    exact fin_ret rfl (leave_pure (by simp) h)
  · have hv : sortN k = 19 := by unfold sortN; (repeat' split) <;> omega
    rw [hv] at h
    clear hv
    have a0 : ¬ k = 1 := by omega
    have a1 : 1 ≤ k := by omega
    have a2 : ¬ k ≤ 1 := by omega
    have a3 : ¬ k = 2 := by omega
    have a4 : 2 ≤ k := by omega
    have a5 : ¬ k ≤ 2 := by omega
    have a6 : ¬ k = 3 := by omega
    have a7 : 3 ≤ k := by omega
    have a8 : ¬ k ≤ 3 := by omega
    have a9 : ¬ k = 20 := by omega
    have a10 : 20 ≤ k := by omega
    have a11 : ¬ k ≤ 20 := by omega
    have a12 : ¬ k = 21 := by omega
    have a13 : 21 ≤ k := by omega
    have a14 : ¬ k ≤ 21 := by omega
    have a15 : ¬ k = 22 := by omega
    have a16 : 22 ≤ k := by omega
    have a17 : ¬ k ≤ 22 := by omega
    have a18 : ¬ k = 23 := by omega
    have a19 : 23 ≤ k := by omega
    have a20 : ¬ k ≤ 23 := by omega
    have a21 : ¬ k = 24 := by omega
    have a22 : 24 ≤ k := by omega
    have a23 : ¬ k ≤ 24 := by omega
    have a24 : ¬ k = 25 := by omega
    have a25 : 25 ≤ k := by omega
    have a26 : ¬ k ≤ 25 := by omega
    have a27 : ¬ k = 26 := by omega
    have a28 : 26 ≤ k := by omega
    have a29 : ¬ k ≤ 26 := by omega
    have a30 : ¬ k = 27 := by omega
    have a31 : 27 ≤ k := by omega
    have a32 : ¬ k ≤ 27 := by omega
    have a33 : ¬ k = 30 := by omega
    have a34 : 30 ≤ k := by omega
    have a35 : ¬ k ≤ 30 := by omega
    have a36 : ¬ k = 31 := by omega
    have a37 : 31 ≤ k := by omega
    have a38 : ¬ k ≤ 31 := by omega
    have a39 : ¬ k = 32 := by omega
    have a40 : 32 ≤ k := by omega
    have a41 : ¬ k ≤ 32 := by omega
    have a42 : ¬ k = 33 := by omega
    have a43 : 33 ≤ k := by omega
    have a44 : ¬ k ≤ 33 := by omega
    have a45 : ¬ k = 38 := by omega
    have a46 : 38 ≤ k := by omega
    have a47 : ¬ k ≤ 38 := by omega
    have a48 : ¬ k = 40 := by omega
    have a49 : 40 ≤ k := by omega
    have a50 : ¬ k ≤ 40 := by omega
    have a51 : ¬ k = 46 := by omega
    have a52 : 46 ≤ k := by omega
    have a53 : ¬ k ≤ 46 := by omega
    have a54 : 50 ≤ k := by omega
    have a55 : k ≤ 54 := by omega
    have a56 : ¬ k = 60 := by omega
    have a57 : ¬ 60 ≤ k := by omega
    have a58 : k ≤ 60 := by omega
    have a59 : ¬ k = 61 := by omega
    have a60 : ¬ 61 ≤ k := by omega
    have a61 : k ≤ 61 := by omega
    have a62 : ¬ k = 62 := by omega
    have a63 : ¬ 62 ≤ k := by omega
    have a64 : k ≤ 62 := by omega
    simp -dsimp -implicitDefEqProofs [undef, a0, a1, a2, a3, a4, a5, a6, a7, a8, a9, a10, a11, a12, a13, a14, a15, a16, a17, a18, a19, a20, a21, a22, a23, a24, a25, a26, a27, a28, a29, a30, a31, a32, a33, a34, a35, a36, a37, a38, a39, a40, a41, a42, a43, a44, a45, a46, a47, a48, a49, a50, a51, a52, a53, a54, a55, a56, a57, a58, a59, a60, a61, a62, a63, a64]
    exact fin_ret rfl (leave_pure (by simp) h)
  · have hv : sortN k = 0 := by unfold sortN; (repeat' split) <;> omega
    rw [hv] at h
    clear hv
    have a0 : ¬ k = 1 := by omega
    have a1 : 1 ≤ k := by omega
    have a2 : ¬ k ≤ 1 := by omega
    have a3 : ¬ k = 2 := by omega
    have a4 : 2 ≤ k := by omega
    have a5 : ¬ k ≤ 2 := by omega
    have a6 : ¬ k = 3 := by omega
    have a7 : 3 ≤ k := by omega
    have a8 : ¬ k ≤ 3 := by omega
    have a9 : ¬ k = 20 := by omega
    have a10 : 20 ≤ k := by omega
    have a11 : ¬ k ≤ 20 := by omega
    have a12 : ¬ k = 21 := by omega
    have a13 : 21 ≤ k := by omega
    have a14 : ¬ k ≤ 21 := by omega
    have a15 : ¬ k = 22 := by omega
    have a16 : 22 ≤ k := by omega
    have a17 : ¬ k ≤ 22 := by omega
    have a18 : ¬ k = 23 := by omega
    have a19 : 23 ≤ k := by omega
    have a20 : ¬ k ≤ 23 := by omega
    have a21 : ¬ k = 24 := by omega
    have a22 : 24 ≤ k := by omega
    have a23 : ¬ k ≤ 24 := by omega
    have a24 : ¬ k = 25 := by omega
    have a25 : 25 ≤ k := by omega
    have a26 : ¬ k ≤ 25 := by omega
    have a27 : ¬ k = 26 := by omega
    have a28 : 26 ≤ k := by omega
    have a29 : ¬ k ≤ 26 := by omega
    have a30 : ¬ k = 27 := by omega
    have a31 : 27 ≤ k := by omega
    have a32 : ¬ k ≤ 27 := by omega
    have a33 : ¬ k = 30 := by omega
    have a34 : 30 ≤ k := by omega
    have a35 : ¬ k ≤ 30 := by omega
    have a36 : ¬ k = 31 := by omega
    have a37 : 31 ≤ k := by omega
    have a38 : ¬ k ≤ 31 := by omega
    have a39 : ¬ k = 32 := by omega
    have a40 : 32 ≤ k := by omega
    have a41 : ¬ k ≤ 32 := by omega
    have a42 : ¬ k = 33 := by omega
    have a43 : 33 ≤ k := by omega
    have a44 : ¬ k ≤ 33 := by omega
    have a45 : ¬ k = 38 := by omega
    have a46 : 38 ≤ k := by omega
    have a47 : ¬ k ≤ 38 := by omega
    have a48 : ¬ k = 40 := by omega
    have a49 : 40 ≤ k := by omega
    have a50 : ¬ k ≤ 40 := by omega
    have a51 : ¬ k = 46 := by omega
    have a52 : 46 ≤ k := by omega
    have a53 : ¬ k ≤ 46 := by omega
    have a54 : ¬ k = 50 := by omega
    have a55 : 50 ≤ k := by omega
    have a56 : ¬ k ≤ 50 := by omega
    have a57 : ¬ k = 54 := by omega
    have a58 : 54 ≤ k := by omega
    have a59 : ¬ k ≤ 54 := by omega
    have a60 : ¬ k = 60 := by omega
    have a61 : ¬ 60 ≤ k := by omega
    have a62 : k ≤ 60 := by omega
    have a63 : ¬ k = 61 := by omega
    have a64 : ¬ 61 ≤ k := by omega
    have a65 : k ≤ 61 := by omega
    have a66 : ¬ k = 62 := by omega
    have a67 : ¬ 62 ≤ k := by omega
    have a68 : k ≤ 62 := by omega
    simp -dsimp -implicitDefEqProofs [undef, a0, a1, a2, a3, a4, a5, a6, a7, a8, a9, a10, a11, a12, a13, a14, a15, a16, a17, a18, a19, a20, a21, a22, a23, a24, a25, a26, a27, a28, a29, a30, a31, a32, a33, a34, a35, a36, a37, a38, a39, a40, a41, a42, a43, a44, a45, a46, a47, a48, a49, a50, a51, a52, a53, a54, a55, a56, a57, a58, a59, a60, a61, a62, a63, a64, a65, a66, a67, a68]
    exact fin_ret rfl (leave_pure (by simp) h)
  · have hv : sortN k = 48 := by unfold sortN; (repeat' split) <;> omega
    rw [hv] at h
    clear hv
    subst hc
    simp -dsimp -implicitDefEqProofs [undef]
    exact fin_ret rfl (leave_pure (by simp) h)
  · have hv : sortN k = 33 := by unfold sortN; (repeat' split) <;> omega
    rw [hv] at h
    clear hv
    subst hc
    simp -dsimp -implicitDefEqProofs [undef]
    exact fin_ret rfl (leave_pure (by simp) h)
  · have hv : sortN k = 49 := by unfold sortN; (repeat' split) <;> omega
    rw [hv] at h
    clear hv
    subst hc
    simp -dsimp -implicitDefEqProofs [undef]
    exact fin_ret rfl (leave_pure (by simp) h)
  · have hv : sortN k = 0 := by unfold sortN; (repeat' split) <;> omega
    rw [hv] at h
    clear hv
    have a0 : ¬ k = 1 := by omega
    have a1 : 1 ≤ k := by omega
    have a2 : ¬ k ≤ 1 := by omega
    have a3 : ¬ k = 2 := by omega
    have a4 : 2 ≤ k := by omega
    have a5 : ¬ k ≤ 2 := by omega
    have a6 : ¬ k = 3 := by omega
    have a7 : 3 ≤ k := by omega
    have a8 : ¬ k ≤ 3 := by omega
    have a9 : ¬ k = 20 := by omega
    have a10 : 20 ≤ k := by omega
    have a11 : ¬ k ≤ 20 := by omega
    have a12 : ¬ k = 21 := by omega
    have a13 : 21 ≤ k := by omega
    have a14 : ¬ k ≤ 21 := by omega
    have a15 : ¬ k = 22 := by omega
    have a16 : 22 ≤ k := by omega
    have a17 : ¬ k ≤ 22 := by omega
    have a18 : ¬ k = 23 := by omega
    have a19 : 23 ≤ k := by omega
    have a20 : ¬ k ≤ 23 := by omega
    have a21 : ¬ k = 24 := by omega
    have a22 : 24 ≤ k := by omega
    have a23 : ¬ k ≤ 24 := by omega
    have a24 : ¬ k = 25 := by omega
    have a25 : 25 ≤ k := by omega
    have a26 : ¬ k ≤ 25 := by omega
    have a27 : ¬ k = 26 := by omega
    have a28 : 26 ≤ k := by omega
    have a29 : ¬ k ≤ 26 := by omega
    have a30 : ¬ k = 27 := by omega
    have a31 : 27 ≤ k := by omega
    have a32 : ¬ k ≤ 27 := by omega
    have a33 : ¬ k = 30 := by omega
    have a34 : 30 ≤ k := by omega
    have a35 : ¬ k ≤ 30 := by omega
    have a36 : ¬ k = 31 := by omega
    have a37 : 31 ≤ k := by omega
    have a38 : ¬ k ≤ 31 := by omega
    have a39 : ¬ k = 32 := by omega
    have a40 : 32 ≤ k := by omega
    have a41 : ¬ k ≤ 32 := by omega
    have a42 : ¬ k = 33 := by omega
    have a43 : 33 ≤ k := by omega
    have a44 : ¬ k ≤ 33 := by omega
    have a45 : ¬ k = 38 := by omega
    have a46 : 38 ≤ k := by omega
    have a47 : ¬ k ≤ 38 := by omega
    have a48 : ¬ k = 40 := by omega
    have a49 : 40 ≤ k := by omega
    have a50 : ¬ k ≤ 40 := by omega
    have a51 : ¬ k = 46 := by omega
    have a52 : 46 ≤ k := by omega
    have a53 : ¬ k ≤ 46 := by omega
    have a54 : ¬ k = 50 := by omega
    have a55 : 50 ≤ k := by omega
    have a56 : ¬ k ≤ 50 := by omega
    have a57 : ¬ k = 54 := by omega
    have a58 : 54 ≤ k := by omega
    have a59 : ¬ k ≤ 54 := by omega
    have a60 : ¬ k = 60 := by omega
    have a61 : 60 ≤ k := by omega
    have a62 : ¬ k ≤ 60 := by omega
    have a63 : ¬ k = 61 := by omega
    have a64 : 61 ≤ k := by omega
    have a65 : ¬ k ≤ 61 := by omega
    have a66 : ¬ k = 62 := by omega
    have a67 : 62 ≤ k := by omega
    have a68 : ¬ k ≤ 62 := by omega
    simp -dsimp -implicitDefEqProofs [undef, a0, a1, a2, a3, a4, a5, a6, a7, a8, a9, a10, a11, a12, a13, a14, a15, a16, a17, a18, a19, a20, a21, a22, a23, a24, a25, a26, a27, a28, a29, a30, a31, a32, a33, a34, a35, a36, a37, a38, a39, a40, a41, a42, a43, a44, a45, a46, a47, a48, a49, a50, a51, a52, a53, a54, a55, a56, a57, a58, a59, a60, a61, a62, a63, a64, a65, a66, a67, a68]
    exact fin_ret rfl (leave_pure (by simp) h)

set_option maxRecDepth 100000 in
set_option maxHeartbeats 16000000 in
theorem irof_tc (k : Int) (m : Mem) (Q) (h : Q (.tuple #[shapeV (sortN k), .bool (sortN k != 0)]) m) : TC Try.prog 158 [.int .i64 k] m Q := by
  refine TC_fn mixed Try.func158 rfl Try.ntmps158 rfl (by decide) (by simp) ?_
  rcases sort_cases k with hc | hc | hc | hc | hc | hc | hc | hc | hc | hc | hc | hc | hc | hc | hc | hc | hc | hc | hc | hc | hc | hc | hc
  · have hv : sortN k = 0 := by unfold sortN; (repeat' split) <;> omega
    rw [hv] at h
    clear hv
    have a0 : ¬ k = 1 := by omega
    have a1 : ¬ 1 ≤ k := by omega
    have a2 : k ≤ 1 := by omega
    have a3 : ¬ k = 2 := by omega
    have a4 : ¬ 2 ≤ k := by omega
    have a5 : k ≤ 2 := by omega
    have a6 : ¬ k = 3 := by omega
    have a7 : ¬ 3 ≤ k := by omega
    have a8 : k ≤ 3 := by omega
    have a9 : ¬ k = 20 := by omega
    have a10 : ¬ 20 ≤ k := by omega
    have a11 : k ≤ 20 := by omega
    have a12 : ¬ k = 21 := by omega
    have a13 : ¬ 21 ≤ k := by omega
    have a14 : k ≤ 21 := by omega
    have a15 : ¬ k = 22 := by omega
    have a16 : ¬ 22 ≤ k := by omega
    have a17 : k ≤ 22 := by omega
    have a18 : ¬ k = 23 := by omega
    have a19 : ¬ 23 ≤ k := by omega
    have a20 : k ≤ 23 := by omega
    have a21 : ¬ k = 24 := by omega
    have a22 : ¬ 24 ≤ k := by omega
    have a23 : k ≤ 24 := by omega
    have a24 : ¬ k = 25 := by omega
    have a25 : ¬ 25 ≤ k := by omega
    have a26 : k ≤ 25 := by omega
    have a27 : ¬ k = 26 := by omega
    have a28 : ¬ 26 ≤ k := by omega
    have a29 : k ≤ 26 := by omega
    have a30 : ¬ k = 27 := by omega
    have a31 : ¬ 27 ≤ k := by omega
    have a32 : k ≤ 27 := by omega
    have a33 : ¬ k = 30 := by omega
    have a34 : ¬ 30 ≤ k := by omega
    have a35 : k ≤ 30 := by omega
    have a36 : ¬ k = 31 := by omega
    have a37 : ¬ 31 ≤ k := by omega
    have a38 : k ≤ 31 := by omega
    have a39 : ¬ k = 32 := by omega
    have a40 : ¬ 32 ≤ k := by omega
    have a41 : k ≤ 32 := by omega
    have a42 : ¬ k = 33 := by omega
    have a43 : ¬ 33 ≤ k := by omega
    have a44 : k ≤ 33 := by omega
    have a45 : ¬ k = 38 := by omega
    have a46 : ¬ 38 ≤ k := by omega
    have a47 : k ≤ 38 := by omega
    have a48 : ¬ k = 40 := by omega
    have a49 : ¬ 40 ≤ k := by omega
    have a50 : k ≤ 40 := by omega
    have a51 : ¬ k = 46 := by omega
    have a52 : ¬ 46 ≤ k := by omega
    have a53 : k ≤ 46 := by omega
    have a54 : ¬ k = 50 := by omega
    have a55 : ¬ 50 ≤ k := by omega
    have a56 : k ≤ 50 := by omega
    have a57 : ¬ k = 54 := by omega
    have a58 : ¬ 54 ≤ k := by omega
    have a59 : k ≤ 54 := by omega
    have a60 : ¬ k = 60 := by omega
    have a61 : ¬ 60 ≤ k := by omega
    have a62 : k ≤ 60 := by omega
    have a63 : ¬ k = 61 := by omega
    have a64 : ¬ 61 ≤ k := by omega
    have a65 : k ≤ 61 := by omega
    have a66 : ¬ k = 62 := by omega
    have a67 : ¬ 62 ≤ k := by omega
    have a68 : k ≤ 62 := by omega
    simp -dsimp -implicitDefEqProofs [undef, a0, a1, a2, a3, a4, a5, a6, a7, a8, a9, a10, a11, a12, a13, a14, a15, a16, a17, a18, a19, a20, a21, a22, a23, a24, a25, a26, a27, a28, a29, a30, a31, a32, a33, a34, a35, a36, a37, a38, a39, a40, a41, a42, a43, a44, a45, a46, a47, a48, a49, a50, a51, a52, a53, a54, a55, a56, a57, a58, a59, a60, a61, a62, a63, a64, a65, a66, a67, a68]
    exact fin_ret (by simp -dsimp; rfl) (leave_pure (by simp) (by first | exact h | simpa [shapeV, bitN] using h))
  · have hv : sortN k = 24 := by unfold sortN; (repeat' split) <;> omega
    rw [hv] at h
    clear hv
    subst hc
    simp -dsimp -implicitDefEqProofs [undef]
    exact fin_ret (by simp -dsimp; rfl) (leave_pure (by simp) (by first | exact h | simpa [shapeV, bitN] using h))
  · have hv : sortN k = 9 := by unfold sortN; (repeat' split) <;> omega
    rw [hv] at h
    clear hv
    subst hc
    simp -dsimp -implicitDefEqProofs [undef]
    exact fin_ret (by simp -dsimp; rfl) (leave_pure (by simp) (by first | exact h | simpa [shapeV, bitN] using h))
  · have hv : sortN k = 11 := by unfold sortN; (repeat' split) <;> omega
    rw [hv] at h
    clear hv
    have a0 : ¬ k = 1 := by omega
    have a1 : 1 ≤ k := by omega
    have a2 : ¬ k ≤ 1 := by omega
    have a3 : ¬ k = 2 := by omega
    have a4 : 2 ≤ k := by omega
    have a5 : ¬ k ≤ 2 := by omega
    have a6 : 3 ≤ k := by omega
    have a7 : k ≤ 20 := by omega
    have a8 : ¬ k = 21 := by omega
    have a9 : ¬ 21 ≤ k := by omega
    have a10 : k ≤ 21 := by omega
    have a11 : ¬ k = 22 := by omega
    have a12 : ¬ 22 ≤ k := by omega
    have a13 : k ≤ 22 := by omega
    have a14 : ¬ k = 23 := by omega
    have a15 : ¬ 23 ≤ k := by omega
    have a16 : k ≤ 23 := by omega
    have a17 : ¬ k = 24 := by omega
    have a18 : ¬ 24 ≤ k := by omega
    have a19 : k ≤ 24 := by omega
    have a20 : ¬ k = 25 := by omega
    have a21 : ¬ 25 ≤ k := by omega
    have a22 : k ≤ 25 := by omega
    have a23 : ¬ k = 26 := by omega
    have a24 : ¬ 26 ≤ k := by omega
    have a25 : k ≤ 26 := by omega
    have a26 : ¬ k = 27 := by omega
    have a27 : ¬ 27 ≤ k := by omega
    have a28 : k ≤ 27 := by omega
    have a29 : ¬ k = 30 := by omega
    have a30 : ¬ 30 ≤ k := by omega
    have a31 : k ≤ 30 := by omega
    have a32 : ¬ k = 31 := by omega
    have a33 : ¬ 31 ≤ k := by omega
    have a34 : k ≤ 31 := by omega
    have a35 : ¬ k = 32 := by omega
    have a36 : ¬ 32 ≤ k := by omega
    have a37 : k ≤ 32 := by omega
    have a38 : ¬ k = 33 := by omega
    have a39 : ¬ 33 ≤ k := by omega
    have a40 : k ≤ 33 := by omega
    have a41 : ¬ k = 38 := by omega
    have a42 : ¬ 38 ≤ k := by omega
    have a43 : k ≤ 38 := by omega
    have a44 : ¬ k = 40 := by omega
    have a45 : ¬ 40 ≤ k := by omega
    have a46 : k ≤ 40 := by omega
    have a47 : ¬ k = 46 := by omega
    have a48 : ¬ 46 ≤ k := by omega
    have a49 : k ≤ 46 := by omega
    have a50 : ¬ k = 50 := by omega
    have a51 : ¬ 50 ≤ k := by omega
    have a52 : k ≤ 50 := by omega
    have a53 : ¬ k = 54 := by omega
    have a54 : ¬ 54 ≤ k := by omega
    have a55 : k ≤ 54 := by omega
    have a56 : ¬ k = 60 := by omega
    have a57 : ¬ 60 ≤ k := by omega
    have a58 : k ≤ 60 := by omega
    have a59 : ¬ k = 61 := by omega
    have a60 : ¬ 61 ≤ k := by omega
    have a61 : k ≤ 61 := by omega
    have a62 : ¬ k = 62 := by omega
    have a63 : ¬ 62 ≤ k := by omega
    have a64 : k ≤ 62 := by omega
    simp -dsimp -implicitDefEqProofs [undef, a0, a1, a2, a3, a4, a5, a6, a7, a8, a9, a10, a11, a12, a13, a14, a15, a16, a17, a18, a19, a20, a21, a22, a23, a24, a25, a26, a27, a28, a29, a30, a31, a32, a33, a34, a35, a36, a37, a38, a39, a40, a41, a42, a43, a44, a45, a46, a47, a48, a49, a50, a51, a52, a53, a54, a55, a56, a57, a58, a59, a60, a61, a62, a63, a64]
    exact fin_ret (by simp -dsimp; rfl) (leave_pure (by simp) (by first | exact h | simpa [shapeV, bitN] using h))
  · have hv : sortN k = 9 := by unfold sortN; (repeat' split) <;> omega
    rw [hv] at h
    clear hv
    subst hc
    simp -dsimp -implicitDefEqProofs [undef]
    exact fin_ret (by simp -dsimp; rfl) (leave_pure (by simp) (by first | exact h | simpa [shapeV, bitN] using h))
  · have hv : sortN k = 9 := by unfold sortN; (repeat' split) <;> omega
    rw [hv] at h
    clear hv
    subst hc
    simp -dsimp -implicitDefEqProofs [undef]
    exact fin_ret (by simp -dsimp; rfl) (leave_pure (by simp) (by first | exact h | simpa [shapeV, bitN] using h))
  · have hv : sortN k = 15 := by unfold sortN; (repeat' split) <;> omega
    rw [hv] at h
    clear hv
    subst hc
    simp -dsimp -implicitDefEqProofs [undef]
    exact fin_ret (by simp -dsimp; rfl) (leave_pure (by simp) (by first | exact h | simpa [shapeV, bitN] using h))
  · have hv : sortN k = 15 := by unfold sortN; (repeat' split) <;> omega
    rw [hv] at h
    clear hv
    subst hc
    simp -dsimp -implicitDefEqProofs [undef]
    exact fin_ret (by simp -dsimp; rfl) (leave_pure (by simp) (by first | exact h | simpa [shapeV, bitN] using h))
  · have hv : sortN k = 11 := by unfold sortN; (repeat' split) <;> omega
    rw [hv] at h
    clear hv
    subst hc
    simp -dsimp -implicitDefEqProofs [undef]
    exact fin_ret (by simp -dsimp; rfl) (leave_pure (by simp) (by first | exact h | simpa [shapeV, bitN] using h))
  · have hv : sortN k = 11 := by unfold sortN; (repeat' split) <;> omega
    rw [hv] at h
    clear hv
    subst hc
    simp -dsimp -implicitDefEqProofs [undef]
    exact fin_ret (by simp -dsimp; rfl) (leave_pure (by simp) (by first | exact h | simpa [shapeV, bitN] using h))
  · have hv : sortN k = 9 := by unfold sortN; (repeat' split) <;> omega
    rw [hv] at h
    clear hv
    have a0 : ¬ k = 1 := by omega
    have a1 : 1 ≤ k := by omega
    have a2 : ¬ k ≤ 1 := by omega
    have a3 : ¬ k = 2 := by omega
    have a4 : 2 ≤ k := by omega
    have a5 : ¬ k ≤ 2 := by omega
    have a6 : ¬ k = 3 := by omega
    have a7 : 3 ≤ k := by omega
    have a8 : ¬ k ≤ 3 := by omega
    have a9 : ¬ k = 20 := by omega
    have a10 : 20 ≤ k := by omega
    have a11 : ¬ k ≤ 20 := by omega
    have a12 : ¬ k = 21 := by omega
    have a13 : 21 ≤ k := by omega
    have a14 : ¬ k ≤ 21 := by omega
    have a15 : ¬ k = 22 := by omega
    have a16 : 22 ≤ k := by omega
    have a17 : ¬ k ≤ 22 := by omega
    have a18 : ¬ k = 23 := by omega
    have a19 : 23 ≤ k := by omega
    have a20 : ¬ k ≤ 23 := by omega
    have a21 : ¬ k = 24 := by omega
    have a22 : 24 ≤ k := by omega
    have a23 : ¬ k ≤ 24 := by omega
    have a24 : ¬ k = 25 := by omega
    have a25 : 25 ≤ k := by omega
    have a26 : ¬ k ≤ 25 := by omega
    have a27 : ¬ k = 26 := by omega
    have a28 : 26 ≤ k := by omega
    have a29 : ¬ k ≤ 26 := by omega
    have a30 : 27 ≤ k := by omega
    have a31 : k ≤ 30 := by omega
    have a32 : ¬ k = 31 := by omega
    have a33 : ¬ 31 ≤ k := by omega
    have a34 : k ≤ 31 := by omega
    have a35 : ¬ k = 32 := by omega
    have a36 : ¬ 32 ≤ k := by omega
    have a37 : k ≤ 32 := by omega
    have a38 : ¬ k = 33 := by omega
    have a39 : ¬ 33 ≤ k := by omega
    have a40 : k ≤ 33 := by omega
    have a41 : ¬ k = 38 := by omega
    have a42 : ¬ 38 ≤ k := by omega
    have a43 : k ≤ 38 := by omega
    have a44 : ¬ k = 40 := by omega
    have a45 : ¬ 40 ≤ k := by omega
    have a46 : k ≤ 40 := by omega
    have a47 : ¬ k = 46 := by omega
    have a48 : ¬ 46 ≤ k := by omega
    have a49 : k ≤ 46 := by omega
    have a50 : ¬ k = 50 := by omega
    have a51 : ¬ 50 ≤ k := by omega
    have a52 : k ≤ 50 := by omega
    have a53 : ¬ k = 54 := by omega
    have a54 : ¬ 54 ≤ k := by omega
    have a55 : k ≤ 54 := by omega
    have a56 : ¬ k = 60 := by omega
    have a57 : ¬ 60 ≤ k := by omega
    have a58 : k ≤ 60 := by omega
    have a59 : ¬ k = 61 := by omega
    have a60 : ¬ 61 ≤ k := by omega
    have a61 : k ≤ 61 := by omega
    have a62 : ¬ k = 62 := by omega
    have a63 : ¬ 62 ≤ k := by omega
    have a64 : k ≤ 62 := by omega
    simp -dsimp -implicitDefEqProofs [undef, a0, a1, a2, a3, a4, a5, a6, a7, a8, a9, a10, a11, a12, a13, a14, a15, a16, a17, a18, a19, a20, a21, a22, a23, a24, a25, a26, a27, a28, a29, a30, a31, a32, a33, a34, a35, a36, a37, a38, a39, a40, a41, a42, a43, a44, a45, a46, a47, a48, a49, a50, a51, a52, a53, a54, a55, a56, a57, a58, a59, a60, a61, a62, a63, a64]
    exact fin_ret (by simp -dsimp; rfl) (leave_pure (by simp) (by first | exact h | simpa [shapeV, bitN] using h))
  · have hv : sortN k = 11 := by unfold sortN; (repeat' split) <;> omega
    rw [hv] at h
    clear hv
    subst hc
    simp -dsimp -implicitDefEqProofs [undef]
    exact fin_ret (by simp -dsimp; rfl) (leave_pure (by simp) (by first | exact h | simpa [shapeV, bitN] using h))
  · have hv : sortN k = 11 := by unfold sortN; (repeat' split) <;> omega
    rw [hv] at h
    clear hv
    subst hc
    simp -dsimp -implicitDefEqProofs [undef]
    exact fin_ret (by simp -dsimp; rfl) (leave_pure (by simp) (by first | exact h | simpa [shapeV, bitN] using h))
  · have hv : sortN k = 3 := by unfold sortN; (repeat' split) <;> omega
    rw [hv] at h
    clear hv
    have a0 : ¬ k = 1 := by omega
    have a1 : 1 ≤ k := by omega
    have a2 : ¬ k ≤ 1 := by omega
    have a3 : ¬ k = 2 := by omega
    have a4 : 2 ≤ k := by omega
    have a5 : ¬ k ≤ 2 := by omega
    have a6 : ¬ k = 3 := by omega
    have a7 : 3 ≤ k := by omega
    have a8 : ¬ k ≤ 3 := by omega
    have a9 : ¬ k = 20 := by omega
    have a10 : 20 ≤ k := by omega
    have a11 : ¬ k ≤ 20 := by omega
    have a12 : ¬ k = 21 := by omega
    have a13 : 21 ≤ k := by omega
    have a14 : ¬ k ≤ 21 := by omega
    have a15 : ¬ k = 22 := by omega
    have a16 : 22 ≤ k := by omega
    have a17 : ¬ k ≤ 22 := by omega
    have a18 : ¬ k = 23 := by omega
    have a19 : 23 ≤ k := by omega
    have a20 : ¬ k ≤ 23 := by omega
    have a21 : ¬ k = 24 := by omega
    have a22 : 24 ≤ k := by omega
    have a23 : ¬ k ≤ 24 := by omega
    have a24 : ¬ k = 25 := by omega
    have a25 : 25 ≤ k := by omega
    have a26 : ¬ k ≤ 25 := by omega
    have a27 : ¬ k = 26 := by omega
    have a28 : 26 ≤ k := by omega
    have a29 : ¬ k ≤ 26 := by omega
    have a30 : ¬ k = 27 := by omega
    have a31 : 27 ≤ k := by omega
    have a32 : ¬ k ≤ 27 := by omega
    have a33 : ¬ k = 30 := by omega
    have a34 : 30 ≤ k := by omega
    have a35 : ¬ k ≤ 30 := by omega
    have a36 : ¬ k = 31 := by omega
    have a37 : 31 ≤ k := by omega
    have a38 : ¬ k ≤ 31 := by omega
    have a39 : ¬ k = 32 := by omega
    have a40 : 32 ≤ k := by omega
    have a41 : ¬ k ≤ 32 := by omega
    have a42 : 33 ≤ k := by omega
    have a43 : k ≤ 38 := by omega
    have a44 : ¬ k = 40 := by omega
    have a45 : ¬ 40 ≤ k := by omega
    have a46 : k ≤ 40 := by omega
    have a47 : ¬ k = 46 := by omega
    have a48 : ¬ 46 ≤ k := by omega
    have a49 : k ≤ 46 := by omega
    have a50 : ¬ k = 50 := by omega
    have a51 : ¬ 50 ≤ k := by omega
    have a52 : k ≤ 50 := by omega
    have a53 : ¬ k = 54 := by omega
    have a54 : ¬ 54 ≤ k := by omega
    have a55 : k ≤ 54 := by omega
    have a56 : ¬ k = 60 := by omega
    have a57 : ¬ 60 ≤ k := by omega
    have a58 : k ≤ 60 := by omega
    have a59 : ¬ k = 61 := by omega
    have a60 : ¬ 61 ≤ k := by omega
    have a61 : k ≤ 61 := by omega
    have a62 : ¬ k = 62 := by omega
    have a63 : ¬ 62 ≤ k := by omega
    have a64 : k ≤ 62 := by omega
    simp -dsimp -implicitDefEqProofs [undef, a0, a1, a2, a3, a4, a5, a6, a7, a8, a9, a10, a11, a12, a13, a14, a15, a16, a17, a18, a19, a20, a21, a22, a23, a24, a25, a26, a27, a28, a29, a30, a31, a32, a33, a34, a35, a36, a37, a38, a39, a40, a41, a42, a43, a44, a45, a46, a47, a48, a49, a50, a51, a52, a53, a54, a55, a56, a57, a58, a59, a60, a61, a62, a63, a64]
    exact fin_ret (by simp -dsimp; rfl) (leave_pure (by simp) (by first | exact h | simpa [shapeV, bitN] using h))
  · have hv : sortN k = 0 := by unfold sortN; (repeat' split) <;> omega
    rw [hv] at h
    clear hv
    subst hc
    simp -dsimp -implicitDefEqProofs [undef]
    exact fin_ret (by simp -dsimp; rfl) (leave_pure (by simp) (by first | exact h | simpa [shapeV, bitN] using h))
  · have hv : sortN k = 27 := by unfold sortN; (repeat' split) <;> omega
    rw [hv] at h
    clear hv
    have a0 : ¬ k = 1 := by omega
    have a1 : 1 ≤ k := by omega
    have a2 : ¬ k ≤ 1 := by omega
    have a3 : ¬ k = 2 := by omega
    have a4 : 2 ≤ k := by omega
    have a5 : ¬ k ≤ 2 := by omega
    have a6 : ¬ k = 3 := by omega
    have a7 : 3 ≤ k := by omega
    have a8 : ¬ k ≤ 3 := by omega
    have a9 : ¬ k = 20 := by omega
    have a10 : 20 ≤ k := by omega
    have a11 : ¬ k ≤ 20 := by omega
    have a12 : ¬ k = 21 := by omega
    have a13 : 21 ≤ k := by omega
    have a14 : ¬ k ≤ 21 := by omega
    have a15 : ¬ k = 22 := by omega
    have a16 : 22 ≤ k := by omega
    have a17 : ¬ k ≤ 22 := by omega
    have a18 : ¬ k = 23 := by omega
    have a19 : 23 ≤ k := by omega
    have a20 : ¬ k ≤ 23 := by omega
    have a21 : ¬ k = 24 := by omega
    have a22 : 24 ≤ k := by omega
    have a23 : ¬ k ≤ 24 := by omega
    have a24 : ¬ k = 25 := by omega
    have a25 : 25 ≤ k := by omega
    have a26 : ¬ k ≤ 25 := by omega
    have a27 : ¬ k = 26 := by omega
    have a28 : 26 ≤ k := by omega
    have a29 : ¬ k ≤ 26 := by omega
    have a30 : ¬ k = 27 := by omega
    have a31 : 27 ≤ k := by omega
    have a32 : ¬ k ≤ 27 := by omega
    have a33 : ¬ k = 30 := by omega
    have a34 : 30 ≤ k := by omega
    have a35 : ¬ k ≤ 30 := by omega
    have a36 : ¬ k = 31 := by omega
    have a37 : 31 ≤ k := by omega
    have a38 : ¬ k ≤ 31 := by omega
    have a39 : ¬ k = 32 := by omega
    have a40 : 32 ≤ k := by omega
    have a41 : ¬ k ≤ 32 := by omega
    have a42 : ¬ k = 33 := by omega
    have a43 : 33 ≤ k := by omega
    have a44 : ¬ k ≤ 33 := by omega
    have a45 : ¬ k = 38 := by omega
    have a46 : 38 ≤ k := by omega
    have a47 : ¬ k ≤ 38 := by omega
    have a48 : 40 ≤ k := by omega
    have a49 : k ≤ 46 := by omega
    have a50 : ¬ k = 50 := by omega
    have a51 : ¬ 50 ≤ k := by omega
    have a52 : k ≤ 50 := by omega
    have a53 : ¬ k = 54 := by omega
    have a54 : ¬ 54 ≤ k := by omega
    have a55 : k ≤ 54 := by omega
    have a56 : ¬ k = 60 := by omega
    have a57 : ¬ 60 ≤ k := by omega
    have a58 : k ≤ 60 := by omega
    have a59 : ¬ k = 61 := by omega
    have a60 : ¬ 61 ≤ k := by omega
    have a61 : k ≤ 61 := by omega
    have a62 : ¬ k = 62 := by omega
    have a63 : ¬ 62 ≤ k := by omega
    have a64 : k ≤ 62 := by omega
    simp -dsimp -implicitDefEqProofs [undef, a0, a1, a2, a3, a4, a5, a6, a7, a8, a9, a10, a11, a12, a13, a14, a15, a16, a17, a18, a19, a20, a21, a22, a23, a24, a25, a26, a27, a28, a29, a30, a31, a32, a33, a34, a35, a36, a37, a38, a39, a40, a41, a42, a43, a44, a45, a46, a47, a48, a49, a50, a51, a52, a53, a54, a55, a56, a57, a58, a59, a60, a61, a62, a63, a64]
    exact fin_ret (by simp -dsimp; rfl) (leave_pure (by simp) (by first | exact h | simpa [shapeV, bitN] using h))
  · have hv : sortN k = 0 := by unfold sortN; (repeat' split) <;> omega
    rw [hv] at h
    clear hv
    have a0 : ¬ k = 1 := by omega
    have a1 : 1 ≤ k := by omega
    have a2 : ¬ k ≤ 1 := by omega
    have a3 : ¬ k = 2 := by omega
    have a4 : 2 ≤ k := by omega
    have a5 : ¬ k ≤ 2 := by omega
    have a6 : ¬ k = 3 := by omega
    have a7 : 3 ≤ k := by omega
    have a8 : ¬ k ≤ 3 := by omega
    have a9 : ¬ k = 20 := by omega
    have a10 : 20 ≤ k := by omega
    have a11 : ¬ k ≤ 20 := by omega
    have a12 : ¬ k = 21 := by omega
    have a13 : 21 ≤ k := by omega
    have a14 : ¬ k ≤ 21 := by omega
    have a15 : ¬ k = 22 := by omega
    have a16 : 22 ≤ k := by omega
    have a17 : ¬ k ≤ 22 := by omega
    have a18 : ¬ k = 23 := by omega
    have a19 : 23 ≤ k := by omega
    have a20 : ¬ k ≤ 23 := by omega
    have a21 : ¬ k = 24 := by omega
    have a22 : 24 ≤ k := by omega
    have a23 : ¬ k ≤ 24 := by omega
    have a24 : ¬ k = 25 := by omega
    have a25 : 25 ≤ k := by omega
    have a26 : ¬ k ≤ 25 := by omega
    have a27 : ¬ k = 26 := by omega
    have a28 : 26 ≤ k := by omega
    have a29 : ¬ k ≤ 26 := by omega
    have a30 : ¬ k = 27 := by omega
    have a31 : 27 ≤ k := by omega
    have a32 : ¬ k ≤ 27 := by omega
    have a33 : ¬ k = 30 := by omega
    have a34 : 30 ≤ k := by omega
    have a35 : ¬ k ≤ 30 := by omega
    have a36 : ¬ k = 31 := by omega
    have a37 : 31 ≤ k := by omega
    have a38 : ¬ k ≤ 31 := by omega
    have a39 : ¬ k = 32 := by omega
    have a40 : 32 ≤ k := by omega
    have a41 : ¬ k ≤ 32 := by omega
    have a42 : ¬ k = 33 := by omega
    have a43 : 33 ≤ k := by omega
    have a44 : ¬ k ≤ 33 := by omega
    have a45 : ¬ k = 38 := by omega
    have a46 : 38 ≤ k := by omega
    have a47 : ¬ k ≤ 38 := by omega
    have a48 : ¬ k = 40 := by omega
    have a49 : 40 ≤ k := by omega
    have a50 : ¬ k ≤ 40 := by omega
    have a51 : ¬ k = 46 := by omega
    have a52 : 46 ≤ k := by omega
    have a53 : ¬ k ≤ 46 := by omega
    have a54 : ¬ k = 50 := by omega
    have a55 : ¬ 50 ≤ k := by omega
    have a56 : k ≤ 50 := by omega
    have a57 : ¬ k = 54 := by omega
    have a58 : ¬ 54 ≤ k := by omega
    have a59 : k ≤ 54 := by omega
    have a60 : ¬ k = 60 := by omega
    have a61 : ¬ 60 ≤ k := by omega
    have a62 : k ≤ 60 := by omega
    have a63 : ¬ k = 61 := by omega
    have a64 : ¬ 61 ≤ k := by omega
    have a65 : k ≤ 61 := by omega
    have a66 : ¬ k = 62 := by omega
    have a67 : ¬ 62 ≤ k := by omega
    have a68 : k ≤ 62 := by omega
    simp -dsimp -implicitDefEqProofs [undef, a0, a1, a2, a3, a4, a5, a6, a7, a8, a9, a10, a11, a12, a13, a14, a15, a16, a17, a18, a19, a20, a21, a22, a23, a24, a25, a26, a27, a28, a29, a30, a31, a32, a33, a34, a35, a36, a37, a38, a39, a40, a41, a42, a43, a44, a45, a46, a47, a48, a49, a50, a51, a52, a53, a54, a55, a56, a57, a58, a59, a60, a61, a62, a63, a64, a65, a66, a67, a68]
    exact fin_ret (by simp -dsimp; rfl) (leave_pure (by simp) (by first | exact h | simpa [shapeV, bitN] using h))
  · have hv : sortN k = 19 := by unfold sortN; (repeat' split) <;> omega
    rw [hv] at h
    clear hv
    have a0 : ¬ k = 1 := by omega
    have a1 : 1 ≤ k := by omega
    have a2 : ¬ k ≤ 1 := by omega
    have a3 : ¬ k = 2 := by omega
    have a4 : 2 ≤ k := by omega
    have a5 : ¬ k ≤ 2 := by omega
    have a6 : ¬ k = 3 := by omega
    have a7 : 3 ≤ k := by omega
    have a8 : ¬ k ≤ 3 := by omega
    have a9 : ¬ k = 20 := by omega
    have a10 : 20 ≤ k := by omega
    have a11 : ¬ k ≤ 20 := by omega
    have a12 : ¬ k = 21 := by omega
    have a13 : 21 ≤ k := by omega
    have a14 : ¬ k ≤ 21 := by omega
    have a15 : ¬ k = 22 := by omega
    have a16 : 22 ≤ k := by omega
    have a17 : ¬ k ≤ 22 := by omega
    have a18 : ¬ k = 23 := by omega
    have a19 : 23 ≤ k := by omega
    have a20 : ¬ k ≤ 23 := by omega
    have a21 : ¬ k = 24 := by omega
    have a22 : 24 ≤ k := by omega
    have a23 : ¬ k ≤ 24 := by omega
    have a24 : ¬ k = 25 := by omega
    have a25 : 25 ≤ k := by omega
    have a26 : ¬ k ≤ 25 := by omega
    have a27 : ¬ k = 26 := by omega
    have a28 : 26 ≤ k := by omega
    have a29 : ¬ k ≤ 26 := by omega
    have a30 : ¬ k = 27 := by omega
    have a31 : 27 ≤ k := by omega
    have a32 : ¬ k ≤ 27 := by omega
    have a33 : ¬ k = 30 := by omega
    have a34 : 30 ≤ k := by omega
    have a35 : ¬ k ≤ 30 := by omega
    have a36 : ¬ k = 31 := by omega
    have a37 : 31 ≤ k := by omega
    have a38 : ¬ k ≤ 31 := by omega
    have a39 : ¬ k = 32 := by omega
    have a40 : 32 ≤ k := by omega
    have a41 : ¬ k ≤ 32 := by omega
    have a42 : ¬ k = 33 := by omega
    have a43 : 33 ≤ k := by omega
    have a44 : ¬ k ≤ 33 := by omega
    have a45 : ¬ k = 38 := by omega
    have a46 : 38 ≤ k := by omega
    have a47 : ¬ k ≤ 38 := by omega
    have a48 : ¬ k = 40 := by omega
    have a49 : 40 ≤ k := by omega
    have a50 : ¬ k ≤ 40 := by omega
    have a51 : ¬ k = 46 := by omega
    have a52 : 46 ≤ k := by omega
    have a53 : ¬ k ≤ 46 := by omega
    have a54 : 50 ≤ k := by omega
    have a55 : k ≤ 54 := by omega
    have a56 : ¬ k = 60 := by omega
    have a57 : ¬ 60 ≤ k := by omega
    have a58 : k ≤ 60 := by omega
    have a59 : ¬ k = 61 := by omega
    have a60 : ¬ 61 ≤ k := by omega
    have a61 : k ≤ 61 := by omega
    have a62 : ¬ k = 62 := by omega
    have a63 : ¬ 62 ≤ k := by omega
    have a64 : k ≤ 62 := by omega
    simp -dsimp -implicitDefEqProofs [undef, a0, a1, a2, a3, a4, a5, a6, a7, a8, a9, a10, a11, a12, a13, a14, a15, a16, a17, a18, a19, a20, a21, a22, a23, a24, a25, a26, a27, a28, a29, a30, a31, a32, a33, a34, a35, a36, a37, a38, a39, a40, a41, a42, a43, a44, a45, a46, a47, a48, a49, a50, a51, a52, a53, a54, a55, a56, a57, a58, a59, a60, a61, a62, a63, a64]
    exact fin_ret (by simp -dsimp; rfl) (leave_pure (by simp) (by first | exact h | simpa [shapeV, bitN] using h))
  · have hv : sortN k = 0 := by unfold sortN; (repeat' split) <;> omega
    rw [hv] at h
    clear hv
    have a0 : ¬ k = 1 := by omega
    have a1 : 1 ≤ k := by omega
    have a2 : ¬ k ≤ 1 := by omega
    have a3 : ¬ k = 2 := by omega
    have a4 : 2 ≤ k := by omega
    have a5 : ¬ k ≤ 2 := by omega
    have a6 : ¬ k = 3 := by omega
    have a7 : 3 ≤ k := by omega
    have a8 : ¬ k ≤ 3 := by omega
    have a9 : ¬ k = 20 := by omega
    have a10 : 20 ≤ k := by omega
    have a11 : ¬ k ≤ 20 := by omega
    have a12 : ¬ k = 21 := by omega
    have a13 : 21 ≤ k := by omega
    have a14 : ¬ k ≤ 21 := by omega
    have a15 : ¬ k = 22 := by omega
    have a16 : 22 ≤ k := by omega
    have a17 : ¬ k ≤ 22 := by omega
    have a18 : ¬ k = 23 := by omega
    have a19 : 23 ≤ k := by omega
    have a20 : ¬ k ≤ 23 := by omega
    have a21 : ¬ k = 24 := by omega
    have a22 : 24 ≤ k := by omega
    have a23 : ¬ k ≤ 24 := by omega
    have a24 : ¬ k = 25 := by omega
    have a25 : 25 ≤ k := by omega
    have a26 : ¬ k ≤ 25 := by omega
    have a27 : ¬ k = 26 := by omega
    have a28 : 26 ≤ k := by omega
    have a29 : ¬ k ≤ 26 := by omega
    have a30 : ¬ k = 27 := by omega
    have a31 : 27 ≤ k := by omega
    have a32 : ¬ k ≤ 27 := by omega
    have a33 : ¬ k = 30 := by omega
    have a34 : 30 ≤ k := by omega
    have a35 : ¬ k ≤ 30 := by omega
    have a36 : ¬ k = 31 := by omega
    have a37 : 31 ≤ k := by omega
    have a38 : ¬ k ≤ 31 := by omega
    have a39 : ¬ k = 32 := by omega
    have a40 : 32 ≤ k := by omega
    have a41 : ¬ k ≤ 32 := by omega
    have a42 : ¬ k = 33 := by omega
    have a43 : 33 ≤ k := by omega
    have a44 : ¬ k ≤ 33 := by omega
    have a45 : ¬ k = 38 := by omega
    have a46 : 38 ≤ k := by omega
    have a47 : ¬ k ≤ 38 := by omega
    have a48 : ¬ k = 40 := by omega
    have a49 : 40 ≤ k := by omega
    have a50 : ¬ k ≤ 40 := by omega
    have a51 : ¬ k = 46 := by omega
    have a52 : 46 ≤ k := by omega
    have a53 : ¬ k ≤ 46 := by omega
    have a54 : ¬ k = 50 := by omega
    have a55 : 50 ≤ k := by omega
    have a56 : ¬ k ≤ 50 := by omega
    have a57 : ¬ k = 54 := by omega
    have a58 : 54 ≤ k := by omega
    have a59 : ¬ k ≤ 54 := by omega
    have a60 : ¬ k = 60 := by omega
    have a61 : ¬ 60 ≤ k := by omega
    have a62 : k ≤ 60 := by omega
    have a63 : ¬ k = 61 := by omega
    have a64 : ¬ 61 ≤ k := by omega
    have a65 : k ≤ 61 := by omega
    have a66 : ¬ k = 62 := by omega
    have a67 : ¬ 62 ≤ k := by omega
    have a68 : k ≤ 62 := by omega
    simp -dsimp -implicitDefEqProofs [undef, a0, a1, a2, a3, a4, a5, a6, a7, a8, a9, a10, a11, a12, a13, a14, a15, a16, a17, a18, a19, a20, a21, a22, a23, a24, a25, a26, a27, a28, a29, a30, a31, a32, a33, a34, a35, a36, a37, a38, a39, a40, a41, a42, a43, a44, a45, a46, a47, a48, a49, a50, a51, a52, a53, a54, a55, a56, a57, a58, a59, a60, a61, a62, a63, a64, a65, a66, a67, a68]
    exact fin_ret (by simp -dsimp; rfl) (leave_pure (by simp) (by first | exact h | simpa [shapeV, bitN] using h))
  · have hv : sortN k = 48 := by unfold sortN; (repeat' split) <;> omega
    rw [hv] at h
    clear hv
    subst hc
    simp -dsimp -implicitDefEqProofs [undef]
    exact fin_ret (by simp -dsimp; rfl) (leave_pure (by simp) (by first | exact h | simpa [shapeV, bitN] using h))
  · have hv : sortN k = 33 := by unfold sortN; (repeat' split) <;> omega
    rw [hv] at h
    clear hv
    subst hc
    simp -dsimp -implicitDefEqProofs [undef]
    exact fin_ret (by simp -dsimp; rfl) (leave_pure (by simp) (by first | exact h | simpa [shapeV, bitN] using h))
  · have hv : sortN k = 49 := by unfold sortN; (repeat' split) <;> omega
    rw [hv] at h
    clear hv
    subst hc
    simp -dsimp -implicitDefEqProofs [undef]
    exact fin_ret (by simp -dsimp; rfl) (leave_pure (by simp) (by first | exact h | simpa [shapeV, bitN] using h))
  · have hv : sortN k = 0 := by unfold sortN; (repeat' split) <;> omega
    rw [hv] at h
    clear hv
    have a0 : ¬ k = 1 := by omega
    have a1 : 1 ≤ k := by omega
    have a2 : ¬ k ≤ 1 := by omega
    have a3 : ¬ k = 2 := by omega
    have a4 : 2 ≤ k := by omega
    have a5 : ¬ k ≤ 2 := by omega
    have a6 : ¬ k = 3 := by omega
    have a7 : 3 ≤ k := by omega
    have a8 : ¬ k ≤ 3 := by omega
    have a9 : ¬ k = 20 := by omega
    have a10 : 20 ≤ k := by omega
    have a11 : ¬ k ≤ 20 := by omega
    have a12 : ¬ k = 21 := by omega
    have a13 : 21 ≤ k := by omega
    have a14 : ¬ k ≤ 21 := by omega
    have a15 : ¬ k = 22 := by omega
    have a16 : 22 ≤ k := by omega
    have a17 : ¬ k ≤ 22 := by omega
    have a18 : ¬ k = 23 := by omega
    have a19 : 23 ≤ k := by omega
    have a20 : ¬ k ≤ 23 := by omega
    have a21 : ¬ k = 24 := by omega
    have a22 : 24 ≤ k := by omega
    have a23 : ¬ k ≤ 24 := by omega
    have a24 : ¬ k = 25 := by omega
    have a25 : 25 ≤ k := by omega
    have a26 : ¬ k ≤ 25 := by omega
    have a27 : ¬ k = 26 := by omega
    have a28 : 26 ≤ k := by omega
    have a29 : ¬ k ≤ 26 := by omega
    have a30 : ¬ k = 27 := by omega
    have a31 : 27 ≤ k := by omega
    have a32 : ¬ k ≤ 27 := by omega
    have a33 : ¬ k = 30 := by omega
    have a34 : 30 ≤ k := by omega
    have a35 : ¬ k ≤ 30 := by omega
    have a36 : ¬ k = 31 := by omega
    have a37 : 31 ≤ k := by omega
    have a38 : ¬ k ≤ 31 := by omega
    have a39 : ¬ k = 32 := by omega
    have a40 : 32 ≤ k := by omega
    have a41 : ¬ k ≤ 32 := by omega
    have a42 : ¬ k = 33 := by omega
    have a43 : 33 ≤ k := by omega
    have a44 : ¬ k ≤ 33 := by omega
    have a45 : ¬ k = 38 := by omega
    have a46 : 38 ≤ k := by omega
    have a47 : ¬ k ≤ 38 := by omega
    have a48 : ¬ k = 40 := by omega
    have a49 : 40 ≤ k := by omega
    have a50 : ¬ k ≤ 40 := by omega
    have a51 : ¬ k = 46 := by omega
    have a52 : 46 ≤ k := by omega
    have a53 : ¬ k ≤ 46 := by omega
    have a54 : ¬ k = 50 := by omega
    have a55 : 50 ≤ k := by omega
    have a56 : ¬ k ≤ 50 := by omega
    have a57 : ¬ k = 54 := by omega
    have a58 : 54 ≤ k := by omega
    have a59 : ¬ k ≤ 54 := by omega
    have a60 : ¬ k = 60 := by omega
    have a61 : 60 ≤ k := by omega
    have a62 : ¬ k ≤ 60 := by omega
    have a63 : ¬ k = 61 := by omega
    have a64 : 61 ≤ k := by omega
    have a65 : ¬ k ≤ 61 := by omega
    have a66 : ¬ k = 62 := by omega
    have a67 : 62 ≤ k := by omega
    have a68 : ¬ k ≤ 62 := by omega
    simp -dsimp -implicitDefEqProofs [undef, a0, a1, a2, a3, a4, a5, a6, a7, a8, a9, a10, a11, a12, a13, a14, a15, a16, a17, a18, a19, a20, a21, a22, a23, a24, a25, a26, a27, a28, a29, a30, a31, a32, a33, a34, a35, a36, a37, a38, a39, a40, a41, a42, a43, a44, a45, a46, a47, a48, a49, a50, a51, a52, a53, a54, a55, a56, a57, a58, a59, a60, a61, a62, a63, a64, a65, a66, a67, a68]
    exact fin_ret (by simp -dsimp; rfl) (leave_pure (by simp) (by first | exact h | simpa [shapeV, bitN] using h))

end Go.Lm
/- ir.Reads, Writes; the document's. -/
set_option linter.unusedSimpArgs false
set_option linter.unusedVariables false
namespace Go.Lm
open Go.Proofs

/-- an operation between instructions -/
structure OpZ where
  kind : Int
  d : Int
  a : Int
  b : Int
  imm : Nat
  at_ : Int
def opV (o : OpZ) : Value := .agg #[.int .i64 o.kind, .int .i64 o.d, .int .i64 o.a, .int .i64 o.b, .int .u32 o.imm, .int .i64 o.at_]
def readsQ (o : OpZ) : List Int := (if bitN (sortN o.kind) 1 then [o.a] else []) ++ (if bitN (sortN o.kind) 2 then [o.b] else []) ++ (if bitN (sortN o.kind) 4 then [o.d] else [])
def writesO (o : OpZ) : Int := if bitN (sortN o.kind) 8 then o.d else -1
theorem sortN_cases (k : Int) : sortN k = 24 ∨ sortN k = 9 ∨ sortN k = 11 ∨ sortN k = 15 ∨ sortN k = 3 ∨ sortN k = 27 ∨ sortN k = 19 ∨ sortN k = 48 ∨ sortN k = 33 ∨ sortN k = 49 ∨ sortN k = 0 := by
  unfold sortN
  (repeat' split) <;> simp

set_option maxRecDepth 100000 in
set_option maxHeartbeats 4000000 in
theorem owrites_tc (o : OpZ) (m : Mem) (Q) (h : Q (.int .i64 (writesO o)) m) : TC Try.prog 98 [opV o] m Q := by
  refine TC_fn mixed Try.func98 rfl Try.ntmps98 rfl (by decide) (by simp) ?_
  obtain ⟨kind, d, a, b, imm, at_⟩ := o
  have hof := irof_tc kind
  have hc := sortN_cases kind
  unfold writesO at h
  simp only at h
  generalize sortN kind = n at *
  refine wpc_st fun K hK => ?_
  simp -dsimp [opV]
  refine hK _ _ ?_
  clear hK K
  rcases hc with rfl | rfl | rfl | rfl | rfl | rfl | rfl | rfl | rfl | rfl | rfl
  all_goals
    simp -dsimp
    refine hof _ _ ?_
    simp -dsimp [shapeV, bitN]
    exact fin_ret rfl (leave_pure (by simp) (by simpa [bitN] using h))

set_option maxRecDepth 100000 in
set_option maxHeartbeats 4000000 in
theorem rowrites_tc (o : OpZ) (m : Mem) (Q) (h : Q (.int .i64 (writesO o)) m) : TC Try.prog 52 [opV o] m Q := by
  refine TC_fn mixed Try.func52 rfl Try.ntmps52 rfl (by decide) (by simp) ?_
  obtain ⟨kind, d, a, b, imm, at_⟩ := o
  have hof := rsort_tc kind
  have hc := sortN_cases kind
  unfold writesO at h
  simp only at h
  have h8 : iand .i64 ((sortN kind : Nat) : Int) 8 = ((sortN kind &&& 8 : Nat) : Int) := iand_nat .i64 (a := sortN kind) (b := 8) (by simp only [nb]; omega) (by decide)
  generalize sortN kind = n at *
  refine wpc_st fun K hK => ?_
  simp -dsimp [opV]
  refine hK _ _ ?_
  clear hK K
  rcases hc with rfl | rfl | rfl | rfl | rfl | rfl | rfl | rfl | rfl | rfl | rfl
  all_goals
    simp only [Nat.reduceAnd] at h8
    simp -dsimp
    refine hof _ _ ?_
    simp -dsimp at h8
    simp -dsimp [h8, bitN]
    exact fin_ret rfl (leave_pure (by simp) (by simpa [bitN] using h))

theorem readsQ_eq (o : OpZ) : readsQ o = (if bitN (sortN o.kind) 1 then [o.a] else []) ++ (if bitN (sortN o.kind) 2 then [o.b] else []) ++ (if bitN (sortN o.kind) 4 then [o.d] else []) := rfl

set_option maxRecDepth 100000 in
set_option maxHeartbeats 8000000 in
theorem oreads_tc (o : OpZ) (m : Mem) (kk : Nat) (hf : m.get kk = .free) (Q : Value → Mem → Prop) (h : Q (lstV kk (readsQ o)) (lstM m kk (readsQ o))) : TC Try.prog 97 [opV o] m Q := by
  refine TC_fn mixed Try.func97 rfl Try.ntmps97 rfl (by decide) (by simp) ?_
  obtain ⟨kind, d, a, b, imm, at_⟩ := o
  have hof := irof_tc kind
  have hc := sortN_cases kind
  rw [readsQ_eq] at h
  simp only at h
  generalize sortN kind = n at *
  refine wpc_st fun K hK => ?_
  simp -dsimp [opV]
  refine hK _ _ ?_
  clear hK K
  rcases hc with rfl | rfl | rfl | rfl | rfl | rfl | rfl | rfl | rfl | rfl | rfl
  all_goals
    simp only [bitN, Nat.reduceDiv, Nat.reduceMod, Nat.reduceEqDiff, decide_true, decide_false, if_true, if_false, Bool.false_eq_true, List.nil_append, List.append_nil, List.cons_append, lstV, lstM, List.length_cons, List.length_nil, reduceCtorEq] at h
    simp -dsimp
    refine hof _ _ ?_
    simp -dsimp [shapeV, bitN, y1]
    first
      | exact fin_ret rfl (leave_pure (by simp) h)
      | exact fin_ret rfl (leave_row_at (by simp [i64A]) (i64A_gnd _) hf h)

set_option maxRecDepth 100000 in
set_option maxHeartbeats 8000000 in
theorem roreads_tc (o : OpZ) (m : Mem) (kk : Nat) (hf : m.get kk = .free) (Q : Value → Mem → Prop) (h : Q (lstV kk (readsQ o)) (lstM m kk (readsQ o))) : TC Try.prog 53 [opV o] m Q := by
  refine TC_fn mixed Try.func53 rfl Try.ntmps53 rfl (by decide) (by simp) ?_
  obtain ⟨kind, d, a, b, imm, at_⟩ := o
  have hof := rsort_tc kind
  have hc := sortN_cases kind
  rw [readsQ_eq] at h
  simp only at h
  have h1 : iand .i64 ((sortN kind : Nat) : Int) 1 = ((sortN kind &&& 1 : Nat) : Int) := iand_nat .i64 (a := sortN kind) (b := 1) (by simp only [nb]; omega) (by decide)
  have h2 : iand .i64 ((sortN kind : Nat) : Int) 2 = ((sortN kind &&& 2 : Nat) : Int) := iand_nat .i64 (a := sortN kind) (b := 2) (by simp only [nb]; omega) (by decide)
  have h4 : iand .i64 ((sortN kind : Nat) : Int) 4 = ((sortN kind &&& 4 : Nat) : Int) := iand_nat .i64 (a := sortN kind) (b := 4) (by simp only [nb]; omega) (by decide)
  generalize sortN kind = n at *
  refine wpc_st fun K hK => ?_
  simp -dsimp [opV]
  refine hK _ _ ?_
  clear hK K
  rcases hc with rfl | rfl | rfl | rfl | rfl | rfl | rfl | rfl | rfl | rfl | rfl
  all_goals
    simp only [bitN, Nat.reduceDiv, Nat.reduceMod, Nat.reduceEqDiff, decide_true, decide_false, if_true, if_false, Bool.false_eq_true, List.nil_append, List.append_nil, List.cons_append, lstV, lstM, List.length_cons, List.length_nil, reduceCtorEq] at h
    simp only [Nat.reduceAnd] at h1 h2 h4
    simp -dsimp at h1 h2 h4
    simp -dsimp
    refine hof _ _ ?_
    simp -dsimp [shapeV, bitN, y1, h1, h2, h4]
    first
      | exact fin_ret rfl (leave_pure (by simp) h)
      | exact fin_ret rfl (leave_row_at (by simp [i64A]) (i64A_gnd _) hf h)
end Go.Lm
/- ir.place, the document's fields. -/
set_option linter.unusedSimpArgs false
set_option linter.unusedVariables false
namespace Go.Lm
open Go.Proofs

theorem beq0 (a : Int) : (a == 0) = decide (a = 0) := by rw [Bool.eq_iff_iff]; simp
def placeQ (a : Int) (is : Bool) : Bool := if is then decide (0 ≤ a) && decide (a ≤ 63) else decide (a = 0)
theorem irplace_tc (a : Int) (is : Bool) (m : Mem) (Q) (h : Q (.bool (placeQ a is)) m) : TC Try.prog 178 [.int .i64 a, .bool is] m Q := by
  refine TC_fn mixed Try.func178 rfl Try.ntmps178 rfl (by decide) (by simp) ?_
  cases is
  · simp -dsimp
    exact fin_ret rfl (leave_pure (by simp) (by simpa [placeQ, beq0] using h))
  · by_cases h0 : 0 ≤ a
    · simp -dsimp [h0]
      exact fin_ret rfl (leave_pure (by simp) (by simpa [placeQ, h0] using h))
    · have h1 : a < 0 := by omega
      simp -dsimp [undef, h0, h1]
      exact fin_ret rfl (leave_pure (by simp) (by simpa [placeQ, h0] using h))

def inQ (a : Int) : Bool := decide (0 ≤ a) && decide (a ≤ 63)
/-- the fields of an operation are in range, and nought where its kind has none -/
def fieldsQ (o : OpZ) : Bool :=
  !decide (sortN o.kind = 0) && inQ o.d && inQ o.a && inQ o.b && (bitN (sortN o.kind) 1 || decide (o.a = 0)) && (bitN (sortN o.kind) 2 || decide (o.b = 0)) &&
    (bitN (sortN o.kind) 4 || bitN (sortN o.kind) 8 || decide (o.d = 0)) && (!bitN (sortN o.kind) 8 || !decide (o.d = 0)) && (bitN (sortN o.kind) 16 || decide (o.imm = 0))
theorem fieldsQ_eq (o : OpZ) : fieldsQ o = (!decide (sortN o.kind = 0) && inQ o.d && inQ o.a && inQ o.b && (bitN (sortN o.kind) 1 || decide (o.a = 0)) && (bitN (sortN o.kind) 2 || decide (o.b = 0)) &&
    (bitN (sortN o.kind) 4 || bitN (sortN o.kind) 8 || decide (o.d = 0)) && (!bitN (sortN o.kind) 8 || !decide (o.d = 0)) && (bitN (sortN o.kind) 16 || decide (o.imm = 0))) := rfl

theorem inQ_cases (a : Int) : (a < 0 ∧ inQ a = false) ∨ (63 < a ∧ inQ a = false) ∨ (a = 0 ∧ inQ a = true) ∨ (0 < a ∧ a ≤ 63 ∧ inQ a = true) := by
  unfold inQ
  by_cases h0 : a < 0
  · exact .inl ⟨h0, by simp; omega⟩
  · by_cases h1 : 63 < a
    · exact .inr (.inl ⟨h1, by simp; omega⟩)
    · by_cases h2 : a = 0
      · subst h2; exact .inr (.inr (.inl ⟨rfl, by simp⟩))
      · exact .inr (.inr (.inr ⟨by omega, by omega, by simp; omega⟩))

set_option maxRecDepth 100000 in
set_option maxHeartbeats 32000000 in
theorem fields_n (o : OpZ) (m : Mem) (Q) (h : Q (.bool (fieldsQ o)) m) (d0 : o.d < 0) (dq : inQ o.d = false) : TC Try.prog 162 [opV o] m Q := by
  refine TC_fn mixed Try.func162 rfl Try.ntmps162 rfl (by decide) (by simp) ?_
  obtain ⟨kind, d, a, b, imm, at_⟩ := o
  have hof := rsort_tc kind
  have hc := sortN_cases kind
  rw [fieldsQ_eq] at h
  simp only at h d0 dq
  have h1 : iand .i64 ((sortN kind : Nat) : Int) 1 = ((sortN kind &&& 1 : Nat) : Int) := iand_nat .i64 (a := sortN kind) (b := 1) (by simp only [nb]; omega) (by decide)
  have h2 : iand .i64 ((sortN kind : Nat) : Int) 2 = ((sortN kind &&& 2 : Nat) : Int) := iand_nat .i64 (a := sortN kind) (b := 2) (by simp only [nb]; omega) (by decide)
  have h12 : iand .i64 ((sortN kind : Nat) : Int) 12 = ((sortN kind &&& 12 : Nat) : Int) := iand_nat .i64 (a := sortN kind) (b := 12) (by simp only [nb]; omega) (by decide)
  have h8 : iand .i64 ((sortN kind : Nat) : Int) 8 = ((sortN kind &&& 8 : Nat) : Int) := iand_nat .i64 (a := sortN kind) (b := 8) (by simp only [nb]; omega) (by decide)
  have h16 : iand .i64 ((sortN kind : Nat) : Int) 16 = ((sortN kind &&& 16 : Nat) : Int) := iand_nat .i64 (a := sortN kind) (b := 16) (by simp only [nb]; omega) (by decide)
  generalize sortN kind = n at *
  refine wpc_st fun K hK => ?_
  simp -dsimp -implicitDefEqProofs [opV]
  refine hK _ _ ?_
  clear hK K
  refine wpc_sq fun K hK => ?_
  simp -dsimp -implicitDefEqProofs
  refine hof _ _ ?_
  simp -dsimp -implicitDefEqProofs
  refine hK _ _ ?_
  clear hK K hof
  rcases hc with rfl | rfl | rfl | rfl | rfl | rfl | rfl | rfl | rfl | rfl | rfl
  all_goals
    simp only [Nat.reduceAnd] at h1 h2 h12 h8 h16
    simp -dsimp at h1 h2 h12 h8 h16
    simp -dsimp -implicitDefEqProofs [undef, h1, h2, h12, h8, h16, d0]
    exact fin_ret rfl (leave_pure (by simp) (by simpa [bitN, beq0, dq] using h))

set_option maxRecDepth 100000 in
set_option maxHeartbeats 32000000 in
theorem fields_g (o : OpZ) (m : Mem) (Q) (h : Q (.bool (fieldsQ o)) m) (d0 : 63 < o.d) (dq : inQ o.d = false) : TC Try.prog 162 [opV o] m Q := by
  refine TC_fn mixed Try.func162 rfl Try.ntmps162 rfl (by decide) (by simp) ?_
  obtain ⟨kind, d, a, b, imm, at_⟩ := o
  have hof := rsort_tc kind
  have hc := sortN_cases kind
  rw [fieldsQ_eq] at h
  simp only at h d0 dq
  have h1 : iand .i64 ((sortN kind : Nat) : Int) 1 = ((sortN kind &&& 1 : Nat) : Int) := iand_nat .i64 (a := sortN kind) (b := 1) (by simp only [nb]; omega) (by decide)
  have h2 : iand .i64 ((sortN kind : Nat) : Int) 2 = ((sortN kind &&& 2 : Nat) : Int) := iand_nat .i64 (a := sortN kind) (b := 2) (by simp only [nb]; omega) (by decide)
  have h12 : iand .i64 ((sortN kind : Nat) : Int) 12 = ((sortN kind &&& 12 : Nat) : Int) := iand_nat .i64 (a := sortN kind) (b := 12) (by simp only [nb]; omega) (by decide)
  have h8 : iand .i64 ((sortN kind : Nat) : Int) 8 = ((sortN kind &&& 8 : Nat) : Int) := iand_nat .i64 (a := sortN kind) (b := 8) (by simp only [nb]; omega) (by decide)
  have h16 : iand .i64 ((sortN kind : Nat) : Int) 16 = ((sortN kind &&& 16 : Nat) : Int) := iand_nat .i64 (a := sortN kind) (b := 16) (by simp only [nb]; omega) (by decide)
  generalize sortN kind = n at *
  refine wpc_st fun K hK => ?_
  simp -dsimp -implicitDefEqProofs [opV]
  refine hK _ _ ?_
  clear hK K
  refine wpc_sq fun K hK => ?_
  simp -dsimp -implicitDefEqProofs
  refine hof _ _ ?_
  simp -dsimp -implicitDefEqProofs
  refine hK _ _ ?_
  clear hK K hof
  have d2 : ¬ d < 0 := by omega
  rcases hc with rfl | rfl | rfl | rfl | rfl | rfl | rfl | rfl | rfl | rfl | rfl
  all_goals
    simp only [Nat.reduceAnd] at h1 h2 h12 h8 h16
    simp -dsimp at h1 h2 h12 h8 h16
    simp -dsimp -implicitDefEqProofs [undef, h1, h2, h12, h8, h16, d0, d2]
    exact fin_ret rfl (leave_pure (by simp) (by simpa [bitN, beq0, dq] using h))

set_option maxRecDepth 100000 in
set_option maxHeartbeats 32000000 in
theorem fields_zn (o : OpZ) (m : Mem) (Q) (h : Q (.bool (fieldsQ o)) m) (d0 : o.d = 0) (dq : inQ o.d = true) (a0 : o.a < 0) (aq : inQ o.a = false) : TC Try.prog 162 [opV o] m Q := by
  refine TC_fn mixed Try.func162 rfl Try.ntmps162 rfl (by decide) (by simp) ?_
  obtain ⟨kind, d, a, b, imm, at_⟩ := o
  have hof := rsort_tc kind
  have hc := sortN_cases kind
  rw [fieldsQ_eq] at h
  simp only at h d0 dq a0 aq
  have h1 : iand .i64 ((sortN kind : Nat) : Int) 1 = ((sortN kind &&& 1 : Nat) : Int) := iand_nat .i64 (a := sortN kind) (b := 1) (by simp only [nb]; omega) (by decide)
  have h2 : iand .i64 ((sortN kind : Nat) : Int) 2 = ((sortN kind &&& 2 : Nat) : Int) := iand_nat .i64 (a := sortN kind) (b := 2) (by simp only [nb]; omega) (by decide)
  have h12 : iand .i64 ((sortN kind : Nat) : Int) 12 = ((sortN kind &&& 12 : Nat) : Int) := iand_nat .i64 (a := sortN kind) (b := 12) (by simp only [nb]; omega) (by decide)
  have h8 : iand .i64 ((sortN kind : Nat) : Int) 8 = ((sortN kind &&& 8 : Nat) : Int) := iand_nat .i64 (a := sortN kind) (b := 8) (by simp only [nb]; omega) (by decide)
  have h16 : iand .i64 ((sortN kind : Nat) : Int) 16 = ((sortN kind &&& 16 : Nat) : Int) := iand_nat .i64 (a := sortN kind) (b := 16) (by simp only [nb]; omega) (by decide)
  generalize sortN kind = n at *
  refine wpc_st fun K hK => ?_
  simp -dsimp -implicitDefEqProofs [opV]
  refine hK _ _ ?_
  clear hK K
  refine wpc_sq fun K hK => ?_
  simp -dsimp -implicitDefEqProofs
  refine hof _ _ ?_
  simp -dsimp -implicitDefEqProofs
  refine hK _ _ ?_
  clear hK K hof
  subst d0
  rcases hc with rfl | rfl | rfl | rfl | rfl | rfl | rfl | rfl | rfl | rfl | rfl
  all_goals
    simp only [Nat.reduceAnd] at h1 h2 h12 h8 h16
    simp -dsimp at h1 h2 h12 h8 h16
    simp -dsimp -implicitDefEqProofs [undef, h1, h2, h12, h8, h16, a0]
    exact fin_ret rfl (leave_pure (by simp) (by simpa [bitN, beq0, dq, aq] using h))

set_option maxRecDepth 100000 in
set_option maxHeartbeats 32000000 in
theorem fields_zg (o : OpZ) (m : Mem) (Q) (h : Q (.bool (fieldsQ o)) m) (d0 : o.d = 0) (dq : inQ o.d = true) (a0 : 63 < o.a) (aq : inQ o.a = false) : TC Try.prog 162 [opV o] m Q := by
  refine TC_fn mixed Try.func162 rfl Try.ntmps162 rfl (by decide) (by simp) ?_
  obtain ⟨kind, d, a, b, imm, at_⟩ := o
  have hof := rsort_tc kind
  have hc := sortN_cases kind
  rw [fieldsQ_eq] at h
  simp only at h d0 dq a0 aq
  have h1 : iand .i64 ((sortN kind : Nat) : Int) 1 = ((sortN kind &&& 1 : Nat) : Int) := iand_nat .i64 (a := sortN kind) (b := 1) (by simp only [nb]; omega) (by decide)
  have h2 : iand .i64 ((sortN kind : Nat) : Int) 2 = ((sortN kind &&& 2 : Nat) : Int) := iand_nat .i64 (a := sortN kind) (b := 2) (by simp only [nb]; omega) (by decide)
  have h12 : iand .i64 ((sortN kind : Nat) : Int) 12 = ((sortN kind &&& 12 : Nat) : Int) := iand_nat .i64 (a := sortN kind) (b := 12) (by simp only [nb]; omega) (by decide)
  have h8 : iand .i64 ((sortN kind : Nat) : Int) 8 = ((sortN kind &&& 8 : Nat) : Int) := iand_nat .i64 (a := sortN kind) (b := 8) (by simp only [nb]; omega) (by decide)
  have h16 : iand .i64 ((sortN kind : Nat) : Int) 16 = ((sortN kind &&& 16 : Nat) : Int) := iand_nat .i64 (a := sortN kind) (b := 16) (by simp only [nb]; omega) (by decide)
  generalize sortN kind = n at *
  refine wpc_st fun K hK => ?_
  simp -dsimp -implicitDefEqProofs [opV]
  refine hK _ _ ?_
  clear hK K
  refine wpc_sq fun K hK => ?_
  simp -dsimp -implicitDefEqProofs
  refine hof _ _ ?_
  simp -dsimp -implicitDefEqProofs
  refine hK _ _ ?_
  clear hK K hof
  subst d0
  have a2 : ¬ a < 0 := by omega
  rcases hc with rfl | rfl | rfl | rfl | rfl | rfl | rfl | rfl | rfl | rfl | rfl
  all_goals
    simp only [Nat.reduceAnd] at h1 h2 h12 h8 h16
    simp -dsimp at h1 h2 h12 h8 h16
    simp -dsimp -implicitDefEqProofs [undef, h1, h2, h12, h8, h16, a0, a2]
    exact fin_ret rfl (leave_pure (by simp) (by simpa [bitN, beq0, dq, aq] using h))

set_option maxRecDepth 100000 in
set_option maxHeartbeats 32000000 in
theorem fields_zzn (o : OpZ) (m : Mem) (Q) (h : Q (.bool (fieldsQ o)) m) (d0 : o.d = 0) (dq : inQ o.d = true) (a0 : o.a = 0) (aq : inQ o.a = true) (b0 : o.b < 0) (bq : inQ o.b = false) : TC Try.prog 162 [opV o] m Q := by
  refine TC_fn mixed Try.func162 rfl Try.ntmps162 rfl (by decide) (by simp) ?_
  obtain ⟨kind, d, a, b, imm, at_⟩ := o
  have hof := rsort_tc kind
  have hc := sortN_cases kind
  rw [fieldsQ_eq] at h
  simp only at h d0 dq a0 aq b0 bq
  have h1 : iand .i64 ((sortN kind : Nat) : Int) 1 = ((sortN kind &&& 1 : Nat) : Int) := iand_nat .i64 (a := sortN kind) (b := 1) (by simp only [nb]; omega) (by decide)
  have h2 : iand .i64 ((sortN kind : Nat) : Int) 2 = ((sortN kind &&& 2 : Nat) : Int) := iand_nat .i64 (a := sortN kind) (b := 2) (by simp only [nb]; omega) (by decide)
  have h12 : iand .i64 ((sortN kind : Nat) : Int) 12 = ((sortN kind &&& 12 : Nat) : Int) := iand_nat .i64 (a := sortN kind) (b := 12) (by simp only [nb]; omega) (by decide)
  have h8 : iand .i64 ((sortN kind : Nat) : Int) 8 = ((sortN kind &&& 8 : Nat) : Int) := iand_nat .i64 (a := sortN kind) (b := 8) (by simp only [nb]; omega) (by decide)
  have h16 : iand .i64 ((sortN kind : Nat) : Int) 16 = ((sortN kind &&& 16 : Nat) : Int) := iand_nat .i64 (a := sortN kind) (b := 16) (by simp only [nb]; omega) (by decide)
  generalize sortN kind = n at *
  refine wpc_st fun K hK => ?_
  simp -dsimp -implicitDefEqProofs [opV]
  refine hK _ _ ?_
  clear hK K
  refine wpc_sq fun K hK => ?_
  simp -dsimp -implicitDefEqProofs
  refine hof _ _ ?_
  simp -dsimp -implicitDefEqProofs
  refine hK _ _ ?_
  clear hK K hof
  subst d0
  subst a0
  rcases hc with rfl | rfl | rfl | rfl | rfl | rfl | rfl | rfl | rfl | rfl | rfl
  all_goals
    simp only [Nat.reduceAnd] at h1 h2 h12 h8 h16
    simp -dsimp at h1 h2 h12 h8 h16
    simp -dsimp -implicitDefEqProofs [undef, h1, h2, h12, h8, h16, b0]
    exact fin_ret rfl (leave_pure (by simp) (by simpa [bitN, beq0, dq, aq, bq] using h))

set_option maxRecDepth 100000 in
set_option maxHeartbeats 32000000 in
theorem fields_zzg (o : OpZ) (m : Mem) (Q) (h : Q (.bool (fieldsQ o)) m) (d0 : o.d = 0) (dq : inQ o.d = true) (a0 : o.a = 0) (aq : inQ o.a = true) (b0 : 63 < o.b) (bq : inQ o.b = false) : TC Try.prog 162 [opV o] m Q := by
  refine TC_fn mixed Try.func162 rfl Try.ntmps162 rfl (by decide) (by simp) ?_
  obtain ⟨kind, d, a, b, imm, at_⟩ := o
  have hof := rsort_tc kind
  have hc := sortN_cases kind
  rw [fieldsQ_eq] at h
  simp only at h d0 dq a0 aq b0 bq
  have h1 : iand .i64 ((sortN kind : Nat) : Int) 1 = ((sortN kind &&& 1 : Nat) : Int) := iand_nat .i64 (a := sortN kind) (b := 1) (by simp only [nb]; omega) (by decide)
  have h2 : iand .i64 ((sortN kind : Nat) : Int) 2 = ((sortN kind &&& 2 : Nat) : Int) := iand_nat .i64 (a := sortN kind) (b := 2) (by simp only [nb]; omega) (by decide)
  have h12 : iand .i64 ((sortN kind : Nat) : Int) 12 = ((sortN kind &&& 12 : Nat) : Int) := iand_nat .i64 (a := sortN kind) (b := 12) (by simp only [nb]; omega) (by decide)
  have h8 : iand .i64 ((sortN kind : Nat) : Int) 8 = ((sortN kind &&& 8 : Nat) : Int) := iand_nat .i64 (a := sortN kind) (b := 8) (by simp only [nb]; omega) (by decide)
  have h16 : iand .i64 ((sortN kind : Nat) : Int) 16 = ((sortN kind &&& 16 : Nat) : Int) := iand_nat .i64 (a := sortN kind) (b := 16) (by simp only [nb]; omega) (by decide)
  generalize sortN kind = n at *
  refine wpc_st fun K hK => ?_
  simp -dsimp -implicitDefEqProofs [opV]
  refine hK _ _ ?_
  clear hK K
  refine wpc_sq fun K hK => ?_
  simp -dsimp -implicitDefEqProofs
  refine hof _ _ ?_
  simp -dsimp -implicitDefEqProofs
  refine hK _ _ ?_
  clear hK K hof
  subst d0
  subst a0
  have b2 : ¬ b < 0 := by omega
  rcases hc with rfl | rfl | rfl | rfl | rfl | rfl | rfl | rfl | rfl | rfl | rfl
  all_goals
    simp only [Nat.reduceAnd] at h1 h2 h12 h8 h16
    simp -dsimp at h1 h2 h12 h8 h16
    simp -dsimp -implicitDefEqProofs [undef, h1, h2, h12, h8, h16, b0, b2]
    exact fin_ret rfl (leave_pure (by simp) (by simpa [bitN, beq0, dq, aq, bq] using h))

set_option maxRecDepth 100000 in
set_option maxHeartbeats 32000000 in
theorem fields_zzz (o : OpZ) (m : Mem) (Q) (h : Q (.bool (fieldsQ o)) m) (d0 : o.d = 0) (dq : inQ o.d = true) (a0 : o.a = 0) (aq : inQ o.a = true) (b0 : o.b = 0) (bq : inQ o.b = true) : TC Try.prog 162 [opV o] m Q := by
  refine TC_fn mixed Try.func162 rfl Try.ntmps162 rfl (by decide) (by simp) ?_
  obtain ⟨kind, d, a, b, imm, at_⟩ := o
  have hof := rsort_tc kind
  have hc := sortN_cases kind
  rw [fieldsQ_eq] at h
  simp only at h d0 dq a0 aq b0 bq
  have h1 : iand .i64 ((sortN kind : Nat) : Int) 1 = ((sortN kind &&& 1 : Nat) : Int) := iand_nat .i64 (a := sortN kind) (b := 1) (by simp only [nb]; omega) (by decide)
  have h2 : iand .i64 ((sortN kind : Nat) : Int) 2 = ((sortN kind &&& 2 : Nat) : Int) := iand_nat .i64 (a := sortN kind) (b := 2) (by simp only [nb]; omega) (by decide)
  have h12 : iand .i64 ((sortN kind : Nat) : Int) 12 = ((sortN kind &&& 12 : Nat) : Int) := iand_nat .i64 (a := sortN kind) (b := 12) (by simp only [nb]; omega) (by decide)
  have h8 : iand .i64 ((sortN kind : Nat) : Int) 8 = ((sortN kind &&& 8 : Nat) : Int) := iand_nat .i64 (a := sortN kind) (b := 8) (by simp only [nb]; omega) (by decide)
  have h16 : iand .i64 ((sortN kind : Nat) : Int) 16 = ((sortN kind &&& 16 : Nat) : Int) := iand_nat .i64 (a := sortN kind) (b := 16) (by simp only [nb]; omega) (by decide)
  generalize sortN kind = n at *
  refine wpc_st fun K hK => ?_
  simp -dsimp -implicitDefEqProofs [opV]
  refine hK _ _ ?_
  clear hK K
  refine wpc_sq fun K hK => ?_
  simp -dsimp -implicitDefEqProofs
  refine hof _ _ ?_
  simp -dsimp -implicitDefEqProofs
  refine hK _ _ ?_
  clear hK K hof
  subst d0
  subst a0
  subst b0
  rcases hc with rfl | rfl | rfl | rfl | rfl | rfl | rfl | rfl | rfl | rfl | rfl
  all_goals
    simp only [Nat.reduceAnd] at h1 h2 h12 h8 h16
    simp -dsimp at h1 h2 h12 h8 h16
    simp -dsimp -implicitDefEqProofs [undef, h1, h2, h12, h8, h16]
    exact fin_ret rfl (leave_pure (by simp) (by simpa [bitN, beq0, dq, aq, bq] using h))

set_option maxRecDepth 100000 in
set_option maxHeartbeats 32000000 in
theorem fields_zzp (o : OpZ) (m : Mem) (Q) (h : Q (.bool (fieldsQ o)) m) (d0 : o.d = 0) (dq : inQ o.d = true) (a0 : o.a = 0) (aq : inQ o.a = true) (b0 : 0 < o.b ∧ o.b ≤ 63) (bq : inQ o.b = true) : TC Try.prog 162 [opV o] m Q := by
  refine TC_fn mixed Try.func162 rfl Try.ntmps162 rfl (by decide) (by simp) ?_
  obtain ⟨kind, d, a, b, imm, at_⟩ := o
  have hof := rsort_tc kind
  have hc := sortN_cases kind
  rw [fieldsQ_eq] at h
  simp only at h d0 dq a0 aq b0 bq
  have h1 : iand .i64 ((sortN kind : Nat) : Int) 1 = ((sortN kind &&& 1 : Nat) : Int) := iand_nat .i64 (a := sortN kind) (b := 1) (by simp only [nb]; omega) (by decide)
  have h2 : iand .i64 ((sortN kind : Nat) : Int) 2 = ((sortN kind &&& 2 : Nat) : Int) := iand_nat .i64 (a := sortN kind) (b := 2) (by simp only [nb]; omega) (by decide)
  have h12 : iand .i64 ((sortN kind : Nat) : Int) 12 = ((sortN kind &&& 12 : Nat) : Int) := iand_nat .i64 (a := sortN kind) (b := 12) (by simp only [nb]; omega) (by decide)
  have h8 : iand .i64 ((sortN kind : Nat) : Int) 8 = ((sortN kind &&& 8 : Nat) : Int) := iand_nat .i64 (a := sortN kind) (b := 8) (by simp only [nb]; omega) (by decide)
  have h16 : iand .i64 ((sortN kind : Nat) : Int) 16 = ((sortN kind &&& 16 : Nat) : Int) := iand_nat .i64 (a := sortN kind) (b := 16) (by simp only [nb]; omega) (by decide)
  generalize sortN kind = n at *
  refine wpc_st fun K hK => ?_
  simp -dsimp -implicitDefEqProofs [opV]
  refine hK _ _ ?_
  clear hK K
  refine wpc_sq fun K hK => ?_
  simp -dsimp -implicitDefEqProofs
  refine hof _ _ ?_
  simp -dsimp -implicitDefEqProofs
  refine hK _ _ ?_
  clear hK K hof
  subst d0
  subst a0
  obtain ⟨b0, b1⟩ := b0
  have b2 : ¬ b < 0 := by omega
  have b3 : ¬ 63 < b := by omega
  have b4 : ¬ b = 0 := by omega
  rcases hc with rfl | rfl | rfl | rfl | rfl | rfl | rfl | rfl | rfl | rfl | rfl
  all_goals
    simp only [Nat.reduceAnd] at h1 h2 h12 h8 h16
    simp -dsimp at h1 h2 h12 h8 h16
    simp -dsimp -implicitDefEqProofs [undef, h1, h2, h12, h8, h16, b2, b3, b4]
    exact fin_ret rfl (leave_pure (by simp) (by simpa [bitN, beq0, dq, aq, bq, b4] using h))

set_option maxRecDepth 100000 in
set_option maxHeartbeats 32000000 in
theorem fields_zpn (o : OpZ) (m : Mem) (Q) (h : Q (.bool (fieldsQ o)) m) (d0 : o.d = 0) (dq : inQ o.d = true) (a0 : 0 < o.a ∧ o.a ≤ 63) (aq : inQ o.a = true) (b0 : o.b < 0) (bq : inQ o.b = false) : TC Try.prog 162 [opV o] m Q := by
  refine TC_fn mixed Try.func162 rfl Try.ntmps162 rfl (by decide) (by simp) ?_
  obtain ⟨kind, d, a, b, imm, at_⟩ := o
  have hof := rsort_tc kind
  have hc := sortN_cases kind
  rw [fieldsQ_eq] at h
  simp only at h d0 dq a0 aq b0 bq
  have h1 : iand .i64 ((sortN kind : Nat) : Int) 1 = ((sortN kind &&& 1 : Nat) : Int) := iand_nat .i64 (a := sortN kind) (b := 1) (by simp only [nb]; omega) (by decide)
  have h2 : iand .i64 ((sortN kind : Nat) : Int) 2 = ((sortN kind &&& 2 : Nat) : Int) := iand_nat .i64 (a := sortN kind) (b := 2) (by simp only [nb]; omega) (by decide)
  have h12 : iand .i64 ((sortN kind : Nat) : Int) 12 = ((sortN kind &&& 12 : Nat) : Int) := iand_nat .i64 (a := sortN kind) (b := 12) (by simp only [nb]; omega) (by decide)
  have h8 : iand .i64 ((sortN kind : Nat) : Int) 8 = ((sortN kind &&& 8 : Nat) : Int) := iand_nat .i64 (a := sortN kind) (b := 8) (by simp only [nb]; omega) (by decide)
  have h16 : iand .i64 ((sortN kind : Nat) : Int) 16 = ((sortN kind &&& 16 : Nat) : Int) := iand_nat .i64 (a := sortN kind) (b := 16) (by simp only [nb]; omega) (by decide)
  generalize sortN kind = n at *
  refine wpc_st fun K hK => ?_
  simp -dsimp -implicitDefEqProofs [opV]
  refine hK _ _ ?_
  clear hK K
  refine wpc_sq fun K hK => ?_
  simp -dsimp -implicitDefEqProofs
  refine hof _ _ ?_
  simp -dsimp -implicitDefEqProofs
  refine hK _ _ ?_
  clear hK K hof
  subst d0
  obtain ⟨a0, a1⟩ := a0
  have a2 : ¬ a < 0 := by omega
  have a3 : ¬ 63 < a := by omega
  have a4 : ¬ a = 0 := by omega
  rcases hc with rfl | rfl | rfl | rfl | rfl | rfl | rfl | rfl | rfl | rfl | rfl
  all_goals
    simp only [Nat.reduceAnd] at h1 h2 h12 h8 h16
    simp -dsimp at h1 h2 h12 h8 h16
    simp -dsimp -implicitDefEqProofs [undef, h1, h2, h12, h8, h16, a2, a3, a4, b0]
    exact fin_ret rfl (leave_pure (by simp) (by simpa [bitN, beq0, dq, aq, a4, bq] using h))

set_option maxRecDepth 100000 in
set_option maxHeartbeats 32000000 in
theorem fields_zpg (o : OpZ) (m : Mem) (Q) (h : Q (.bool (fieldsQ o)) m) (d0 : o.d = 0) (dq : inQ o.d = true) (a0 : 0 < o.a ∧ o.a ≤ 63) (aq : inQ o.a = true) (b0 : 63 < o.b) (bq : inQ o.b = false) : TC Try.prog 162 [opV o] m Q := by
  refine TC_fn mixed Try.func162 rfl Try.ntmps162 rfl (by decide) (by simp) ?_
  obtain ⟨kind, d, a, b, imm, at_⟩ := o
  have hof := rsort_tc kind
  have hc := sortN_cases kind
  rw [fieldsQ_eq] at h
  simp only at h d0 dq a0 aq b0 bq
  have h1 : iand .i64 ((sortN kind : Nat) : Int) 1 = ((sortN kind &&& 1 : Nat) : Int) := iand_nat .i64 (a := sortN kind) (b := 1) (by simp only [nb]; omega) (by decide)
  have h2 : iand .i64 ((sortN kind : Nat) : Int) 2 = ((sortN kind &&& 2 : Nat) : Int) := iand_nat .i64 (a := sortN kind) (b := 2) (by simp only [nb]; omega) (by decide)
  have h12 : iand .i64 ((sortN kind : Nat) : Int) 12 = ((sortN kind &&& 12 : Nat) : Int) := iand_nat .i64 (a := sortN kind) (b := 12) (by simp only [nb]; omega) (by decide)
  have h8 : iand .i64 ((sortN kind : Nat) : Int) 8 = ((sortN kind &&& 8 : Nat) : Int) := iand_nat .i64 (a := sortN kind) (b := 8) (by simp only [nb]; omega) (by decide)
  have h16 : iand .i64 ((sortN kind : Nat) : Int) 16 = ((sortN kind &&& 16 : Nat) : Int) := iand_nat .i64 (a := sortN kind) (b := 16) (by simp only [nb]; omega) (by decide)
  generalize sortN kind = n at *
  refine wpc_st fun K hK => ?_
  simp -dsimp -implicitDefEqProofs [opV]
  refine hK _ _ ?_
  clear hK K
  refine wpc_sq fun K hK => ?_
  simp -dsimp -implicitDefEqProofs
  refine hof _ _ ?_
  simp -dsimp -implicitDefEqProofs
  refine hK _ _ ?_
  clear hK K hof
  subst d0
  obtain ⟨a0, a1⟩ := a0
  have a2 : ¬ a < 0 := by omega
  have a3 : ¬ 63 < a := by omega
  have a4 : ¬ a = 0 := by omega
  have b2 : ¬ b < 0 := by omega
  rcases hc with rfl | rfl | rfl | rfl | rfl | rfl | rfl | rfl | rfl | rfl | rfl
  all_goals
    simp only [Nat.reduceAnd] at h1 h2 h12 h8 h16
    simp -dsimp at h1 h2 h12 h8 h16
    simp -dsimp -implicitDefEqProofs [undef, h1, h2, h12, h8, h16, a2, a3, a4, b0, b2]
    exact fin_ret rfl (leave_pure (by simp) (by simpa [bitN, beq0, dq, aq, a4, bq] using h))

set_option maxRecDepth 100000 in
set_option maxHeartbeats 32000000 in
theorem fields_zpz (o : OpZ) (m : Mem) (Q) (h : Q (.bool (fieldsQ o)) m) (d0 : o.d = 0) (dq : inQ o.d = true) (a0 : 0 < o.a ∧ o.a ≤ 63) (aq : inQ o.a = true) (b0 : o.b = 0) (bq : inQ o.b = true) : TC Try.prog 162 [opV o] m Q := by
  refine TC_fn mixed Try.func162 rfl Try.ntmps162 rfl (by decide) (by simp) ?_
  obtain ⟨kind, d, a, b, imm, at_⟩ := o
  have hof := rsort_tc kind
  have hc := sortN_cases kind
  rw [fieldsQ_eq] at h
  simp only at h d0 dq a0 aq b0 bq
  have h1 : iand .i64 ((sortN kind : Nat) : Int) 1 = ((sortN kind &&& 1 : Nat) : Int) := iand_nat .i64 (a := sortN kind) (b := 1) (by simp only [nb]; omega) (by decide)
  have h2 : iand .i64 ((sortN kind : Nat) : Int) 2 = ((sortN kind &&& 2 : Nat) : Int) := iand_nat .i64 (a := sortN kind) (b := 2) (by simp only [nb]; omega) (by decide)
  have h12 : iand .i64 ((sortN kind : Nat) : Int) 12 = ((sortN kind &&& 12 : Nat) : Int) := iand_nat .i64 (a := sortN kind) (b := 12) (by simp only [nb]; omega) (by decide)
  have h8 : iand .i64 ((sortN kind : Nat) : Int) 8 = ((sortN kind &&& 8 : Nat) : Int) := iand_nat .i64 (a := sortN kind) (b := 8) (by simp only [nb]; omega) (by decide)
  have h16 : iand .i64 ((sortN kind : Nat) : Int) 16 = ((sortN kind &&& 16 : Nat) : Int) := iand_nat .i64 (a := sortN kind) (b := 16) (by simp only [nb]; omega) (by decide)
  generalize sortN kind = n at *
  refine wpc_st fun K hK => ?_
  simp -dsimp -implicitDefEqProofs [opV]
  refine hK _ _ ?_
  clear hK K
  refine wpc_sq fun K hK => ?_
  simp -dsimp -implicitDefEqProofs
  refine hof _ _ ?_
  simp -dsimp -implicitDefEqProofs
  refine hK _ _ ?_
  clear hK K hof
  subst d0
  obtain ⟨a0, a1⟩ := a0
  have a2 : ¬ a < 0 := by omega
  have a3 : ¬ 63 < a := by omega
  have a4 : ¬ a = 0 := by omega
  subst b0
  rcases hc with rfl | rfl | rfl | rfl | rfl | rfl | rfl | rfl | rfl | rfl | rfl
  all_goals
    simp only [Nat.reduceAnd] at h1 h2 h12 h8 h16
    simp -dsimp at h1 h2 h12 h8 h16
    simp -dsimp -implicitDefEqProofs [undef, h1, h2, h12, h8, h16, a2, a3, a4]
    exact fin_ret rfl (leave_pure (by simp) (by simpa [bitN, beq0, dq, aq, a4, bq] using h))

set_option maxRecDepth 100000 in
set_option maxHeartbeats 32000000 in
theorem fields_zpp (o : OpZ) (m : Mem) (Q) (h : Q (.bool (fieldsQ o)) m) (d0 : o.d = 0) (dq : inQ o.d = true) (a0 : 0 < o.a ∧ o.a ≤ 63) (aq : inQ o.a = true) (b0 : 0 < o.b ∧ o.b ≤ 63) (bq : inQ o.b = true) : TC Try.prog 162 [opV o] m Q := by
  refine TC_fn mixed Try.func162 rfl Try.ntmps162 rfl (by decide) (by simp) ?_
  obtain ⟨kind, d, a, b, imm, at_⟩ := o
  have hof := rsort_tc kind
  have hc := sortN_cases kind
  rw [fieldsQ_eq] at h
  simp only at h d0 dq a0 aq b0 bq
  have h1 : iand .i64 ((sortN kind : Nat) : Int) 1 = ((sortN kind &&& 1 : Nat) : Int) := iand_nat .i64 (a := sortN kind) (b := 1) (by simp only [nb]; omega) (by decide)
  have h2 : iand .i64 ((sortN kind : Nat) : Int) 2 = ((sortN kind &&& 2 : Nat) : Int) := iand_nat .i64 (a := sortN kind) (b := 2) (by simp only [nb]; omega) (by decide)
  have h12 : iand .i64 ((sortN kind : Nat) : Int) 12 = ((sortN kind &&& 12 : Nat) : Int) := iand_nat .i64 (a := sortN kind) (b := 12) (by simp only [nb]; omega) (by decide)
  have h8 : iand .i64 ((sortN kind : Nat) : Int) 8 = ((sortN kind &&& 8 : Nat) : Int) := iand_nat .i64 (a := sortN kind) (b := 8) (by simp only [nb]; omega) (by decide)
  have h16 : iand .i64 ((sortN kind : Nat) : Int) 16 = ((sortN kind &&& 16 : Nat) : Int) := iand_nat .i64 (a := sortN kind) (b := 16) (by simp only [nb]; omega) (by decide)
  generalize sortN kind = n at *
  refine wpc_st fun K hK => ?_
  simp -dsimp -implicitDefEqProofs [opV]
  refine hK _ _ ?_
  clear hK K
  refine wpc_sq fun K hK => ?_
  simp -dsimp -implicitDefEqProofs
  refine hof _ _ ?_
  simp -dsimp -implicitDefEqProofs
  refine hK _ _ ?_
  clear hK K hof
  subst d0
  obtain ⟨a0, a1⟩ := a0
  have a2 : ¬ a < 0 := by omega
  have a3 : ¬ 63 < a := by omega
  have a4 : ¬ a = 0 := by omega
  obtain ⟨b0, b1⟩ := b0
  have b2 : ¬ b < 0 := by omega
  have b3 : ¬ 63 < b := by omega
  have b4 : ¬ b = 0 := by omega
  rcases hc with rfl | rfl | rfl | rfl | rfl | rfl | rfl | rfl | rfl | rfl | rfl
  all_goals
    simp only [Nat.reduceAnd] at h1 h2 h12 h8 h16
    simp -dsimp at h1 h2 h12 h8 h16
    simp -dsimp -implicitDefEqProofs [undef, h1, h2, h12, h8, h16, a2, a3, a4, b2, b3, b4]
    exact fin_ret rfl (leave_pure (by simp) (by simpa [bitN, beq0, dq, aq, a4, bq, b4] using h))

set_option maxRecDepth 100000 in
set_option maxHeartbeats 32000000 in
theorem fields_pn (o : OpZ) (m : Mem) (Q) (h : Q (.bool (fieldsQ o)) m) (d0 : 0 < o.d ∧ o.d ≤ 63) (dq : inQ o.d = true) (a0 : o.a < 0) (aq : inQ o.a = false) : TC Try.prog 162 [opV o] m Q := by
  refine TC_fn mixed Try.func162 rfl Try.ntmps162 rfl (by decide) (by simp) ?_
  obtain ⟨kind, d, a, b, imm, at_⟩ := o
  have hof := rsort_tc kind
  have hc := sortN_cases kind
  rw [fieldsQ_eq] at h
  simp only at h d0 dq a0 aq
  have h1 : iand .i64 ((sortN kind : Nat) : Int) 1 = ((sortN kind &&& 1 : Nat) : Int) := iand_nat .i64 (a := sortN kind) (b := 1) (by simp only [nb]; omega) (by decide)
  have h2 : iand .i64 ((sortN kind : Nat) : Int) 2 = ((sortN kind &&& 2 : Nat) : Int) := iand_nat .i64 (a := sortN kind) (b := 2) (by simp only [nb]; omega) (by decide)
  have h12 : iand .i64 ((sortN kind : Nat) : Int) 12 = ((sortN kind &&& 12 : Nat) : Int) := iand_nat .i64 (a := sortN kind) (b := 12) (by simp only [nb]; omega) (by decide)
  have h8 : iand .i64 ((sortN kind : Nat) : Int) 8 = ((sortN kind &&& 8 : Nat) : Int) := iand_nat .i64 (a := sortN kind) (b := 8) (by simp only [nb]; omega) (by decide)
  have h16 : iand .i64 ((sortN kind : Nat) : Int) 16 = ((sortN kind &&& 16 : Nat) : Int) := iand_nat .i64 (a := sortN kind) (b := 16) (by simp only [nb]; omega) (by decide)
  generalize sortN kind = n at *
  refine wpc_st fun K hK => ?_
  simp -dsimp -implicitDefEqProofs [opV]
  refine hK _ _ ?_
  clear hK K
  refine wpc_sq fun K hK => ?_
  simp -dsimp -implicitDefEqProofs
  refine hof _ _ ?_
  simp -dsimp -implicitDefEqProofs
  refine hK _ _ ?_
  clear hK K hof
  obtain ⟨d0, d1⟩ := d0
  have d2 : ¬ d < 0 := by omega
  have d3 : ¬ 63 < d := by omega
  have d4 : ¬ d = 0 := by omega
  rcases hc with rfl | rfl | rfl | rfl | rfl | rfl | rfl | rfl | rfl | rfl | rfl
  all_goals
    simp only [Nat.reduceAnd] at h1 h2 h12 h8 h16
    simp -dsimp at h1 h2 h12 h8 h16
    simp -dsimp -implicitDefEqProofs [undef, h1, h2, h12, h8, h16, d2, d3, d4, a0]
    exact fin_ret rfl (leave_pure (by simp) (by simpa [bitN, beq0, dq, d4, aq] using h))

set_option maxRecDepth 100000 in
set_option maxHeartbeats 32000000 in
theorem fields_pg (o : OpZ) (m : Mem) (Q) (h : Q (.bool (fieldsQ o)) m) (d0 : 0 < o.d ∧ o.d ≤ 63) (dq : inQ o.d = true) (a0 : 63 < o.a) (aq : inQ o.a = false) : TC Try.prog 162 [opV o] m Q := by
  refine TC_fn mixed Try.func162 rfl Try.ntmps162 rfl (by decide) (by simp) ?_
  obtain ⟨kind, d, a, b, imm, at_⟩ := o
  have hof := rsort_tc kind
  have hc := sortN_cases kind
  rw [fieldsQ_eq] at h
  simp only at h d0 dq a0 aq
  have h1 : iand .i64 ((sortN kind : Nat) : Int) 1 = ((sortN kind &&& 1 : Nat) : Int) := iand_nat .i64 (a := sortN kind) (b := 1) (by simp only [nb]; omega) (by decide)
  have h2 : iand .i64 ((sortN kind : Nat) : Int) 2 = ((sortN kind &&& 2 : Nat) : Int) := iand_nat .i64 (a := sortN kind) (b := 2) (by simp only [nb]; omega) (by decide)
  have h12 : iand .i64 ((sortN kind : Nat) : Int) 12 = ((sortN kind &&& 12 : Nat) : Int) := iand_nat .i64 (a := sortN kind) (b := 12) (by simp only [nb]; omega) (by decide)
  have h8 : iand .i64 ((sortN kind : Nat) : Int) 8 = ((sortN kind &&& 8 : Nat) : Int) := iand_nat .i64 (a := sortN kind) (b := 8) (by simp only [nb]; omega) (by decide)
  have h16 : iand .i64 ((sortN kind : Nat) : Int) 16 = ((sortN kind &&& 16 : Nat) : Int) := iand_nat .i64 (a := sortN kind) (b := 16) (by simp only [nb]; omega) (by decide)
  generalize sortN kind = n at *
  refine wpc_st fun K hK => ?_
  simp -dsimp -implicitDefEqProofs [opV]
  refine hK _ _ ?_
  clear hK K
  refine wpc_sq fun K hK => ?_
  simp -dsimp -implicitDefEqProofs
  refine hof _ _ ?_
  simp -dsimp -implicitDefEqProofs
  refine hK _ _ ?_
  clear hK K hof
  obtain ⟨d0, d1⟩ := d0
  have d2 : ¬ d < 0 := by omega
  have d3 : ¬ 63 < d := by omega
  have d4 : ¬ d = 0 := by omega
  have a2 : ¬ a < 0 := by omega
  rcases hc with rfl | rfl | rfl | rfl | rfl | rfl | rfl | rfl | rfl | rfl | rfl
  all_goals
    simp only [Nat.reduceAnd] at h1 h2 h12 h8 h16
    simp -dsimp at h1 h2 h12 h8 h16
    simp -dsimp -implicitDefEqProofs [undef, h1, h2, h12, h8, h16, d2, d3, d4, a0, a2]
    exact fin_ret rfl (leave_pure (by simp) (by simpa [bitN, beq0, dq, d4, aq] using h))

set_option maxRecDepth 100000 in
set_option maxHeartbeats 32000000 in
theorem fields_pzn (o : OpZ) (m : Mem) (Q) (h : Q (.bool (fieldsQ o)) m) (d0 : 0 < o.d ∧ o.d ≤ 63) (dq : inQ o.d = true) (a0 : o.a = 0) (aq : inQ o.a = true) (b0 : o.b < 0) (bq : inQ o.b = false) : TC Try.prog 162 [opV o] m Q := by
  refine TC_fn mixed Try.func162 rfl Try.ntmps162 rfl (by decide) (by simp) ?_
  obtain ⟨kind, d, a, b, imm, at_⟩ := o
  have hof := rsort_tc kind
  have hc := sortN_cases kind
  rw [fieldsQ_eq] at h
  simp only at h d0 dq a0 aq b0 bq
  have h1 : iand .i64 ((sortN kind : Nat) : Int) 1 = ((sortN kind &&& 1 : Nat) : Int) := iand_nat .i64 (a := sortN kind) (b := 1) (by simp only [nb]; omega) (by decide)
  have h2 : iand .i64 ((sortN kind : Nat) : Int) 2 = ((sortN kind &&& 2 : Nat) : Int) := iand_nat .i64 (a := sortN kind) (b := 2) (by simp only [nb]; omega) (by decide)
  have h12 : iand .i64 ((sortN kind : Nat) : Int) 12 = ((sortN kind &&& 12 : Nat) : Int) := iand_nat .i64 (a := sortN kind) (b := 12) (by simp only [nb]; omega) (by decide)
  have h8 : iand .i64 ((sortN kind : Nat) : Int) 8 = ((sortN kind &&& 8 : Nat) : Int) := iand_nat .i64 (a := sortN kind) (b := 8) (by simp only [nb]; omega) (by decide)
  have h16 : iand .i64 ((sortN kind : Nat) : Int) 16 = ((sortN kind &&& 16 : Nat) : Int) := iand_nat .i64 (a := sortN kind) (b := 16) (by simp only [nb]; omega) (by decide)
  generalize sortN kind = n at *
  refine wpc_st fun K hK => ?_
  simp -dsimp -implicitDefEqProofs [opV]
  refine hK _ _ ?_
  clear hK K
  refine wpc_sq fun K hK => ?_
  simp -dsimp -implicitDefEqProofs
  refine hof _ _ ?_
  simp -dsimp -implicitDefEqProofs
  refine hK _ _ ?_
  clear hK K hof
  obtain ⟨d0, d1⟩ := d0
  have d2 : ¬ d < 0 := by omega
  have d3 : ¬ 63 < d := by omega
  have d4 : ¬ d = 0 := by omega
  subst a0
  rcases hc with rfl | rfl | rfl | rfl | rfl | rfl | rfl | rfl | rfl | rfl | rfl
  all_goals
    simp only [Nat.reduceAnd] at h1 h2 h12 h8 h16
    simp -dsimp at h1 h2 h12 h8 h16
    simp -dsimp -implicitDefEqProofs [undef, h1, h2, h12, h8, h16, d2, d3, d4, b0]
    exact fin_ret rfl (leave_pure (by simp) (by simpa [bitN, beq0, dq, d4, aq, bq] using h))

set_option maxRecDepth 100000 in
set_option maxHeartbeats 32000000 in
theorem fields_pzg (o : OpZ) (m : Mem) (Q) (h : Q (.bool (fieldsQ o)) m) (d0 : 0 < o.d ∧ o.d ≤ 63) (dq : inQ o.d = true) (a0 : o.a = 0) (aq : inQ o.a = true) (b0 : 63 < o.b) (bq : inQ o.b = false) : TC Try.prog 162 [opV o] m Q := by
  refine TC_fn mixed Try.func162 rfl Try.ntmps162 rfl (by decide) (by simp) ?_
  obtain ⟨kind, d, a, b, imm, at_⟩ := o
  have hof := rsort_tc kind
  have hc := sortN_cases kind
  rw [fieldsQ_eq] at h
  simp only at h d0 dq a0 aq b0 bq
  have h1 : iand .i64 ((sortN kind : Nat) : Int) 1 = ((sortN kind &&& 1 : Nat) : Int) := iand_nat .i64 (a := sortN kind) (b := 1) (by simp only [nb]; omega) (by decide)
  have h2 : iand .i64 ((sortN kind : Nat) : Int) 2 = ((sortN kind &&& 2 : Nat) : Int) := iand_nat .i64 (a := sortN kind) (b := 2) (by simp only [nb]; omega) (by decide)
  have h12 : iand .i64 ((sortN kind : Nat) : Int) 12 = ((sortN kind &&& 12 : Nat) : Int) := iand_nat .i64 (a := sortN kind) (b := 12) (by simp only [nb]; omega) (by decide)
  have h8 : iand .i64 ((sortN kind : Nat) : Int) 8 = ((sortN kind &&& 8 : Nat) : Int) := iand_nat .i64 (a := sortN kind) (b := 8) (by simp only [nb]; omega) (by decide)
  have h16 : iand .i64 ((sortN kind : Nat) : Int) 16 = ((sortN kind &&& 16 : Nat) : Int) := iand_nat .i64 (a := sortN kind) (b := 16) (by simp only [nb]; omega) (by decide)
  generalize sortN kind = n at *
  refine wpc_st fun K hK => ?_
  simp -dsimp -implicitDefEqProofs [opV]
  refine hK _ _ ?_
  clear hK K
  refine wpc_sq fun K hK => ?_
  simp -dsimp -implicitDefEqProofs
  refine hof _ _ ?_
  simp -dsimp -implicitDefEqProofs
  refine hK _ _ ?_
  clear hK K hof
  obtain ⟨d0, d1⟩ := d0
  have d2 : ¬ d < 0 := by omega
  have d3 : ¬ 63 < d := by omega
  have d4 : ¬ d = 0 := by omega
  subst a0
  have b2 : ¬ b < 0 := by omega
  rcases hc with rfl | rfl | rfl | rfl | rfl | rfl | rfl | rfl | rfl | rfl | rfl
  all_goals
    simp only [Nat.reduceAnd] at h1 h2 h12 h8 h16
    simp -dsimp at h1 h2 h12 h8 h16
    simp -dsimp -implicitDefEqProofs [undef, h1, h2, h12, h8, h16, d2, d3, d4, b0, b2]
    exact fin_ret rfl (leave_pure (by simp) (by simpa [bitN, beq0, dq, d4, aq, bq] using h))

set_option maxRecDepth 100000 in
set_option maxHeartbeats 32000000 in
theorem fields_pzz (o : OpZ) (m : Mem) (Q) (h : Q (.bool (fieldsQ o)) m) (d0 : 0 < o.d ∧ o.d ≤ 63) (dq : inQ o.d = true) (a0 : o.a = 0) (aq : inQ o.a = true) (b0 : o.b = 0) (bq : inQ o.b = true) : TC Try.prog 162 [opV o] m Q := by
  refine TC_fn mixed Try.func162 rfl Try.ntmps162 rfl (by decide) (by simp) ?_
  obtain ⟨kind, d, a, b, imm, at_⟩ := o
  have hof := rsort_tc kind
  have hc := sortN_cases kind
  rw [fieldsQ_eq] at h
  simp only at h d0 dq a0 aq b0 bq
  have h1 : iand .i64 ((sortN kind : Nat) : Int) 1 = ((sortN kind &&& 1 : Nat) : Int) := iand_nat .i64 (a := sortN kind) (b := 1) (by simp only [nb]; omega) (by decide)
  have h2 : iand .i64 ((sortN kind : Nat) : Int) 2 = ((sortN kind &&& 2 : Nat) : Int) := iand_nat .i64 (a := sortN kind) (b := 2) (by simp only [nb]; omega) (by decide)
  have h12 : iand .i64 ((sortN kind : Nat) : Int) 12 = ((sortN kind &&& 12 : Nat) : Int) := iand_nat .i64 (a := sortN kind) (b := 12) (by simp only [nb]; omega) (by decide)
  have h8 : iand .i64 ((sortN kind : Nat) : Int) 8 = ((sortN kind &&& 8 : Nat) : Int) := iand_nat .i64 (a := sortN kind) (b := 8) (by simp only [nb]; omega) (by decide)
  have h16 : iand .i64 ((sortN kind : Nat) : Int) 16 = ((sortN kind &&& 16 : Nat) : Int) := iand_nat .i64 (a := sortN kind) (b := 16) (by simp only [nb]; omega) (by decide)
  generalize sortN kind = n at *
  refine wpc_st fun K hK => ?_
  simp -dsimp -implicitDefEqProofs [opV]
  refine hK _ _ ?_
  clear hK K
  refine wpc_sq fun K hK => ?_
  simp -dsimp -implicitDefEqProofs
  refine hof _ _ ?_
  simp -dsimp -implicitDefEqProofs
  refine hK _ _ ?_
  clear hK K hof
  obtain ⟨d0, d1⟩ := d0
  have d2 : ¬ d < 0 := by omega
  have d3 : ¬ 63 < d := by omega
  have d4 : ¬ d = 0 := by omega
  subst a0
  subst b0
  rcases hc with rfl | rfl | rfl | rfl | rfl | rfl | rfl | rfl | rfl | rfl | rfl
  all_goals
    simp only [Nat.reduceAnd] at h1 h2 h12 h8 h16
    simp -dsimp at h1 h2 h12 h8 h16
    simp -dsimp -implicitDefEqProofs [undef, h1, h2, h12, h8, h16, d2, d3, d4]
    exact fin_ret rfl (leave_pure (by simp) (by simpa [bitN, beq0, dq, d4, aq, bq] using h))

set_option maxRecDepth 100000 in
set_option maxHeartbeats 32000000 in
theorem fields_pzp (o : OpZ) (m : Mem) (Q) (h : Q (.bool (fieldsQ o)) m) (d0 : 0 < o.d ∧ o.d ≤ 63) (dq : inQ o.d = true) (a0 : o.a = 0) (aq : inQ o.a = true) (b0 : 0 < o.b ∧ o.b ≤ 63) (bq : inQ o.b = true) : TC Try.prog 162 [opV o] m Q := by
  refine TC_fn mixed Try.func162 rfl Try.ntmps162 rfl (by decide) (by simp) ?_
  obtain ⟨kind, d, a, b, imm, at_⟩ := o
  have hof := rsort_tc kind
  have hc := sortN_cases kind
  rw [fieldsQ_eq] at h
  simp only at h d0 dq a0 aq b0 bq
  have h1 : iand .i64 ((sortN kind : Nat) : Int) 1 = ((sortN kind &&& 1 : Nat) : Int) := iand_nat .i64 (a := sortN kind) (b := 1) (by simp only [nb]; omega) (by decide)
  have h2 : iand .i64 ((sortN kind : Nat) : Int) 2 = ((sortN kind &&& 2 : Nat) : Int) := iand_nat .i64 (a := sortN kind) (b := 2) (by simp only [nb]; omega) (by decide)
  have h12 : iand .i64 ((sortN kind : Nat) : Int) 12 = ((sortN kind &&& 12 : Nat) : Int) := iand_nat .i64 (a := sortN kind) (b := 12) (by simp only [nb]; omega) (by decide)
  have h8 : iand .i64 ((sortN kind : Nat) : Int) 8 = ((sortN kind &&& 8 : Nat) : Int) := iand_nat .i64 (a := sortN kind) (b := 8) (by simp only [nb]; omega) (by decide)
  have h16 : iand .i64 ((sortN kind : Nat) : Int) 16 = ((sortN kind &&& 16 : Nat) : Int) := iand_nat .i64 (a := sortN kind) (b := 16) (by simp only [nb]; omega) (by decide)
  generalize sortN kind = n at *
  refine wpc_st fun K hK => ?_
  simp -dsimp -implicitDefEqProofs [opV]
  refine hK _ _ ?_
  clear hK K
  refine wpc_sq fun K hK => ?_
  simp -dsimp -implicitDefEqProofs
  refine hof _ _ ?_
  simp -dsimp -implicitDefEqProofs
  refine hK _ _ ?_
  clear hK K hof
  obtain ⟨d0, d1⟩ := d0
  have d2 : ¬ d < 0 := by omega
  have d3 : ¬ 63 < d := by omega
  have d4 : ¬ d = 0 := by omega
  subst a0
  obtain ⟨b0, b1⟩ := b0
  have b2 : ¬ b < 0 := by omega
  have b3 : ¬ 63 < b := by omega
  have b4 : ¬ b = 0 := by omega
  rcases hc with rfl | rfl | rfl | rfl | rfl | rfl | rfl | rfl | rfl | rfl | rfl
  all_goals
    simp only [Nat.reduceAnd] at h1 h2 h12 h8 h16
    simp -dsimp at h1 h2 h12 h8 h16
    simp -dsimp -implicitDefEqProofs [undef, h1, h2, h12, h8, h16, d2, d3, d4, b2, b3, b4]
    exact fin_ret rfl (leave_pure (by simp) (by simpa [bitN, beq0, dq, d4, aq, bq, b4] using h))

set_option maxRecDepth 100000 in
set_option maxHeartbeats 32000000 in
theorem fields_ppn (o : OpZ) (m : Mem) (Q) (h : Q (.bool (fieldsQ o)) m) (d0 : 0 < o.d ∧ o.d ≤ 63) (dq : inQ o.d = true) (a0 : 0 < o.a ∧ o.a ≤ 63) (aq : inQ o.a = true) (b0 : o.b < 0) (bq : inQ o.b = false) : TC Try.prog 162 [opV o] m Q := by
  refine TC_fn mixed Try.func162 rfl Try.ntmps162 rfl (by decide) (by simp) ?_
  obtain ⟨kind, d, a, b, imm, at_⟩ := o
  have hof := rsort_tc kind
  have hc := sortN_cases kind
  rw [fieldsQ_eq] at h
  simp only at h d0 dq a0 aq b0 bq
  have h1 : iand .i64 ((sortN kind : Nat) : Int) 1 = ((sortN kind &&& 1 : Nat) : Int) := iand_nat .i64 (a := sortN kind) (b := 1) (by simp only [nb]; omega) (by decide)
  have h2 : iand .i64 ((sortN kind : Nat) : Int) 2 = ((sortN kind &&& 2 : Nat) : Int) := iand_nat .i64 (a := sortN kind) (b := 2) (by simp only [nb]; omega) (by decide)
  have h12 : iand .i64 ((sortN kind : Nat) : Int) 12 = ((sortN kind &&& 12 : Nat) : Int) := iand_nat .i64 (a := sortN kind) (b := 12) (by simp only [nb]; omega) (by decide)
  have h8 : iand .i64 ((sortN kind : Nat) : Int) 8 = ((sortN kind &&& 8 : Nat) : Int) := iand_nat .i64 (a := sortN kind) (b := 8) (by simp only [nb]; omega) (by decide)
  have h16 : iand .i64 ((sortN kind : Nat) : Int) 16 = ((sortN kind &&& 16 : Nat) : Int) := iand_nat .i64 (a := sortN kind) (b := 16) (by simp only [nb]; omega) (by decide)
  generalize sortN kind = n at *
  refine wpc_st fun K hK => ?_
  simp -dsimp -implicitDefEqProofs [opV]
  refine hK _ _ ?_
  clear hK K
  refine wpc_sq fun K hK => ?_
  simp -dsimp -implicitDefEqProofs
  refine hof _ _ ?_
  simp -dsimp -implicitDefEqProofs
  refine hK _ _ ?_
  clear hK K hof
  obtain ⟨d0, d1⟩ := d0
  have d2 : ¬ d < 0 := by omega
  have d3 : ¬ 63 < d := by omega
  have d4 : ¬ d = 0 := by omega
  obtain ⟨a0, a1⟩ := a0
  have a2 : ¬ a < 0 := by omega
  have a3 : ¬ 63 < a := by omega
  have a4 : ¬ a = 0 := by omega
  rcases hc with rfl | rfl | rfl | rfl | rfl | rfl | rfl | rfl | rfl | rfl | rfl
  all_goals
    simp only [Nat.reduceAnd] at h1 h2 h12 h8 h16
    simp -dsimp at h1 h2 h12 h8 h16
    simp -dsimp -implicitDefEqProofs [undef, h1, h2, h12, h8, h16, d2, d3, d4, a2, a3, a4, b0]
    exact fin_ret rfl (leave_pure (by simp) (by simpa [bitN, beq0, dq, d4, aq, a4, bq] using h))

set_option maxRecDepth 100000 in
set_option maxHeartbeats 32000000 in
theorem fields_ppg (o : OpZ) (m : Mem) (Q) (h : Q (.bool (fieldsQ o)) m) (d0 : 0 < o.d ∧ o.d ≤ 63) (dq : inQ o.d = true) (a0 : 0 < o.a ∧ o.a ≤ 63) (aq : inQ o.a = true) (b0 : 63 < o.b) (bq : inQ o.b = false) : TC Try.prog 162 [opV o] m Q := by
  refine TC_fn mixed Try.func162 rfl Try.ntmps162 rfl (by decide) (by simp) ?_
  obtain ⟨kind, d, a, b, imm, at_⟩ := o
  have hof := rsort_tc kind
  have hc := sortN_cases kind
  rw [fieldsQ_eq] at h
  simp only at h d0 dq a0 aq b0 bq
  have h1 : iand .i64 ((sortN kind : Nat) : Int) 1 = ((sortN kind &&& 1 : Nat) : Int) := iand_nat .i64 (a := sortN kind) (b := 1) (by simp only [nb]; omega) (by decide)
  have h2 : iand .i64 ((sortN kind : Nat) : Int) 2 = ((sortN kind &&& 2 : Nat) : Int) := iand_nat .i64 (a := sortN kind) (b := 2) (by simp only [nb]; omega) (by decide)
  have h12 : iand .i64 ((sortN kind : Nat) : Int) 12 = ((sortN kind &&& 12 : Nat) : Int) := iand_nat .i64 (a := sortN kind) (b := 12) (by simp only [nb]; omega) (by decide)
  have h8 : iand .i64 ((sortN kind : Nat) : Int) 8 = ((sortN kind &&& 8 : Nat) : Int) := iand_nat .i64 (a := sortN kind) (b := 8) (by simp only [nb]; omega) (by decide)
  have h16 : iand .i64 ((sortN kind : Nat) : Int) 16 = ((sortN kind &&& 16 : Nat) : Int) := iand_nat .i64 (a := sortN kind) (b := 16) (by simp only [nb]; omega) (by decide)
  generalize sortN kind = n at *
  refine wpc_st fun K hK => ?_
  simp -dsimp -implicitDefEqProofs [opV]
  refine hK _ _ ?_
  clear hK K
  refine wpc_sq fun K hK => ?_
  simp -dsimp -implicitDefEqProofs
  refine hof _ _ ?_
  simp -dsimp -implicitDefEqProofs
  refine hK _ _ ?_
  clear hK K hof
  obtain ⟨d0, d1⟩ := d0
  have d2 : ¬ d < 0 := by omega
  have d3 : ¬ 63 < d := by omega
  have d4 : ¬ d = 0 := by omega
  obtain ⟨a0, a1⟩ := a0
  have a2 : ¬ a < 0 := by omega
  have a3 : ¬ 63 < a := by omega
  have a4 : ¬ a = 0 := by omega
  have b2 : ¬ b < 0 := by omega
  rcases hc with rfl | rfl | rfl | rfl | rfl | rfl | rfl | rfl | rfl | rfl | rfl
  all_goals
    simp only [Nat.reduceAnd] at h1 h2 h12 h8 h16
    simp -dsimp at h1 h2 h12 h8 h16
    simp -dsimp -implicitDefEqProofs [undef, h1, h2, h12, h8, h16, d2, d3, d4, a2, a3, a4, b0, b2]
    exact fin_ret rfl (leave_pure (by simp) (by simpa [bitN, beq0, dq, d4, aq, a4, bq] using h))

set_option maxRecDepth 100000 in
set_option maxHeartbeats 32000000 in
theorem fields_ppz (o : OpZ) (m : Mem) (Q) (h : Q (.bool (fieldsQ o)) m) (d0 : 0 < o.d ∧ o.d ≤ 63) (dq : inQ o.d = true) (a0 : 0 < o.a ∧ o.a ≤ 63) (aq : inQ o.a = true) (b0 : o.b = 0) (bq : inQ o.b = true) : TC Try.prog 162 [opV o] m Q := by
  refine TC_fn mixed Try.func162 rfl Try.ntmps162 rfl (by decide) (by simp) ?_
  obtain ⟨kind, d, a, b, imm, at_⟩ := o
  have hof := rsort_tc kind
  have hc := sortN_cases kind
  rw [fieldsQ_eq] at h
  simp only at h d0 dq a0 aq b0 bq
  have h1 : iand .i64 ((sortN kind : Nat) : Int) 1 = ((sortN kind &&& 1 : Nat) : Int) := iand_nat .i64 (a := sortN kind) (b := 1) (by simp only [nb]; omega) (by decide)
  have h2 : iand .i64 ((sortN kind : Nat) : Int) 2 = ((sortN kind &&& 2 : Nat) : Int) := iand_nat .i64 (a := sortN kind) (b := 2) (by simp only [nb]; omega) (by decide)
  have h12 : iand .i64 ((sortN kind : Nat) : Int) 12 = ((sortN kind &&& 12 : Nat) : Int) := iand_nat .i64 (a := sortN kind) (b := 12) (by simp only [nb]; omega) (by decide)
  have h8 : iand .i64 ((sortN kind : Nat) : Int) 8 = ((sortN kind &&& 8 : Nat) : Int) := iand_nat .i64 (a := sortN kind) (b := 8) (by simp only [nb]; omega) (by decide)
  have h16 : iand .i64 ((sortN kind : Nat) : Int) 16 = ((sortN kind &&& 16 : Nat) : Int) := iand_nat .i64 (a := sortN kind) (b := 16) (by simp only [nb]; omega) (by decide)
  generalize sortN kind = n at *
  refine wpc_st fun K hK => ?_
  simp -dsimp -implicitDefEqProofs [opV]
  refine hK _ _ ?_
  clear hK K
  refine wpc_sq fun K hK => ?_
  simp -dsimp -implicitDefEqProofs
  refine hof _ _ ?_
  simp -dsimp -implicitDefEqProofs
  refine hK _ _ ?_
  clear hK K hof
  obtain ⟨d0, d1⟩ := d0
  have d2 : ¬ d < 0 := by omega
  have d3 : ¬ 63 < d := by omega
  have d4 : ¬ d = 0 := by omega
  obtain ⟨a0, a1⟩ := a0
  have a2 : ¬ a < 0 := by omega
  have a3 : ¬ 63 < a := by omega
  have a4 : ¬ a = 0 := by omega
  subst b0
  rcases hc with rfl | rfl | rfl | rfl | rfl | rfl | rfl | rfl | rfl | rfl | rfl
  all_goals
    simp only [Nat.reduceAnd] at h1 h2 h12 h8 h16
    simp -dsimp at h1 h2 h12 h8 h16
    simp -dsimp -implicitDefEqProofs [undef, h1, h2, h12, h8, h16, d2, d3, d4, a2, a3, a4]
    exact fin_ret rfl (leave_pure (by simp) (by simpa [bitN, beq0, dq, d4, aq, a4, bq] using h))

set_option maxRecDepth 100000 in
set_option maxHeartbeats 32000000 in
theorem fields_ppp (o : OpZ) (m : Mem) (Q) (h : Q (.bool (fieldsQ o)) m) (d0 : 0 < o.d ∧ o.d ≤ 63) (dq : inQ o.d = true) (a0 : 0 < o.a ∧ o.a ≤ 63) (aq : inQ o.a = true) (b0 : 0 < o.b ∧ o.b ≤ 63) (bq : inQ o.b = true) : TC Try.prog 162 [opV o] m Q := by
  refine TC_fn mixed Try.func162 rfl Try.ntmps162 rfl (by decide) (by simp) ?_
  obtain ⟨kind, d, a, b, imm, at_⟩ := o
  have hof := rsort_tc kind
  have hc := sortN_cases kind
  rw [fieldsQ_eq] at h
  simp only at h d0 dq a0 aq b0 bq
  have h1 : iand .i64 ((sortN kind : Nat) : Int) 1 = ((sortN kind &&& 1 : Nat) : Int) := iand_nat .i64 (a := sortN kind) (b := 1) (by simp only [nb]; omega) (by decide)
  have h2 : iand .i64 ((sortN kind : Nat) : Int) 2 = ((sortN kind &&& 2 : Nat) : Int) := iand_nat .i64 (a := sortN kind) (b := 2) (by simp only [nb]; omega) (by decide)
  have h12 : iand .i64 ((sortN kind : Nat) : Int) 12 = ((sortN kind &&& 12 : Nat) : Int) := iand_nat .i64 (a := sortN kind) (b := 12) (by simp only [nb]; omega) (by decide)
  have h8 : iand .i64 ((sortN kind : Nat) : Int) 8 = ((sortN kind &&& 8 : Nat) : Int) := iand_nat .i64 (a := sortN kind) (b := 8) (by simp only [nb]; omega) (by decide)
  have h16 : iand .i64 ((sortN kind : Nat) : Int) 16 = ((sortN kind &&& 16 : Nat) : Int) := iand_nat .i64 (a := sortN kind) (b := 16) (by simp only [nb]; omega) (by decide)
  generalize sortN kind = n at *
  refine wpc_st fun K hK => ?_
  simp -dsimp -implicitDefEqProofs [opV]
  refine hK _ _ ?_
  clear hK K
  refine wpc_sq fun K hK => ?_
  simp -dsimp -implicitDefEqProofs
  refine hof _ _ ?_
  simp -dsimp -implicitDefEqProofs
  refine hK _ _ ?_
  clear hK K hof
  obtain ⟨d0, d1⟩ := d0
  have d2 : ¬ d < 0 := by omega
  have d3 : ¬ 63 < d := by omega
  have d4 : ¬ d = 0 := by omega
  obtain ⟨a0, a1⟩ := a0
  have a2 : ¬ a < 0 := by omega
  have a3 : ¬ 63 < a := by omega
  have a4 : ¬ a = 0 := by omega
  obtain ⟨b0, b1⟩ := b0
  have b2 : ¬ b < 0 := by omega
  have b3 : ¬ 63 < b := by omega
  have b4 : ¬ b = 0 := by omega
  rcases hc with rfl | rfl | rfl | rfl | rfl | rfl | rfl | rfl | rfl | rfl | rfl
  all_goals
    simp only [Nat.reduceAnd] at h1 h2 h12 h8 h16
    simp -dsimp at h1 h2 h12 h8 h16
    simp -dsimp -implicitDefEqProofs [undef, h1, h2, h12, h8, h16, d2, d3, d4, a2, a3, a4, b2, b3, b4]
    exact fin_ret rfl (leave_pure (by simp) (by simpa [bitN, beq0, dq, d4, aq, a4, bq, b4] using h))

theorem fields_tc (o : OpZ) (m : Mem) (Q) (h : Q (.bool (fieldsQ o)) m) : TC Try.prog 162 [opV o] m Q := by
  rcases inQ_cases o.d with ⟨d0, dq⟩ | ⟨d0, dq⟩ | ⟨d0, dq⟩ | ⟨d0, d1, dq⟩
  · exact fields_n o m Q h d0 dq
  · exact fields_g o m Q h d0 dq
  · rcases inQ_cases o.a with ⟨a0, aq⟩ | ⟨a0, aq⟩ | ⟨a0, aq⟩ | ⟨a0, a1, aq⟩
    · exact fields_zn o m Q h d0 dq a0 aq
    · exact fields_zg o m Q h d0 dq a0 aq
    · rcases inQ_cases o.b with ⟨b0, bq⟩ | ⟨b0, bq⟩ | ⟨b0, bq⟩ | ⟨b0, b1, bq⟩
      · exact fields_zzn o m Q h d0 dq a0 aq b0 bq
      · exact fields_zzg o m Q h d0 dq a0 aq b0 bq
      · exact fields_zzz o m Q h d0 dq a0 aq b0 bq
      · exact fields_zzp o m Q h d0 dq a0 aq ⟨b0, b1⟩ bq
    · rcases inQ_cases o.b with ⟨b0, bq⟩ | ⟨b0, bq⟩ | ⟨b0, bq⟩ | ⟨b0, b1, bq⟩
      · exact fields_zpn o m Q h d0 dq ⟨a0, a1⟩ aq b0 bq
      · exact fields_zpg o m Q h d0 dq ⟨a0, a1⟩ aq b0 bq
      · exact fields_zpz o m Q h d0 dq ⟨a0, a1⟩ aq b0 bq
      · exact fields_zpp o m Q h d0 dq ⟨a0, a1⟩ aq ⟨b0, b1⟩ bq
  · rcases inQ_cases o.a with ⟨a0, aq⟩ | ⟨a0, aq⟩ | ⟨a0, aq⟩ | ⟨a0, a1, aq⟩
    · exact fields_pn o m Q h ⟨d0, d1⟩ dq a0 aq
    · exact fields_pg o m Q h ⟨d0, d1⟩ dq a0 aq
    · rcases inQ_cases o.b with ⟨b0, bq⟩ | ⟨b0, bq⟩ | ⟨b0, bq⟩ | ⟨b0, b1, bq⟩
      · exact fields_pzn o m Q h ⟨d0, d1⟩ dq a0 aq b0 bq
      · exact fields_pzg o m Q h ⟨d0, d1⟩ dq a0 aq b0 bq
      · exact fields_pzz o m Q h ⟨d0, d1⟩ dq a0 aq b0 bq
      · exact fields_pzp o m Q h ⟨d0, d1⟩ dq a0 aq ⟨b0, b1⟩ bq
    · rcases inQ_cases o.b with ⟨b0, bq⟩ | ⟨b0, bq⟩ | ⟨b0, bq⟩ | ⟨b0, b1, bq⟩
      · exact fields_ppn o m Q h ⟨d0, d1⟩ dq ⟨a0, a1⟩ aq b0 bq
      · exact fields_ppg o m Q h ⟨d0, d1⟩ dq ⟨a0, a1⟩ aq b0 bq
      · exact fields_ppz o m Q h ⟨d0, d1⟩ dq ⟨a0, a1⟩ aq b0 bq
      · exact fields_ppp o m Q h ⟨d0, d1⟩ dq ⟨a0, a1⟩ aq ⟨b0, b1⟩ bq
end Go.Lm
