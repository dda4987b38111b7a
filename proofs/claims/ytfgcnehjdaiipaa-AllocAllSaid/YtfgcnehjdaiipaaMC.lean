/- Contracts of bits.Field, bits.Sext, ins.Decode, ins.Kind, ins.Name, and of calquelaw08.InsNone and InsKinds. -/
import Derived.Test.YtfgcnehjdaiipaaMB
import Derived.Test.YtfgcnehjdaiipaaTA
import Derived.Laws.Strings
/- bits: contracts. -/
namespace Go.Lm
open Go.Proofs

/-- n bits of a number, from a place -/
def fl (w at_ n : Nat) : Nat := w / 2 ^ at_ % 2 ^ n

theorem fld_val (w : Nat) (hw : w < 2 ^ 32) (at_ n : Nat) (ha : at_ ≤ 31) (hn : n ≤ 32) :
    IntKind.u32.wrap (iand .u64 (ishr .u64 (IntKind.u64.wrap (w : Int)) at_) (IntKind.u64.wrap (ishl .u64 1 n - 1))) = ((fl w at_ n : Nat) : Int) := by
  unfold fl
  have hp : 2 ^ n ≤ 2 ^ 32 := Nat.pow_le_pow_right (by omega) hn
  have hp0 : 0 < 2 ^ n := Nat.two_pow_pos n
  have hd : w / 2 ^ at_ ≤ w := Nat.div_le_self _ _
  have hm : w / 2 ^ at_ % 2 ^ n ≤ w / 2 ^ at_ := Nat.mod_le _ _
  rw [wrap_u64_nat, Nat.mod_eq_of_lt (by omega), ishr_nat .u64 (by simp; omega), show (1 : Int) = ((1 : Nat) : Int) from rfl, ishl_nat .u64 (by simp; omega), wrap_u64_nat, Nat.one_mul,
    Nat.mod_eq_of_lt (by omega), show ((2 ^ n : Nat) : Int) - ((1 : Nat) : Int) = ((2 ^ n - 1 : Nat) : Int) by omega, wrap_u64_nat, Nat.mod_eq_of_lt (by omega),
    iand_mask .u64 n (by simp only [nb]; omega) rfl (by simp only [nb]; omega), wrap_u32_nat, Nat.mod_eq_of_lt (by omega)]

theorem Field_tc (w : Nat) (hw : w < 2 ^ 32) (at_ n : Nat) (ha : at_ ≤ 31) (hn : at_ + n ≤ 32) (m : Mem) (Q) (h : Q (.int .u32 ((fl w at_ n : Nat) : Int)) m) :
   TC Try.prog 65 [.int .u32 w, .int .i64 at_, .int .i64 n] m Q := by
  refine TC_fn mixed Try.func65 rfl Try.ntmps65 rfl (by decide) (by simp) ?_
  have h1 : ¬ (31 : Int) < at_ := by omega
  have h3 : ((if 0 < at_ then (at_ : Int) else 0)) = at_ := by split <;> omega
  have h4 : ¬ (32 - (at_ : Int) < n) := by omega
  have h5 : ((if 0 < n then (n : Int) else 0)) = n := by split <;> omega
  simp (disch := omega) [h1, h3, h4, h5, wI64]
  refine draw_by 7 [0, 1, 0, 7, 0, 16, 48, 127, 255, 511] (by kernel_rfl) (by kernel_rfl) ?_
  simp
  rw [fld_val w hw at_ n ha (by omega)]
  exact fin_ret rfl (leave_pure (by simp) h)

/-- a number of `n` bits, with its sign -/
def sxt (n v : Nat) : Nat := let x := v % 2 ^ n; if x < 2 ^ (n - 1) then x else 2 ^ 32 - 2 ^ n + x

theorem sxt16_val (w : Nat) : IntKind.u32.wrap (ishr .i32 (IntKind.i32.wrap (ishl .u32 (w : Int) 16)) 16) = ((sxt 16 w : Nat) : Int) := by
  have e1 : ishl .u32 (w : Int) 16 = IntKind.u32.wrap ((w : Int) * 65536) := rfl
  have e2 (x : Int) : ishr .i32 x 16 = x.fdiv 65536 := rfl
  rw [e1, e2]
  rw [Int.fdiv_eq_ediv_of_nonneg _ (by omega)]
  simp [IntKind.wrap, IntKind.bits, IntKind.signed, sxt]
  split <;> split <;> omega

theorem Sext16_tc (w : Nat) (m : Mem) (Q) (h : Q (.int .u32 ((sxt 16 w : Nat) : Int)) m) :
   TC Try.prog 66 [.int .u32 w, .int .i64 16] m Q := by
  refine TC_fn mixed Try.func66 rfl Try.ntmps66 rfl (by decide) (by simp) ?_
  simp
  rw [sxt16_val w]
  exact fin_ret rfl (leave_pure (by simp) h)

/-- the table: number, form, name, field -/
def rowsTab : List (Nat × Nat × ByteArray × Nat) := [(0, 0, .empty, 0),
  (1, 0, ⟨#[97, 100, 100, 117]⟩, 33),
  (2, 0, ⟨#[115, 117, 98, 117]⟩, 35),
  (3, 0, ⟨#[97, 110, 100]⟩, 36),
  (4, 0, ⟨#[111, 114]⟩, 37),
  (5, 0, ⟨#[120, 111, 114]⟩, 38),
  (6, 0, ⟨#[110, 111, 114]⟩, 39),
  (7, 0, ⟨#[115, 108, 116]⟩, 42),
  (8, 0, ⟨#[115, 108, 116, 117]⟩, 43),
  (9, 0, ⟨#[97, 100, 100]⟩, 32),
  (10, 0, ⟨#[115, 117, 98]⟩, 34),
  (11, 0, ⟨#[115, 108, 108, 118]⟩, 4),
  (12, 0, ⟨#[115, 114, 108, 118]⟩, 6),
  (13, 0, ⟨#[115, 114, 97, 118]⟩, 7),
  (14, 0, ⟨#[109, 111, 118, 122]⟩, 10),
  (15, 0, ⟨#[109, 111, 118, 110]⟩, 11),
  (16, 1, ⟨#[115, 108, 108]⟩, 0),
  (17, 1, ⟨#[115, 114, 108]⟩, 2),
  (18, 1, ⟨#[115, 114, 97]⟩, 3),
  (19, 2, ⟨#[109, 117, 108, 116]⟩, 24),
  (20, 2, ⟨#[109, 117, 108, 116, 117]⟩, 25),
  (21, 2, ⟨#[100, 105, 118]⟩, 26),
  (22, 2, ⟨#[100, 105, 118, 117]⟩, 27),
  (23, 3, ⟨#[109, 102, 104, 105]⟩, 16),
  (24, 3, ⟨#[109, 102, 108, 111]⟩, 18),
  (25, 4, ⟨#[109, 116, 104, 105]⟩, 17),
  (26, 4, ⟨#[109, 116, 108, 111]⟩, 19),
  (27, 4, ⟨#[106, 114]⟩, 8),
  (28, 5, ⟨#[106, 97, 108, 114]⟩, 9),
  (29, 6, ⟨#[116, 103, 101]⟩, 48),
  (30, 6, ⟨#[116, 103, 101, 117]⟩, 49),
  (31, 6, ⟨#[116, 108, 116]⟩, 50),
  (32, 6, ⟨#[116, 108, 116, 117]⟩, 51),
  (33, 6, ⟨#[116, 101, 113]⟩, 52),
  (34, 6, ⟨#[116, 110, 101]⟩, 54),
  (35, 7, ⟨#[115, 121, 115, 99, 97, 108, 108]⟩, 12),
  (36, 7, ⟨#[98, 114, 101, 97, 107]⟩, 13),
  (37, 8, ⟨#[109, 117, 108]⟩, 2),
  (38, 9, ⟨#[99, 108, 122]⟩, 32),
  (39, 9, ⟨#[99, 108, 111]⟩, 33),
  (40, 10, ⟨#[97, 100, 100, 105, 117]⟩, 9),
  (41, 10, ⟨#[97, 100, 100, 105]⟩, 8),
  (42, 10, ⟨#[115, 108, 116, 105]⟩, 10),
  (43, 10, ⟨#[115, 108, 116, 105, 117]⟩, 11),
  (44, 11, ⟨#[97, 110, 100, 105]⟩, 12),
  (45, 11, ⟨#[111, 114, 105]⟩, 13),
  (46, 11, ⟨#[120, 111, 114, 105]⟩, 14),
  (47, 12, ⟨#[108, 117, 105]⟩, 15),
  (48, 13, ⟨#[108, 98]⟩, 32),
  (49, 13, ⟨#[108, 104]⟩, 33),
  (50, 13, ⟨#[108, 119, 108]⟩, 34),
  (51, 13, ⟨#[108, 119]⟩, 35),
  (52, 13, ⟨#[108, 98, 117]⟩, 36),
  (53, 13, ⟨#[108, 104, 117]⟩, 37),
  (54, 13, ⟨#[108, 119, 114]⟩, 38),
  (55, 13, ⟨#[115, 98]⟩, 40),
  (56, 13, ⟨#[115, 104]⟩, 41),
  (57, 13, ⟨#[115, 119, 108]⟩, 42),
  (58, 13, ⟨#[115, 119]⟩, 43),
  (59, 13, ⟨#[115, 119, 114]⟩, 46),
  (60, 14, ⟨#[98, 101, 113]⟩, 4),
  (61, 14, ⟨#[98, 110, 101]⟩, 5),
  (62, 15, ⟨#[98, 108, 101, 122]⟩, 6),
  (63, 15, ⟨#[98, 103, 116, 122]⟩, 7),
  (64, 16, ⟨#[98, 108, 116, 122]⟩, 0),
  (65, 16, ⟨#[98, 103, 101, 122]⟩, 1),
  (66, 16, ⟨#[98, 108, 116, 122, 97, 108]⟩, 16),
  (67, 16, ⟨#[98, 103, 101, 122, 97, 108]⟩, 17),
  (68, 17, ⟨#[106]⟩, 2),
  (69, 17, ⟨#[106, 97, 108]⟩, 3)]

/-- a row as it stands in memory -/
def rowVal (r : Nat × Nat × ByteArray × Nat) : List Value := [.int .i64 r.1, .int .i64 r.2.1, .string r.2.2.1, .int .u32 r.2.2.2]
def rowsA : Array Value := (rowsTab.flatMap rowVal).toArray
@[simp] theorem rowsA_size : rowsA.size = 280 := by kernel_rfl

set_option maxRecDepth 100000 in
theorem rows_tc (m : Mem) (Q) (h : Q (.agg rowsA) m) : TC Try.prog 68 [] m Q := by
  refine TC_fn mixed Try.func68 rfl Try.ntmps68 rfl (by decide) (by simp) ?_
  refine wpc_step _ rfl fun K hK => ?_
  simp
  refine hK _ _ ?_
  clear hK K
  refine wpc_step _ rfl fun K hK => ?_
  refine wpo_table_store 71 0 112 (.agg rowsA) (ptr0 m.top) { val := undef, mods := [(m.top, .cells false 0 rowsA)] } (by kernel_rfl) rfl (by kernel_rfl) (by simp [rowsA_size]) ?_
  intro env' h1 h2
  have h0 := h2 0 (by kernel_rfl)
  clear h2
  refine hK _ _ ?_
  simp
  refine fin_ret (v := .agg rowsA) ?_ (leave_pure (okV_gnd (by kernel_rfl)) h)
  simp [h0]
end Go.Lm
/- ins.slot, ins.of: contracts. -/
namespace Go.Lm
open Go.Proofs

abbrev Row := Nat × Nat × ByteArray × Nat
def slotQ (r : Row) : Nat × Nat := if r.2.1 < 8 then (0, r.2.2.2) else if r.2.1 ≤ 9 then (28, r.2.2.2) else if r.2.1 = 16 then (1, r.2.2.2) else (r.2.2.2, 0)
def pairV (p : Nat × Nat) : Value := .agg #[.int .u32 p.1, .int .u32 p.2]
def rowV (r : Row) : Value := .agg (rowVal r).toArray

theorem slot_tc (r : Row) (m : Mem) (Q) (h : Q (pairV (slotQ r)) m) : TC Try.prog 70 [rowV r] m Q := by
  refine TC_fn mixed Try.func70 rfl Try.ntmps70 rfl (by decide) (by simp) ?_
  obtain ⟨op, form, nm, code⟩ := r
  simp [rowV, rowVal]
  have e (a b : Nat) : ((a : Int) < (b : Int)) = (a < b) := by simp
  by_cases h1 : form < 8
  · have : (form : Int) < 8 := by omega
    simp [this]
    refine fin_ret (by simp; rfl) (leave_pure (by simp) ?_)
    simpa [slotQ, pairV, h1] using h
  have h1' : ¬ (form : Int) < 8 := by omega
  by_cases h2 : form ≤ 9
  · have : (form : Int) ≤ 9 := by omega
    simp [this, h1']
    refine fin_ret (by simp; rfl) (leave_pure (by simp) ?_)
    simpa [slotQ, pairV, h1, h2] using h
  have h2' : ¬ (form : Int) ≤ 9 := by omega
  by_cases h3 : form = 16
  · subst h3
    simp
    refine fin_ret (by simp; rfl) (leave_pure (by simp) ?_)
    simpa [slotQ, pairV] using h
  have h3' : ¬ (form : Int) = 16 := by omega
  simp [h1', h2', h3']
  refine fin_ret (by simp; rfl) (leave_pure (by simp) ?_)
  simpa [slotQ, pairV, h1, h2, h3] using h

def atQ (w : Nat) : Nat × Nat :=
  if fl w 26 6 = 0 ∨ fl w 26 6 = 28 then (fl w 26 6, fl w 0 6) else if fl w 26 6 = 1 then (fl w 26 6, fl w 16 5) else (fl w 26 6, 0)

def noRow : Row := (0, 0, .empty, 0)
def ofQ (w : Nat) : Option Row := rowsTab.tail.find? fun r => slotQ r = atQ w

theorem rowsA_at (k : Nat) (hk : k < 70) : rowsA.extract (k * 4) (k * 4 + 4) = (rowVal (rowsTab[k]'(by simpa [rowsTab] using hk))).toArray :=
  flat_extract rowVal 4 (fun _ => rfl) rowsTab k _

def rowK (k : Nat) : Row := (rowsTab[k + 1]?).getD noRow

theorem rowsA_slice (k : Nat) (hk : k < 69) : rowsA.extract (4 + k * 4) (4 + k * 4 + 4) = (rowVal (rowK k)).toArray := by
  have := rowsA_at (k + 1) (by omega)
  rw [show (k + 1) * 4 = 4 + k * 4 by omega] at this
  rw [this, rowK, List.getElem?_eq_getElem]
  rfl

theorem rowK_eq (k : Nat) (hk : k < rowsTab.tail.length) : rowK k = rowsTab.tail[k] := by
  rw [rowK, List.getElem_tail, List.getElem?_eq_getElem (by simp only [List.length_tail] at hk; omega)]; rfl

theorem tab_len : rowsTab.tail.length = 69 := by kernel_rfl

theorem of_some {w k : Nat} (hk : k < 69) (hm : slotQ (rowK k) = atQ w) (hno : ∀ j, j < k → slotQ (rowK j) ≠ atQ w) : ofQ w = some (rowK k) := by
  unfold ofQ
  rw [List.find?_eq_some_iff_getElem]
  refine ⟨by simpa using hm, k, by rw [tab_len]; exact hk, (rowK_eq k _).symm, fun j hj => ?_⟩
  rw [← rowK_eq j]
  simpa using hno j hj

theorem of_none {w : Nat} (hno : ∀ j, j < 69 → slotQ (rowK j) ≠ atQ w) : ofQ w = none := by
  unfold ofQ
  rw [List.find?_eq_none]
  intro r hr
  obtain ⟨j, hj, rfl⟩ := List.getElem_of_mem hr
  rw [← rowK_eq j]
  simpa using hno j (by rw [← tab_len]; exact hj)

def ofI (w : Nat) (m : Mem) (n : Nat) (env : Env) (m' : Mem) : Prop :=
  ∃ k, k ≤ 69 ∧ n = 69 - k ∧ (∀ j, j < k → slotQ (rowK j) ≠ atQ w) ∧ elook env 0 = some (.int .u32 w) ∧ elook env 2 = some (.pointer (some ⟨m.top, 0, none⟩)) ∧ elook env 3 = some (.bool false) ∧
  elook env 5 = some (.pointer (some ⟨m.top + 2, 0, none⟩)) ∧ elook env 25 = some (.slice (some ⟨m.top + 1, 4, none⟩) 69 69) ∧ elook env 26 = some (.int .i64 69) ∧ elook env 27 = some (.int .i64 k) ∧
  ∃ l, m' = { base := m.get, n := m.top, loc := .cells false 0 (rowVal noRow).toArray :: .cells false 0 rowsA :: .cells false 0 #[.int .u32 (atQ w).1, .int .u32 (atQ w).2] :: l }

def ofE (w : Nat) (m : Mem) (at' : Nat × Nat) (env : Env) (m' : Mem) : Prop :=
  elook env 0 = some (.int .u32 w) ∧ elook env 2 = some (.pointer (some ⟨m.top, 0, none⟩)) ∧ elook env 3 = some (.bool false) ∧ elook env 4 = some (.pointer (some ⟨m.top + 1, 0, none⟩)) ∧
  elook env 5 = some (.pointer (some ⟨m.top + 2, 0, none⟩)) ∧ m' = { base := m.get, n := m.top, loc := [.cells false 0 (rowVal noRow).toArray, .cells false 0 rowsA, .cells false 0 #[.int .u32 at'.1, .int .u32 at'.2]] }

set_option maxRecDepth 100000 in
set_option maxHeartbeats 4000000 in
theorem of_tc (w : Nat) (hw : w < 2 ^ 32) (m : Mem) (Q) (h : Q (.tuple #[rowV ((ofQ w).getD noRow), .bool (ofQ w).isSome]) m) : TC Try.prog 64 [.int .u32 w] m Q := by
  refine TC_fn mixed Try.func64 rfl Try.ntmps64 rfl (by decide) (by simp) ?_
  refine wpc_st fun K hK => ?_
  simp -dsimp
  refine hK _ _ ?_
  clear hK K
  refine wpc_st fun K hK => ?_
  simp -dsimp
  refine rows_tc _ _ ?_
  simp -dsimp
  refine hK _ _ ?_
  clear hK K
  refine wpc_st fun K hK => ?_
  simp -dsimp
  refine Field_tc w hw 26 6 (by decide) (by decide) _ _ ?_
  simp -dsimp
  refine hK _ _ ?_
  clear hK K
  refine wpc_mid (ofE w m (atQ w)) ?_ ?_
  · simp -dsimp
    by_cases h1 : fl w 26 6 = 0
    · simp -dsimp [h1]
      refine Field_tc w hw 0 6 (by decide) (by decide) _ _ ?_
      simp -dsimp [ofE, atQ, h1, noRow, rowVal]
    by_cases h2 : fl w 26 6 = 28
    · simp -dsimp [h2]
      refine Field_tc w hw 0 6 (by decide) (by decide) _ _ ?_
      simp -dsimp [ofE, atQ, h2, noRow, rowVal]
    by_cases h3 : fl w 26 6 = 1
    · simp -dsimp [h3]
      refine Field_tc w hw 16 5 (by decide) (by decide) _ _ ?_
      simp -dsimp [ofE, atQ, h3, noRow, rowVal]
    have h2' : ¬ (fl w 26 6 : Int) = 28 := by omega
    have h3' : ¬ (fl w 26 6 : Int) = 1 := by omega
    simp -dsimp [h1, h2', h3', h2, h3, ofE, atQ, noRow, rowVal]
  rintro env m' ⟨e0, e2, e3, e4, e5, rfl⟩
  refine wpc_mid (fun env m' => ∃ n, ofQ w = none ∧ ofI w m n env m') ?_ ?_
  · simp -dsimp [e4]
    refine loop_by (ofI w m) 69 ?_ ?_
    · refine ⟨0, by decide, rfl, fun j hj => absurd hj (Nat.not_lt_zero _), ?_⟩
      simp -dsimp [e0, e2, e3, e5]
    rintro n env m' ⟨k, hk, rfl, hno, e0, e2, e3, e5, e25, e26, e27, l, rfl⟩
    simp -dsimp [e25, e26, e27]
    by_cases hkk : k < 69
    · have hkk' : (k : Int) < 69 := by omega
      have hb : 4 + k * 4 ≤ 276 := by omega
      simp -dsimp [hkk', hb, rowsA_slice k hkk, rowVal]
      refine draw_go 3 [0, 1, 0, 7] (by kernel_rfl) (by kernel_rfl) ?_
      simp -dsimp
      refine .inl ⟨_, fun m' _ => slot_tc (rowK k) _ _ ⟨rfl, rfl⟩, drw_go ?_⟩
      simp -dsimp [e5, pairV]
      have hiff : (((slotQ (rowK k)).1 : Int) = (atQ w).1 ∧ ((slotQ (rowK k)).2 : Int) = (atQ w).2) ↔ slotQ (rowK k) = atQ w := by
        rw [Prod.ext_iff]; omega
      by_cases hm : slotQ (rowK k) = atQ w
      · rw [if_pos (hiff.2 hm)]
        simp -dsimp [e2]
        refine fin_ret (v := .tuple #[rowV (rowK k), .bool true]) (by simp -dsimp [e2]; rfl) (leave_pure (by simp [rowV, rowVal]) ?_)
        have : ofQ w = some (rowK k) := of_some hkk hm hno
        rw [this] at h
        exact h
      · rw [if_neg (fun x => hm (hiff.1 x))]
        simp -dsimp [e27]
        refine ⟨69 - (k + 1), by omega, k + 1, by omega, rfl, ?_, ?_⟩
        · intro j hj
          by_cases hjk : j = k
          · subst hjk; exact hm
          · exact hno j (by omega)
        simp -dsimp [e0, e2, e3, e5, e25, e26]
        exact ⟨wI64 (by omega) (by omega), rfl⟩
    · have hk9 : k = 69 := by omega
      have hkk' : ¬ (k : Int) < 69 := by omega
      simp -dsimp [hkk']
      refine ⟨of_none (hk9 ▸ hno), 0, 69, by decide, rfl, hk9 ▸ hno, ?_⟩
      simp -dsimp [e0, e2, e3, e5, e25, e26, e27, hk9]
  rintro env m' ⟨n, hno, k, hk, rfl, -, e0, e2, e3, e5, e25, e26, e27, l, rfl⟩
  simp -dsimp [e2, rowVal]
  refine fin_ret (v := .tuple #[rowV noRow, .bool false]) (by simp -dsimp [e2]; rfl) (leave_pure (by simp [rowV, rowVal]) ?_)
  rw [hno] at h
  exact h
end Go.Lm
/- ins: Decode's parts, Kind, Name. -/
set_option linter.unusedSimpArgs false
namespace Go.Lm
open Go.Proofs

theorem set_tc (k off e : Nat) (c : Array Value) (v : Nat) (hv : v < 2 ^ 32) (m : Mem) (Q) (hk : m.get k = .cells false e c) (ho : off + 1 ≤ c.size) (hok : ∀ x ∈ c, gnd0 x = true)
    (h : Q (.tuple #[]) (m.put k (.cells false e (wr c off #[.int .i64 v])))) :
    TC Try.prog 67 [.pointer (some ⟨k, off, none⟩), .int .u32 v] m Q := by
  refine TC_fn mixed Try.func67 rfl Try.ntmps67 rfl (by decide) (by simp) ?_
  have hlt := lt_cells hk
  simp -dsimp [get_base, hlt, hk, ho]
  have hw : IntKind.i64.wrap (v : Int) = v := wI64 (by omega) (by omega)
  rw [hw, put_base _ _ _ _ hlt]
  refine fin_end (v := .tuple #[]) (by simp) (leave_put (by rw [hk]; intro x; cases x) (by intro x; cases x) (by simp) ?_ ?_)
  · intro x hx
    split at hx
    · simp at hx; subst hx; exact okS_gnd0 rfl
    · rcases Array.mem_or_eq_of_mem_setIfInBounds hx with h1 | h1
      · exact okS_gnd0 (hok x h1)
      · subst h1; exact okS_gnd0 rfl
  · simpa [wr] using h

/-- the sort of an instruction -/
def kindQ (n : Int) : Int :=
  if n < 1 ∨ 69 < n then 0 else if n = 27 ∨ n = 28 ∨ 60 ≤ n then 2 else if n = 35 ∨ n = 36 then 3 else if 48 ≤ n ∧ n ≤ 54 then 4 else if 55 ≤ n then 5
  else if n = 9 ∨ n = 10 ∨ n = 41 ∨ (29 ≤ n ∧ n ≤ 34) then 6 else 1

theorem kind_cases (n : Int) {C : Prop} (h : ∀ k : Int, kindQ n = k → (n < 1 ∨ (1 ≤ n ∧ n ≤ 8) ∨ n = 9 ∨ n = 10 ∨ (11 ≤ n ∧ n ≤ 26) ∨ n = 27 ∨ n = 28 ∨ (29 ≤ n ∧ n ≤ 34) ∨ n = 35 ∨ n = 36 ∨ (37 ≤ n ∧ n ≤ 40) ∨ n = 41 ∨ (42 ≤ n ∧ n ≤ 47) ∨ (48 ≤ n ∧ n ≤ 54) ∨ (55 ≤ n ∧ n ≤ 59) ∨ (60 ≤ n ∧ n ≤ 69) ∨ 69 < n) → C) : C := by
  have h0 : n < 1 ∨ (1 ≤ n ∧ n ≤ 8) ∨ n = 9 ∨ n = 10 ∨ (11 ≤ n ∧ n ≤ 26) ∨ n = 27 ∨ n = 28 ∨ (29 ≤ n ∧ n ≤ 34) ∨ n = 35 ∨ n = 36 ∨ (37 ≤ n ∧ n ≤ 40) ∨ n = 41 ∨ (42 ≤ n ∧ n ≤ 47) ∨ (48 ≤ n ∧ n ≤ 54) ∨ (55 ≤ n ∧ n ≤ 59) ∨ (60 ≤ n ∧ n ≤ 69) ∨ 69 < n := by omega
  have ex : ∃ k, kindQ n = k := ⟨_, rfl⟩
  obtain ⟨k, hk⟩ := ex
  exact h k hk h0

set_option maxRecDepth 100000 in
set_option maxHeartbeats 20000000 in
theorem kind_tc (n : Int) (m : Mem) (Q) (h : Q (.int .i64 (kindQ n)) m) : TC Try.prog 21 [.int .i64 n] m Q := by
  refine TC_fn mixed Try.func21 rfl Try.ntmps21 rfl (by decide) (by simp) ?_
  refine kind_cases n fun k hk hc => ?_
  rw [hk] at h
  rcases hc with hc | hc | hc | hc | hc | hc | hc | hc | hc | hc | hc | hc | hc | hc | hc | hc | hc
  · have hv : k = 0 := by rw [← hk]; unfold kindQ; (repeat' split) <;> omega
    subst hv
    have a0 : n < 1 := by omega
    have a1 : ¬ 69 < n := by omega
    have a2 : ¬ n = 27 := by omega
    have a3 : ¬ n = 28 := by omega
    have a4 : ¬ 60 ≤ n := by omega
    have a5 : ¬ n = 35 := by omega
    have a6 : ¬ n = 36 := by omega
    have a7 : ¬ 48 ≤ n := by omega
    have a8 : n ≤ 54 := by omega
    have a9 : ¬ 55 ≤ n := by omega
    have a10 : n ≤ 59 := by omega
    have a11 : ¬ n = 9 := by omega
    have a12 : ¬ n = 10 := by omega
    have a13 : ¬ n = 41 := by omega
    have a14 : ¬ 29 ≤ n := by omega
    have a15 : n ≤ 34 := by omega
    simp -dsimp [a0, a1, a2, a3, a4, a5, a6, a7, a8, a9, a10, a11, a12, a13, a14, a15]
    exact fin_ret rfl (leave_pure (by simp) h)
  · have hv : k = 1 := by rw [← hk]; unfold kindQ; (repeat' split) <;> omega
    subst hv
    have a0 : ¬ n < 1 := by omega
    have a1 : ¬ 69 < n := by omega
    have a2 : ¬ n = 27 := by omega
    have a3 : ¬ n = 28 := by omega
    have a4 : ¬ 60 ≤ n := by omega
    have a5 : ¬ n = 35 := by omega
    have a6 : ¬ n = 36 := by omega
    have a7 : ¬ 48 ≤ n := by omega
    have a8 : n ≤ 54 := by omega
    have a9 : ¬ 55 ≤ n := by omega
    have a10 : n ≤ 59 := by omega
    have a11 : ¬ n = 9 := by omega
    have a12 : ¬ n = 10 := by omega
    have a13 : ¬ n = 41 := by omega
    have a14 : ¬ 29 ≤ n := by omega
    have a15 : n ≤ 34 := by omega
    simp -dsimp [a0, a1, a2, a3, a4, a5, a6, a7, a8, a9, a10, a11, a12, a13, a14, a15]
    exact fin_ret rfl (leave_pure (by simp) h)
  · have hv : k = 6 := by rw [← hk]; unfold kindQ; (repeat' split) <;> omega
    subst hv
    subst hc
    simp -dsimp
    exact fin_ret rfl (leave_pure (by simp) h)
  · have hv : k = 6 := by rw [← hk]; unfold kindQ; (repeat' split) <;> omega
    subst hv
    subst hc
    simp -dsimp
    exact fin_ret rfl (leave_pure (by simp) h)
  · have hv : k = 1 := by rw [← hk]; unfold kindQ; (repeat' split) <;> omega
    subst hv
    have a0 : ¬ n < 1 := by omega
    have a1 : ¬ 69 < n := by omega
    have a2 : ¬ n = 27 := by omega
    have a3 : ¬ n = 28 := by omega
    have a4 : ¬ 60 ≤ n := by omega
    have a5 : ¬ n = 35 := by omega
    have a6 : ¬ n = 36 := by omega
    have a7 : ¬ 48 ≤ n := by omega
    have a8 : n ≤ 54 := by omega
    have a9 : ¬ 55 ≤ n := by omega
    have a10 : n ≤ 59 := by omega
    have a11 : ¬ n = 9 := by omega
    have a12 : ¬ n = 10 := by omega
    have a13 : ¬ n = 41 := by omega
    have a14 : ¬ 29 ≤ n := by omega
    have a15 : n ≤ 34 := by omega
    simp -dsimp [a0, a1, a2, a3, a4, a5, a6, a7, a8, a9, a10, a11, a12, a13, a14, a15]
    exact fin_ret rfl (leave_pure (by simp) h)
  · have hv : k = 2 := by rw [← hk]; unfold kindQ; (repeat' split) <;> omega
    subst hv
    subst hc
    simp -dsimp
    exact fin_ret rfl (leave_pure (by simp) h)
  · have hv : k = 2 := by rw [← hk]; unfold kindQ; (repeat' split) <;> omega
    subst hv
    subst hc
    simp -dsimp
    exact fin_ret rfl (leave_pure (by simp) h)
  · have hv : k = 6 := by rw [← hk]; unfold kindQ; (repeat' split) <;> omega
    subst hv
    have a0 : ¬ n < 1 := by omega
    have a1 : ¬ 69 < n := by omega
    have a2 : ¬ n = 27 := by omega
    have a3 : ¬ n = 28 := by omega
    have a4 : ¬ 60 ≤ n := by omega
    have a5 : ¬ n = 35 := by omega
    have a6 : ¬ n = 36 := by omega
    have a7 : ¬ 48 ≤ n := by omega
    have a8 : n ≤ 54 := by omega
    have a9 : ¬ 55 ≤ n := by omega
    have a10 : n ≤ 59 := by omega
    have a11 : ¬ n = 9 := by omega
    have a12 : ¬ n = 10 := by omega
    have a13 : ¬ n = 41 := by omega
    have a14 : 29 ≤ n := by omega
    have a15 : n ≤ 34 := by omega
    simp -dsimp [a0, a1, a2, a3, a4, a5, a6, a7, a8, a9, a10, a11, a12, a13, a14, a15]
    exact fin_ret rfl (leave_pure (by simp) h)
  · have hv : k = 3 := by rw [← hk]; unfold kindQ; (repeat' split) <;> omega
    subst hv
    subst hc
    simp -dsimp
    exact fin_ret rfl (leave_pure (by simp) h)
  · have hv : k = 3 := by rw [← hk]; unfold kindQ; (repeat' split) <;> omega
    subst hv
    subst hc
    simp -dsimp
    exact fin_ret rfl (leave_pure (by simp) h)
  · have hv : k = 1 := by rw [← hk]; unfold kindQ; (repeat' split) <;> omega
    subst hv
    have a0 : ¬ n < 1 := by omega
    have a1 : ¬ 69 < n := by omega
    have a2 : ¬ n = 27 := by omega
    have a3 : ¬ n = 28 := by omega
    have a4 : ¬ 60 ≤ n := by omega
    have a5 : ¬ n = 35 := by omega
    have a6 : ¬ n = 36 := by omega
    have a7 : ¬ 48 ≤ n := by omega
    have a8 : n ≤ 54 := by omega
    have a9 : ¬ 55 ≤ n := by omega
    have a10 : n ≤ 59 := by omega
    have a11 : ¬ n = 9 := by omega
    have a12 : ¬ n = 10 := by omega
    have a13 : ¬ n = 41 := by omega
    have a14 : 29 ≤ n := by omega
    have a15 : ¬ n ≤ 34 := by omega
    simp -dsimp [a0, a1, a2, a3, a4, a5, a6, a7, a8, a9, a10, a11, a12, a13, a14, a15]
    exact fin_ret rfl (leave_pure (by simp) h)
  · have hv : k = 6 := by rw [← hk]; unfold kindQ; (repeat' split) <;> omega
    subst hv
    subst hc
    simp -dsimp
    exact fin_ret rfl (leave_pure (by simp) h)
  · have hv : k = 1 := by rw [← hk]; unfold kindQ; (repeat' split) <;> omega
    subst hv
    have a0 : ¬ n < 1 := by omega
    have a1 : ¬ 69 < n := by omega
    have a2 : ¬ n = 27 := by omega
    have a3 : ¬ n = 28 := by omega
    have a4 : ¬ 60 ≤ n := by omega
    have a5 : ¬ n = 35 := by omega
    have a6 : ¬ n = 36 := by omega
    have a7 : ¬ 48 ≤ n := by omega
    have a8 : n ≤ 54 := by omega
    have a9 : ¬ 55 ≤ n := by omega
    have a10 : n ≤ 59 := by omega
    have a11 : ¬ n = 9 := by omega
    have a12 : ¬ n = 10 := by omega
    have a13 : ¬ n = 41 := by omega
    have a14 : 29 ≤ n := by omega
    have a15 : ¬ n ≤ 34 := by omega
    simp -dsimp [a0, a1, a2, a3, a4, a5, a6, a7, a8, a9, a10, a11, a12, a13, a14, a15]
    exact fin_ret rfl (leave_pure (by simp) h)
  · have hv : k = 4 := by rw [← hk]; unfold kindQ; (repeat' split) <;> omega
    subst hv
    have a0 : ¬ n < 1 := by omega
    have a1 : ¬ 69 < n := by omega
    have a2 : ¬ n = 27 := by omega
    have a3 : ¬ n = 28 := by omega
    have a4 : ¬ 60 ≤ n := by omega
    have a5 : ¬ n = 35 := by omega
    have a6 : ¬ n = 36 := by omega
    have a7 : 48 ≤ n := by omega
    have a8 : n ≤ 54 := by omega
    have a9 : ¬ 55 ≤ n := by omega
    have a10 : n ≤ 59 := by omega
    have a11 : ¬ n = 9 := by omega
    have a12 : ¬ n = 10 := by omega
    have a13 : ¬ n = 41 := by omega
    have a14 : 29 ≤ n := by omega
    have a15 : ¬ n ≤ 34 := by omega
    simp -dsimp [a0, a1, a2, a3, a4, a5, a6, a7, a8, a9, a10, a11, a12, a13, a14, a15]
    exact fin_ret rfl (leave_pure (by simp) h)
  · have hv : k = 5 := by rw [← hk]; unfold kindQ; (repeat' split) <;> omega
    subst hv
    have a0 : ¬ n < 1 := by omega
    have a1 : ¬ 69 < n := by omega
    have a2 : ¬ n = 27 := by omega
    have a3 : ¬ n = 28 := by omega
    have a4 : ¬ 60 ≤ n := by omega
    have a5 : ¬ n = 35 := by omega
    have a6 : ¬ n = 36 := by omega
    have a7 : 48 ≤ n := by omega
    have a8 : ¬ n ≤ 54 := by omega
    have a9 : 55 ≤ n := by omega
    have a10 : n ≤ 59 := by omega
    have a11 : ¬ n = 9 := by omega
    have a12 : ¬ n = 10 := by omega
    have a13 : ¬ n = 41 := by omega
    have a14 : 29 ≤ n := by omega
    have a15 : ¬ n ≤ 34 := by omega
    simp -dsimp [a0, a1, a2, a3, a4, a5, a6, a7, a8, a9, a10, a11, a12, a13, a14, a15]
    exact fin_ret rfl (leave_pure (by simp) h)
  · have hv : k = 2 := by rw [← hk]; unfold kindQ; (repeat' split) <;> omega
    subst hv
    have a0 : ¬ n < 1 := by omega
    have a1 : ¬ 69 < n := by omega
    have a2 : ¬ n = 27 := by omega
    have a3 : ¬ n = 28 := by omega
    have a4 : 60 ≤ n := by omega
    have a5 : ¬ n = 35 := by omega
    have a6 : ¬ n = 36 := by omega
    have a7 : 48 ≤ n := by omega
    have a8 : ¬ n ≤ 54 := by omega
    have a9 : 55 ≤ n := by omega
    have a10 : ¬ n ≤ 59 := by omega
    have a11 : ¬ n = 9 := by omega
    have a12 : ¬ n = 10 := by omega
    have a13 : ¬ n = 41 := by omega
    have a14 : 29 ≤ n := by omega
    have a15 : ¬ n ≤ 34 := by omega
    simp -dsimp [a0, a1, a2, a3, a4, a5, a6, a7, a8, a9, a10, a11, a12, a13, a14, a15]
    exact fin_ret rfl (leave_pure (by simp) h)
  · have hv : k = 0 := by rw [← hk]; unfold kindQ; (repeat' split) <;> omega
    subst hv
    have a0 : ¬ n < 1 := by omega
    have a1 : 69 < n := by omega
    have a2 : ¬ n = 27 := by omega
    have a3 : ¬ n = 28 := by omega
    have a4 : 60 ≤ n := by omega
    have a5 : ¬ n = 35 := by omega
    have a6 : ¬ n = 36 := by omega
    have a7 : 48 ≤ n := by omega
    have a8 : ¬ n ≤ 54 := by omega
    have a9 : 55 ≤ n := by omega
    have a10 : ¬ n ≤ 59 := by omega
    have a11 : ¬ n = 9 := by omega
    have a12 : ¬ n = 10 := by omega
    have a13 : ¬ n = 41 := by omega
    have a14 : 29 ≤ n := by omega
    have a15 : ¬ n ≤ 34 := by omega
    simp -dsimp [a0, a1, a2, a3, a4, a5, a6, a7, a8, a9, a10, a11, a12, a13, a14, a15]
    exact fin_ret rfl (leave_pure (by simp) h)

set_option maxRecDepth 100000 in
set_option maxHeartbeats 20000000 in
theorem rkind_tc (n : Int) (m : Mem) (Q) (h : Q (.int .i64 (kindQ n)) m) : TC Try.prog 28 [.int .i64 n] m Q := by
  refine TC_fn mixed Try.func28 rfl Try.ntmps28 rfl (by decide) (by simp) ?_
  refine kind_cases n fun k hk hc => ?_
  rw [hk] at h
  rcases hc with hc | hc | hc | hc | hc | hc | hc | hc | hc | hc | hc | hc | hc | hc | hc | hc | hc
  · have hv : k = 0 := by rw [← hk]; unfold kindQ; (repeat' split) <;> omega
    subst hv
    have a0 : n < 1 := by omega
    have a1 : ¬ 69 < n := by omega
    have a2 : ¬ n = 27 := by omega
    have a3 : ¬ n = 28 := by omega
    have a4 : ¬ 60 ≤ n := by omega
    have a5 : ¬ n = 35 := by omega
    have a6 : ¬ n = 36 := by omega
    have a7 : ¬ 48 ≤ n := by omega
    have a8 : n ≤ 54 := by omega
    have a9 : ¬ 55 ≤ n := by omega
    have a10 : n ≤ 59 := by omega
    have a11 : ¬ n = 9 := by omega
    have a12 : ¬ n = 10 := by omega
    have a13 : ¬ n = 41 := by omega
    have a14 : ¬ 29 ≤ n := by omega
    have a15 : n ≤ 34 := by omega
    simp -dsimp [a0, a1, a2, a3, a4, a5, a6, a7, a8, a9, a10, a11, a12, a13, a14, a15]
    exact fin_ret rfl (leave_pure (by simp) h)
  · have hv : k = 1 := by rw [← hk]; unfold kindQ; (repeat' split) <;> omega
    subst hv
    have a0 : ¬ n < 1 := by omega
    have a1 : ¬ 69 < n := by omega
    have a2 : ¬ n = 27 := by omega
    have a3 : ¬ n = 28 := by omega
    have a4 : ¬ 60 ≤ n := by omega
    have a5 : ¬ n = 35 := by omega
    have a6 : ¬ n = 36 := by omega
    have a7 : ¬ 48 ≤ n := by omega
    have a8 : n ≤ 54 := by omega
    have a9 : ¬ 55 ≤ n := by omega
    have a10 : n ≤ 59 := by omega
    have a11 : ¬ n = 9 := by omega
    have a12 : ¬ n = 10 := by omega
    have a13 : ¬ n = 41 := by omega
    have a14 : ¬ 29 ≤ n := by omega
    have a15 : n ≤ 34 := by omega
    simp -dsimp [a0, a1, a2, a3, a4, a5, a6, a7, a8, a9, a10, a11, a12, a13, a14, a15]
    exact fin_ret rfl (leave_pure (by simp) h)
  · have hv : k = 6 := by rw [← hk]; unfold kindQ; (repeat' split) <;> omega
    subst hv
    subst hc
    simp -dsimp
    exact fin_ret rfl (leave_pure (by simp) h)
  · have hv : k = 6 := by rw [← hk]; unfold kindQ; (repeat' split) <;> omega
    subst hv
    subst hc
    simp -dsimp
    exact fin_ret rfl (leave_pure (by simp) h)
  · have hv : k = 1 := by rw [← hk]; unfold kindQ; (repeat' split) <;> omega
    subst hv
    have a0 : ¬ n < 1 := by omega
    have a1 : ¬ 69 < n := by omega
    have a2 : ¬ n = 27 := by omega
    have a3 : ¬ n = 28 := by omega
    have a4 : ¬ 60 ≤ n := by omega
    have a5 : ¬ n = 35 := by omega
    have a6 : ¬ n = 36 := by omega
    have a7 : ¬ 48 ≤ n := by omega
    have a8 : n ≤ 54 := by omega
    have a9 : ¬ 55 ≤ n := by omega
    have a10 : n ≤ 59 := by omega
    have a11 : ¬ n = 9 := by omega
    have a12 : ¬ n = 10 := by omega
    have a13 : ¬ n = 41 := by omega
    have a14 : ¬ 29 ≤ n := by omega
    have a15 : n ≤ 34 := by omega
    simp -dsimp [a0, a1, a2, a3, a4, a5, a6, a7, a8, a9, a10, a11, a12, a13, a14, a15]
    exact fin_ret rfl (leave_pure (by simp) h)
  · have hv : k = 2 := by rw [← hk]; unfold kindQ; (repeat' split) <;> omega
    subst hv
    subst hc
    simp -dsimp
    exact fin_ret rfl (leave_pure (by simp) h)
  · have hv : k = 2 := by rw [← hk]; unfold kindQ; (repeat' split) <;> omega
    subst hv
    subst hc
    simp -dsimp
    exact fin_ret rfl (leave_pure (by simp) h)
  · have hv : k = 6 := by rw [← hk]; unfold kindQ; (repeat' split) <;> omega
    subst hv
    have a0 : ¬ n < 1 := by omega
    have a1 : ¬ 69 < n := by omega
    have a2 : ¬ n = 27 := by omega
    have a3 : ¬ n = 28 := by omega
    have a4 : ¬ 60 ≤ n := by omega
    have a5 : ¬ n = 35 := by omega
    have a6 : ¬ n = 36 := by omega
    have a7 : ¬ 48 ≤ n := by omega
    have a8 : n ≤ 54 := by omega
    have a9 : ¬ 55 ≤ n := by omega
    have a10 : n ≤ 59 := by omega
    have a11 : ¬ n = 9 := by omega
    have a12 : ¬ n = 10 := by omega
    have a13 : ¬ n = 41 := by omega
    have a14 : 29 ≤ n := by omega
    have a15 : n ≤ 34 := by omega
    simp -dsimp [a0, a1, a2, a3, a4, a5, a6, a7, a8, a9, a10, a11, a12, a13, a14, a15]
    exact fin_ret rfl (leave_pure (by simp) h)
  · have hv : k = 3 := by rw [← hk]; unfold kindQ; (repeat' split) <;> omega
    subst hv
    subst hc
    simp -dsimp
    exact fin_ret rfl (leave_pure (by simp) h)
  · have hv : k = 3 := by rw [← hk]; unfold kindQ; (repeat' split) <;> omega
    subst hv
    subst hc
    simp -dsimp
    exact fin_ret rfl (leave_pure (by simp) h)
  · have hv : k = 1 := by rw [← hk]; unfold kindQ; (repeat' split) <;> omega
    subst hv
    have a0 : ¬ n < 1 := by omega
    have a1 : ¬ 69 < n := by omega
    have a2 : ¬ n = 27 := by omega
    have a3 : ¬ n = 28 := by omega
    have a4 : ¬ 60 ≤ n := by omega
    have a5 : ¬ n = 35 := by omega
    have a6 : ¬ n = 36 := by omega
    have a7 : ¬ 48 ≤ n := by omega
    have a8 : n ≤ 54 := by omega
    have a9 : ¬ 55 ≤ n := by omega
    have a10 : n ≤ 59 := by omega
    have a11 : ¬ n = 9 := by omega
    have a12 : ¬ n = 10 := by omega
    have a13 : ¬ n = 41 := by omega
    have a14 : 29 ≤ n := by omega
    have a15 : ¬ n ≤ 34 := by omega
    simp -dsimp [a0, a1, a2, a3, a4, a5, a6, a7, a8, a9, a10, a11, a12, a13, a14, a15]
    exact fin_ret rfl (leave_pure (by simp) h)
  · have hv : k = 6 := by rw [← hk]; unfold kindQ; (repeat' split) <;> omega
    subst hv
    subst hc
    simp -dsimp
    exact fin_ret rfl (leave_pure (by simp) h)
  · have hv : k = 1 := by rw [← hk]; unfold kindQ; (repeat' split) <;> omega
    subst hv
    have a0 : ¬ n < 1 := by omega
    have a1 : ¬ 69 < n := by omega
    have a2 : ¬ n = 27 := by omega
    have a3 : ¬ n = 28 := by omega
    have a4 : ¬ 60 ≤ n := by omega
    have a5 : ¬ n = 35 := by omega
    have a6 : ¬ n = 36 := by omega
    have a7 : ¬ 48 ≤ n := by omega
    have a8 : n ≤ 54 := by omega
    have a9 : ¬ 55 ≤ n := by omega
    have a10 : n ≤ 59 := by omega
    have a11 : ¬ n = 9 := by omega
    have a12 : ¬ n = 10 := by omega
    have a13 : ¬ n = 41 := by omega
    have a14 : 29 ≤ n := by omega
    have a15 : ¬ n ≤ 34 := by omega
    simp -dsimp [a0, a1, a2, a3, a4, a5, a6, a7, a8, a9, a10, a11, a12, a13, a14, a15]
    exact fin_ret rfl (leave_pure (by simp) h)
  · have hv : k = 4 := by rw [← hk]; unfold kindQ; (repeat' split) <;> omega
    subst hv
    have a0 : ¬ n < 1 := by omega
    have a1 : ¬ 69 < n := by omega
    have a2 : ¬ n = 27 := by omega
    have a3 : ¬ n = 28 := by omega
    have a4 : ¬ 60 ≤ n := by omega
    have a5 : ¬ n = 35 := by omega
    have a6 : ¬ n = 36 := by omega
    have a7 : 48 ≤ n := by omega
    have a8 : n ≤ 54 := by omega
    have a9 : ¬ 55 ≤ n := by omega
    have a10 : n ≤ 59 := by omega
    have a11 : ¬ n = 9 := by omega
    have a12 : ¬ n = 10 := by omega
    have a13 : ¬ n = 41 := by omega
    have a14 : 29 ≤ n := by omega
    have a15 : ¬ n ≤ 34 := by omega
    simp -dsimp [a0, a1, a2, a3, a4, a5, a6, a7, a8, a9, a10, a11, a12, a13, a14, a15]
    exact fin_ret rfl (leave_pure (by simp) h)
  · have hv : k = 5 := by rw [← hk]; unfold kindQ; (repeat' split) <;> omega
    subst hv
    have a0 : ¬ n < 1 := by omega
    have a1 : ¬ 69 < n := by omega
    have a2 : ¬ n = 27 := by omega
    have a3 : ¬ n = 28 := by omega
    have a4 : ¬ 60 ≤ n := by omega
    have a5 : ¬ n = 35 := by omega
    have a6 : ¬ n = 36 := by omega
    have a7 : 48 ≤ n := by omega
    have a8 : ¬ n ≤ 54 := by omega
    have a9 : 55 ≤ n := by omega
    have a10 : n ≤ 59 := by omega
    have a11 : ¬ n = 9 := by omega
    have a12 : ¬ n = 10 := by omega
    have a13 : ¬ n = 41 := by omega
    have a14 : 29 ≤ n := by omega
    have a15 : ¬ n ≤ 34 := by omega
    simp -dsimp [a0, a1, a2, a3, a4, a5, a6, a7, a8, a9, a10, a11, a12, a13, a14, a15]
    exact fin_ret rfl (leave_pure (by simp) h)
  · have hv : k = 2 := by rw [← hk]; unfold kindQ; (repeat' split) <;> omega
    subst hv
    have a0 : ¬ n < 1 := by omega
    have a1 : ¬ 69 < n := by omega
    have a2 : ¬ n = 27 := by omega
    have a3 : ¬ n = 28 := by omega
    have a4 : 60 ≤ n := by omega
    have a5 : ¬ n = 35 := by omega
    have a6 : ¬ n = 36 := by omega
    have a7 : 48 ≤ n := by omega
    have a8 : ¬ n ≤ 54 := by omega
    have a9 : 55 ≤ n := by omega
    have a10 : ¬ n ≤ 59 := by omega
    have a11 : ¬ n = 9 := by omega
    have a12 : ¬ n = 10 := by omega
    have a13 : ¬ n = 41 := by omega
    have a14 : 29 ≤ n := by omega
    have a15 : ¬ n ≤ 34 := by omega
    simp -dsimp [a0, a1, a2, a3, a4, a5, a6, a7, a8, a9, a10, a11, a12, a13, a14, a15]
    exact fin_ret rfl (leave_pure (by simp) h)
  · have hv : k = 0 := by rw [← hk]; unfold kindQ; (repeat' split) <;> omega
    subst hv
    have a0 : ¬ n < 1 := by omega
    have a1 : 69 < n := by omega
    have a2 : ¬ n = 27 := by omega
    have a3 : ¬ n = 28 := by omega
    have a4 : 60 ≤ n := by omega
    have a5 : ¬ n = 35 := by omega
    have a6 : ¬ n = 36 := by omega
    have a7 : 48 ≤ n := by omega
    have a8 : ¬ n ≤ 54 := by omega
    have a9 : 55 ≤ n := by omega
    have a10 : ¬ n ≤ 59 := by omega
    have a11 : ¬ n = 9 := by omega
    have a12 : ¬ n = 10 := by omega
    have a13 : ¬ n = 41 := by omega
    have a14 : 29 ≤ n := by omega
    have a15 : ¬ n ≤ 34 := by omega
    simp -dsimp [a0, a1, a2, a3, a4, a5, a6, a7, a8, a9, a10, a11, a12, a13, a14, a15]
    exact fin_ret rfl (leave_pure (by simp) h)
end Go.Lm
/- ins.Name, ins.Decode. -/
set_option linter.unusedSimpArgs false
namespace Go.Lm
open Go.Proofs

def nameQ (n : Int) : ByteArray := if kindQ n = 0 then .empty else ((rowsTab[n.toNat]?).getD noRow).2.2.1

theorem kind_range {n : Int} (h : ¬ kindQ n = 0) : 1 ≤ n ∧ n ≤ 69 := by
  unfold kindQ at h
  split at h
  · exact absurd rfl h
  · omega

set_option maxRecDepth 100000 in
theorem name_tc (n : Int) (m : Mem) (Q) (h : Q (.string (nameQ n)) m) : TC Try.prog 22 [.int .i64 n] m Q := by
  refine TC_fn mixed Try.func22 rfl Try.ntmps22 rfl (by decide) (by simp) ?_
  simp -dsimp
  refine kind_tc n _ _ ?_
  simp -dsimp
  by_cases hz : kindQ n = 0
  · simp -dsimp [hz]
    refine fin_ret rfl (leave_pure (by simp) ?_)
    rw [nameQ, if_pos hz] at h
    exact h
  obtain ⟨h1, h2⟩ := kind_range hz
  rw [if_neg hz]
  refine rows_tc _ _ ?_
  have hb : n.toNat * 4 + 4 ≤ 280 := by omega
  have h0 : 0 ≤ n := by omega
  have h70 : n < 70 := by omega
  have hn : n.toNat < 70 := by omega
  simp -dsimp [hb, h0, h70, rowsA_at n.toNat hn, rowVal]
  refine fin_ret rfl (leave_pure (by simp) ?_)
  rw [nameQ, if_neg hz, List.getElem?_eq_getElem (by show n.toNat < 70; exact hn)] at h
  exact h

structure InsM where
  op : Nat
  s : Nat
  t : Nat
  d : Nat
  a : Nat
  imm : Nat
  deriving DecidableEq

def insV (i : InsM) : Value := .agg #[.int .i64 i.op, .int .i64 i.s, .int .i64 i.t, .int .i64 i.d, .int .i64 i.a, .int .u32 i.imm]
def noIns : InsM := ⟨0, 0, 0, 0, 0, 0⟩

/-- what a form's word says, and what must be 0 -/
def formQ (op form w : Nat) : InsM × Nat :=
  let s := fl w 21 5; let t := fl w 16 5; let d := fl w 11 5; let a := fl w 6 5; let low := fl w 0 16; let near := sxt 16 low
  match form with
  | 0 | 8 => (⟨op, s, t, d, 0, 0⟩, a)
  | 1 => (⟨op, 0, t, d, a, 0⟩, s)
  | 2 => (⟨op, s, t, 0, 0, 0⟩, d ||| a)
  | 3 => (⟨op, 0, 0, d, 0, 0⟩, s ||| t ||| a)
  | 4 => (⟨op, s, 0, 0, 0, 0⟩, t ||| d ||| a)
  | 5 => (⟨op, s, 0, d, 0, 0⟩, t ||| a)
  | 6 => (⟨op, s, t, 0, 0, fl w 6 10⟩, 0)
  | 7 => (⟨op, 0, 0, 0, 0, fl w 6 20⟩, 0)
  | 9 => (⟨op, s, t, d, 0, 0⟩, a ||| (t ^^^ d))
  | 10 | 13 => (⟨op, s, t, 0, 0, near⟩, 0)
  | 11 => (⟨op, s, t, 0, 0, low⟩, 0)
  | 12 => (⟨op, 0, t, 0, 0, low⟩, s)
  | 14 => (⟨op, s, t, 0, 0, near * 4 % 2 ^ 32⟩, 0)
  | 15 => (⟨op, s, 0, 0, 0, near * 4 % 2 ^ 32⟩, t)
  | 16 => (⟨op, s, 0, 0, 0, near * 4 % 2 ^ 32⟩, 0)
  | 17 => (⟨op, 0, 0, 0, 0, fl w 0 26 * 4 % 2 ^ 32⟩, 0)
  | _ => (⟨op, 0, 0, 0, 0, 0⟩, 0)

def decQ (w : Nat) : InsM :=
  match ofQ w with
  | none => noIns
  | some r => if (formQ r.1 r.2.1 w).2 = 0 then (formQ r.1 r.2.1 w).1 else noIns

theorem of_form {w op form : Nat} {nm : ByteArray} {code : Nat} (h : ofQ w = some (op, form, nm, code)) : form < 18 := by
  have h1 : rowsTab.tail.all (fun r => decide (r.2.1 < 18)) = true := by kernel_rfl
  have h2 := List.mem_of_find?_eq_some h
  simpa using List.all_eq_true.1 h1 _ h2

theorem fl_lt (w at_ n : Nat) (h : n ≤ 32 := by decide) : fl w at_ n < 2 ^ 32 :=
  Nat.lt_of_lt_of_le (Nat.mod_lt _ (Nat.two_pow_pos n)) (Nat.pow_le_pow_right (by decide) h)

end Go.Lm
/- ins.Decode, form by form. -/
set_option linter.unusedSimpArgs false
namespace Go.Lm
open Go.Proofs

set_option maxRecDepth 100000 in
set_option maxHeartbeats 4000000 in
theorem dec_0 (w : Nat) (hw : w < 2 ^ 32) (m : Mem) (Q) (h : Q (insV (decQ w)) m) (op : Nat) (nm : ByteArray) (code : Nat) (ho : ofQ w = some (op, 0, nm, code)) : TC Try.prog 18 [.int .u32 w] m Q := by
  refine TC_fn mixed Try.func18 rfl Try.ntmps18 rfl (by decide) (by simp) ?_
  refine wpc_st fun K hK => ?_
  simp -dsimp
  refine hK _ _ ?_
  clear hK K
  refine wpc_st fun K hK => ?_
  simp -dsimp
  refine of_tc w hw _ _ ?_
  simp -dsimp
  simp -dsimp [ho, rowV, rowVal]
  rw [decQ, ho] at h
  refine hK _ _ ?_
  clear hK K
  refine wpc_sq fun K hK => ?_
  simp -dsimp
  refine hK _ _ ?_
  clear hK K
  refine wpc_st fun K hK => ?_
  simp -dsimp
  refine Field_tc w hw 21 5 (by decide) (by decide) _ _ ?_
  simp -dsimp
  refine Field_tc w hw 16 5 (by decide) (by decide) _ _ ?_
  simp -dsimp
  refine Field_tc w hw 11 5 (by decide) (by decide) _ _ ?_
  simp -dsimp
  refine Field_tc w hw 6 5 (by decide) (by decide) _ _ ?_
  simp -dsimp
  refine hK _ _ ?_
  clear hK K
  refine wpc_st fun K hK => ?_
  simp -dsimp
  refine Field_tc w hw 0 16 (by decide) (by decide) _ _ ?_
  simp -dsimp
  refine hK _ _ ?_
  clear hK K
  refine wpc_st fun K hK => ?_
  simp -dsimp
  refine Sext16_tc _ _ _ ?_
  simp -dsimp
  refine hK _ _ ?_
  clear hK K
  refine wpc_st fun K hK => ?_
  simp -dsimp
  refine hK _ _ ?_
  clear hK K
  refine wpc_st fun K hK => ?_
  simp -dsimp
  refine hK _ _ ?_
  clear hK K
  refine wpc_st fun K hK => ?_
  simp -dsimp
  refine hK _ _ ?_
  clear hK K
  refine wpc_st fun K hK => ?_
  simp -dsimp
  refine hK _ _ ?_
  clear hK K
  refine wpc_sq fun K hK => ?_
  refine env_cut fun env he => ?_
  have e0 := he 0
  have e2 := he 2
  have e3 := he 3
  have e5 := he 5
  have e6 := he 6
  have e7 := he 7
  have e8 := he 8
  have e9 := he 9
  have e10 := he 10
  have e11 := he 11
  have e12 := he 12
  have e13 := he 13
  have e14 := he 14
  have e15 := he 15
  have e16 := he 16
  have e17 := he 17
  clear he
  simp -dsimp at e0 e2 e3 e5 e6 e7 e8 e9 e10 e11 e12 e13 e14 e15 e16 e17
  have hs := fl_lt w 21 5
  have ht := fl_lt w 16 5
  have hd := fl_lt w 11 5
  have ha := fl_lt w 6 5
  have hst := Nat.or_lt_two_pow hs ht
  have htd := Nat.or_lt_two_pow ht hd
  have hxd := Nat.xor_lt_two_pow ht hd
  simp -dsimp [e0, e2, e3, e5, e6, e7, e8, e9, e10, e11, e12, e13, e14, e15, e16, e17]
  refine set_tc _ _ _ _ _ (fl_lt w 21 5) _ _ ((get_loc _ _ _ _).trans rfl) (by simp) (by simp [gnd0]) ?_
  simp -dsimp [e0, e2, e3, e5, e6, e7, e8, e9, e10, e11, e12, e13, e14, e15, e16, e17]
  refine set_tc _ _ _ _ _ (fl_lt w 16 5) _ _ ((get_loc _ _ _ _).trans rfl) (by simp) (by simp [gnd0]) ?_
  simp -dsimp [e0, e2, e3, e5, e6, e7, e8, e9, e10, e11, e12, e13, e14, e15, e16, e17]
  refine set_tc _ _ _ _ _ (fl_lt w 11 5) _ _ ((get_loc _ _ _ _).trans rfl) (by simp) (by simp [gnd0]) ?_
  simp -dsimp [e0, e2, e3, e5, e6, e7, e8, e9, e10, e11, e12, e13, e14, e15, e16, e17]
  refine hK _ _ ?_
  clear hK K
  simp -dsimp [e0, e2, e3, e5, e6, e7, e8, e9, e10, e11, e12, e13, e14, e15, e16, e17]
  change Q (insV (if fl w 6 5 = 0 then ⟨op, fl w 21 5, fl w 16 5, fl w 11 5, 0, 0⟩ else noIns)) m at h
  by_cases hz : fl w 6 5 = 0
  · rw [if_pos hz] at h
    rw [if_pos hz]
    exact fin_ret (v := insV _) (by simp -dsimp [e2]; rfl) (leave_pure (by simp [insV]) h)
  · rw [if_neg hz] at h
    rw [if_neg (by omega)]
    exact fin_ret (v := insV noIns) (by simp -dsimp [e2]; rfl) (leave_pure (by simp [insV]) h)

set_option maxRecDepth 100000 in
set_option maxHeartbeats 4000000 in
theorem dec_1 (w : Nat) (hw : w < 2 ^ 32) (m : Mem) (Q) (h : Q (insV (decQ w)) m) (op : Nat) (nm : ByteArray) (code : Nat) (ho : ofQ w = some (op, 1, nm, code)) : TC Try.prog 18 [.int .u32 w] m Q := by
  refine TC_fn mixed Try.func18 rfl Try.ntmps18 rfl (by decide) (by simp) ?_
  refine wpc_st fun K hK => ?_
  simp -dsimp
  refine hK _ _ ?_
  clear hK K
  refine wpc_st fun K hK => ?_
  simp -dsimp
  refine of_tc w hw _ _ ?_
  simp -dsimp
  simp -dsimp [ho, rowV, rowVal]
  rw [decQ, ho] at h
  refine hK _ _ ?_
  clear hK K
  refine wpc_sq fun K hK => ?_
  simp -dsimp
  refine hK _ _ ?_
  clear hK K
  refine wpc_st fun K hK => ?_
  simp -dsimp
  refine Field_tc w hw 21 5 (by decide) (by decide) _ _ ?_
  simp -dsimp
  refine Field_tc w hw 16 5 (by decide) (by decide) _ _ ?_
  simp -dsimp
  refine Field_tc w hw 11 5 (by decide) (by decide) _ _ ?_
  simp -dsimp
  refine Field_tc w hw 6 5 (by decide) (by decide) _ _ ?_
  simp -dsimp
  refine hK _ _ ?_
  clear hK K
  refine wpc_st fun K hK => ?_
  simp -dsimp
  refine Field_tc w hw 0 16 (by decide) (by decide) _ _ ?_
  simp -dsimp
  refine hK _ _ ?_
  clear hK K
  refine wpc_st fun K hK => ?_
  simp -dsimp
  refine Sext16_tc _ _ _ ?_
  simp -dsimp
  refine hK _ _ ?_
  clear hK K
  refine wpc_st fun K hK => ?_
  simp -dsimp
  refine hK _ _ ?_
  clear hK K
  refine wpc_st fun K hK => ?_
  simp -dsimp
  refine hK _ _ ?_
  clear hK K
  refine wpc_st fun K hK => ?_
  simp -dsimp
  refine hK _ _ ?_
  clear hK K
  refine wpc_st fun K hK => ?_
  simp -dsimp
  refine hK _ _ ?_
  clear hK K
  refine wpc_sq fun K hK => ?_
  refine env_cut fun env he => ?_
  have e0 := he 0
  have e2 := he 2
  have e3 := he 3
  have e5 := he 5
  have e6 := he 6
  have e7 := he 7
  have e8 := he 8
  have e9 := he 9
  have e10 := he 10
  have e11 := he 11
  have e12 := he 12
  have e13 := he 13
  have e14 := he 14
  have e15 := he 15
  have e16 := he 16
  have e17 := he 17
  clear he
  simp -dsimp at e0 e2 e3 e5 e6 e7 e8 e9 e10 e11 e12 e13 e14 e15 e16 e17
  have hs := fl_lt w 21 5
  have ht := fl_lt w 16 5
  have hd := fl_lt w 11 5
  have ha := fl_lt w 6 5
  have hst := Nat.or_lt_two_pow hs ht
  have htd := Nat.or_lt_two_pow ht hd
  have hxd := Nat.xor_lt_two_pow ht hd
  simp -dsimp [e0, e2, e3, e5, e6, e7, e8, e9, e10, e11, e12, e13, e14, e15, e16, e17]
  refine set_tc _ _ _ _ _ (fl_lt w 16 5) _ _ ((get_loc _ _ _ _).trans rfl) (by simp) (by simp [gnd0]) ?_
  simp -dsimp [e0, e2, e3, e5, e6, e7, e8, e9, e10, e11, e12, e13, e14, e15, e16, e17]
  refine set_tc _ _ _ _ _ (fl_lt w 11 5) _ _ ((get_loc _ _ _ _).trans rfl) (by simp) (by simp [gnd0]) ?_
  simp -dsimp [e0, e2, e3, e5, e6, e7, e8, e9, e10, e11, e12, e13, e14, e15, e16, e17]
  refine set_tc _ _ _ _ _ (fl_lt w 6 5) _ _ ((get_loc _ _ _ _).trans rfl) (by simp) (by simp [gnd0]) ?_
  simp -dsimp [e0, e2, e3, e5, e6, e7, e8, e9, e10, e11, e12, e13, e14, e15, e16, e17]
  refine hK _ _ ?_
  clear hK K
  simp -dsimp [e0, e2, e3, e5, e6, e7, e8, e9, e10, e11, e12, e13, e14, e15, e16, e17]
  change Q (insV (if fl w 21 5 = 0 then ⟨op, 0, fl w 16 5, fl w 11 5, fl w 6 5, 0⟩ else noIns)) m at h
  by_cases hz : fl w 21 5 = 0
  · rw [if_pos hz] at h
    rw [if_pos hz]
    exact fin_ret (v := insV _) (by simp -dsimp [e2]; rfl) (leave_pure (by simp [insV]) h)
  · rw [if_neg hz] at h
    rw [if_neg (by omega)]
    exact fin_ret (v := insV noIns) (by simp -dsimp [e2]; rfl) (leave_pure (by simp [insV]) h)

set_option maxRecDepth 100000 in
set_option maxHeartbeats 4000000 in
theorem dec_2 (w : Nat) (hw : w < 2 ^ 32) (m : Mem) (Q) (h : Q (insV (decQ w)) m) (op : Nat) (nm : ByteArray) (code : Nat) (ho : ofQ w = some (op, 2, nm, code)) : TC Try.prog 18 [.int .u32 w] m Q := by
  refine TC_fn mixed Try.func18 rfl Try.ntmps18 rfl (by decide) (by simp) ?_
  refine wpc_st fun K hK => ?_
  simp -dsimp
  refine hK _ _ ?_
  clear hK K
  refine wpc_st fun K hK => ?_
  simp -dsimp
  refine of_tc w hw _ _ ?_
  simp -dsimp
  simp -dsimp [ho, rowV, rowVal]
  rw [decQ, ho] at h
  refine hK _ _ ?_
  clear hK K
  refine wpc_sq fun K hK => ?_
  simp -dsimp
  refine hK _ _ ?_
  clear hK K
  refine wpc_st fun K hK => ?_
  simp -dsimp
  refine Field_tc w hw 21 5 (by decide) (by decide) _ _ ?_
  simp -dsimp
  refine Field_tc w hw 16 5 (by decide) (by decide) _ _ ?_
  simp -dsimp
  refine Field_tc w hw 11 5 (by decide) (by decide) _ _ ?_
  simp -dsimp
  refine Field_tc w hw 6 5 (by decide) (by decide) _ _ ?_
  simp -dsimp
  refine hK _ _ ?_
  clear hK K
  refine wpc_st fun K hK => ?_
  simp -dsimp
  refine Field_tc w hw 0 16 (by decide) (by decide) _ _ ?_
  simp -dsimp
  refine hK _ _ ?_
  clear hK K
  refine wpc_st fun K hK => ?_
  simp -dsimp
  refine Sext16_tc _ _ _ ?_
  simp -dsimp
  refine hK _ _ ?_
  clear hK K
  refine wpc_st fun K hK => ?_
  simp -dsimp
  refine hK _ _ ?_
  clear hK K
  refine wpc_st fun K hK => ?_
  simp -dsimp
  refine hK _ _ ?_
  clear hK K
  refine wpc_st fun K hK => ?_
  simp -dsimp
  refine hK _ _ ?_
  clear hK K
  refine wpc_st fun K hK => ?_
  simp -dsimp
  refine hK _ _ ?_
  clear hK K
  refine wpc_sq fun K hK => ?_
  refine env_cut fun env he => ?_
  have e0 := he 0
  have e2 := he 2
  have e3 := he 3
  have e5 := he 5
  have e6 := he 6
  have e7 := he 7
  have e8 := he 8
  have e9 := he 9
  have e10 := he 10
  have e11 := he 11
  have e12 := he 12
  have e13 := he 13
  have e14 := he 14
  have e15 := he 15
  have e16 := he 16
  have e17 := he 17
  clear he
  simp -dsimp at e0 e2 e3 e5 e6 e7 e8 e9 e10 e11 e12 e13 e14 e15 e16 e17
  have hs := fl_lt w 21 5
  have ht := fl_lt w 16 5
  have hd := fl_lt w 11 5
  have ha := fl_lt w 6 5
  have hst := Nat.or_lt_two_pow hs ht
  have htd := Nat.or_lt_two_pow ht hd
  have hxd := Nat.xor_lt_two_pow ht hd
  simp -dsimp [e0, e2, e3, e5, e6, e7, e8, e9, e10, e11, e12, e13, e14, e15, e16, e17]
  refine set_tc _ _ _ _ _ (fl_lt w 21 5) _ _ ((get_loc _ _ _ _).trans rfl) (by simp) (by simp [gnd0]) ?_
  simp -dsimp [e0, e2, e3, e5, e6, e7, e8, e9, e10, e11, e12, e13, e14, e15, e16, e17]
  refine set_tc _ _ _ _ _ (fl_lt w 16 5) _ _ ((get_loc _ _ _ _).trans rfl) (by simp) (by simp [gnd0]) ?_
  simp -dsimp [e0, e2, e3, e5, e6, e7, e8, e9, e10, e11, e12, e13, e14, e15, e16, e17]
  refine hK _ _ ?_
  clear hK K
  simp -dsimp [e0, e2, e3, e5, e6, e7, e8, e9, e10, e11, e12, e13, e14, e15, e16, e17]
  rw [ior_nat .u32 hd ha]
  change Q (insV (if fl w 11 5 ||| fl w 6 5 = 0 then ⟨op, fl w 21 5, fl w 16 5, 0, 0, 0⟩ else noIns)) m at h
  by_cases hz : fl w 11 5 ||| fl w 6 5 = 0
  · rw [if_pos hz] at h
    rw [if_pos (by rw [hz]; rfl)]
    exact fin_ret (v := insV _) (by simp -dsimp [e2]; rfl) (leave_pure (by simp [insV]) h)
  · rw [if_neg hz] at h
    rw [if_neg (by omega)]
    exact fin_ret (v := insV noIns) (by simp -dsimp [e2]; rfl) (leave_pure (by simp [insV]) h)

set_option maxRecDepth 100000 in
set_option maxHeartbeats 4000000 in
theorem dec_3 (w : Nat) (hw : w < 2 ^ 32) (m : Mem) (Q) (h : Q (insV (decQ w)) m) (op : Nat) (nm : ByteArray) (code : Nat) (ho : ofQ w = some (op, 3, nm, code)) : TC Try.prog 18 [.int .u32 w] m Q := by
  refine TC_fn mixed Try.func18 rfl Try.ntmps18 rfl (by decide) (by simp) ?_
  refine wpc_st fun K hK => ?_
  simp -dsimp
  refine hK _ _ ?_
  clear hK K
  refine wpc_st fun K hK => ?_
  simp -dsimp
  refine of_tc w hw _ _ ?_
  simp -dsimp
  simp -dsimp [ho, rowV, rowVal]
  rw [decQ, ho] at h
  refine hK _ _ ?_
  clear hK K
  refine wpc_sq fun K hK => ?_
  simp -dsimp
  refine hK _ _ ?_
  clear hK K
  refine wpc_st fun K hK => ?_
  simp -dsimp
  refine Field_tc w hw 21 5 (by decide) (by decide) _ _ ?_
  simp -dsimp
  refine Field_tc w hw 16 5 (by decide) (by decide) _ _ ?_
  simp -dsimp
  refine Field_tc w hw 11 5 (by decide) (by decide) _ _ ?_
  simp -dsimp
  refine Field_tc w hw 6 5 (by decide) (by decide) _ _ ?_
  simp -dsimp
  refine hK _ _ ?_
  clear hK K
  refine wpc_st fun K hK => ?_
  simp -dsimp
  refine Field_tc w hw 0 16 (by decide) (by decide) _ _ ?_
  simp -dsimp
  refine hK _ _ ?_
  clear hK K
  refine wpc_st fun K hK => ?_
  simp -dsimp
  refine Sext16_tc _ _ _ ?_
  simp -dsimp
  refine hK _ _ ?_
  clear hK K
  refine wpc_st fun K hK => ?_
  simp -dsimp
  refine hK _ _ ?_
  clear hK K
  refine wpc_st fun K hK => ?_
  simp -dsimp
  refine hK _ _ ?_
  clear hK K
  refine wpc_st fun K hK => ?_
  simp -dsimp
  refine hK _ _ ?_
  clear hK K
  refine wpc_st fun K hK => ?_
  simp -dsimp
  refine hK _ _ ?_
  clear hK K
  refine wpc_sq fun K hK => ?_
  refine env_cut fun env he => ?_
  have e0 := he 0
  have e2 := he 2
  have e3 := he 3
  have e5 := he 5
  have e6 := he 6
  have e7 := he 7
  have e8 := he 8
  have e9 := he 9
  have e10 := he 10
  have e11 := he 11
  have e12 := he 12
  have e13 := he 13
  have e14 := he 14
  have e15 := he 15
  have e16 := he 16
  have e17 := he 17
  clear he
  simp -dsimp at e0 e2 e3 e5 e6 e7 e8 e9 e10 e11 e12 e13 e14 e15 e16 e17
  have hs := fl_lt w 21 5
  have ht := fl_lt w 16 5
  have hd := fl_lt w 11 5
  have ha := fl_lt w 6 5
  have hst := Nat.or_lt_two_pow hs ht
  have htd := Nat.or_lt_two_pow ht hd
  have hxd := Nat.xor_lt_two_pow ht hd
  simp -dsimp [e0, e2, e3, e5, e6, e7, e8, e9, e10, e11, e12, e13, e14, e15, e16, e17]
  refine set_tc _ _ _ _ _ (fl_lt w 11 5) _ _ ((get_loc _ _ _ _).trans rfl) (by simp) (by simp [gnd0]) ?_
  simp -dsimp [e0, e2, e3, e5, e6, e7, e8, e9, e10, e11, e12, e13, e14, e15, e16, e17]
  refine hK _ _ ?_
  clear hK K
  simp -dsimp [e0, e2, e3, e5, e6, e7, e8, e9, e10, e11, e12, e13, e14, e15, e16, e17]
  rw [ior_nat .u32 hs ht, ior_nat .u32 hst ha]
  change Q (insV (if fl w 21 5 ||| fl w 16 5 ||| fl w 6 5 = 0 then ⟨op, 0, 0, fl w 11 5, 0, 0⟩ else noIns)) m at h
  by_cases hz : fl w 21 5 ||| fl w 16 5 ||| fl w 6 5 = 0
  · rw [if_pos hz] at h
    rw [if_pos (by rw [hz]; rfl)]
    exact fin_ret (v := insV _) (by simp -dsimp [e2]; rfl) (leave_pure (by simp [insV]) h)
  · rw [if_neg hz] at h
    rw [if_neg (by omega)]
    exact fin_ret (v := insV noIns) (by simp -dsimp [e2]; rfl) (leave_pure (by simp [insV]) h)

set_option maxRecDepth 100000 in
set_option maxHeartbeats 4000000 in
theorem dec_4 (w : Nat) (hw : w < 2 ^ 32) (m : Mem) (Q) (h : Q (insV (decQ w)) m) (op : Nat) (nm : ByteArray) (code : Nat) (ho : ofQ w = some (op, 4, nm, code)) : TC Try.prog 18 [.int .u32 w] m Q := by
  refine TC_fn mixed Try.func18 rfl Try.ntmps18 rfl (by decide) (by simp) ?_
  refine wpc_st fun K hK => ?_
  simp -dsimp
  refine hK _ _ ?_
  clear hK K
  refine wpc_st fun K hK => ?_
  simp -dsimp
  refine of_tc w hw _ _ ?_
  simp -dsimp
  simp -dsimp [ho, rowV, rowVal]
  rw [decQ, ho] at h
  refine hK _ _ ?_
  clear hK K
  refine wpc_sq fun K hK => ?_
  simp -dsimp
  refine hK _ _ ?_
  clear hK K
  refine wpc_st fun K hK => ?_
  simp -dsimp
  refine Field_tc w hw 21 5 (by decide) (by decide) _ _ ?_
  simp -dsimp
  refine Field_tc w hw 16 5 (by decide) (by decide) _ _ ?_
  simp -dsimp
  refine Field_tc w hw 11 5 (by decide) (by decide) _ _ ?_
  simp -dsimp
  refine Field_tc w hw 6 5 (by decide) (by decide) _ _ ?_
  simp -dsimp
  refine hK _ _ ?_
  clear hK K
  refine wpc_st fun K hK => ?_
  simp -dsimp
  refine Field_tc w hw 0 16 (by decide) (by decide) _ _ ?_
  simp -dsimp
  refine hK _ _ ?_
  clear hK K
  refine wpc_st fun K hK => ?_
  simp -dsimp
  refine Sext16_tc _ _ _ ?_
  simp -dsimp
  refine hK _ _ ?_
  clear hK K
  refine wpc_st fun K hK => ?_
  simp -dsimp
  refine hK _ _ ?_
  clear hK K
  refine wpc_st fun K hK => ?_
  simp -dsimp
  refine hK _ _ ?_
  clear hK K
  refine wpc_st fun K hK => ?_
  simp -dsimp
  refine hK _ _ ?_
  clear hK K
  refine wpc_st fun K hK => ?_
  simp -dsimp
  refine hK _ _ ?_
  clear hK K
  refine wpc_sq fun K hK => ?_
  refine env_cut fun env he => ?_
  have e0 := he 0
  have e2 := he 2
  have e3 := he 3
  have e5 := he 5
  have e6 := he 6
  have e7 := he 7
  have e8 := he 8
  have e9 := he 9
  have e10 := he 10
  have e11 := he 11
  have e12 := he 12
  have e13 := he 13
  have e14 := he 14
  have e15 := he 15
  have e16 := he 16
  have e17 := he 17
  clear he
  simp -dsimp at e0 e2 e3 e5 e6 e7 e8 e9 e10 e11 e12 e13 e14 e15 e16 e17
  have hs := fl_lt w 21 5
  have ht := fl_lt w 16 5
  have hd := fl_lt w 11 5
  have ha := fl_lt w 6 5
  have hst := Nat.or_lt_two_pow hs ht
  have htd := Nat.or_lt_two_pow ht hd
  have hxd := Nat.xor_lt_two_pow ht hd
  simp -dsimp [e0, e2, e3, e5, e6, e7, e8, e9, e10, e11, e12, e13, e14, e15, e16, e17]
  refine set_tc _ _ _ _ _ (fl_lt w 21 5) _ _ ((get_loc _ _ _ _).trans rfl) (by simp) (by simp [gnd0]) ?_
  simp -dsimp [e0, e2, e3, e5, e6, e7, e8, e9, e10, e11, e12, e13, e14, e15, e16, e17]
  refine hK _ _ ?_
  clear hK K
  simp -dsimp [e0, e2, e3, e5, e6, e7, e8, e9, e10, e11, e12, e13, e14, e15, e16, e17]
  rw [ior_nat .u32 ht hd, ior_nat .u32 htd ha]
  change Q (insV (if fl w 16 5 ||| fl w 11 5 ||| fl w 6 5 = 0 then ⟨op, fl w 21 5, 0, 0, 0, 0⟩ else noIns)) m at h
  by_cases hz : fl w 16 5 ||| fl w 11 5 ||| fl w 6 5 = 0
  · rw [if_pos hz] at h
    rw [if_pos (by rw [hz]; rfl)]
    exact fin_ret (v := insV _) (by simp -dsimp [e2]; rfl) (leave_pure (by simp [insV]) h)
  · rw [if_neg hz] at h
    rw [if_neg (by omega)]
    exact fin_ret (v := insV noIns) (by simp -dsimp [e2]; rfl) (leave_pure (by simp [insV]) h)

set_option maxRecDepth 100000 in
set_option maxHeartbeats 4000000 in
theorem dec_5 (w : Nat) (hw : w < 2 ^ 32) (m : Mem) (Q) (h : Q (insV (decQ w)) m) (op : Nat) (nm : ByteArray) (code : Nat) (ho : ofQ w = some (op, 5, nm, code)) : TC Try.prog 18 [.int .u32 w] m Q := by
  refine TC_fn mixed Try.func18 rfl Try.ntmps18 rfl (by decide) (by simp) ?_
  refine wpc_st fun K hK => ?_
  simp -dsimp
  refine hK _ _ ?_
  clear hK K
  refine wpc_st fun K hK => ?_
  simp -dsimp
  refine of_tc w hw _ _ ?_
  simp -dsimp
  simp -dsimp [ho, rowV, rowVal]
  rw [decQ, ho] at h
  refine hK _ _ ?_
  clear hK K
  refine wpc_sq fun K hK => ?_
  simp -dsimp
  refine hK _ _ ?_
  clear hK K
  refine wpc_st fun K hK => ?_
  simp -dsimp
  refine Field_tc w hw 21 5 (by decide) (by decide) _ _ ?_
  simp -dsimp
  refine Field_tc w hw 16 5 (by decide) (by decide) _ _ ?_
  simp -dsimp
  refine Field_tc w hw 11 5 (by decide) (by decide) _ _ ?_
  simp -dsimp
  refine Field_tc w hw 6 5 (by decide) (by decide) _ _ ?_
  simp -dsimp
  refine hK _ _ ?_
  clear hK K
  refine wpc_st fun K hK => ?_
  simp -dsimp
  refine Field_tc w hw 0 16 (by decide) (by decide) _ _ ?_
  simp -dsimp
  refine hK _ _ ?_
  clear hK K
  refine wpc_st fun K hK => ?_
  simp -dsimp
  refine Sext16_tc _ _ _ ?_
  simp -dsimp
  refine hK _ _ ?_
  clear hK K
  refine wpc_st fun K hK => ?_
  simp -dsimp
  refine hK _ _ ?_
  clear hK K
  refine wpc_st fun K hK => ?_
  simp -dsimp
  refine hK _ _ ?_
  clear hK K
  refine wpc_st fun K hK => ?_
  simp -dsimp
  refine hK _ _ ?_
  clear hK K
  refine wpc_st fun K hK => ?_
  simp -dsimp
  refine hK _ _ ?_
  clear hK K
  refine wpc_sq fun K hK => ?_
  refine env_cut fun env he => ?_
  have e0 := he 0
  have e2 := he 2
  have e3 := he 3
  have e5 := he 5
  have e6 := he 6
  have e7 := he 7
  have e8 := he 8
  have e9 := he 9
  have e10 := he 10
  have e11 := he 11
  have e12 := he 12
  have e13 := he 13
  have e14 := he 14
  have e15 := he 15
  have e16 := he 16
  have e17 := he 17
  clear he
  simp -dsimp at e0 e2 e3 e5 e6 e7 e8 e9 e10 e11 e12 e13 e14 e15 e16 e17
  have hs := fl_lt w 21 5
  have ht := fl_lt w 16 5
  have hd := fl_lt w 11 5
  have ha := fl_lt w 6 5
  have hst := Nat.or_lt_two_pow hs ht
  have htd := Nat.or_lt_two_pow ht hd
  have hxd := Nat.xor_lt_two_pow ht hd
  simp -dsimp [e0, e2, e3, e5, e6, e7, e8, e9, e10, e11, e12, e13, e14, e15, e16, e17]
  refine set_tc _ _ _ _ _ (fl_lt w 21 5) _ _ ((get_loc _ _ _ _).trans rfl) (by simp) (by simp [gnd0]) ?_
  simp -dsimp [e0, e2, e3, e5, e6, e7, e8, e9, e10, e11, e12, e13, e14, e15, e16, e17]
  refine set_tc _ _ _ _ _ (fl_lt w 11 5) _ _ ((get_loc _ _ _ _).trans rfl) (by simp) (by simp [gnd0]) ?_
  simp -dsimp [e0, e2, e3, e5, e6, e7, e8, e9, e10, e11, e12, e13, e14, e15, e16, e17]
  refine hK _ _ ?_
  clear hK K
  simp -dsimp [e0, e2, e3, e5, e6, e7, e8, e9, e10, e11, e12, e13, e14, e15, e16, e17]
  rw [ior_nat .u32 ht ha]
  change Q (insV (if fl w 16 5 ||| fl w 6 5 = 0 then ⟨op, fl w 21 5, 0, fl w 11 5, 0, 0⟩ else noIns)) m at h
  by_cases hz : fl w 16 5 ||| fl w 6 5 = 0
  · rw [if_pos hz] at h
    rw [if_pos (by rw [hz]; rfl)]
    exact fin_ret (v := insV _) (by simp -dsimp [e2]; rfl) (leave_pure (by simp [insV]) h)
  · rw [if_neg hz] at h
    rw [if_neg (by omega)]
    exact fin_ret (v := insV noIns) (by simp -dsimp [e2]; rfl) (leave_pure (by simp [insV]) h)

end Go.Lm
/- ins.Decode, form by form. -/
set_option linter.unusedSimpArgs false
namespace Go.Lm
open Go.Proofs

set_option maxRecDepth 100000 in
set_option maxHeartbeats 4000000 in
theorem dec_6 (w : Nat) (hw : w < 2 ^ 32) (m : Mem) (Q) (h : Q (insV (decQ w)) m) (op : Nat) (nm : ByteArray) (code : Nat) (ho : ofQ w = some (op, 6, nm, code)) : TC Try.prog 18 [.int .u32 w] m Q := by
  refine TC_fn mixed Try.func18 rfl Try.ntmps18 rfl (by decide) (by simp) ?_
  refine wpc_st fun K hK => ?_
  simp -dsimp
  refine hK _ _ ?_
  clear hK K
  refine wpc_st fun K hK => ?_
  simp -dsimp
  refine of_tc w hw _ _ ?_
  simp -dsimp
  simp -dsimp [ho, rowV, rowVal]
  rw [decQ, ho] at h
  refine hK _ _ ?_
  clear hK K
  refine wpc_sq fun K hK => ?_
  simp -dsimp
  refine hK _ _ ?_
  clear hK K
  refine wpc_st fun K hK => ?_
  simp -dsimp
  refine Field_tc w hw 21 5 (by decide) (by decide) _ _ ?_
  simp -dsimp
  refine Field_tc w hw 16 5 (by decide) (by decide) _ _ ?_
  simp -dsimp
  refine Field_tc w hw 11 5 (by decide) (by decide) _ _ ?_
  simp -dsimp
  refine Field_tc w hw 6 5 (by decide) (by decide) _ _ ?_
  simp -dsimp
  refine hK _ _ ?_
  clear hK K
  refine wpc_st fun K hK => ?_
  simp -dsimp
  refine Field_tc w hw 0 16 (by decide) (by decide) _ _ ?_
  simp -dsimp
  refine hK _ _ ?_
  clear hK K
  refine wpc_st fun K hK => ?_
  simp -dsimp
  refine Sext16_tc _ _ _ ?_
  simp -dsimp
  refine hK _ _ ?_
  clear hK K
  refine wpc_st fun K hK => ?_
  simp -dsimp
  refine hK _ _ ?_
  clear hK K
  refine wpc_st fun K hK => ?_
  simp -dsimp
  refine hK _ _ ?_
  clear hK K
  refine wpc_st fun K hK => ?_
  simp -dsimp
  refine hK _ _ ?_
  clear hK K
  refine wpc_st fun K hK => ?_
  simp -dsimp
  refine hK _ _ ?_
  clear hK K
  refine wpc_sq fun K hK => ?_
  refine env_cut fun env he => ?_
  have e0 := he 0
  have e2 := he 2
  have e3 := he 3
  have e5 := he 5
  have e6 := he 6
  have e7 := he 7
  have e8 := he 8
  have e9 := he 9
  have e10 := he 10
  have e11 := he 11
  have e12 := he 12
  have e13 := he 13
  have e14 := he 14
  have e15 := he 15
  have e16 := he 16
  have e17 := he 17
  clear he
  simp -dsimp at e0 e2 e3 e5 e6 e7 e8 e9 e10 e11 e12 e13 e14 e15 e16 e17
  have hs := fl_lt w 21 5
  have ht := fl_lt w 16 5
  have hd := fl_lt w 11 5
  have ha := fl_lt w 6 5
  have hst := Nat.or_lt_two_pow hs ht
  have htd := Nat.or_lt_two_pow ht hd
  have hxd := Nat.xor_lt_two_pow ht hd
  simp -dsimp [e0, e2, e3, e5, e6, e7, e8, e9, e10, e11, e12, e13, e14, e15, e16, e17]
  refine set_tc _ _ _ _ _ (fl_lt w 21 5) _ _ ((get_loc _ _ _ _).trans rfl) (by simp) (by simp [gnd0]) ?_
  simp -dsimp [e0, e2, e3, e5, e6, e7, e8, e9, e10, e11, e12, e13, e14, e15, e16, e17]
  refine set_tc _ _ _ _ _ (fl_lt w 16 5) _ _ ((get_loc _ _ _ _).trans rfl) (by simp) (by simp [gnd0]) ?_
  simp -dsimp [e0, e2, e3, e5, e6, e7, e8, e9, e10, e11, e12, e13, e14, e15, e16, e17]
  refine Field_tc w hw 6 10 (by decide) (by decide) _ _ ?_
  simp -dsimp [e0, e2, e3, e5, e6, e7, e8, e9, e10, e11, e12, e13, e14, e15, e16, e17]
  refine hK _ _ ?_
  clear hK K
  simp -dsimp [e0, e2, e3, e5, e6, e7, e8, e9, e10, e11, e12, e13, e14, e15, e16, e17]
  change Q (insV ⟨op, fl w 21 5, fl w 16 5, 0, 0, fl w 6 10⟩) m at h
  exact fin_ret (v := insV _) (by simp -dsimp [e2]; rfl) (leave_pure (by simp [insV]) h)

set_option maxRecDepth 100000 in
set_option maxHeartbeats 4000000 in
theorem dec_7 (w : Nat) (hw : w < 2 ^ 32) (m : Mem) (Q) (h : Q (insV (decQ w)) m) (op : Nat) (nm : ByteArray) (code : Nat) (ho : ofQ w = some (op, 7, nm, code)) : TC Try.prog 18 [.int .u32 w] m Q := by
  refine TC_fn mixed Try.func18 rfl Try.ntmps18 rfl (by decide) (by simp) ?_
  refine wpc_st fun K hK => ?_
  simp -dsimp
  refine hK _ _ ?_
  clear hK K
  refine wpc_st fun K hK => ?_
  simp -dsimp
  refine of_tc w hw _ _ ?_
  simp -dsimp
  simp -dsimp [ho, rowV, rowVal]
  rw [decQ, ho] at h
  refine hK _ _ ?_
  clear hK K
  refine wpc_sq fun K hK => ?_
  simp -dsimp
  refine hK _ _ ?_
  clear hK K
  refine wpc_st fun K hK => ?_
  simp -dsimp
  refine Field_tc w hw 21 5 (by decide) (by decide) _ _ ?_
  simp -dsimp
  refine Field_tc w hw 16 5 (by decide) (by decide) _ _ ?_
  simp -dsimp
  refine Field_tc w hw 11 5 (by decide) (by decide) _ _ ?_
  simp -dsimp
  refine Field_tc w hw 6 5 (by decide) (by decide) _ _ ?_
  simp -dsimp
  refine hK _ _ ?_
  clear hK K
  refine wpc_st fun K hK => ?_
  simp -dsimp
  refine Field_tc w hw 0 16 (by decide) (by decide) _ _ ?_
  simp -dsimp
  refine hK _ _ ?_
  clear hK K
  refine wpc_st fun K hK => ?_
  simp -dsimp
  refine Sext16_tc _ _ _ ?_
  simp -dsimp
  refine hK _ _ ?_
  clear hK K
  refine wpc_st fun K hK => ?_
  simp -dsimp
  refine hK _ _ ?_
  clear hK K
  refine wpc_st fun K hK => ?_
  simp -dsimp
  refine hK _ _ ?_
  clear hK K
  refine wpc_st fun K hK => ?_
  simp -dsimp
  refine hK _ _ ?_
  clear hK K
  refine wpc_st fun K hK => ?_
  simp -dsimp
  refine hK _ _ ?_
  clear hK K
  refine wpc_sq fun K hK => ?_
  refine env_cut fun env he => ?_
  have e0 := he 0
  have e2 := he 2
  have e3 := he 3
  have e5 := he 5
  have e6 := he 6
  have e7 := he 7
  have e8 := he 8
  have e9 := he 9
  have e10 := he 10
  have e11 := he 11
  have e12 := he 12
  have e13 := he 13
  have e14 := he 14
  have e15 := he 15
  have e16 := he 16
  have e17 := he 17
  clear he
  simp -dsimp at e0 e2 e3 e5 e6 e7 e8 e9 e10 e11 e12 e13 e14 e15 e16 e17
  have hs := fl_lt w 21 5
  have ht := fl_lt w 16 5
  have hd := fl_lt w 11 5
  have ha := fl_lt w 6 5
  have hst := Nat.or_lt_two_pow hs ht
  have htd := Nat.or_lt_two_pow ht hd
  have hxd := Nat.xor_lt_two_pow ht hd
  simp -dsimp [e0, e2, e3, e5, e6, e7, e8, e9, e10, e11, e12, e13, e14, e15, e16, e17]
  refine Field_tc w hw 6 20 (by decide) (by decide) _ _ ?_
  simp -dsimp [e0, e2, e3, e5, e6, e7, e8, e9, e10, e11, e12, e13, e14, e15, e16, e17]
  refine hK _ _ ?_
  clear hK K
  simp -dsimp [e0, e2, e3, e5, e6, e7, e8, e9, e10, e11, e12, e13, e14, e15, e16, e17]
  change Q (insV ⟨op, 0, 0, 0, 0, fl w 6 20⟩) m at h
  exact fin_ret (v := insV _) (by simp -dsimp [e2]; rfl) (leave_pure (by simp [insV]) h)

set_option maxRecDepth 100000 in
set_option maxHeartbeats 4000000 in
theorem dec_8 (w : Nat) (hw : w < 2 ^ 32) (m : Mem) (Q) (h : Q (insV (decQ w)) m) (op : Nat) (nm : ByteArray) (code : Nat) (ho : ofQ w = some (op, 8, nm, code)) : TC Try.prog 18 [.int .u32 w] m Q := by
  refine TC_fn mixed Try.func18 rfl Try.ntmps18 rfl (by decide) (by simp) ?_
  refine wpc_st fun K hK => ?_
  simp -dsimp
  refine hK _ _ ?_
  clear hK K
  refine wpc_st fun K hK => ?_
  simp -dsimp
  refine of_tc w hw _ _ ?_
  simp -dsimp
  simp -dsimp [ho, rowV, rowVal]
  rw [decQ, ho] at h
  refine hK _ _ ?_
  clear hK K
  refine wpc_sq fun K hK => ?_
  simp -dsimp
  refine hK _ _ ?_
  clear hK K
  refine wpc_st fun K hK => ?_
  simp -dsimp
  refine Field_tc w hw 21 5 (by decide) (by decide) _ _ ?_
  simp -dsimp
  refine Field_tc w hw 16 5 (by decide) (by decide) _ _ ?_
  simp -dsimp
  refine Field_tc w hw 11 5 (by decide) (by decide) _ _ ?_
  simp -dsimp
  refine Field_tc w hw 6 5 (by decide) (by decide) _ _ ?_
  simp -dsimp
  refine hK _ _ ?_
  clear hK K
  refine wpc_st fun K hK => ?_
  simp -dsimp
  refine Field_tc w hw 0 16 (by decide) (by decide) _ _ ?_
  simp -dsimp
  refine hK _ _ ?_
  clear hK K
  refine wpc_st fun K hK => ?_
  simp -dsimp
  refine Sext16_tc _ _ _ ?_
  simp -dsimp
  refine hK _ _ ?_
  clear hK K
  refine wpc_st fun K hK => ?_
  simp -dsimp
  refine hK _ _ ?_
  clear hK K
  refine wpc_st fun K hK => ?_
  simp -dsimp
  refine hK _ _ ?_
  clear hK K
  refine wpc_st fun K hK => ?_
  simp -dsimp
  refine hK _ _ ?_
  clear hK K
  refine wpc_st fun K hK => ?_
  simp -dsimp
  refine hK _ _ ?_
  clear hK K
  refine wpc_sq fun K hK => ?_
  refine env_cut fun env he => ?_
  have e0 := he 0
  have e2 := he 2
  have e3 := he 3
  have e5 := he 5
  have e6 := he 6
  have e7 := he 7
  have e8 := he 8
  have e9 := he 9
  have e10 := he 10
  have e11 := he 11
  have e12 := he 12
  have e13 := he 13
  have e14 := he 14
  have e15 := he 15
  have e16 := he 16
  have e17 := he 17
  clear he
  simp -dsimp at e0 e2 e3 e5 e6 e7 e8 e9 e10 e11 e12 e13 e14 e15 e16 e17
  have hs := fl_lt w 21 5
  have ht := fl_lt w 16 5
  have hd := fl_lt w 11 5
  have ha := fl_lt w 6 5
  have hst := Nat.or_lt_two_pow hs ht
  have htd := Nat.or_lt_two_pow ht hd
  have hxd := Nat.xor_lt_two_pow ht hd
  simp -dsimp [e0, e2, e3, e5, e6, e7, e8, e9, e10, e11, e12, e13, e14, e15, e16, e17]
  refine set_tc _ _ _ _ _ (fl_lt w 21 5) _ _ ((get_loc _ _ _ _).trans rfl) (by simp) (by simp [gnd0]) ?_
  simp -dsimp [e0, e2, e3, e5, e6, e7, e8, e9, e10, e11, e12, e13, e14, e15, e16, e17]
  refine set_tc _ _ _ _ _ (fl_lt w 16 5) _ _ ((get_loc _ _ _ _).trans rfl) (by simp) (by simp [gnd0]) ?_
  simp -dsimp [e0, e2, e3, e5, e6, e7, e8, e9, e10, e11, e12, e13, e14, e15, e16, e17]
  refine set_tc _ _ _ _ _ (fl_lt w 11 5) _ _ ((get_loc _ _ _ _).trans rfl) (by simp) (by simp [gnd0]) ?_
  simp -dsimp [e0, e2, e3, e5, e6, e7, e8, e9, e10, e11, e12, e13, e14, e15, e16, e17]
  refine hK _ _ ?_
  clear hK K
  simp -dsimp [e0, e2, e3, e5, e6, e7, e8, e9, e10, e11, e12, e13, e14, e15, e16, e17]
  change Q (insV (if fl w 6 5 = 0 then ⟨op, fl w 21 5, fl w 16 5, fl w 11 5, 0, 0⟩ else noIns)) m at h
  by_cases hz : fl w 6 5 = 0
  · rw [if_pos hz] at h
    rw [if_pos hz]
    exact fin_ret (v := insV _) (by simp -dsimp [e2]; rfl) (leave_pure (by simp [insV]) h)
  · rw [if_neg hz] at h
    rw [if_neg (by omega)]
    exact fin_ret (v := insV noIns) (by simp -dsimp [e2]; rfl) (leave_pure (by simp [insV]) h)

set_option maxRecDepth 100000 in
set_option maxHeartbeats 4000000 in
theorem dec_9 (w : Nat) (hw : w < 2 ^ 32) (m : Mem) (Q) (h : Q (insV (decQ w)) m) (op : Nat) (nm : ByteArray) (code : Nat) (ho : ofQ w = some (op, 9, nm, code)) : TC Try.prog 18 [.int .u32 w] m Q := by
  refine TC_fn mixed Try.func18 rfl Try.ntmps18 rfl (by decide) (by simp) ?_
  refine wpc_st fun K hK => ?_
  simp -dsimp
  refine hK _ _ ?_
  clear hK K
  refine wpc_st fun K hK => ?_
  simp -dsimp
  refine of_tc w hw _ _ ?_
  simp -dsimp
  simp -dsimp [ho, rowV, rowVal]
  rw [decQ, ho] at h
  refine hK _ _ ?_
  clear hK K
  refine wpc_sq fun K hK => ?_
  simp -dsimp
  refine hK _ _ ?_
  clear hK K
  refine wpc_st fun K hK => ?_
  simp -dsimp
  refine Field_tc w hw 21 5 (by decide) (by decide) _ _ ?_
  simp -dsimp
  refine Field_tc w hw 16 5 (by decide) (by decide) _ _ ?_
  simp -dsimp
  refine Field_tc w hw 11 5 (by decide) (by decide) _ _ ?_
  simp -dsimp
  refine Field_tc w hw 6 5 (by decide) (by decide) _ _ ?_
  simp -dsimp
  refine hK _ _ ?_
  clear hK K
  refine wpc_st fun K hK => ?_
  simp -dsimp
  refine Field_tc w hw 0 16 (by decide) (by decide) _ _ ?_
  simp -dsimp
  refine hK _ _ ?_
  clear hK K
  refine wpc_st fun K hK => ?_
  simp -dsimp
  refine Sext16_tc _ _ _ ?_
  simp -dsimp
  refine hK _ _ ?_
  clear hK K
  refine wpc_st fun K hK => ?_
  simp -dsimp
  refine hK _ _ ?_
  clear hK K
  refine wpc_st fun K hK => ?_
  simp -dsimp
  refine hK _ _ ?_
  clear hK K
  refine wpc_st fun K hK => ?_
  simp -dsimp
  refine hK _ _ ?_
  clear hK K
  refine wpc_st fun K hK => ?_
  simp -dsimp
  refine hK _ _ ?_
  clear hK K
  refine wpc_sq fun K hK => ?_
  refine env_cut fun env he => ?_
  have e0 := he 0
  have e2 := he 2
  have e3 := he 3
  have e5 := he 5
  have e6 := he 6
  have e7 := he 7
  have e8 := he 8
  have e9 := he 9
  have e10 := he 10
  have e11 := he 11
  have e12 := he 12
  have e13 := he 13
  have e14 := he 14
  have e15 := he 15
  have e16 := he 16
  have e17 := he 17
  clear he
  simp -dsimp at e0 e2 e3 e5 e6 e7 e8 e9 e10 e11 e12 e13 e14 e15 e16 e17
  have hs := fl_lt w 21 5
  have ht := fl_lt w 16 5
  have hd := fl_lt w 11 5
  have ha := fl_lt w 6 5
  have hst := Nat.or_lt_two_pow hs ht
  have htd := Nat.or_lt_two_pow ht hd
  have hxd := Nat.xor_lt_two_pow ht hd
  simp -dsimp [e0, e2, e3, e5, e6, e7, e8, e9, e10, e11, e12, e13, e14, e15, e16, e17]
  refine set_tc _ _ _ _ _ (fl_lt w 21 5) _ _ ((get_loc _ _ _ _).trans rfl) (by simp) (by simp [gnd0]) ?_
  simp -dsimp [e0, e2, e3, e5, e6, e7, e8, e9, e10, e11, e12, e13, e14, e15, e16, e17]
  refine set_tc _ _ _ _ _ (fl_lt w 16 5) _ _ ((get_loc _ _ _ _).trans rfl) (by simp) (by simp [gnd0]) ?_
  simp -dsimp [e0, e2, e3, e5, e6, e7, e8, e9, e10, e11, e12, e13, e14, e15, e16, e17]
  refine set_tc _ _ _ _ _ (fl_lt w 11 5) _ _ ((get_loc _ _ _ _).trans rfl) (by simp) (by simp [gnd0]) ?_
  simp -dsimp [e0, e2, e3, e5, e6, e7, e8, e9, e10, e11, e12, e13, e14, e15, e16, e17]
  refine hK _ _ ?_
  clear hK K
  simp -dsimp [e0, e2, e3, e5, e6, e7, e8, e9, e10, e11, e12, e13, e14, e15, e16, e17]
  rw [ixor_nat .u32 ht hd, ior_nat .u32 ha hxd]
  change Q (insV (if fl w 6 5 ||| (fl w 16 5 ^^^ fl w 11 5) = 0 then ⟨op, fl w 21 5, fl w 16 5, fl w 11 5, 0, 0⟩ else noIns)) m at h
  by_cases hz : fl w 6 5 ||| (fl w 16 5 ^^^ fl w 11 5) = 0
  · rw [if_pos hz] at h
    rw [if_pos (by rw [hz]; rfl)]
    exact fin_ret (v := insV _) (by simp -dsimp [e2]; rfl) (leave_pure (by simp [insV]) h)
  · rw [if_neg hz] at h
    rw [if_neg (by omega)]
    exact fin_ret (v := insV noIns) (by simp -dsimp [e2]; rfl) (leave_pure (by simp [insV]) h)

set_option maxRecDepth 100000 in
set_option maxHeartbeats 4000000 in
theorem dec_10 (w : Nat) (hw : w < 2 ^ 32) (m : Mem) (Q) (h : Q (insV (decQ w)) m) (op : Nat) (nm : ByteArray) (code : Nat) (ho : ofQ w = some (op, 10, nm, code)) : TC Try.prog 18 [.int .u32 w] m Q := by
  refine TC_fn mixed Try.func18 rfl Try.ntmps18 rfl (by decide) (by simp) ?_
  refine wpc_st fun K hK => ?_
  simp -dsimp
  refine hK _ _ ?_
  clear hK K
  refine wpc_st fun K hK => ?_
  simp -dsimp
  refine of_tc w hw _ _ ?_
  simp -dsimp
  simp -dsimp [ho, rowV, rowVal]
  rw [decQ, ho] at h
  refine hK _ _ ?_
  clear hK K
  refine wpc_sq fun K hK => ?_
  simp -dsimp
  refine hK _ _ ?_
  clear hK K
  refine wpc_st fun K hK => ?_
  simp -dsimp
  refine Field_tc w hw 21 5 (by decide) (by decide) _ _ ?_
  simp -dsimp
  refine Field_tc w hw 16 5 (by decide) (by decide) _ _ ?_
  simp -dsimp
  refine Field_tc w hw 11 5 (by decide) (by decide) _ _ ?_
  simp -dsimp
  refine Field_tc w hw 6 5 (by decide) (by decide) _ _ ?_
  simp -dsimp
  refine hK _ _ ?_
  clear hK K
  refine wpc_st fun K hK => ?_
  simp -dsimp
  refine Field_tc w hw 0 16 (by decide) (by decide) _ _ ?_
  simp -dsimp
  refine hK _ _ ?_
  clear hK K
  refine wpc_st fun K hK => ?_
  simp -dsimp
  refine Sext16_tc _ _ _ ?_
  simp -dsimp
  refine hK _ _ ?_
  clear hK K
  refine wpc_st fun K hK => ?_
  simp -dsimp
  refine hK _ _ ?_
  clear hK K
  refine wpc_st fun K hK => ?_
  simp -dsimp
  refine hK _ _ ?_
  clear hK K
  refine wpc_st fun K hK => ?_
  simp -dsimp
  refine hK _ _ ?_
  clear hK K
  refine wpc_st fun K hK => ?_
  simp -dsimp
  refine hK _ _ ?_
  clear hK K
  refine wpc_sq fun K hK => ?_
  refine env_cut fun env he => ?_
  have e0 := he 0
  have e2 := he 2
  have e3 := he 3
  have e5 := he 5
  have e6 := he 6
  have e7 := he 7
  have e8 := he 8
  have e9 := he 9
  have e10 := he 10
  have e11 := he 11
  have e12 := he 12
  have e13 := he 13
  have e14 := he 14
  have e15 := he 15
  have e16 := he 16
  have e17 := he 17
  clear he
  simp -dsimp at e0 e2 e3 e5 e6 e7 e8 e9 e10 e11 e12 e13 e14 e15 e16 e17
  have hs := fl_lt w 21 5
  have ht := fl_lt w 16 5
  have hd := fl_lt w 11 5
  have ha := fl_lt w 6 5
  have hst := Nat.or_lt_two_pow hs ht
  have htd := Nat.or_lt_two_pow ht hd
  have hxd := Nat.xor_lt_two_pow ht hd
  simp -dsimp [e0, e2, e3, e5, e6, e7, e8, e9, e10, e11, e12, e13, e14, e15, e16, e17]
  refine set_tc _ _ _ _ _ (fl_lt w 21 5) _ _ ((get_loc _ _ _ _).trans rfl) (by simp) (by simp [gnd0]) ?_
  simp -dsimp [e0, e2, e3, e5, e6, e7, e8, e9, e10, e11, e12, e13, e14, e15, e16, e17]
  refine set_tc _ _ _ _ _ (fl_lt w 16 5) _ _ ((get_loc _ _ _ _).trans rfl) (by simp) (by simp [gnd0]) ?_
  simp -dsimp [e0, e2, e3, e5, e6, e7, e8, e9, e10, e11, e12, e13, e14, e15, e16, e17]
  refine hK _ _ ?_
  clear hK K
  simp -dsimp [e0, e2, e3, e5, e6, e7, e8, e9, e10, e11, e12, e13, e14, e15, e16, e17]
  change Q (insV ⟨op, fl w 21 5, fl w 16 5, 0, 0, sxt 16 (fl w 0 16)⟩) m at h
  exact fin_ret (v := insV _) (by simp -dsimp [e2]; rfl) (leave_pure (by simp [insV]) h)

set_option maxRecDepth 100000 in
set_option maxHeartbeats 4000000 in
theorem dec_11 (w : Nat) (hw : w < 2 ^ 32) (m : Mem) (Q) (h : Q (insV (decQ w)) m) (op : Nat) (nm : ByteArray) (code : Nat) (ho : ofQ w = some (op, 11, nm, code)) : TC Try.prog 18 [.int .u32 w] m Q := by
  refine TC_fn mixed Try.func18 rfl Try.ntmps18 rfl (by decide) (by simp) ?_
  refine wpc_st fun K hK => ?_
  simp -dsimp
  refine hK _ _ ?_
  clear hK K
  refine wpc_st fun K hK => ?_
  simp -dsimp
  refine of_tc w hw _ _ ?_
  simp -dsimp
  simp -dsimp [ho, rowV, rowVal]
  rw [decQ, ho] at h
  refine hK _ _ ?_
  clear hK K
  refine wpc_sq fun K hK => ?_
  simp -dsimp
  refine hK _ _ ?_
  clear hK K
  refine wpc_st fun K hK => ?_
  simp -dsimp
  refine Field_tc w hw 21 5 (by decide) (by decide) _ _ ?_
  simp -dsimp
  refine Field_tc w hw 16 5 (by decide) (by decide) _ _ ?_
  simp -dsimp
  refine Field_tc w hw 11 5 (by decide) (by decide) _ _ ?_
  simp -dsimp
  refine Field_tc w hw 6 5 (by decide) (by decide) _ _ ?_
  simp -dsimp
  refine hK _ _ ?_
  clear hK K
  refine wpc_st fun K hK => ?_
  simp -dsimp
  refine Field_tc w hw 0 16 (by decide) (by decide) _ _ ?_
  simp -dsimp
  refine hK _ _ ?_
  clear hK K
  refine wpc_st fun K hK => ?_
  simp -dsimp
  refine Sext16_tc _ _ _ ?_
  simp -dsimp
  refine hK _ _ ?_
  clear hK K
  refine wpc_st fun K hK => ?_
  simp -dsimp
  refine hK _ _ ?_
  clear hK K
  refine wpc_st fun K hK => ?_
  simp -dsimp
  refine hK _ _ ?_
  clear hK K
  refine wpc_st fun K hK => ?_
  simp -dsimp
  refine hK _ _ ?_
  clear hK K
  refine wpc_st fun K hK => ?_
  simp -dsimp
  refine hK _ _ ?_
  clear hK K
  refine wpc_sq fun K hK => ?_
  refine env_cut fun env he => ?_
  have e0 := he 0
  have e2 := he 2
  have e3 := he 3
  have e5 := he 5
  have e6 := he 6
  have e7 := he 7
  have e8 := he 8
  have e9 := he 9
  have e10 := he 10
  have e11 := he 11
  have e12 := he 12
  have e13 := he 13
  have e14 := he 14
  have e15 := he 15
  have e16 := he 16
  have e17 := he 17
  clear he
  simp -dsimp at e0 e2 e3 e5 e6 e7 e8 e9 e10 e11 e12 e13 e14 e15 e16 e17
  have hs := fl_lt w 21 5
  have ht := fl_lt w 16 5
  have hd := fl_lt w 11 5
  have ha := fl_lt w 6 5
  have hst := Nat.or_lt_two_pow hs ht
  have htd := Nat.or_lt_two_pow ht hd
  have hxd := Nat.xor_lt_two_pow ht hd
  simp -dsimp [e0, e2, e3, e5, e6, e7, e8, e9, e10, e11, e12, e13, e14, e15, e16, e17]
  refine set_tc _ _ _ _ _ (fl_lt w 21 5) _ _ ((get_loc _ _ _ _).trans rfl) (by simp) (by simp [gnd0]) ?_
  simp -dsimp [e0, e2, e3, e5, e6, e7, e8, e9, e10, e11, e12, e13, e14, e15, e16, e17]
  refine set_tc _ _ _ _ _ (fl_lt w 16 5) _ _ ((get_loc _ _ _ _).trans rfl) (by simp) (by simp [gnd0]) ?_
  simp -dsimp [e0, e2, e3, e5, e6, e7, e8, e9, e10, e11, e12, e13, e14, e15, e16, e17]
  refine hK _ _ ?_
  clear hK K
  simp -dsimp [e0, e2, e3, e5, e6, e7, e8, e9, e10, e11, e12, e13, e14, e15, e16, e17]
  change Q (insV ⟨op, fl w 21 5, fl w 16 5, 0, 0, fl w 0 16⟩) m at h
  exact fin_ret (v := insV _) (by simp -dsimp [e2]; rfl) (leave_pure (by simp [insV]) h)

end Go.Lm
/- ins.Decode, form by form. -/
set_option linter.unusedSimpArgs false
namespace Go.Lm
open Go.Proofs

set_option maxRecDepth 100000 in
set_option maxHeartbeats 4000000 in
theorem dec_12 (w : Nat) (hw : w < 2 ^ 32) (m : Mem) (Q) (h : Q (insV (decQ w)) m) (op : Nat) (nm : ByteArray) (code : Nat) (ho : ofQ w = some (op, 12, nm, code)) : TC Try.prog 18 [.int .u32 w] m Q := by
  refine TC_fn mixed Try.func18 rfl Try.ntmps18 rfl (by decide) (by simp) ?_
  refine wpc_st fun K hK => ?_
  simp -dsimp
  refine hK _ _ ?_
  clear hK K
  refine wpc_st fun K hK => ?_
  simp -dsimp
  refine of_tc w hw _ _ ?_
  simp -dsimp
  simp -dsimp [ho, rowV, rowVal]
  rw [decQ, ho] at h
  refine hK _ _ ?_
  clear hK K
  refine wpc_sq fun K hK => ?_
  simp -dsimp
  refine hK _ _ ?_
  clear hK K
  refine wpc_st fun K hK => ?_
  simp -dsimp
  refine Field_tc w hw 21 5 (by decide) (by decide) _ _ ?_
  simp -dsimp
  refine Field_tc w hw 16 5 (by decide) (by decide) _ _ ?_
  simp -dsimp
  refine Field_tc w hw 11 5 (by decide) (by decide) _ _ ?_
  simp -dsimp
  refine Field_tc w hw 6 5 (by decide) (by decide) _ _ ?_
  simp -dsimp
  refine hK _ _ ?_
  clear hK K
  refine wpc_st fun K hK => ?_
  simp -dsimp
  refine Field_tc w hw 0 16 (by decide) (by decide) _ _ ?_
  simp -dsimp
  refine hK _ _ ?_
  clear hK K
  refine wpc_st fun K hK => ?_
  simp -dsimp
  refine Sext16_tc _ _ _ ?_
  simp -dsimp
  refine hK _ _ ?_
  clear hK K
  refine wpc_st fun K hK => ?_
  simp -dsimp
  refine hK _ _ ?_
  clear hK K
  refine wpc_st fun K hK => ?_
  simp -dsimp
  refine hK _ _ ?_
  clear hK K
  refine wpc_st fun K hK => ?_
  simp -dsimp
  refine hK _ _ ?_
  clear hK K
  refine wpc_st fun K hK => ?_
  simp -dsimp
  refine hK _ _ ?_
  clear hK K
  refine wpc_sq fun K hK => ?_
  refine env_cut fun env he => ?_
  have e0 := he 0
  have e2 := he 2
  have e3 := he 3
  have e5 := he 5
  have e6 := he 6
  have e7 := he 7
  have e8 := he 8
  have e9 := he 9
  have e10 := he 10
  have e11 := he 11
  have e12 := he 12
  have e13 := he 13
  have e14 := he 14
  have e15 := he 15
  have e16 := he 16
  have e17 := he 17
  clear he
  simp -dsimp at e0 e2 e3 e5 e6 e7 e8 e9 e10 e11 e12 e13 e14 e15 e16 e17
  have hs := fl_lt w 21 5
  have ht := fl_lt w 16 5
  have hd := fl_lt w 11 5
  have ha := fl_lt w 6 5
  have hst := Nat.or_lt_two_pow hs ht
  have htd := Nat.or_lt_two_pow ht hd
  have hxd := Nat.xor_lt_two_pow ht hd
  simp -dsimp [e0, e2, e3, e5, e6, e7, e8, e9, e10, e11, e12, e13, e14, e15, e16, e17]
  refine set_tc _ _ _ _ _ (fl_lt w 16 5) _ _ ((get_loc _ _ _ _).trans rfl) (by simp) (by simp [gnd0]) ?_
  simp -dsimp [e0, e2, e3, e5, e6, e7, e8, e9, e10, e11, e12, e13, e14, e15, e16, e17]
  refine hK _ _ ?_
  clear hK K
  simp -dsimp [e0, e2, e3, e5, e6, e7, e8, e9, e10, e11, e12, e13, e14, e15, e16, e17]
  change Q (insV (if fl w 21 5 = 0 then ⟨op, 0, fl w 16 5, 0, 0, fl w 0 16⟩ else noIns)) m at h
  by_cases hz : fl w 21 5 = 0
  · rw [if_pos hz] at h
    rw [if_pos hz]
    exact fin_ret (v := insV _) (by simp -dsimp [e2]; rfl) (leave_pure (by simp [insV]) h)
  · rw [if_neg hz] at h
    rw [if_neg (by omega)]
    exact fin_ret (v := insV noIns) (by simp -dsimp [e2]; rfl) (leave_pure (by simp [insV]) h)

set_option maxRecDepth 100000 in
set_option maxHeartbeats 4000000 in
theorem dec_13 (w : Nat) (hw : w < 2 ^ 32) (m : Mem) (Q) (h : Q (insV (decQ w)) m) (op : Nat) (nm : ByteArray) (code : Nat) (ho : ofQ w = some (op, 13, nm, code)) : TC Try.prog 18 [.int .u32 w] m Q := by
  refine TC_fn mixed Try.func18 rfl Try.ntmps18 rfl (by decide) (by simp) ?_
  refine wpc_st fun K hK => ?_
  simp -dsimp
  refine hK _ _ ?_
  clear hK K
  refine wpc_st fun K hK => ?_
  simp -dsimp
  refine of_tc w hw _ _ ?_
  simp -dsimp
  simp -dsimp [ho, rowV, rowVal]
  rw [decQ, ho] at h
  refine hK _ _ ?_
  clear hK K
  refine wpc_sq fun K hK => ?_
  simp -dsimp
  refine hK _ _ ?_
  clear hK K
  refine wpc_st fun K hK => ?_
  simp -dsimp
  refine Field_tc w hw 21 5 (by decide) (by decide) _ _ ?_
  simp -dsimp
  refine Field_tc w hw 16 5 (by decide) (by decide) _ _ ?_
  simp -dsimp
  refine Field_tc w hw 11 5 (by decide) (by decide) _ _ ?_
  simp -dsimp
  refine Field_tc w hw 6 5 (by decide) (by decide) _ _ ?_
  simp -dsimp
  refine hK _ _ ?_
  clear hK K
  refine wpc_st fun K hK => ?_
  simp -dsimp
  refine Field_tc w hw 0 16 (by decide) (by decide) _ _ ?_
  simp -dsimp
  refine hK _ _ ?_
  clear hK K
  refine wpc_st fun K hK => ?_
  simp -dsimp
  refine Sext16_tc _ _ _ ?_
  simp -dsimp
  refine hK _ _ ?_
  clear hK K
  refine wpc_st fun K hK => ?_
  simp -dsimp
  refine hK _ _ ?_
  clear hK K
  refine wpc_st fun K hK => ?_
  simp -dsimp
  refine hK _ _ ?_
  clear hK K
  refine wpc_st fun K hK => ?_
  simp -dsimp
  refine hK _ _ ?_
  clear hK K
  refine wpc_st fun K hK => ?_
  simp -dsimp
  refine hK _ _ ?_
  clear hK K
  refine wpc_sq fun K hK => ?_
  refine env_cut fun env he => ?_
  have e0 := he 0
  have e2 := he 2
  have e3 := he 3
  have e5 := he 5
  have e6 := he 6
  have e7 := he 7
  have e8 := he 8
  have e9 := he 9
  have e10 := he 10
  have e11 := he 11
  have e12 := he 12
  have e13 := he 13
  have e14 := he 14
  have e15 := he 15
  have e16 := he 16
  have e17 := he 17
  clear he
  simp -dsimp at e0 e2 e3 e5 e6 e7 e8 e9 e10 e11 e12 e13 e14 e15 e16 e17
  have hs := fl_lt w 21 5
  have ht := fl_lt w 16 5
  have hd := fl_lt w 11 5
  have ha := fl_lt w 6 5
  have hst := Nat.or_lt_two_pow hs ht
  have htd := Nat.or_lt_two_pow ht hd
  have hxd := Nat.xor_lt_two_pow ht hd
  simp -dsimp [e0, e2, e3, e5, e6, e7, e8, e9, e10, e11, e12, e13, e14, e15, e16, e17]
  refine set_tc _ _ _ _ _ (fl_lt w 21 5) _ _ ((get_loc _ _ _ _).trans rfl) (by simp) (by simp [gnd0]) ?_
  simp -dsimp [e0, e2, e3, e5, e6, e7, e8, e9, e10, e11, e12, e13, e14, e15, e16, e17]
  refine set_tc _ _ _ _ _ (fl_lt w 16 5) _ _ ((get_loc _ _ _ _).trans rfl) (by simp) (by simp [gnd0]) ?_
  simp -dsimp [e0, e2, e3, e5, e6, e7, e8, e9, e10, e11, e12, e13, e14, e15, e16, e17]
  refine hK _ _ ?_
  clear hK K
  simp -dsimp [e0, e2, e3, e5, e6, e7, e8, e9, e10, e11, e12, e13, e14, e15, e16, e17]
  change Q (insV ⟨op, fl w 21 5, fl w 16 5, 0, 0, sxt 16 (fl w 0 16)⟩) m at h
  exact fin_ret (v := insV _) (by simp -dsimp [e2]; rfl) (leave_pure (by simp [insV]) h)

set_option maxRecDepth 100000 in
set_option maxHeartbeats 4000000 in
theorem dec_14 (w : Nat) (hw : w < 2 ^ 32) (m : Mem) (Q) (h : Q (insV (decQ w)) m) (op : Nat) (nm : ByteArray) (code : Nat) (ho : ofQ w = some (op, 14, nm, code)) : TC Try.prog 18 [.int .u32 w] m Q := by
  refine TC_fn mixed Try.func18 rfl Try.ntmps18 rfl (by decide) (by simp) ?_
  refine wpc_st fun K hK => ?_
  simp -dsimp
  refine hK _ _ ?_
  clear hK K
  refine wpc_st fun K hK => ?_
  simp -dsimp
  refine of_tc w hw _ _ ?_
  simp -dsimp
  simp -dsimp [ho, rowV, rowVal]
  rw [decQ, ho] at h
  refine hK _ _ ?_
  clear hK K
  refine wpc_sq fun K hK => ?_
  simp -dsimp
  refine hK _ _ ?_
  clear hK K
  refine wpc_st fun K hK => ?_
  simp -dsimp
  refine Field_tc w hw 21 5 (by decide) (by decide) _ _ ?_
  simp -dsimp
  refine Field_tc w hw 16 5 (by decide) (by decide) _ _ ?_
  simp -dsimp
  refine Field_tc w hw 11 5 (by decide) (by decide) _ _ ?_
  simp -dsimp
  refine Field_tc w hw 6 5 (by decide) (by decide) _ _ ?_
  simp -dsimp
  refine hK _ _ ?_
  clear hK K
  refine wpc_st fun K hK => ?_
  simp -dsimp
  refine Field_tc w hw 0 16 (by decide) (by decide) _ _ ?_
  simp -dsimp
  refine hK _ _ ?_
  clear hK K
  refine wpc_st fun K hK => ?_
  simp -dsimp
  refine Sext16_tc _ _ _ ?_
  simp -dsimp
  refine hK _ _ ?_
  clear hK K
  refine wpc_st fun K hK => ?_
  simp -dsimp
  refine hK _ _ ?_
  clear hK K
  refine wpc_st fun K hK => ?_
  simp -dsimp
  refine hK _ _ ?_
  clear hK K
  refine wpc_st fun K hK => ?_
  simp -dsimp
  refine hK _ _ ?_
  clear hK K
  refine wpc_st fun K hK => ?_
  simp -dsimp
  refine hK _ _ ?_
  clear hK K
  refine wpc_sq fun K hK => ?_
  refine env_cut fun env he => ?_
  have e0 := he 0
  have e2 := he 2
  have e3 := he 3
  have e5 := he 5
  have e6 := he 6
  have e7 := he 7
  have e8 := he 8
  have e9 := he 9
  have e10 := he 10
  have e11 := he 11
  have e12 := he 12
  have e13 := he 13
  have e14 := he 14
  have e15 := he 15
  have e16 := he 16
  have e17 := he 17
  clear he
  simp -dsimp at e0 e2 e3 e5 e6 e7 e8 e9 e10 e11 e12 e13 e14 e15 e16 e17
  have hs := fl_lt w 21 5
  have ht := fl_lt w 16 5
  have hd := fl_lt w 11 5
  have ha := fl_lt w 6 5
  have hst := Nat.or_lt_two_pow hs ht
  have htd := Nat.or_lt_two_pow ht hd
  have hxd := Nat.xor_lt_two_pow ht hd
  simp -dsimp [e0, e2, e3, e5, e6, e7, e8, e9, e10, e11, e12, e13, e14, e15, e16, e17]
  refine set_tc _ _ _ _ _ (fl_lt w 21 5) _ _ ((get_loc _ _ _ _).trans rfl) (by simp) (by simp [gnd0]) ?_
  simp -dsimp [e0, e2, e3, e5, e6, e7, e8, e9, e10, e11, e12, e13, e14, e15, e16, e17]
  refine set_tc _ _ _ _ _ (fl_lt w 16 5) _ _ ((get_loc _ _ _ _).trans rfl) (by simp) (by simp [gnd0]) ?_
  simp -dsimp [e0, e2, e3, e5, e6, e7, e8, e9, e10, e11, e12, e13, e14, e15, e16, e17]
  refine hK _ _ ?_
  clear hK K
  simp -dsimp [e0, e2, e3, e5, e6, e7, e8, e9, e10, e11, e12, e13, e14, e15, e16, e17]
  change Q (insV ⟨op, fl w 21 5, fl w 16 5, 0, 0, (sxt 16 (fl w 0 16) * 4 % 2 ^ 32)⟩) m at h
  rw [show ((sxt 16 (fl w 0 16) : Nat) : Int) * 4 = ((sxt 16 (fl w 0 16) * 4 : Nat) : Int) by omega, wrap_u32_nat]
  exact fin_ret (v := insV _) (by simp -dsimp [e2]; rfl) (leave_pure (by simp [insV]) h)

set_option maxRecDepth 100000 in
set_option maxHeartbeats 4000000 in
theorem dec_15 (w : Nat) (hw : w < 2 ^ 32) (m : Mem) (Q) (h : Q (insV (decQ w)) m) (op : Nat) (nm : ByteArray) (code : Nat) (ho : ofQ w = some (op, 15, nm, code)) : TC Try.prog 18 [.int .u32 w] m Q := by
  refine TC_fn mixed Try.func18 rfl Try.ntmps18 rfl (by decide) (by simp) ?_
  refine wpc_st fun K hK => ?_
  simp -dsimp
  refine hK _ _ ?_
  clear hK K
  refine wpc_st fun K hK => ?_
  simp -dsimp
  refine of_tc w hw _ _ ?_
  simp -dsimp
  simp -dsimp [ho, rowV, rowVal]
  rw [decQ, ho] at h
  refine hK _ _ ?_
  clear hK K
  refine wpc_sq fun K hK => ?_
  simp -dsimp
  refine hK _ _ ?_
  clear hK K
  refine wpc_st fun K hK => ?_
  simp -dsimp
  refine Field_tc w hw 21 5 (by decide) (by decide) _ _ ?_
  simp -dsimp
  refine Field_tc w hw 16 5 (by decide) (by decide) _ _ ?_
  simp -dsimp
  refine Field_tc w hw 11 5 (by decide) (by decide) _ _ ?_
  simp -dsimp
  refine Field_tc w hw 6 5 (by decide) (by decide) _ _ ?_
  simp -dsimp
  refine hK _ _ ?_
  clear hK K
  refine wpc_st fun K hK => ?_
  simp -dsimp
  refine Field_tc w hw 0 16 (by decide) (by decide) _ _ ?_
  simp -dsimp
  refine hK _ _ ?_
  clear hK K
  refine wpc_st fun K hK => ?_
  simp -dsimp
  refine Sext16_tc _ _ _ ?_
  simp -dsimp
  refine hK _ _ ?_
  clear hK K
  refine wpc_st fun K hK => ?_
  simp -dsimp
  refine hK _ _ ?_
  clear hK K
  refine wpc_st fun K hK => ?_
  simp -dsimp
  refine hK _ _ ?_
  clear hK K
  refine wpc_st fun K hK => ?_
  simp -dsimp
  refine hK _ _ ?_
  clear hK K
  refine wpc_st fun K hK => ?_
  simp -dsimp
  refine hK _ _ ?_
  clear hK K
  refine wpc_sq fun K hK => ?_
  refine env_cut fun env he => ?_
  have e0 := he 0
  have e2 := he 2
  have e3 := he 3
  have e5 := he 5
  have e6 := he 6
  have e7 := he 7
  have e8 := he 8
  have e9 := he 9
  have e10 := he 10
  have e11 := he 11
  have e12 := he 12
  have e13 := he 13
  have e14 := he 14
  have e15 := he 15
  have e16 := he 16
  have e17 := he 17
  clear he
  simp -dsimp at e0 e2 e3 e5 e6 e7 e8 e9 e10 e11 e12 e13 e14 e15 e16 e17
  have hs := fl_lt w 21 5
  have ht := fl_lt w 16 5
  have hd := fl_lt w 11 5
  have ha := fl_lt w 6 5
  have hst := Nat.or_lt_two_pow hs ht
  have htd := Nat.or_lt_two_pow ht hd
  have hxd := Nat.xor_lt_two_pow ht hd
  simp -dsimp [e0, e2, e3, e5, e6, e7, e8, e9, e10, e11, e12, e13, e14, e15, e16, e17]
  refine set_tc _ _ _ _ _ (fl_lt w 21 5) _ _ ((get_loc _ _ _ _).trans rfl) (by simp) (by simp [gnd0]) ?_
  simp -dsimp [e0, e2, e3, e5, e6, e7, e8, e9, e10, e11, e12, e13, e14, e15, e16, e17]
  refine hK _ _ ?_
  clear hK K
  simp -dsimp [e0, e2, e3, e5, e6, e7, e8, e9, e10, e11, e12, e13, e14, e15, e16, e17]
  change Q (insV (if fl w 16 5 = 0 then ⟨op, fl w 21 5, 0, 0, 0, (sxt 16 (fl w 0 16) * 4 % 2 ^ 32)⟩ else noIns)) m at h
  by_cases hz : fl w 16 5 = 0
  · rw [if_pos hz] at h
    rw [if_pos hz]
    exact fin_ret (v := insV _) (by simp -dsimp [e2]; rfl) (leave_pure (by simp [insV]) h)
  · rw [if_neg hz] at h
    rw [if_neg (by omega)]
    exact fin_ret (v := insV noIns) (by simp -dsimp [e2]; rfl) (leave_pure (by simp [insV]) h)

set_option maxRecDepth 100000 in
set_option maxHeartbeats 4000000 in
theorem dec_16 (w : Nat) (hw : w < 2 ^ 32) (m : Mem) (Q) (h : Q (insV (decQ w)) m) (op : Nat) (nm : ByteArray) (code : Nat) (ho : ofQ w = some (op, 16, nm, code)) : TC Try.prog 18 [.int .u32 w] m Q := by
  refine TC_fn mixed Try.func18 rfl Try.ntmps18 rfl (by decide) (by simp) ?_
  refine wpc_st fun K hK => ?_
  simp -dsimp
  refine hK _ _ ?_
  clear hK K
  refine wpc_st fun K hK => ?_
  simp -dsimp
  refine of_tc w hw _ _ ?_
  simp -dsimp
  simp -dsimp [ho, rowV, rowVal]
  rw [decQ, ho] at h
  refine hK _ _ ?_
  clear hK K
  refine wpc_sq fun K hK => ?_
  simp -dsimp
  refine hK _ _ ?_
  clear hK K
  refine wpc_st fun K hK => ?_
  simp -dsimp
  refine Field_tc w hw 21 5 (by decide) (by decide) _ _ ?_
  simp -dsimp
  refine Field_tc w hw 16 5 (by decide) (by decide) _ _ ?_
  simp -dsimp
  refine Field_tc w hw 11 5 (by decide) (by decide) _ _ ?_
  simp -dsimp
  refine Field_tc w hw 6 5 (by decide) (by decide) _ _ ?_
  simp -dsimp
  refine hK _ _ ?_
  clear hK K
  refine wpc_st fun K hK => ?_
  simp -dsimp
  refine Field_tc w hw 0 16 (by decide) (by decide) _ _ ?_
  simp -dsimp
  refine hK _ _ ?_
  clear hK K
  refine wpc_st fun K hK => ?_
  simp -dsimp
  refine Sext16_tc _ _ _ ?_
  simp -dsimp
  refine hK _ _ ?_
  clear hK K
  refine wpc_st fun K hK => ?_
  simp -dsimp
  refine hK _ _ ?_
  clear hK K
  refine wpc_st fun K hK => ?_
  simp -dsimp
  refine hK _ _ ?_
  clear hK K
  refine wpc_st fun K hK => ?_
  simp -dsimp
  refine hK _ _ ?_
  clear hK K
  refine wpc_st fun K hK => ?_
  simp -dsimp
  refine hK _ _ ?_
  clear hK K
  refine wpc_sq fun K hK => ?_
  refine env_cut fun env he => ?_
  have e0 := he 0
  have e2 := he 2
  have e3 := he 3
  have e5 := he 5
  have e6 := he 6
  have e7 := he 7
  have e8 := he 8
  have e9 := he 9
  have e10 := he 10
  have e11 := he 11
  have e12 := he 12
  have e13 := he 13
  have e14 := he 14
  have e15 := he 15
  have e16 := he 16
  have e17 := he 17
  clear he
  simp -dsimp at e0 e2 e3 e5 e6 e7 e8 e9 e10 e11 e12 e13 e14 e15 e16 e17
  have hs := fl_lt w 21 5
  have ht := fl_lt w 16 5
  have hd := fl_lt w 11 5
  have ha := fl_lt w 6 5
  have hst := Nat.or_lt_two_pow hs ht
  have htd := Nat.or_lt_two_pow ht hd
  have hxd := Nat.xor_lt_two_pow ht hd
  simp -dsimp [e0, e2, e3, e5, e6, e7, e8, e9, e10, e11, e12, e13, e14, e15, e16, e17]
  refine set_tc _ _ _ _ _ (fl_lt w 21 5) _ _ ((get_loc _ _ _ _).trans rfl) (by simp) (by simp [gnd0]) ?_
  simp -dsimp [e0, e2, e3, e5, e6, e7, e8, e9, e10, e11, e12, e13, e14, e15, e16, e17]
  refine hK _ _ ?_
  clear hK K
  simp -dsimp [e0, e2, e3, e5, e6, e7, e8, e9, e10, e11, e12, e13, e14, e15, e16, e17]
  change Q (insV ⟨op, fl w 21 5, 0, 0, 0, (sxt 16 (fl w 0 16) * 4 % 2 ^ 32)⟩) m at h
  rw [show ((sxt 16 (fl w 0 16) : Nat) : Int) * 4 = ((sxt 16 (fl w 0 16) * 4 : Nat) : Int) by omega, wrap_u32_nat]
  exact fin_ret (v := insV _) (by simp -dsimp [e2]; rfl) (leave_pure (by simp [insV]) h)

set_option maxRecDepth 100000 in
set_option maxHeartbeats 4000000 in
theorem dec_17 (w : Nat) (hw : w < 2 ^ 32) (m : Mem) (Q) (h : Q (insV (decQ w)) m) (op : Nat) (nm : ByteArray) (code : Nat) (ho : ofQ w = some (op, 17, nm, code)) : TC Try.prog 18 [.int .u32 w] m Q := by
  refine TC_fn mixed Try.func18 rfl Try.ntmps18 rfl (by decide) (by simp) ?_
  refine wpc_st fun K hK => ?_
  simp -dsimp
  refine hK _ _ ?_
  clear hK K
  refine wpc_st fun K hK => ?_
  simp -dsimp
  refine of_tc w hw _ _ ?_
  simp -dsimp
  simp -dsimp [ho, rowV, rowVal]
  rw [decQ, ho] at h
  refine hK _ _ ?_
  clear hK K
  refine wpc_sq fun K hK => ?_
  simp -dsimp
  refine hK _ _ ?_
  clear hK K
  refine wpc_st fun K hK => ?_
  simp -dsimp
  refine Field_tc w hw 21 5 (by decide) (by decide) _ _ ?_
  simp -dsimp
  refine Field_tc w hw 16 5 (by decide) (by decide) _ _ ?_
  simp -dsimp
  refine Field_tc w hw 11 5 (by decide) (by decide) _ _ ?_
  simp -dsimp
  refine Field_tc w hw 6 5 (by decide) (by decide) _ _ ?_
  simp -dsimp
  refine hK _ _ ?_
  clear hK K
  refine wpc_st fun K hK => ?_
  simp -dsimp
  refine Field_tc w hw 0 16 (by decide) (by decide) _ _ ?_
  simp -dsimp
  refine hK _ _ ?_
  clear hK K
  refine wpc_st fun K hK => ?_
  simp -dsimp
  refine Sext16_tc _ _ _ ?_
  simp -dsimp
  refine hK _ _ ?_
  clear hK K
  refine wpc_st fun K hK => ?_
  simp -dsimp
  refine hK _ _ ?_
  clear hK K
  refine wpc_st fun K hK => ?_
  simp -dsimp
  refine hK _ _ ?_
  clear hK K
  refine wpc_st fun K hK => ?_
  simp -dsimp
  refine hK _ _ ?_
  clear hK K
  refine wpc_st fun K hK => ?_
  simp -dsimp
  refine hK _ _ ?_
  clear hK K
  refine wpc_sq fun K hK => ?_
  refine env_cut fun env he => ?_
  have e0 := he 0
  have e2 := he 2
  have e3 := he 3
  have e5 := he 5
  have e6 := he 6
  have e7 := he 7
  have e8 := he 8
  have e9 := he 9
  have e10 := he 10
  have e11 := he 11
  have e12 := he 12
  have e13 := he 13
  have e14 := he 14
  have e15 := he 15
  have e16 := he 16
  have e17 := he 17
  clear he
  simp -dsimp at e0 e2 e3 e5 e6 e7 e8 e9 e10 e11 e12 e13 e14 e15 e16 e17
  have hs := fl_lt w 21 5
  have ht := fl_lt w 16 5
  have hd := fl_lt w 11 5
  have ha := fl_lt w 6 5
  have hst := Nat.or_lt_two_pow hs ht
  have htd := Nat.or_lt_two_pow ht hd
  have hxd := Nat.xor_lt_two_pow ht hd
  simp -dsimp [e0, e2, e3, e5, e6, e7, e8, e9, e10, e11, e12, e13, e14, e15, e16, e17]
  refine Field_tc w hw 0 26 (by decide) (by decide) _ _ ?_
  simp -dsimp [e0, e2, e3, e5, e6, e7, e8, e9, e10, e11, e12, e13, e14, e15, e16, e17]
  refine hK _ _ ?_
  clear hK K
  simp -dsimp [e0, e2, e3, e5, e6, e7, e8, e9, e10, e11, e12, e13, e14, e15, e16, e17]
  change Q (insV ⟨op, 0, 0, 0, 0, fl w 0 26 * 4 % 2 ^ 32⟩) m at h
  rw [show ((fl w 0 26 : Nat) : Int) * 4 = ((fl w 0 26 * 4 : Nat) : Int) by omega, wrap_u32_nat]
  exact fin_ret (v := insV _) (by simp -dsimp [e2]; rfl) (leave_pure (by simp [insV]) h)

end Go.Lm
/- ins.Decode: joined. -/
namespace Go.Lm
open Go.Proofs

set_option maxRecDepth 100000 in
set_option maxHeartbeats 4000000 in
theorem dec_none (w : Nat) (hw : w < 2 ^ 32) (m : Mem) (Q) (h : Q (insV (decQ w)) m) (ho : ofQ w = none) : TC Try.prog 18 [.int .u32 w] m Q := by
  refine TC_fn mixed Try.func18 rfl Try.ntmps18 rfl (by decide) (by simp) ?_
  refine wpc_st fun K hK => ?_
  simp -dsimp
  refine hK _ _ ?_
  clear hK K
  refine wpc_st fun K hK => ?_
  simp -dsimp
  refine of_tc w hw _ _ ?_
  simp -dsimp
  simp -dsimp [ho, rowV, rowVal]
  refine hK _ _ ?_
  clear hK K
  simp -dsimp
  refine fin_ret (v := insV noIns) (by simp -dsimp; rfl) (leave_pure (by simp [insV]) ?_)
  rw [decQ, ho] at h
  exact h

theorem dec_tc (w : Nat) (hw : w < 2 ^ 32) (m : Mem) (Q) (h : Q (insV (decQ w)) m) : TC Try.prog 18 [.int .u32 w] m Q := by
  cases ho : ofQ w with
  | none => exact dec_none w hw m Q h ho
  | some r =>
    obtain ⟨op, form, nm, code⟩ := r
    have hf := of_form ho
    have hfc : form = 0 ∨ form = 1 ∨ form = 2 ∨ form = 3 ∨ form = 4 ∨ form = 5 ∨ form = 6 ∨ form = 7 ∨ form = 8 ∨ form = 9 ∨ form = 10 ∨ form = 11 ∨ form = 12 ∨ form = 13 ∨ form = 14 ∨ form = 15 ∨ form = 16 ∨ form = 17 := by omega
    rcases hfc with rfl | rfl | rfl | rfl | rfl | rfl | rfl | rfl | rfl | rfl | rfl | rfl | rfl | rfl | rfl | rfl | rfl | rfl
    · exact dec_0 w hw m Q h op nm code ho
    · exact dec_1 w hw m Q h op nm code ho
    · exact dec_2 w hw m Q h op nm code ho
    · exact dec_3 w hw m Q h op nm code ho
    · exact dec_4 w hw m Q h op nm code ho
    · exact dec_5 w hw m Q h op nm code ho
    · exact dec_6 w hw m Q h op nm code ho
    · exact dec_7 w hw m Q h op nm code ho
    · exact dec_8 w hw m Q h op nm code ho
    · exact dec_9 w hw m Q h op nm code ho
    · exact dec_10 w hw m Q h op nm code ho
    · exact dec_11 w hw m Q h op nm code ho
    · exact dec_12 w hw m Q h op nm code ho
    · exact dec_13 w hw m Q h op nm code ho
    · exact dec_14 w hw m Q h op nm code ho
    · exact dec_15 w hw m Q h op nm code ho
    · exact dec_16 w hw m Q h op nm code ho
    · exact dec_17 w hw m Q h op nm code ho

end Go.Lm
/- calquelaw08: awake, InsKinds. -/
set_option linter.unusedSimpArgs false
namespace Go.Lm
open Go.Proofs

theorem dec_a : decQ 608305153 = ⟨40, 2, 2, 0, 0, 1⟩ := by kernel_rfl
theorem dec_b : decQ 0 = ⟨16, 0, 0, 0, 0, 0⟩ := by kernel_rfl
theorem name_40 : nameQ 40 = ⟨#[97, 100, 100, 105, 117]⟩ := by kernel_rfl
theorem kind_51 : kindQ 51 = 4 := by kernel_rfl

set_option maxRecDepth 100000 in
theorem awake_tc (m : Mem) (Q) (h : Q (.bool true) m) : TC Try.prog 20 [] m Q := by
  refine TC_fn mixed Try.func20 rfl Try.ntmps20 rfl (by decide) (by simp) ?_
  simp -dsimp
  refine dec_tc 608305153 (by decide) _ _ ?_
  simp -dsimp [dec_a, insV]
  refine dec_tc 0 (by decide) _ _ ?_
  simp -dsimp [dec_b, insV]
  refine name_tc 40 _ _ ?_
  simp -dsimp [name_40]
  refine kind_tc 51 _ _ ?_
  simp -dsimp [kind_51]
  exact fin_ret rfl (leave_pure (by simp) h)

theorem place_tc (x n : Int) (hn : 0 < n) (hm : n ≤ 9223372036854775807) (m : Mem) (Q) (h : Q (.int .i64 (x % n)) m) : TC Try.prog 19 [.int .i64 x, .int .i64 n] m Q := by
  refine TC_fn mixed Try.func19 rfl Try.ntmps19 rfl (by decide) (by simp) ?_
  have h0 : ¬ n = 0 := by omega
  have h1 := Int.emod_nonneg x h0
  have h2 := Int.emod_lt_of_pos x hn
  have h3 := Int.tmod_eq_emod (a := x) (b := n)
  have h4 : x.tmod n = x % n ∨ x.tmod n = x % n - n ∧ x % n ≠ 0 := by
    by_cases hx : 0 ≤ x ∨ n ∣ x
    · rw [if_pos hx] at h3; left; omega
    · rw [if_neg hx] at h3
      right
      refine ⟨by omega, fun e => hx (.inr (Int.dvd_of_emod_eq_zero e))⟩
  clear h3
  by_cases hk : x.tmod n < 0
  · have e : x.tmod n + n = x % n := by omega
    simp -dsimp [h0, hk]
    rw [e, wI64 (by omega) (by omega)]
    exact fin_ret rfl (leave_pure (by simp) h)
  · have e : x.tmod n = x % n := by omega
    simp -dsimp [h0, hk]
    rw [e]
    exact fin_ret rfl (leave_pure (by simp) h)

/-- the opcodes that are none -/
def nones : List Nat := [16, 17, 18, 19, 20, 21, 22, 23, 24, 29, 30, 31, 39, 44, 45, 47, 48, 63]

theorem none_of (o w : Nat) (ho : o ∈ nones) (hw : fl w 26 6 = o) : decQ w = noIns := by
  have h1 : nones.all (fun o => !(o == 0 || o == 28 || o == 1) && rowsTab.tail.all (fun r => !(slotQ r == (o, 0)))) = true := by kernel_rfl
  have h2 := List.all_eq_true.1 h1 o ho
  simp only [Bool.and_eq_true, Bool.not_eq_true', Bool.or_eq_false_iff, beq_eq_false_iff_ne, List.all_eq_true] at h2
  have h3 : atQ w = (o, 0) := by
    unfold atQ
    rw [hw, if_neg (by omega), if_neg (by omega)]
  have h4 : ofQ w = none := by
    unfold ofQ
    rw [List.find?_eq_none]
    intro r hr
    have := h2.2 r hr
    rw [h3]
    simpa using this
  rw [decQ, h4]

def nonesA : Array Value := (nones.map fun (o : Nat) => Value.int .u32 (o : Int)).toArray
theorem nonesA_at (k : Nat) (hk : k < 18) : nonesA[k]? = some (.int .u32 ((nones[k]'hk : Nat) : Int)) := by
  unfold nonesA
  rw [List.getElem?_toArray, List.getElem?_map, List.getElem?_eq_getElem hk]; rfl
theorem nones_lt (k : Nat) (hk : k < 18) : nones[k]'hk < 64 := by
  have h : nones.all (fun o => decide (o < 64)) = true := by kernel_rfl
  simpa using List.all_eq_true.1 h _ (List.getElem_mem hk)

def lo26 (w : Nat) : Nat := w % 67108864
theorem lo26_lt (w : Nat) : lo26 w < 67108864 := Nat.mod_lt _ (by decide)
theorem and26 (w : Nat) (hw : w < 2 ^ 32) : iand .u32 (w : Int) 67108863 = ((lo26 w : Nat) : Int) :=
  iand_mask .u32 26 (a := w) (c := 67108863) hw rfl (by decide)
theorem word_none (o w : Nat) (ho : o < 64) : IntKind.u32.wrap (ishl .u32 (o : Int) 26 + (lo26 w : Int)) = ((o * 67108864 + lo26 w : Nat) : Int) := by
  have h := lo26_lt w
  have e : ishl .u32 (o : Int) 26 = IntKind.u32.wrap ((o * 2 ^ 26 : Nat) : Int) := ishl_nat .u32 (a := o) (n := 26) (by decide)
  rw [e, wrap_u32_nat, Nat.mod_eq_of_lt (by omega), wU32 (by omega) (by omega)]
  omega
theorem fl_none (o w : Nat) (ho : o < 64) : fl (o * 67108864 + lo26 w) 26 6 = o := by
  have h := lo26_lt w
  unfold fl
  omega

def noneI (w : Nat) (m : Mem) (n : Nat) (env : Env) (m' : Mem) : Prop :=
  ∃ k, k ≤ 18 ∧ n = 18 - k ∧ elook env 3 = some (.int .u32 ((lo26 w : Nat) : Int)) ∧ elook env 8 = some (.slice (some ⟨m.top, 0, none⟩) 18 18) ∧ elook env 9 = some (.int .i64 18) ∧ elook env 10 = some (.int .i64 k) ∧
  m' = { base := m.get, n := m.top, loc := [.cells false 1 nonesA] }

set_option maxRecDepth 100000 in
theorem none_tc (w : Nat) (hw : w < 2 ^ 32) (m : Mem) : TC Try.prog 3 [.int .u32 w] m (fun v _ => v = .bool true) := by
  refine TC_fn mixed Try.func3 rfl Try.ntmps3 rfl (by decide) (by simp) ?_
  refine wpc_st fun K hK => ?_
  simp -dsimp
  refine hK _ _ ?_
  clear hK K
  refine wpc_st fun K hK => ?_
  simp -dsimp [and26 w hw]
  refine hK _ _ ?_
  clear hK K
  refine wpc_mid (fun env m' => elook env 3 = some (.int .u32 ((lo26 w : Nat) : Int)) ∧ m' = { base := m.get, n := m.top, loc := [.cells false 1 nonesA] }) ?_ ?_
  · simp -dsimp
    refine loop_by (noneI w m) 18 ?_ ?_
    · refine ⟨0, by decide, rfl, ?_⟩
      simp -dsimp
      kernel_rfl
    rintro n env m' ⟨k, hk, rfl, e3, e8, e9, e10, rfl⟩
    by_cases hk8 : k < 18
    · have hkk : (k : Int) < 18 := by omega
      have hlt := nones_lt k hk8
      have hl := lo26_lt w
      have hd := none_of _ _ (List.getElem_mem hk8) (fl_none (nones[k]'hk8) w hlt)
      simp -dsimp [e3, e8, e9, e10, hkk, nonesA_at k hk8]
      rw [word_none _ w hlt]
      refine dec_tc _ (by omega) _ _ ?_
      rw [hd]
      simp -dsimp [insV, noIns, e3, e8, e9, e10]
      refine ⟨18 - (k + 1), by omega, k + 1, by omega, rfl, ?_⟩
      simp -dsimp [e3, e8, e9, e10]
      exact wI64 (by omega) (by omega)
    · have hkk : ¬ (k : Int) < 18 := by omega
      simp -dsimp [e3, e8, e9, e10, hkk]
  rintro env m' ⟨e3, rfl⟩
  simp -dsimp [e3]
  refine place_tc _ 1 (by decide) (by decide) _ _ ?_
  simp -dsimp
  refine awake_tc _ _ ?_
  simp -dsimp
  exact fin_ret rfl (leave_pure (by simp) rfl)
end Go.Lm
/- calquelaw08.InsKinds. -/
set_option linter.unusedSimpArgs false
namespace Go.Lm
open Go.Proofs

def kcnt (k j : Nat) : Nat := ((List.range k).filter fun (op : Nat) => kindQ (op : Int) == (j : Int)).length
def cntL (k : Nat) : List Nat := (List.range 7).map (kcnt k)
def intsA (l : List Nat) : Array Value := (l.map fun (n : Nat) => Value.int .i64 (n : Int)).toArray
def cAt (k i : Nat) : Nat := (cntL k).getD i 0
def kn (k : Nat) : Nat := (kindQ k).toNat

theorem kinds_fin : (List.range 71).all (fun k => kindQ k == (kn k : Int) && decide (kn k < 7) && (cntL k).set (kn k) (cAt k (kn k) + 1) == cntL (k + 1) && decide (cAt k (kn k) ≤ 71)
    && ((kindQ k == 0) == ((nameQ k).data.toList == []))) = true := by kernel_rfl

theorem kinds_step {k : Nat} (hk : k < 71) : kindQ k = kn k ∧ kn k < 7 ∧ (cntL k).set (kn k) (cAt k (kn k) + 1) = cntL (k + 1) ∧ cAt k (kn k) ≤ 71 ∧
    (kindQ k == 0) = ((nameQ k).data.toList == []) := by
  have h := List.all_eq_true.1 kinds_fin k (List.mem_range.2 hk)
  simp only [Bool.and_eq_true, beq_iff_eq, decide_eq_true_eq] at h
  obtain ⟨⟨⟨⟨h1, h2⟩, h3⟩, h4⟩, h5⟩ := h
  exact ⟨h1, h2, h3, h4, h5⟩

theorem cntL_len (k : Nat) : (cntL k).length = 7 := by simp [cntL]

theorem intsA_at (l : List Nat) (i : Nat) (h : i < l.length) : (intsA l)[i]? = some (.int .i64 ((l.getD i 0 : Nat) : Int)) := by
  unfold intsA
  rw [List.getElem?_toArray, List.getElem?_map, List.getElem?_eq_getElem h, List.getD_eq_getElem?_getD, List.getElem?_eq_getElem h]; rfl
theorem intsA_set (l : List Nat) (i n : Nat) : (intsA l).setIfInBounds i (.int .i64 (n : Int)) = intsA (l.set i n) := by
  unfold intsA
  rw [List.setIfInBounds_toArray, List.map_set]
theorem intsA_size (l : List Nat) : (intsA l).size = l.length := by simp [intsA]

def kindsI (m : Mem) (n : Nat) (env : Env) (m' : Mem) : Prop :=
  ∃ k, k ≤ 71 ∧ n = 71 - k ∧ elook env 1 = some (.pointer (some ⟨m.top, 0, none⟩)) ∧ elook env 2 = some (.int .i64 k) ∧ m' = { base := m.get, n := m.top, loc := [.cells false 0 (intsA (cntL k))] }

set_option maxRecDepth 100000 in
theorem kinds_tc (m : Mem) : TC Try.prog 4 [] m (fun v _ => v = .bool true) := by
  refine TC_fn mixed Try.func4 rfl Try.ntmps4 rfl (by decide) (by simp) ?_
  refine wpc_st fun K hK => ?_
  simp -dsimp
  refine hK _ _ ?_
  clear hK K
  refine wpc_st fun K hK => ?_
  simp -dsimp
  refine hK _ _ ?_
  clear hK K
  refine wpc_mid (fun env m' => elook env 1 = some (.pointer (some ⟨m.top, 0, none⟩)) ∧ m' = { base := m.get, n := m.top, loc := [.cells false 0 (intsA (cntL 71))] }) ?_ ?_
  · refine wpc_st fun K hK => ?_
    simp -dsimp
    refine hK _ _ ?_
    clear hK K
    simp -dsimp
    refine loop_by (kindsI m) 71 ?_ ?_
    · refine ⟨0, by decide, rfl, ?_⟩
      simp -dsimp
      kernel_rfl
    rintro n env m' ⟨k, hk, rfl, e1, e2, rfl⟩
    by_cases hk8 : k < 71
    · have hkk : (k : Int) ≤ 70 := by omega
      obtain ⟨h1, h2, h3, h4, h5⟩ := kinds_step hk8
      have h6 : ¬ (kn k : Int) < 0 := by omega
      have h7 : ¬ 6 < (kn k : Int) := by omega
      have h8 : (kn k : Int) < 7 := by omega
      have h9 : kn k + 1 ≤ 7 := by omega
      have hat : (intsA (cntL k))[kn k]? = some (.int .i64 ((cAt k (kn k) : Nat) : Int)) := intsA_at (cntL k) (kn k) (by rw [cntL_len]; exact h2)
      have hw : IntKind.i64.wrap (((cAt k (kn k) : Nat) : Int) + 1) = ((cAt k (kn k) + 1 : Nat) : Int) := wI64 (by omega) (by omega)
      have hz : (!(kindQ k == 0) == ((nameQ k).toList == ByteArray.toList ⟨#[]⟩)) = false := by
        rw [h5, Go.ByteArray.toList_eq, Go.ByteArray.toList_eq]; simp
      simp -dsimp [e1, e2, hkk]
      refine kind_tc _ _ _ ?_
      rw [h1] at hz ⊢
      simp -dsimp [e1, e2, h6, h7, h8]
      refine name_tc _ _ _ ?_
      simp -dsimp [e1, e2, h8, h9, hat, cntL_len, intsA_size]
      have hq : ((kn k : Int) == 0) = (nameQ (k : Int)).toList.isEmpty := by
        rw [← h1, h5, Go.ByteArray.toList_eq]
        cases (nameQ (k : Int)).data.toList <;> rfl
      rw [if_pos hq, hw, intsA_set, h3]
      refine ⟨71 - (k + 1), by omega, k + 1, by omega, rfl, ?_⟩
      simp -dsimp [e1, e2]
      exact wI64 (by omega) (by omega)
    · have hkk : ¬ (k : Int) ≤ 70 := by omega
      have hk9 : k = 71 := by omega
      simp -dsimp [e1, e2, hkk, hk9]
  rintro env m' ⟨e1, rfl⟩
  have hf : (intsA (cntL 71)) = #[.int .i64 2, .int .i64 34, .int .i64 12, .int .i64 2, .int .i64 7, .int .i64 5, .int .i64 9] := by kernel_rfl
  rw [hf]
  simp -dsimp [e1]

  refine awake_tc _ _ ?_
  simp -dsimp
  exact fin_ret rfl (leave_pure (by simp) rfl)
end Go.Lm
