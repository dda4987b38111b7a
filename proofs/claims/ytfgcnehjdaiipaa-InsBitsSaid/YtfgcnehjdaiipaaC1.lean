/- bits: contracts. -/
import Derived.Test.YtfgcnehjdaiipaaL23
import Derived.Test.YtfgcnehjdaiipaaTA
namespace Go.Lm
open Go.Proofs

/-- n bits of a number, from a place -/
def fl (w at_ n : Nat) : Nat := w / 2 ^ at_ % 2 ^ n

theorem fld_val (w : Nat) (hw : w < 2 ^ 32) (at_ n : Nat) (ha : at_ ≤ 31) (hn : n ≤ 32) :
    IntKind.u32.wrap (iand .u64 (ishr .u64 (IntKind.u64.wrap (w : Int)) at_) (IntKind.u64.wrap (ishl .u64 1 n - 1))) = ((fl w at_ n : Nat) : Int) := by
  unfold fl
  have hp : 2 ^ n ≤ 2 ^ 32 := Nat.pow_le_pow_right (by omega) hn
  have hp0 : 0 < 2 ^ n := Nat.two_pow_pos n
  have hd : w / 2 ^ at_ ≤ w := Nat.div_le_self _ _
  have hm : w / 2 ^ at_ % 2 ^ n ≤ w / 2 ^ at_ := Nat.mod_le _ _
  rw [wrap_u64_nat, Nat.mod_eq_of_lt (by omega), ishr_nat .u64 (by simp; omega), show (1 : Int) = ((1 : Nat) : Int) from rfl, ishl_nat .u64 (by simp; omega), wrap_u64_nat, Nat.one_mul,
    Nat.mod_eq_of_lt (by omega), show ((2 ^ n : Nat) : Int) - ((1 : Nat) : Int) = ((2 ^ n - 1 : Nat) : Int) by omega, wrap_u64_nat, Nat.mod_eq_of_lt (by omega),
    iand_mask .u64 n (by simp only [nb]; omega) rfl (by simp only [nb]; omega), wrap_u32_nat, Nat.mod_eq_of_lt (by omega)]

theorem Field_tc (w : Nat) (hw : w < 2 ^ 32) (at_ n : Nat) (ha : at_ ≤ 31) (hn : at_ + n ≤ 32) (m : Mem) (Q) (h : Q (.int .u32 ((fl w at_ n : Nat) : Int)) m) :
   TC Try.prog 65 [.int .u32 w, .int .i64 at_, .int .i64 n] m Q := by
  refine TC_fn mixed Try.func65 rfl Try.ntmps65 rfl (by decide) (by simp) ?_
  have h1 : ¬ (31 : Int) < at_ := by omega
  have h3 : ((if 0 < at_ then (at_ : Int) else 0)) = at_ := by split <;> omega
  have h4 : ¬ (32 - (at_ : Int) < n) := by omega
  have h5 : ((if 0 < n then (n : Int) else 0)) = n := by split <;> omega
  simp (disch := omega) [h1, h3, h4, h5, wI64]
  refine draw_by 7 [0, 1, 0, 7, 0, 16, 48, 127, 255, 511] (by kernel_rfl) (by kernel_rfl) ?_
  simp
  rw [fld_val w hw at_ n ha (by omega)]
  exact fin_ret rfl (leave_pure (by simp) h)

/-- a number of `n` bits, with its sign -/
def sxt (n v : Nat) : Nat := let x := v % 2 ^ n; if x < 2 ^ (n - 1) then x else 2 ^ 32 - 2 ^ n + x

theorem sxt16_val (w : Nat) : IntKind.u32.wrap (ishr .i32 (IntKind.i32.wrap (ishl .u32 (w : Int) 16)) 16) = ((sxt 16 w : Nat) : Int) := by
  have e1 : ishl .u32 (w : Int) 16 = IntKind.u32.wrap ((w : Int) * 65536) := rfl
  have e2 (x : Int) : ishr .i32 x 16 = x.fdiv 65536 := rfl
  rw [e1, e2]
  rw [Int.fdiv_eq_ediv_of_nonneg _ (by omega)]
  simp [IntKind.wrap, IntKind.bits, IntKind.signed, sxt]
  split <;> split <;> omega

theorem Sext16_tc (w : Nat) (m : Mem) (Q) (h : Q (.int .u32 ((sxt 16 w : Nat) : Int)) m) :
   TC Try.prog 66 [.int .u32 w, .int .i64 16] m Q := by
  refine TC_fn mixed Try.func66 rfl Try.ntmps66 rfl (by decide) (by simp) ?_
  simp
  rw [sxt16_val w]
  exact fin_ret rfl (leave_pure (by simp) h)

/-- the table: number, form, name, field -/
def rowsTab : List (Nat × Nat × ByteArray × Nat) := [(0, 0, .empty, 0),
  (1, 0, ⟨#[97, 100, 100, 117]⟩, 33),
  (2, 0, ⟨#[115, 117, 98, 117]⟩, 35),
  (3, 0, ⟨#[97, 110, 100]⟩, 36),
  (4, 0, ⟨#[111, 114]⟩, 37),
  (5, 0, ⟨#[120, 111, 114]⟩, 38),
  (6, 0, ⟨#[110, 111, 114]⟩, 39),
  (7, 0, ⟨#[115, 108, 116]⟩, 42),
  (8, 0, ⟨#[115, 108, 116, 117]⟩, 43),
  (9, 0, ⟨#[97, 100, 100]⟩, 32),
  (10, 0, ⟨#[115, 117, 98]⟩, 34),
  (11, 0, ⟨#[115, 108, 108, 118]⟩, 4),
  (12, 0, ⟨#[115, 114, 108, 118]⟩, 6),
  (13, 0, ⟨#[115, 114, 97, 118]⟩, 7),
  (14, 0, ⟨#[109, 111, 118, 122]⟩, 10),
  (15, 0, ⟨#[109, 111, 118, 110]⟩, 11),
  (16, 1, ⟨#[115, 108, 108]⟩, 0),
  (17, 1, ⟨#[115, 114, 108]⟩, 2),
  (18, 1, ⟨#[115, 114, 97]⟩, 3),
  (19, 2, ⟨#[109, 117, 108, 116]⟩, 24),
  (20, 2, ⟨#[109, 117, 108, 116, 117]⟩, 25),
  (21, 2, ⟨#[100, 105, 118]⟩, 26),
  (22, 2, ⟨#[100, 105, 118, 117]⟩, 27),
  (23, 3, ⟨#[109, 102, 104, 105]⟩, 16),
  (24, 3, ⟨#[109, 102, 108, 111]⟩, 18),
  (25, 4, ⟨#[109, 116, 104, 105]⟩, 17),
  (26, 4, ⟨#[109, 116, 108, 111]⟩, 19),
  (27, 4, ⟨#[106, 114]⟩, 8),
  (28, 5, ⟨#[106, 97, 108, 114]⟩, 9),
  (29, 6, ⟨#[116, 103, 101]⟩, 48),
  (30, 6, ⟨#[116, 103, 101, 117]⟩, 49),
  (31, 6, ⟨#[116, 108, 116]⟩, 50),
  (32, 6, ⟨#[116, 108, 116, 117]⟩, 51),
  (33, 6, ⟨#[116, 101, 113]⟩, 52),
  (34, 6, ⟨#[116, 110, 101]⟩, 54),
  (35, 7, ⟨#[115, 121, 115, 99, 97, 108, 108]⟩, 12),
  (36, 7, ⟨#[98, 114, 101, 97, 107]⟩, 13),
  (37, 8, ⟨#[109, 117, 108]⟩, 2),
  (38, 9, ⟨#[99, 108, 122]⟩, 32),
  (39, 9, ⟨#[99, 108, 111]⟩, 33),
  (40, 10, ⟨#[97, 100, 100, 105, 117]⟩, 9),
  (41, 10, ⟨#[97, 100, 100, 105]⟩, 8),
  (42, 10, ⟨#[115, 108, 116, 105]⟩, 10),
  (43, 10, ⟨#[115, 108, 116, 105, 117]⟩, 11),
  (44, 11, ⟨#[97, 110, 100, 105]⟩, 12),
  (45, 11, ⟨#[111, 114, 105]⟩, 13),
  (46, 11, ⟨#[120, 111, 114, 105]⟩, 14),
  (47, 12, ⟨#[108, 117, 105]⟩, 15),
  (48, 13, ⟨#[108, 98]⟩, 32),
  (49, 13, ⟨#[108, 104]⟩, 33),
  (50, 13, ⟨#[108, 119, 108]⟩, 34),
  (51, 13, ⟨#[108, 119]⟩, 35),
  (52, 13, ⟨#[108, 98, 117]⟩, 36),
  (53, 13, ⟨#[108, 104, 117]⟩, 37),
  (54, 13, ⟨#[108, 119, 114]⟩, 38),
  (55, 13, ⟨#[115, 98]⟩, 40),
  (56, 13, ⟨#[115, 104]⟩, 41),
  (57, 13, ⟨#[115, 119, 108]⟩, 42),
  (58, 13, ⟨#[115, 119]⟩, 43),
  (59, 13, ⟨#[115, 119, 114]⟩, 46),
  (60, 14, ⟨#[98, 101, 113]⟩, 4),
  (61, 14, ⟨#[98, 110, 101]⟩, 5),
  (62, 15, ⟨#[98, 108, 101, 122]⟩, 6),
  (63, 15, ⟨#[98, 103, 116, 122]⟩, 7),
  (64, 16, ⟨#[98, 108, 116, 122]⟩, 0),
  (65, 16, ⟨#[98, 103, 101, 122]⟩, 1),
  (66, 16, ⟨#[98, 108, 116, 122, 97, 108]⟩, 16),
  (67, 16, ⟨#[98, 103, 101, 122, 97, 108]⟩, 17),
  (68, 17, ⟨#[106]⟩, 2),
  (69, 17, ⟨#[106, 97, 108]⟩, 3)]

/-- a row as it stands in memory -/
def rowVal (r : Nat × Nat × ByteArray × Nat) : List Value := [.int .i64 r.1, .int .i64 r.2.1, .string r.2.2.1, .int .u32 r.2.2.2]
def rowsA : Array Value := (rowsTab.flatMap rowVal).toArray
@[simp] theorem rowsA_size : rowsA.size = 280 := by kernel_rfl

set_option maxRecDepth 100000 in
theorem rows_tc (m : Mem) (Q) (h : Q (.agg rowsA) m) : TC Try.prog 68 [] m Q := by
  refine TC_fn mixed Try.func68 rfl Try.ntmps68 rfl (by decide) (by simp) ?_
  refine wpc_step _ rfl fun K hK => ?_
  simp
  refine hK _ _ ?_
  clear hK K
  refine wpc_step _ rfl fun K hK => ?_
  refine wpo_table_store 71 0 112 (.agg rowsA) (ptr0 m.top) { val := undef, mods := [(m.top, .cells false 0 rowsA)] } (by kernel_rfl) rfl (by kernel_rfl) (by simp [rowsA_size]) ?_
  intro env' h1 h2
  have h0 := h2 0 (by kernel_rfl)
  clear h2
  refine hK _ _ ?_
  simp
  refine fin_ret (v := .agg rowsA) ?_ (leave_pure (okV_gnd (by kernel_rfl)) h)
  simp [h0]
end Go.Lm
