/- calqueref01, calqueref08: contracts. -/
import Derived.Test.YtfgcnehjdaiipaaC4d
set_option linter.unusedSimpArgs false
set_option linter.unusedVariables false
namespace Go.Lm
open Go.Proofs

theorem rField_tc (w : Nat) (hw : w < 2 ^ 32) (at_ n : Nat) (ha : at_ ≤ 31) (hn : at_ + n ≤ 32) (m : Mem) (Q) (h : Q (.int .u32 ((fl w at_ n : Nat) : Int)) m) :
   TC Try.prog 131 [.int .u32 w, .int .i64 at_, .int .i64 n] m Q := by
  refine TC_fn mixed Try.func131 rfl Try.ntmps131 rfl (by decide) (by simp) ?_
  have h3 : ((if 0 < at_ then (at_ : Int) else 0)) = at_ := by split <;> omega
  have h5 : ((if 0 < n then (n : Int) else 0)) = n := by split <;> omega
  have h6 : IntKind.i64.wrap (32 - (at_ : Int)) = 32 - (at_ : Int) := wI64 (by omega) (by omega)
  have h1 : ¬ (31 : Int) < at_ := by omega
  have h4 : ¬ (32 - (at_ : Int) < n) := by omega
  have h7 : IntKind.u64.wrap (at_ : Int) = at_ := wU64 (by omega) (by omega)
  have h8 : IntKind.u64.wrap (n : Int) = n := wU64 (by omega) (by omega)
  have h9 : ¬ (at_ : Int) < 0 := by omega
  have h10 : ¬ (n : Int) < 0 := by omega
  simp -dsimp [h1, h4, h6, h7, h8, h9, h10]
  rw [fld_val w hw at_ n ha (by omega)]
  exact fin_ret rfl (leave_pure (by simp) h)

theorem rSext16_tc (w : Nat) (m : Mem) (Q) (h : Q (.int .u32 ((sxt 16 w : Nat) : Int)) m) :
   TC Try.prog 132 [.int .u32 w, .int .i64 16] m Q := by
  refine TC_fn mixed Try.func132 rfl Try.ntmps132 rfl (by decide) (by simp) ?_
  simp -dsimp
  rw [sxt16_val w]
  exact fin_ret rfl (leave_pure (by simp) h)

/-- the document's table: number, form, opcode, field, name -/
def refTab : List (Nat × Nat × Nat × Nat × ByteArray) := [(1, 68, 0, 33, ⟨#[97, 100, 100, 117]⟩),
  (2, 68, 0, 35, ⟨#[115, 117, 98, 117]⟩),
  (3, 68, 0, 36, ⟨#[97, 110, 100]⟩),
  (4, 68, 0, 37, ⟨#[111, 114]⟩),
  (5, 68, 0, 38, ⟨#[120, 111, 114]⟩),
  (6, 68, 0, 39, ⟨#[110, 111, 114]⟩),
  (7, 68, 0, 42, ⟨#[115, 108, 116]⟩),
  (8, 68, 0, 43, ⟨#[115, 108, 116, 117]⟩),
  (9, 68, 0, 32, ⟨#[97, 100, 100]⟩),
  (10, 68, 0, 34, ⟨#[115, 117, 98]⟩),
  (11, 68, 0, 4, ⟨#[115, 108, 108, 118]⟩),
  (12, 68, 0, 6, ⟨#[115, 114, 108, 118]⟩),
  (13, 68, 0, 7, ⟨#[115, 114, 97, 118]⟩),
  (14, 68, 0, 10, ⟨#[109, 111, 118, 122]⟩),
  (15, 68, 0, 11, ⟨#[109, 111, 118, 110]⟩),
  (16, 72, 0, 0, ⟨#[115, 108, 108]⟩),
  (17, 72, 0, 2, ⟨#[115, 114, 108]⟩),
  (18, 72, 0, 3, ⟨#[115, 114, 97]⟩),
  (19, 77, 0, 24, ⟨#[109, 117, 108, 116]⟩),
  (20, 77, 0, 25, ⟨#[109, 117, 108, 116, 117]⟩),
  (21, 77, 0, 26, ⟨#[100, 105, 118]⟩),
  (22, 77, 0, 27, ⟨#[100, 105, 118, 117]⟩),
  (23, 70, 0, 16, ⟨#[109, 102, 104, 105]⟩),
  (24, 70, 0, 18, ⟨#[109, 102, 108, 111]⟩),
  (25, 76, 0, 17, ⟨#[109, 116, 104, 105]⟩),
  (26, 76, 0, 19, ⟨#[109, 116, 108, 111]⟩),
  (27, 76, 0, 8, ⟨#[106, 114]⟩),
  (28, 71, 0, 9, ⟨#[106, 97, 108, 114]⟩),
  (29, 84, 0, 48, ⟨#[116, 103, 101]⟩),
  (30, 84, 0, 49, ⟨#[116, 103, 101, 117]⟩),
  (31, 84, 0, 50, ⟨#[116, 108, 116]⟩),
  (32, 84, 0, 51, ⟨#[116, 108, 116, 117]⟩),
  (33, 84, 0, 52, ⟨#[116, 101, 113]⟩),
  (34, 84, 0, 54, ⟨#[116, 110, 101]⟩),
  (35, 67, 0, 12, ⟨#[115, 121, 115, 99, 97, 108, 108]⟩),
  (36, 67, 0, 13, ⟨#[98, 114, 101, 97, 107]⟩),
  (37, 88, 28, 2, ⟨#[109, 117, 108]⟩),
  (38, 89, 28, 32, ⟨#[99, 108, 122]⟩),
  (39, 89, 28, 33, ⟨#[99, 108, 111]⟩),
  (40, 73, 9, 0, ⟨#[97, 100, 100, 105, 117]⟩),
  (41, 73, 8, 0, ⟨#[97, 100, 100, 105]⟩),
  (42, 73, 10, 0, ⟨#[115, 108, 116, 105]⟩),
  (43, 73, 11, 0, ⟨#[115, 108, 116, 105, 117]⟩),
  (44, 85, 12, 0, ⟨#[97, 110, 100, 105]⟩),
  (45, 85, 13, 0, ⟨#[111, 114, 105]⟩),
  (46, 85, 14, 0, ⟨#[120, 111, 114, 105]⟩),
  (47, 86, 15, 0, ⟨#[108, 117, 105]⟩),
  (48, 80, 32, 0, ⟨#[108, 98]⟩),
  (49, 80, 33, 0, ⟨#[108, 104]⟩),
  (50, 80, 34, 0, ⟨#[108, 119, 108]⟩),
  (51, 80, 35, 0, ⟨#[108, 119]⟩),
  (52, 80, 36, 0, ⟨#[108, 98, 117]⟩),
  (53, 80, 37, 0, ⟨#[108, 104, 117]⟩),
  (54, 80, 38, 0, ⟨#[108, 119, 114]⟩),
  (55, 80, 40, 0, ⟨#[115, 98]⟩),
  (56, 80, 41, 0, ⟨#[115, 104]⟩),
  (57, 80, 42, 0, ⟨#[115, 119, 108]⟩),
  (58, 80, 43, 0, ⟨#[115, 119]⟩),
  (59, 80, 46, 0, ⟨#[115, 119, 114]⟩),
  (60, 66, 4, 0, ⟨#[98, 101, 113]⟩),
  (61, 66, 5, 0, ⟨#[98, 110, 101]⟩),
  (62, 90, 6, 0, ⟨#[98, 108, 101, 122]⟩),
  (63, 90, 7, 0, ⟨#[98, 103, 116, 122]⟩),
  (64, 82, 1, 0, ⟨#[98, 108, 116, 122]⟩),
  (65, 82, 1, 1, ⟨#[98, 103, 101, 122]⟩),
  (66, 82, 1, 16, ⟨#[98, 108, 116, 122, 97, 108]⟩),
  (67, 82, 1, 17, ⟨#[98, 103, 101, 122, 97, 108]⟩),
  (68, 74, 2, 0, ⟨#[106]⟩),
  (69, 74, 3, 0, ⟨#[106, 97, 108]⟩)]

abbrev RRow := Nat × Nat × Nat × Nat × ByteArray
def rrowVal (r : RRow) : List Value := [.int .i64 r.1, .int .u8 r.2.1, .int .i64 r.2.2.1, .int .i64 r.2.2.2.1, .string r.2.2.2.2]
def refA : Array Value := (refTab.flatMap rrowVal).toArray
@[simp] theorem refA_size : refA.size = 345 := by kernel_rfl

set_option maxRecDepth 100000 in
theorem table_tc (m : Mem) (Q) (h : Q (.agg refA) m) : TC Try.prog 71 [] m Q := by
  refine TC_fn mixed Try.func71 rfl Try.ntmps71 rfl (by decide) (by simp) ?_
  refine wpc_st fun K hK => ?_
  simp -dsimp
  refine hK _ _ ?_
  clear hK K
  refine wpc_st fun K hK => ?_
  refine wpo_table_store 70 0 117 (.agg refA) (ptr0 m.top) { val := undef, mods := [(m.top, .cells false 0 refA)] } (by kernel_rfl) rfl (by kernel_rfl) (by simp [refA_size]) ?_
  intro env' h1 h2
  have h0 := h2 0 (by kernel_rfl)
  clear h2
  refine hK _ _ ?_
  simp -dsimp
  refine fin_ret (v := .agg refA) ?_ (leave_pure (okV_gnd (by kernel_rfl)) h)
  simp [h0]
end Go.Lm
