/- calqueref08.word. -/
import Derived.Test.YtfgcnehjdaiipaaC10
set_option linter.unusedSimpArgs false
set_option linter.unusedVariables false
namespace Go.Lm
open Go.Proofs

/-- an instruction whose fields are any whole numbers -/
structure InsZ where
  op : Int
  s : Int
  t : Int
  d : Int
  a : Int
  imm : Nat

def inI64 (x : Int) : Prop := -9223372036854775808 ≤ x ∧ x ≤ 9223372036854775807
structure InsZ.ok (i : InsZ) : Prop where
  op : inI64 i.op
  s : inI64 i.s
  t : inI64 i.t
  d : inI64 i.d
  a : inI64 i.a
  imm : i.imm < 2 ^ 32
def insZV (i : InsZ) : Value := .agg #[.int .i64 i.op, .int .i64 i.s, .int .i64 i.t, .int .i64 i.d, .int .i64 i.a, .int .u32 i.imm]

/-- the lowest five bits, k places up -/
def sh (x : Int) (k : Nat) : Nat := (x % 32).toNat * 2 ^ k
theorem sh_lt (x : Int) (k : Nat) : sh x k < 32 * 2 ^ k := by
  unfold sh
  have : (x % 32).toNat < 32 := by omega
  exact Nat.mul_lt_mul_of_pos_right this (Nat.two_pow_pos k)

theorem sh_le (x : Int) (k : Nat) : sh x k ≤ 31 * 2 ^ k := by
  unfold sh
  have : (x % 32).toNat ≤ 31 := by omega
  exact Nat.mul_le_mul_right _ this

theorem and31 (x : Int) : iand .i64 x 31 = ((sh x 0 : Nat) : Int) := by
  unfold iand sh
  have e1 : (BitVec.ofInt IntKind.i64.bits x).toNat = (x % 18446744073709551616).toNat := by
    rw [BitVec.toNat_ofInt]; rfl
  have e2 : (BitVec.ofInt IntKind.i64.bits 31).toNat = 2 ^ 5 - 1 := rfl
  rw [BitVec.toNat_and, e1, e2, Nat.and_two_pow_sub_one_eq_mod]
  have : (x % 18446744073709551616).toNat % 2 ^ 5 = (x % 32).toNat * 2 ^ 0 := by omega
  rw [this]
  exact wI64 (by omega) (by omega)
theorem wrap_sh0 (x : Int) : IntKind.u32.wrap ((sh x 0 : Nat) : Int) = ((sh x 0 : Nat) : Int) := by
  have := sh_lt x 0
  exact wU32 (by omega) (by omega)
theorem shl_sh (x : Int) (k : Nat) (hk : k ≤ 26) : ishl .u32 ((sh x 0 : Nat) : Int) ((k : Nat) : Int) = ((sh x k : Nat) : Int) := by
  rw [ishl_nat .u32 (by simp; omega), wrap_u32_nat]
  have h1 : sh x 0 * 2 ^ k = sh x k := by unfold sh; rw [Nat.pow_zero, Nat.mul_one]
  have h2 := sh_lt x k
  have h3 : 2 ^ k ≤ 2 ^ 26 := Nat.pow_le_pow_right (by decide) hk
  rw [h1, Nat.mod_eq_of_lt (by omega)]
theorem shl21 (x : Int) : ishl .u32 ((sh x 0 : Nat) : Int) 21 = ((sh x 21 : Nat) : Int) := shl_sh x 21 (by decide)
theorem shl16 (x : Int) : ishl .u32 ((sh x 0 : Nat) : Int) 16 = ((sh x 16 : Nat) : Int) := shl_sh x 16 (by decide)
theorem shl11 (x : Int) : ishl .u32 ((sh x 0 : Nat) : Int) 11 = ((sh x 11 : Nat) : Int) := shl_sh x 11 (by decide)
theorem shl6 (x : Int) : ishl .u32 ((sh x 0 : Nat) : Int) 6 = ((sh x 6 : Nat) : Int) := shl_sh x 6 (by decide)


theorem shr2 (x : Nat) : ishr .u32 (x : Int) 2 = ((x / 4 : Nat) : Int) := ishr_nat .u32 (a := x) (n := 2) (by decide)
theorem wrapU (x : Int) : IntKind.u32.wrap x = x % 4294967296 := by simp [IntKind.wrap, IntKind.bits, IntKind.signed]
theorem shlU (x : Int) (k : Nat) (h : k ≤ 32 := by decide) : ishl .u32 x (k : Int) = (x * 2 ^ k) % 4294967296 := by
  unfold ishl
  rw [wrapU, Int.toNat_natCast, show min k IntKind.u32.bits = k from Nat.min_eq_left h]
theorem shl26U (x : Int) : ishl .u32 x 26 = (x * 67108864) % 4294967296 := shlU x 26
theorem shl16U (x : Int) : ishl .u32 x 16 = (x * 65536) % 4294967296 := shlU x 16
theorem shl6U (x : Int) : ishl .u32 x 6 = (x * 64) % 4294967296 := shlU x 6
theorem maskU (x n : Nat) (hx : x < 2 ^ 32) (hn : n ≤ 32 := by decide) : iand .u32 (x : Int) ((2 ^ n - 1 : Nat) : Int) = ((x % 2 ^ n : Nat) : Int) := iand_mask .u32 n hx rfl hn
theorem mask10 (x : Nat) (hx : x < 2 ^ 32) : iand .u32 (x : Int) 1023 = ((x % 1024 : Nat) : Int) := maskU x 10 hx
theorem mask20 (x : Nat) (hx : x < 2 ^ 32) : iand .u32 (x : Int) 1048575 = ((x % 1048576 : Nat) : Int) := maskU x 20 hx
theorem mask16 (x : Nat) (hx : x < 2 ^ 32) : iand .u32 (x : Int) 65535 = ((x % 65536 : Nat) : Int) := maskU x 16 hx
theorem mask26 (x : Nat) (hx : x < 2 ^ 32) : iand .u32 (x : Int) 67108863 = ((x % 67108864 : Nat) : Int) := maskU x 26 hx

/-- a form's word, by the fields of an instruction -/
def wordQ (form O F : Nat) (i : InsZ) : Nat :=
  match form with
  | 84 => O * 67108864 + sh i.s 21 + sh i.t 16 + (i.imm % 1024) * 64 + F
  | 67 => O * 67108864 + (i.imm % 1048576) * 64 + F
  | 73 => O * 67108864 + sh i.s 21 + sh i.t 16 + (i.imm % 65536)
  | 85 => O * 67108864 + sh i.s 21 + sh i.t 16 + (i.imm % 65536)
  | 86 => O * 67108864 + sh i.s 21 + sh i.t 16 + (i.imm % 65536)
  | 80 => O * 67108864 + sh i.s 21 + sh i.t 16 + (i.imm % 65536)
  | 66 => O * 67108864 + sh i.s 21 + sh i.t 16 + (i.imm / 4 % 65536)
  | 90 => O * 67108864 + sh i.s 21 + sh i.t 16 + (i.imm / 4 % 65536)
  | 82 => O * 67108864 + sh i.s 21 + F * 65536 + (i.imm / 4 % 65536)
  | 74 => O * 67108864 + (i.imm / 4 % 67108864)
  | _ => O * 67108864 + sh i.s 21 + sh i.t 16 + sh i.d 11 + sh i.a 6 + F

set_option maxRecDepth 100000 in
set_option maxHeartbeats 4000000 in
theorem word_84 (i : InsZ) (hi : i.imm < 2 ^ 32) (op O F : Nat) (hO : O < 64) (hF : F < 64) (nm : ByteArray) (m : Mem) (Q) (h : Q (.int .u32 ((wordQ 84 O F i : Nat) : Int)) m) : TC Try.prog 72 [rrowV (op, 84, O, F, nm), insZV i] m Q := by
  refine TC_fn mixed Try.func72 rfl Try.ntmps72 rfl (by decide) (by simp) ?_
  refine wpc_st fun K hK => ?_
  simp -dsimp [rrowV, rrowVal, insZV]
  refine hK _ _ ?_
  clear hK K
  refine wpc_st fun K hK => ?_
  simp -dsimp
  refine hK _ _ ?_
  clear hK K
  refine wpc_sq fun K hK => ?_
  simp -dsimp
  refine draw_go 23 [0, 1, 3, 7, 15, 0, 32, 96, 224, 480, 0, 1024, 3072, 7168, 15360, 0, 32768, 98304, 229376, 491520, 31, 1049599, 3178495, 8388607] (by kernel_rfl) (by kernel_rfl) ?_
  simp -dsimp [and31, wrap_sh0, shl21, shl16, shl11, shl6]
  refine hK _ _ ?_
  clear hK K
  refine env_cut fun env he => ?_
  have e3 := he 3
  have e2 := he 2
  have e5 := he 5
  have e6 := he 6
  have e7 := he 7
  have e8 := he 8
  have e9 := he 9
  clear he
  simp -dsimp at e2 e3 e5 e6 e7 e8 e9
  have key : ∀ x : Int, x = ((O * 67108864 + sh i.s 21 + sh i.t 16 + (i.imm % 1024) * 64 + F : Nat) : Int) → Q (.int .u32 x) m := fun x e => by rw [e]; exact h
  have bs := sh_le i.s 21
  have bt := sh_le i.t 16
  have bd := sh_le i.d 11
  have ba := sh_le i.a 6
  have hi4 : i.imm / 4 < 2 ^ 32 := by omega
  simp -dsimp [e2, e3, e5, e6, e7, e8, e9]
  refine fin_ret rfl (leave_pure (by simp) (key _ ?_))
  simp only [shr2, mask10 _ hi, mask20 _ hi, mask16 _ hi, mask16 _ hi4, mask26 _ hi4, shl26U, shl16U, shl6U, wrapU]
  omega

set_option maxRecDepth 100000 in
set_option maxHeartbeats 4000000 in
theorem word_67 (i : InsZ) (hi : i.imm < 2 ^ 32) (op O F : Nat) (hO : O < 64) (hF : F < 64) (nm : ByteArray) (m : Mem) (Q) (h : Q (.int .u32 ((wordQ 67 O F i : Nat) : Int)) m) : TC Try.prog 72 [rrowV (op, 67, O, F, nm), insZV i] m Q := by
  refine TC_fn mixed Try.func72 rfl Try.ntmps72 rfl (by decide) (by simp) ?_
  refine wpc_st fun K hK => ?_
  simp -dsimp [rrowV, rrowVal, insZV]
  refine hK _ _ ?_
  clear hK K
  refine wpc_st fun K hK => ?_
  simp -dsimp
  refine hK _ _ ?_
  clear hK K
  refine wpc_sq fun K hK => ?_
  simp -dsimp
  refine draw_go 23 [0, 1, 3, 7, 15, 0, 32, 96, 224, 480, 0, 1024, 3072, 7168, 15360, 0, 32768, 98304, 229376, 491520, 31, 1049599, 3178495, 8388607] (by kernel_rfl) (by kernel_rfl) ?_
  simp -dsimp [and31, wrap_sh0, shl21, shl16, shl11, shl6]
  refine hK _ _ ?_
  clear hK K
  refine env_cut fun env he => ?_
  have e3 := he 3
  have e2 := he 2
  have e5 := he 5
  have e6 := he 6
  have e7 := he 7
  have e8 := he 8
  have e9 := he 9
  clear he
  simp -dsimp at e2 e3 e5 e6 e7 e8 e9
  have key : ∀ x : Int, x = ((O * 67108864 + (i.imm % 1048576) * 64 + F : Nat) : Int) → Q (.int .u32 x) m := fun x e => by rw [e]; exact h
  have bs := sh_le i.s 21
  have bt := sh_le i.t 16
  have bd := sh_le i.d 11
  have ba := sh_le i.a 6
  have hi4 : i.imm / 4 < 2 ^ 32 := by omega
  simp -dsimp [e2, e3, e5, e6, e7, e8, e9]
  refine fin_ret rfl (leave_pure (by simp) (key _ ?_))
  simp only [shr2, mask10 _ hi, mask20 _ hi, mask16 _ hi, mask16 _ hi4, mask26 _ hi4, shl26U, shl16U, shl6U, wrapU]
  omega

set_option maxRecDepth 100000 in
set_option maxHeartbeats 4000000 in
theorem word_73 (i : InsZ) (hi : i.imm < 2 ^ 32) (op O F : Nat) (hO : O < 64) (hF : F < 64) (nm : ByteArray) (m : Mem) (Q) (h : Q (.int .u32 ((wordQ 73 O F i : Nat) : Int)) m) : TC Try.prog 72 [rrowV (op, 73, O, F, nm), insZV i] m Q := by
  refine TC_fn mixed Try.func72 rfl Try.ntmps72 rfl (by decide) (by simp) ?_
  refine wpc_st fun K hK => ?_
  simp -dsimp [rrowV, rrowVal, insZV]
  refine hK _ _ ?_
  clear hK K
  refine wpc_st fun K hK => ?_
  simp -dsimp
  refine hK _ _ ?_
  clear hK K
  refine wpc_sq fun K hK => ?_
  simp -dsimp
  refine draw_go 23 [0, 1, 3, 7, 15, 0, 32, 96, 224, 480, 0, 1024, 3072, 7168, 15360, 0, 32768, 98304, 229376, 491520, 31, 1049599, 3178495, 8388607] (by kernel_rfl) (by kernel_rfl) ?_
  simp -dsimp [and31, wrap_sh0, shl21, shl16, shl11, shl6]
  refine hK _ _ ?_
  clear hK K
  refine env_cut fun env he => ?_
  have e3 := he 3
  have e2 := he 2
  have e5 := he 5
  have e6 := he 6
  have e7 := he 7
  have e8 := he 8
  have e9 := he 9
  clear he
  simp -dsimp at e2 e3 e5 e6 e7 e8 e9
  have key : ∀ x : Int, x = ((O * 67108864 + sh i.s 21 + sh i.t 16 + (i.imm % 65536) : Nat) : Int) → Q (.int .u32 x) m := fun x e => by rw [e]; exact h
  have bs := sh_le i.s 21
  have bt := sh_le i.t 16
  have bd := sh_le i.d 11
  have ba := sh_le i.a 6
  have hi4 : i.imm / 4 < 2 ^ 32 := by omega
  simp -dsimp [e2, e3, e5, e6, e7, e8, e9]
  refine fin_ret rfl (leave_pure (by simp) (key _ ?_))
  simp only [shr2, mask10 _ hi, mask20 _ hi, mask16 _ hi, mask16 _ hi4, mask26 _ hi4, shl26U, shl16U, shl6U, wrapU]
  omega

set_option maxRecDepth 100000 in
set_option maxHeartbeats 4000000 in
theorem word_85 (i : InsZ) (hi : i.imm < 2 ^ 32) (op O F : Nat) (hO : O < 64) (hF : F < 64) (nm : ByteArray) (m : Mem) (Q) (h : Q (.int .u32 ((wordQ 85 O F i : Nat) : Int)) m) : TC Try.prog 72 [rrowV (op, 85, O, F, nm), insZV i] m Q := by
  refine TC_fn mixed Try.func72 rfl Try.ntmps72 rfl (by decide) (by simp) ?_
  refine wpc_st fun K hK => ?_
  simp -dsimp [rrowV, rrowVal, insZV]
  refine hK _ _ ?_
  clear hK K
  refine wpc_st fun K hK => ?_
  simp -dsimp
  refine hK _ _ ?_
  clear hK K
  refine wpc_sq fun K hK => ?_
  simp -dsimp
  refine draw_go 23 [0, 1, 3, 7, 15, 0, 32, 96, 224, 480, 0, 1024, 3072, 7168, 15360, 0, 32768, 98304, 229376, 491520, 31, 1049599, 3178495, 8388607] (by kernel_rfl) (by kernel_rfl) ?_
  simp -dsimp [and31, wrap_sh0, shl21, shl16, shl11, shl6]
  refine hK _ _ ?_
  clear hK K
  refine env_cut fun env he => ?_
  have e3 := he 3
  have e2 := he 2
  have e5 := he 5
  have e6 := he 6
  have e7 := he 7
  have e8 := he 8
  have e9 := he 9
  clear he
  simp -dsimp at e2 e3 e5 e6 e7 e8 e9
  have key : ∀ x : Int, x = ((O * 67108864 + sh i.s 21 + sh i.t 16 + (i.imm % 65536) : Nat) : Int) → Q (.int .u32 x) m := fun x e => by rw [e]; exact h
  have bs := sh_le i.s 21
  have bt := sh_le i.t 16
  have bd := sh_le i.d 11
  have ba := sh_le i.a 6
  have hi4 : i.imm / 4 < 2 ^ 32 := by omega
  simp -dsimp [e2, e3, e5, e6, e7, e8, e9]
  refine fin_ret rfl (leave_pure (by simp) (key _ ?_))
  simp only [shr2, mask10 _ hi, mask20 _ hi, mask16 _ hi, mask16 _ hi4, mask26 _ hi4, shl26U, shl16U, shl6U, wrapU]
  omega

set_option maxRecDepth 100000 in
set_option maxHeartbeats 4000000 in
theorem word_86 (i : InsZ) (hi : i.imm < 2 ^ 32) (op O F : Nat) (hO : O < 64) (hF : F < 64) (nm : ByteArray) (m : Mem) (Q) (h : Q (.int .u32 ((wordQ 86 O F i : Nat) : Int)) m) : TC Try.prog 72 [rrowV (op, 86, O, F, nm), insZV i] m Q := by
  refine TC_fn mixed Try.func72 rfl Try.ntmps72 rfl (by decide) (by simp) ?_
  refine wpc_st fun K hK => ?_
  simp -dsimp [rrowV, rrowVal, insZV]
  refine hK _ _ ?_
  clear hK K
  refine wpc_st fun K hK => ?_
  simp -dsimp
  refine hK _ _ ?_
  clear hK K
  refine wpc_sq fun K hK => ?_
  simp -dsimp
  refine draw_go 23 [0, 1, 3, 7, 15, 0, 32, 96, 224, 480, 0, 1024, 3072, 7168, 15360, 0, 32768, 98304, 229376, 491520, 31, 1049599, 3178495, 8388607] (by kernel_rfl) (by kernel_rfl) ?_
  simp -dsimp [and31, wrap_sh0, shl21, shl16, shl11, shl6]
  refine hK _ _ ?_
  clear hK K
  refine env_cut fun env he => ?_
  have e3 := he 3
  have e2 := he 2
  have e5 := he 5
  have e6 := he 6
  have e7 := he 7
  have e8 := he 8
  have e9 := he 9
  clear he
  simp -dsimp at e2 e3 e5 e6 e7 e8 e9
  have key : ∀ x : Int, x = ((O * 67108864 + sh i.s 21 + sh i.t 16 + (i.imm % 65536) : Nat) : Int) → Q (.int .u32 x) m := fun x e => by rw [e]; exact h
  have bs := sh_le i.s 21
  have bt := sh_le i.t 16
  have bd := sh_le i.d 11
  have ba := sh_le i.a 6
  have hi4 : i.imm / 4 < 2 ^ 32 := by omega
  simp -dsimp [e2, e3, e5, e6, e7, e8, e9]
  refine fin_ret rfl (leave_pure (by simp) (key _ ?_))
  simp only [shr2, mask10 _ hi, mask20 _ hi, mask16 _ hi, mask16 _ hi4, mask26 _ hi4, shl26U, shl16U, shl6U, wrapU]
  omega

set_option maxRecDepth 100000 in
set_option maxHeartbeats 4000000 in
theorem word_80 (i : InsZ) (hi : i.imm < 2 ^ 32) (op O F : Nat) (hO : O < 64) (hF : F < 64) (nm : ByteArray) (m : Mem) (Q) (h : Q (.int .u32 ((wordQ 80 O F i : Nat) : Int)) m) : TC Try.prog 72 [rrowV (op, 80, O, F, nm), insZV i] m Q := by
  refine TC_fn mixed Try.func72 rfl Try.ntmps72 rfl (by decide) (by simp) ?_
  refine wpc_st fun K hK => ?_
  simp -dsimp [rrowV, rrowVal, insZV]
  refine hK _ _ ?_
  clear hK K
  refine wpc_st fun K hK => ?_
  simp -dsimp
  refine hK _ _ ?_
  clear hK K
  refine wpc_sq fun K hK => ?_
  simp -dsimp
  refine draw_go 23 [0, 1, 3, 7, 15, 0, 32, 96, 224, 480, 0, 1024, 3072, 7168, 15360, 0, 32768, 98304, 229376, 491520, 31, 1049599, 3178495, 8388607] (by kernel_rfl) (by kernel_rfl) ?_
  simp -dsimp [and31, wrap_sh0, shl21, shl16, shl11, shl6]
  refine hK _ _ ?_
  clear hK K
  refine env_cut fun env he => ?_
  have e3 := he 3
  have e2 := he 2
  have e5 := he 5
  have e6 := he 6
  have e7 := he 7
  have e8 := he 8
  have e9 := he 9
  clear he
  simp -dsimp at e2 e3 e5 e6 e7 e8 e9
  have key : ∀ x : Int, x = ((O * 67108864 + sh i.s 21 + sh i.t 16 + (i.imm % 65536) : Nat) : Int) → Q (.int .u32 x) m := fun x e => by rw [e]; exact h
  have bs := sh_le i.s 21
  have bt := sh_le i.t 16
  have bd := sh_le i.d 11
  have ba := sh_le i.a 6
  have hi4 : i.imm / 4 < 2 ^ 32 := by omega
  simp -dsimp [e2, e3, e5, e6, e7, e8, e9]
  refine fin_ret rfl (leave_pure (by simp) (key _ ?_))
  simp only [shr2, mask10 _ hi, mask20 _ hi, mask16 _ hi, mask16 _ hi4, mask26 _ hi4, shl26U, shl16U, shl6U, wrapU]
  omega

set_option maxRecDepth 100000 in
set_option maxHeartbeats 4000000 in
theorem word_66 (i : InsZ) (hi : i.imm < 2 ^ 32) (op O F : Nat) (hO : O < 64) (hF : F < 64) (nm : ByteArray) (m : Mem) (Q) (h : Q (.int .u32 ((wordQ 66 O F i : Nat) : Int)) m) : TC Try.prog 72 [rrowV (op, 66, O, F, nm), insZV i] m Q := by
  refine TC_fn mixed Try.func72 rfl Try.ntmps72 rfl (by decide) (by simp) ?_
  refine wpc_st fun K hK => ?_
  simp -dsimp [rrowV, rrowVal, insZV]
  refine hK _ _ ?_
  clear hK K
  refine wpc_st fun K hK => ?_
  simp -dsimp
  refine hK _ _ ?_
  clear hK K
  refine wpc_sq fun K hK => ?_
  simp -dsimp
  refine draw_go 23 [0, 1, 3, 7, 15, 0, 32, 96, 224, 480, 0, 1024, 3072, 7168, 15360, 0, 32768, 98304, 229376, 491520, 31, 1049599, 3178495, 8388607] (by kernel_rfl) (by kernel_rfl) ?_
  simp -dsimp [and31, wrap_sh0, shl21, shl16, shl11, shl6]
  refine hK _ _ ?_
  clear hK K
  refine env_cut fun env he => ?_
  have e3 := he 3
  have e2 := he 2
  have e5 := he 5
  have e6 := he 6
  have e7 := he 7
  have e8 := he 8
  have e9 := he 9
  clear he
  simp -dsimp at e2 e3 e5 e6 e7 e8 e9
  have key : ∀ x : Int, x = ((O * 67108864 + sh i.s 21 + sh i.t 16 + (i.imm / 4 % 65536) : Nat) : Int) → Q (.int .u32 x) m := fun x e => by rw [e]; exact h
  have bs := sh_le i.s 21
  have bt := sh_le i.t 16
  have bd := sh_le i.d 11
  have ba := sh_le i.a 6
  have hi4 : i.imm / 4 < 2 ^ 32 := by omega
  simp -dsimp [e2, e3, e5, e6, e7, e8, e9]
  refine fin_ret rfl (leave_pure (by simp) (key _ ?_))
  simp only [shr2, mask10 _ hi, mask20 _ hi, mask16 _ hi, mask16 _ hi4, mask26 _ hi4, shl26U, shl16U, shl6U, wrapU]
  omega

set_option maxRecDepth 100000 in
set_option maxHeartbeats 4000000 in
theorem word_90 (i : InsZ) (hi : i.imm < 2 ^ 32) (op O F : Nat) (hO : O < 64) (hF : F < 64) (nm : ByteArray) (m : Mem) (Q) (h : Q (.int .u32 ((wordQ 90 O F i : Nat) : Int)) m) : TC Try.prog 72 [rrowV (op, 90, O, F, nm), insZV i] m Q := by
  refine TC_fn mixed Try.func72 rfl Try.ntmps72 rfl (by decide) (by simp) ?_
  refine wpc_st fun K hK => ?_
  simp -dsimp [rrowV, rrowVal, insZV]
  refine hK _ _ ?_
  clear hK K
  refine wpc_st fun K hK => ?_
  simp -dsimp
  refine hK _ _ ?_
  clear hK K
  refine wpc_sq fun K hK => ?_
  simp -dsimp
  refine draw_go 23 [0, 1, 3, 7, 15, 0, 32, 96, 224, 480, 0, 1024, 3072, 7168, 15360, 0, 32768, 98304, 229376, 491520, 31, 1049599, 3178495, 8388607] (by kernel_rfl) (by kernel_rfl) ?_
  simp -dsimp [and31, wrap_sh0, shl21, shl16, shl11, shl6]
  refine hK _ _ ?_
  clear hK K
  refine env_cut fun env he => ?_
  have e3 := he 3
  have e2 := he 2
  have e5 := he 5
  have e6 := he 6
  have e7 := he 7
  have e8 := he 8
  have e9 := he 9
  clear he
  simp -dsimp at e2 e3 e5 e6 e7 e8 e9
  have key : ∀ x : Int, x = ((O * 67108864 + sh i.s 21 + sh i.t 16 + (i.imm / 4 % 65536) : Nat) : Int) → Q (.int .u32 x) m := fun x e => by rw [e]; exact h
  have bs := sh_le i.s 21
  have bt := sh_le i.t 16
  have bd := sh_le i.d 11
  have ba := sh_le i.a 6
  have hi4 : i.imm / 4 < 2 ^ 32 := by omega
  simp -dsimp [e2, e3, e5, e6, e7, e8, e9]
  refine fin_ret rfl (leave_pure (by simp) (key _ ?_))
  simp only [shr2, mask10 _ hi, mask20 _ hi, mask16 _ hi, mask16 _ hi4, mask26 _ hi4, shl26U, shl16U, shl6U, wrapU]
  omega

set_option maxRecDepth 100000 in
set_option maxHeartbeats 4000000 in
theorem word_82 (i : InsZ) (hi : i.imm < 2 ^ 32) (op O F : Nat) (hO : O < 64) (hF : F < 32) (nm : ByteArray) (m : Mem) (Q) (h : Q (.int .u32 ((wordQ 82 O F i : Nat) : Int)) m) : TC Try.prog 72 [rrowV (op, 82, O, F, nm), insZV i] m Q := by
  refine TC_fn mixed Try.func72 rfl Try.ntmps72 rfl (by decide) (by simp) ?_
  refine wpc_st fun K hK => ?_
  simp -dsimp [rrowV, rrowVal, insZV]
  refine hK _ _ ?_
  clear hK K
  refine wpc_st fun K hK => ?_
  simp -dsimp
  refine hK _ _ ?_
  clear hK K
  refine wpc_sq fun K hK => ?_
  simp -dsimp
  refine draw_go 23 [0, 1, 3, 7, 15, 0, 32, 96, 224, 480, 0, 1024, 3072, 7168, 15360, 0, 32768, 98304, 229376, 491520, 31, 1049599, 3178495, 8388607] (by kernel_rfl) (by kernel_rfl) ?_
  simp -dsimp [and31, wrap_sh0, shl21, shl16, shl11, shl6]
  refine hK _ _ ?_
  clear hK K
  refine env_cut fun env he => ?_
  have e3 := he 3
  have e2 := he 2
  have e5 := he 5
  have e6 := he 6
  have e7 := he 7
  have e8 := he 8
  have e9 := he 9
  clear he
  simp -dsimp at e2 e3 e5 e6 e7 e8 e9
  have key : ∀ x : Int, x = ((O * 67108864 + sh i.s 21 + F * 65536 + (i.imm / 4 % 65536) : Nat) : Int) → Q (.int .u32 x) m := fun x e => by rw [e]; exact h
  have bs := sh_le i.s 21
  have bt := sh_le i.t 16
  have bd := sh_le i.d 11
  have ba := sh_le i.a 6
  have hi4 : i.imm / 4 < 2 ^ 32 := by omega
  simp -dsimp [e2, e3, e5, e6, e7, e8, e9]
  refine fin_ret rfl (leave_pure (by simp) (key _ ?_))
  simp only [shr2, mask10 _ hi, mask20 _ hi, mask16 _ hi, mask16 _ hi4, mask26 _ hi4, shl26U, shl16U, shl6U, wrapU]
  omega

set_option maxRecDepth 100000 in
set_option maxHeartbeats 4000000 in
theorem word_74 (i : InsZ) (hi : i.imm < 2 ^ 32) (op O F : Nat) (hO : O < 64) (hF : F < 64) (nm : ByteArray) (m : Mem) (Q) (h : Q (.int .u32 ((wordQ 74 O F i : Nat) : Int)) m) : TC Try.prog 72 [rrowV (op, 74, O, F, nm), insZV i] m Q := by
  refine TC_fn mixed Try.func72 rfl Try.ntmps72 rfl (by decide) (by simp) ?_
  refine wpc_st fun K hK => ?_
  simp -dsimp [rrowV, rrowVal, insZV]
  refine hK _ _ ?_
  clear hK K
  refine wpc_st fun K hK => ?_
  simp -dsimp
  refine hK _ _ ?_
  clear hK K
  refine wpc_sq fun K hK => ?_
  simp -dsimp
  refine draw_go 23 [0, 1, 3, 7, 15, 0, 32, 96, 224, 480, 0, 1024, 3072, 7168, 15360, 0, 32768, 98304, 229376, 491520, 31, 1049599, 3178495, 8388607] (by kernel_rfl) (by kernel_rfl) ?_
  simp -dsimp [and31, wrap_sh0, shl21, shl16, shl11, shl6]
  refine hK _ _ ?_
  clear hK K
  refine env_cut fun env he => ?_
  have e3 := he 3
  have e2 := he 2
  have e5 := he 5
  have e6 := he 6
  have e7 := he 7
  have e8 := he 8
  have e9 := he 9
  clear he
  simp -dsimp at e2 e3 e5 e6 e7 e8 e9
  have key : ∀ x : Int, x = ((O * 67108864 + (i.imm / 4 % 67108864) : Nat) : Int) → Q (.int .u32 x) m := fun x e => by rw [e]; exact h
  have bs := sh_le i.s 21
  have bt := sh_le i.t 16
  have bd := sh_le i.d 11
  have ba := sh_le i.a 6
  have hi4 : i.imm / 4 < 2 ^ 32 := by omega
  simp -dsimp [e2, e3, e5, e6, e7, e8, e9]
  refine fin_ret rfl (leave_pure (by simp) (key _ ?_))
  simp only [shr2, mask10 _ hi, mask20 _ hi, mask16 _ hi, mask16 _ hi4, mask26 _ hi4, shl26U, shl16U, shl6U, wrapU]
  omega

set_option maxRecDepth 100000 in
set_option maxHeartbeats 4000000 in
theorem word_68 (i : InsZ) (hi : i.imm < 2 ^ 32) (op O F : Nat) (hO : O < 64) (hF : F < 64) (nm : ByteArray) (m : Mem) (Q) (h : Q (.int .u32 ((wordQ 68 O F i : Nat) : Int)) m) : TC Try.prog 72 [rrowV (op, 68, O, F, nm), insZV i] m Q := by
  refine TC_fn mixed Try.func72 rfl Try.ntmps72 rfl (by decide) (by simp) ?_
  refine wpc_st fun K hK => ?_
  simp -dsimp [rrowV, rrowVal, insZV]
  refine hK _ _ ?_
  clear hK K
  refine wpc_st fun K hK => ?_
  simp -dsimp
  refine hK _ _ ?_
  clear hK K
  refine wpc_sq fun K hK => ?_
  simp -dsimp
  refine draw_go 23 [0, 1, 3, 7, 15, 0, 32, 96, 224, 480, 0, 1024, 3072, 7168, 15360, 0, 32768, 98304, 229376, 491520, 31, 1049599, 3178495, 8388607] (by kernel_rfl) (by kernel_rfl) ?_
  simp -dsimp [and31, wrap_sh0, shl21, shl16, shl11, shl6]
  refine hK _ _ ?_
  clear hK K
  refine env_cut fun env he => ?_
  have e3 := he 3
  have e2 := he 2
  have e5 := he 5
  have e6 := he 6
  have e7 := he 7
  have e8 := he 8
  have e9 := he 9
  clear he
  simp -dsimp at e2 e3 e5 e6 e7 e8 e9
  have key : ∀ x : Int, x = ((O * 67108864 + sh i.s 21 + sh i.t 16 + sh i.d 11 + sh i.a 6 + F : Nat) : Int) → Q (.int .u32 x) m := fun x e => by rw [e]; exact h
  have bs := sh_le i.s 21
  have bt := sh_le i.t 16
  have bd := sh_le i.d 11
  have ba := sh_le i.a 6
  have hi4 : i.imm / 4 < 2 ^ 32 := by omega
  simp -dsimp [e2, e3, e5, e6, e7, e8, e9]
  refine fin_ret rfl (leave_pure (by simp) (key _ ?_))
  simp only [shr2, mask10 _ hi, mask20 _ hi, mask16 _ hi, mask16 _ hi4, mask26 _ hi4, shl26U, shl16U, shl6U, wrapU]
  omega

set_option maxRecDepth 100000 in
set_option maxHeartbeats 4000000 in
theorem word_72 (i : InsZ) (hi : i.imm < 2 ^ 32) (op O F : Nat) (hO : O < 64) (hF : F < 64) (nm : ByteArray) (m : Mem) (Q) (h : Q (.int .u32 ((wordQ 72 O F i : Nat) : Int)) m) : TC Try.prog 72 [rrowV (op, 72, O, F, nm), insZV i] m Q := by
  refine TC_fn mixed Try.func72 rfl Try.ntmps72 rfl (by decide) (by simp) ?_
  refine wpc_st fun K hK => ?_
  simp -dsimp [rrowV, rrowVal, insZV]
  refine hK _ _ ?_
  clear hK K
  refine wpc_st fun K hK => ?_
  simp -dsimp
  refine hK _ _ ?_
  clear hK K
  refine wpc_sq fun K hK => ?_
  simp -dsimp
  refine draw_go 23 [0, 1, 3, 7, 15, 0, 32, 96, 224, 480, 0, 1024, 3072, 7168, 15360, 0, 32768, 98304, 229376, 491520, 31, 1049599, 3178495, 8388607] (by kernel_rfl) (by kernel_rfl) ?_
  simp -dsimp [and31, wrap_sh0, shl21, shl16, shl11, shl6]
  refine hK _ _ ?_
  clear hK K
  refine env_cut fun env he => ?_
  have e3 := he 3
  have e2 := he 2
  have e5 := he 5
  have e6 := he 6
  have e7 := he 7
  have e8 := he 8
  have e9 := he 9
  clear he
  simp -dsimp at e2 e3 e5 e6 e7 e8 e9
  have key : ∀ x : Int, x = ((O * 67108864 + sh i.s 21 + sh i.t 16 + sh i.d 11 + sh i.a 6 + F : Nat) : Int) → Q (.int .u32 x) m := fun x e => by rw [e]; exact h
  have bs := sh_le i.s 21
  have bt := sh_le i.t 16
  have bd := sh_le i.d 11
  have ba := sh_le i.a 6
  have hi4 : i.imm / 4 < 2 ^ 32 := by omega
  simp -dsimp [e2, e3, e5, e6, e7, e8, e9]
  refine fin_ret rfl (leave_pure (by simp) (key _ ?_))
  simp only [shr2, mask10 _ hi, mask20 _ hi, mask16 _ hi, mask16 _ hi4, mask26 _ hi4, shl26U, shl16U, shl6U, wrapU]
  omega

set_option maxRecDepth 100000 in
set_option maxHeartbeats 4000000 in
theorem word_77 (i : InsZ) (hi : i.imm < 2 ^ 32) (op O F : Nat) (hO : O < 64) (hF : F < 64) (nm : ByteArray) (m : Mem) (Q) (h : Q (.int .u32 ((wordQ 77 O F i : Nat) : Int)) m) : TC Try.prog 72 [rrowV (op, 77, O, F, nm), insZV i] m Q := by
  refine TC_fn mixed Try.func72 rfl Try.ntmps72 rfl (by decide) (by simp) ?_
  refine wpc_st fun K hK => ?_
  simp -dsimp [rrowV, rrowVal, insZV]
  refine hK _ _ ?_
  clear hK K
  refine wpc_st fun K hK => ?_
  simp -dsimp
  refine hK _ _ ?_
  clear hK K
  refine wpc_sq fun K hK => ?_
  simp -dsimp
  refine draw_go 23 [0, 1, 3, 7, 15, 0, 32, 96, 224, 480, 0, 1024, 3072, 7168, 15360, 0, 32768, 98304, 229376, 491520, 31, 1049599, 3178495, 8388607] (by kernel_rfl) (by kernel_rfl) ?_
  simp -dsimp [and31, wrap_sh0, shl21, shl16, shl11, shl6]
  refine hK _ _ ?_
  clear hK K
  refine env_cut fun env he => ?_
  have e3 := he 3
  have e2 := he 2
  have e5 := he 5
  have e6 := he 6
  have e7 := he 7
  have e8 := he 8
  have e9 := he 9
  clear he
  simp -dsimp at e2 e3 e5 e6 e7 e8 e9
  have key : ∀ x : Int, x = ((O * 67108864 + sh i.s 21 + sh i.t 16 + sh i.d 11 + sh i.a 6 + F : Nat) : Int) → Q (.int .u32 x) m := fun x e => by rw [e]; exact h
  have bs := sh_le i.s 21
  have bt := sh_le i.t 16
  have bd := sh_le i.d 11
  have ba := sh_le i.a 6
  have hi4 : i.imm / 4 < 2 ^ 32 := by omega
  simp -dsimp [e2, e3, e5, e6, e7, e8, e9]
  refine fin_ret rfl (leave_pure (by simp) (key _ ?_))
  simp only [shr2, mask10 _ hi, mask20 _ hi, mask16 _ hi, mask16 _ hi4, mask26 _ hi4, shl26U, shl16U, shl6U, wrapU]
  omega

set_option maxRecDepth 100000 in
set_option maxHeartbeats 4000000 in
theorem word_70 (i : InsZ) (hi : i.imm < 2 ^ 32) (op O F : Nat) (hO : O < 64) (hF : F < 64) (nm : ByteArray) (m : Mem) (Q) (h : Q (.int .u32 ((wordQ 70 O F i : Nat) : Int)) m) : TC Try.prog 72 [rrowV (op, 70, O, F, nm), insZV i] m Q := by
  refine TC_fn mixed Try.func72 rfl Try.ntmps72 rfl (by decide) (by simp) ?_
  refine wpc_st fun K hK => ?_
  simp -dsimp [rrowV, rrowVal, insZV]
  refine hK _ _ ?_
  clear hK K
  refine wpc_st fun K hK => ?_
  simp -dsimp
  refine hK _ _ ?_
  clear hK K
  refine wpc_sq fun K hK => ?_
  simp -dsimp
  refine draw_go 23 [0, 1, 3, 7, 15, 0, 32, 96, 224, 480, 0, 1024, 3072, 7168, 15360, 0, 32768, 98304, 229376, 491520, 31, 1049599, 3178495, 8388607] (by kernel_rfl) (by kernel_rfl) ?_
  simp -dsimp [and31, wrap_sh0, shl21, shl16, shl11, shl6]
  refine hK _ _ ?_
  clear hK K
  refine env_cut fun env he => ?_
  have e3 := he 3
  have e2 := he 2
  have e5 := he 5
  have e6 := he 6
  have e7 := he 7
  have e8 := he 8
  have e9 := he 9
  clear he
  simp -dsimp at e2 e3 e5 e6 e7 e8 e9
  have key : ∀ x : Int, x = ((O * 67108864 + sh i.s 21 + sh i.t 16 + sh i.d 11 + sh i.a 6 + F : Nat) : Int) → Q (.int .u32 x) m := fun x e => by rw [e]; exact h
  have bs := sh_le i.s 21
  have bt := sh_le i.t 16
  have bd := sh_le i.d 11
  have ba := sh_le i.a 6
  have hi4 : i.imm / 4 < 2 ^ 32 := by omega
  simp -dsimp [e2, e3, e5, e6, e7, e8, e9]
  refine fin_ret rfl (leave_pure (by simp) (key _ ?_))
  simp only [shr2, mask10 _ hi, mask20 _ hi, mask16 _ hi, mask16 _ hi4, mask26 _ hi4, shl26U, shl16U, shl6U, wrapU]
  omega

set_option maxRecDepth 100000 in
set_option maxHeartbeats 4000000 in
theorem word_76 (i : InsZ) (hi : i.imm < 2 ^ 32) (op O F : Nat) (hO : O < 64) (hF : F < 64) (nm : ByteArray) (m : Mem) (Q) (h : Q (.int .u32 ((wordQ 76 O F i : Nat) : Int)) m) : TC Try.prog 72 [rrowV (op, 76, O, F, nm), insZV i] m Q := by
  refine TC_fn mixed Try.func72 rfl Try.ntmps72 rfl (by decide) (by simp) ?_
  refine wpc_st fun K hK => ?_
  simp -dsimp [rrowV, rrowVal, insZV]
  refine hK _ _ ?_
  clear hK K
  refine wpc_st fun K hK => ?_
  simp -dsimp
  refine hK _ _ ?_
  clear hK K
  refine wpc_sq fun K hK => ?_
  simp -dsimp
  refine draw_go 23 [0, 1, 3, 7, 15, 0, 32, 96, 224, 480, 0, 1024, 3072, 7168, 15360, 0, 32768, 98304, 229376, 491520, 31, 1049599, 3178495, 8388607] (by kernel_rfl) (by kernel_rfl) ?_
  simp -dsimp [and31, wrap_sh0, shl21, shl16, shl11, shl6]
  refine hK _ _ ?_
  clear hK K
  refine env_cut fun env he => ?_
  have e3 := he 3
  have e2 := he 2
  have e5 := he 5
  have e6 := he 6
  have e7 := he 7
  have e8 := he 8
  have e9 := he 9
  clear he
  simp -dsimp at e2 e3 e5 e6 e7 e8 e9
  have key : ∀ x : Int, x = ((O * 67108864 + sh i.s 21 + sh i.t 16 + sh i.d 11 + sh i.a 6 + F : Nat) : Int) → Q (.int .u32 x) m := fun x e => by rw [e]; exact h
  have bs := sh_le i.s 21
  have bt := sh_le i.t 16
  have bd := sh_le i.d 11
  have ba := sh_le i.a 6
  have hi4 : i.imm / 4 < 2 ^ 32 := by omega
  simp -dsimp [e2, e3, e5, e6, e7, e8, e9]
  refine fin_ret rfl (leave_pure (by simp) (key _ ?_))
  simp only [shr2, mask10 _ hi, mask20 _ hi, mask16 _ hi, mask16 _ hi4, mask26 _ hi4, shl26U, shl16U, shl6U, wrapU]
  omega

set_option maxRecDepth 100000 in
set_option maxHeartbeats 4000000 in
theorem word_71 (i : InsZ) (hi : i.imm < 2 ^ 32) (op O F : Nat) (hO : O < 64) (hF : F < 64) (nm : ByteArray) (m : Mem) (Q) (h : Q (.int .u32 ((wordQ 71 O F i : Nat) : Int)) m) : TC Try.prog 72 [rrowV (op, 71, O, F, nm), insZV i] m Q := by
  refine TC_fn mixed Try.func72 rfl Try.ntmps72 rfl (by decide) (by simp) ?_
  refine wpc_st fun K hK => ?_
  simp -dsimp [rrowV, rrowVal, insZV]
  refine hK _ _ ?_
  clear hK K
  refine wpc_st fun K hK => ?_
  simp -dsimp
  refine hK _ _ ?_
  clear hK K
  refine wpc_sq fun K hK => ?_
  simp -dsimp
  refine draw_go 23 [0, 1, 3, 7, 15, 0, 32, 96, 224, 480, 0, 1024, 3072, 7168, 15360, 0, 32768, 98304, 229376, 491520, 31, 1049599, 3178495, 8388607] (by kernel_rfl) (by kernel_rfl) ?_
  simp -dsimp [and31, wrap_sh0, shl21, shl16, shl11, shl6]
  refine hK _ _ ?_
  clear hK K
  refine env_cut fun env he => ?_
  have e3 := he 3
  have e2 := he 2
  have e5 := he 5
  have e6 := he 6
  have e7 := he 7
  have e8 := he 8
  have e9 := he 9
  clear he
  simp -dsimp at e2 e3 e5 e6 e7 e8 e9
  have key : ∀ x : Int, x = ((O * 67108864 + sh i.s 21 + sh i.t 16 + sh i.d 11 + sh i.a 6 + F : Nat) : Int) → Q (.int .u32 x) m := fun x e => by rw [e]; exact h
  have bs := sh_le i.s 21
  have bt := sh_le i.t 16
  have bd := sh_le i.d 11
  have ba := sh_le i.a 6
  have hi4 : i.imm / 4 < 2 ^ 32 := by omega
  simp -dsimp [e2, e3, e5, e6, e7, e8, e9]
  refine fin_ret rfl (leave_pure (by simp) (key _ ?_))
  simp only [shr2, mask10 _ hi, mask20 _ hi, mask16 _ hi, mask16 _ hi4, mask26 _ hi4, shl26U, shl16U, shl6U, wrapU]
  omega

set_option maxRecDepth 100000 in
set_option maxHeartbeats 4000000 in
theorem word_88 (i : InsZ) (hi : i.imm < 2 ^ 32) (op O F : Nat) (hO : O < 64) (hF : F < 64) (nm : ByteArray) (m : Mem) (Q) (h : Q (.int .u32 ((wordQ 88 O F i : Nat) : Int)) m) : TC Try.prog 72 [rrowV (op, 88, O, F, nm), insZV i] m Q := by
  refine TC_fn mixed Try.func72 rfl Try.ntmps72 rfl (by decide) (by simp) ?_
  refine wpc_st fun K hK => ?_
  simp -dsimp [rrowV, rrowVal, insZV]
  refine hK _ _ ?_
  clear hK K
  refine wpc_st fun K hK => ?_
  simp -dsimp
  refine hK _ _ ?_
  clear hK K
  refine wpc_sq fun K hK => ?_
  simp -dsimp
  refine draw_go 23 [0, 1, 3, 7, 15, 0, 32, 96, 224, 480, 0, 1024, 3072, 7168, 15360, 0, 32768, 98304, 229376, 491520, 31, 1049599, 3178495, 8388607] (by kernel_rfl) (by kernel_rfl) ?_
  simp -dsimp [and31, wrap_sh0, shl21, shl16, shl11, shl6]
  refine hK _ _ ?_
  clear hK K
  refine env_cut fun env he => ?_
  have e3 := he 3
  have e2 := he 2
  have e5 := he 5
  have e6 := he 6
  have e7 := he 7
  have e8 := he 8
  have e9 := he 9
  clear he
  simp -dsimp at e2 e3 e5 e6 e7 e8 e9
  have key : ∀ x : Int, x = ((O * 67108864 + sh i.s 21 + sh i.t 16 + sh i.d 11 + sh i.a 6 + F : Nat) : Int) → Q (.int .u32 x) m := fun x e => by rw [e]; exact h
  have bs := sh_le i.s 21
  have bt := sh_le i.t 16
  have bd := sh_le i.d 11
  have ba := sh_le i.a 6
  have hi4 : i.imm / 4 < 2 ^ 32 := by omega
  simp -dsimp [e2, e3, e5, e6, e7, e8, e9]
  refine fin_ret rfl (leave_pure (by simp) (key _ ?_))
  simp only [shr2, mask10 _ hi, mask20 _ hi, mask16 _ hi, mask16 _ hi4, mask26 _ hi4, shl26U, shl16U, shl6U, wrapU]
  omega

set_option maxRecDepth 100000 in
set_option maxHeartbeats 4000000 in
theorem word_89 (i : InsZ) (hi : i.imm < 2 ^ 32) (op O F : Nat) (hO : O < 64) (hF : F < 64) (nm : ByteArray) (m : Mem) (Q) (h : Q (.int .u32 ((wordQ 89 O F i : Nat) : Int)) m) : TC Try.prog 72 [rrowV (op, 89, O, F, nm), insZV i] m Q := by
  refine TC_fn mixed Try.func72 rfl Try.ntmps72 rfl (by decide) (by simp) ?_
  refine wpc_st fun K hK => ?_
  simp -dsimp [rrowV, rrowVal, insZV]
  refine hK _ _ ?_
  clear hK K
  refine wpc_st fun K hK => ?_
  simp -dsimp
  refine hK _ _ ?_
  clear hK K
  refine wpc_sq fun K hK => ?_
  simp -dsimp
  refine draw_go 23 [0, 1, 3, 7, 15, 0, 32, 96, 224, 480, 0, 1024, 3072, 7168, 15360, 0, 32768, 98304, 229376, 491520, 31, 1049599, 3178495, 8388607] (by kernel_rfl) (by kernel_rfl) ?_
  simp -dsimp [and31, wrap_sh0, shl21, shl16, shl11, shl6]
  refine hK _ _ ?_
  clear hK K
  refine env_cut fun env he => ?_
  have e3 := he 3
  have e2 := he 2
  have e5 := he 5
  have e6 := he 6
  have e7 := he 7
  have e8 := he 8
  have e9 := he 9
  clear he
  simp -dsimp at e2 e3 e5 e6 e7 e8 e9
  have key : ∀ x : Int, x = ((O * 67108864 + sh i.s 21 + sh i.t 16 + sh i.d 11 + sh i.a 6 + F : Nat) : Int) → Q (.int .u32 x) m := fun x e => by rw [e]; exact h
  have bs := sh_le i.s 21
  have bt := sh_le i.t 16
  have bd := sh_le i.d 11
  have ba := sh_le i.a 6
  have hi4 : i.imm / 4 < 2 ^ 32 := by omega
  simp -dsimp [e2, e3, e5, e6, e7, e8, e9]
  refine fin_ret rfl (leave_pure (by simp) (key _ ?_))
  simp only [shr2, mask10 _ hi, mask20 _ hi, mask16 _ hi, mask16 _ hi4, mask26 _ hi4, shl26U, shl16U, shl6U, wrapU]
  omega

end Go.Lm
