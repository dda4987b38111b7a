/- Bits and shifts: names for what simp shall not open, and their laws at numbers that are not below 0. -/
import Derived.Test.YtfgcnehjdaiipaaL20
namespace Go.Lm

def iand (k : IntKind) (x y : Int) : Int := k.wrap (BitVec.ofInt k.bits x &&& BitVec.ofInt k.bits y).toNat
def ior (k : IntKind) (x y : Int) : Int := k.wrap (BitVec.ofInt k.bits x ||| BitVec.ofInt k.bits y).toNat
def ixor (k : IntKind) (x y : Int) : Int := k.wrap (BitVec.ofInt k.bits x ^^^ BitVec.ofInt k.bits y).toNat
def iandn (k : IntKind) (x y : Int) : Int := k.wrap (BitVec.ofInt k.bits x &&& ~~~(BitVec.ofInt k.bits y)).toNat
def ishl (k : IntKind) (a b : Int) : Int := k.wrap (a * 2 ^ (min b.toNat k.bits))
def ishr (k : IntKind) (a b : Int) : Int := a.fdiv (2 ^ (min b.toNat k.bits))

section
variable (P : Program) (t : TypeId) (k : IntKind) (a b : Int)
@[simp] theorem lbin_add : lbin P .add t (.int k a) (.int k b) = some (.int k (k.wrap (a + b))) := by show (if k = k then lint .add k a b else none) = _; rw [if_pos rfl]; rfl
@[simp] theorem lbin_sub : lbin P .sub t (.int k a) (.int k b) = some (.int k (k.wrap (a - b))) := by show (if k = k then lint .sub k a b else none) = _; rw [if_pos rfl]; rfl
@[simp] theorem lbin_mul : lbin P .mul t (.int k a) (.int k b) = some (.int k (k.wrap (a * b))) := by show (if k = k then lint .mul k a b else none) = _; rw [if_pos rfl]; rfl
@[simp] theorem lbin_and : lbin P .and t (.int k a) (.int k b) = some (.int k (iand k a b)) := by show (if k = k then lint .and k a b else none) = _; rw [if_pos rfl]; rfl
@[simp] theorem lbin_or : lbin P .or t (.int k a) (.int k b) = some (.int k (ior k a b)) := by show (if k = k then lint .or k a b else none) = _; rw [if_pos rfl]; rfl
@[simp] theorem lbin_xor : lbin P .xor t (.int k a) (.int k b) = some (.int k (ixor k a b)) := by show (if k = k then lint .xor k a b else none) = _; rw [if_pos rfl]; rfl
@[simp] theorem lbin_andNot : lbin P .andNot t (.int k a) (.int k b) = some (.int k (iandn k a b)) := by show (if k = k then lint .andNot k a b else none) = _; rw [if_pos rfl]; rfl
@[simp] theorem lbin_eql : lbin P .eql t (.int k a) (.int k b) = some (.bool (a == b)) := by show (if k = k then lint .eql k a b else none) = _; rw [if_pos rfl]; rfl
@[simp] theorem lbin_neq : lbin P .neq t (.int k a) (.int k b) = some (.bool (a != b)) := by show (if k = k then lint .neq k a b else none) = _; rw [if_pos rfl]; rfl
@[simp] theorem lbin_lss : lbin P .lss t (.int k a) (.int k b) = some (.bool (a < b)) := by show (if k = k then lint .lss k a b else none) = _; rw [if_pos rfl]; rfl
@[simp] theorem lbin_leq : lbin P .leq t (.int k a) (.int k b) = some (.bool (a ≤ b)) := by show (if k = k then lint .leq k a b else none) = _; rw [if_pos rfl]; rfl
@[simp] theorem lbin_gtr : lbin P .gtr t (.int k a) (.int k b) = some (.bool (a > b)) := by show (if k = k then lint .gtr k a b else none) = _; rw [if_pos rfl]; rfl
@[simp] theorem lbin_geq : lbin P .geq t (.int k a) (.int k b) = some (.bool (a ≥ b)) := by show (if k = k then lint .geq k a b else none) = _; rw [if_pos rfl]; rfl
@[simp] theorem lbin_quo : lbin P .quo t (.int k a) (.int k b) = if b = 0 then none else some (.int k (k.wrap (a.tdiv b))) := by show (if k = k then lint .quo k a b else none) = _; rw [if_pos rfl]; rfl
@[simp] theorem lbin_rem : lbin P .rem t (.int k a) (.int k b) = if b = 0 then none else some (.int k (a.tmod b)) := by show (if k = k then lint .rem k a b else none) = _; rw [if_pos rfl]; rfl
@[simp] theorem lbin_shl (k' : IntKind) : lbin P .shl t (.int k a) (.int k' b) = if 0 ≤ b then some (.int k (ishl k a b)) else none := rfl
@[simp] theorem lbin_shr (k' : IntKind) : lbin P .shr t (.int k a) (.int k' b) = if 0 ≤ b then some (.int k (ishr k a b)) else none := rfl
@[simp] theorem lbin_string (op : BinOp) (x y : ByteArray) : lbin P op t (.string x) (.string y) = lstr op x y := rfl
@[simp] theorem lbin_beq (x y : Bool) : lbin P .eql t (.bool x) (.bool y) = match tyQ P t with | .bool => some (.bool (x == y)) | _ => none := by cases h : tyQ P t <;> simp [lbin, h]
@[simp] theorem lbin_bne (x y : Bool) : lbin P .neq t (.bool x) (.bool y) = match tyQ P t with | .bool => some (.bool (!(x == y))) | _ => none := by cases h : tyQ P t <;> simp [lbin, h]
@[simp] theorem lbin_peq (x : Option Addr) : lbin P .eql t (.pointer x) (.pointer none) = match tyQ P t with | .ptr _ => some (.bool x.isNone) | _ => none := by cases h : tyQ P t <;> simp [lbin, h]
@[simp] theorem lbin_pne (x : Option Addr) : lbin P .neq t (.pointer x) (.pointer none) = match tyQ P t with | .ptr _ => some (.bool (!x.isNone)) | _ => none := by cases h : tyQ P t <;> simp [lbin, h]
@[simp] theorem lbin_seq (x : Option Addr) (l c l' c' : Nat) : lbin P .eql t (.slice x l c) (.slice none l' c') = match tyQ P t with | .sl _ _ => some (.bool x.isNone) | _ => none := by cases h : tyQ P t <;> simp [lbin, h]
@[simp] theorem lbin_sne (x : Option Addr) (l c l' c' : Nat) : lbin P .neq t (.slice x l c) (.slice none l' c') = match tyQ P t with | .sl _ _ => some (.bool (!x.isNone)) | _ => none := by cases h : tyQ P t <;> simp [lbin, h]
@[simp] theorem lbin_aeq (xs ys : Array Value) : lbin P .eql t (.agg xs) (.agg ys) = if P.eqGuardType P.depth t then none else (leq P 8 t (.agg xs) (.agg ys)).map .bool := rfl
@[simp] theorem lbin_ane (xs ys : Array Value) : lbin P .neq t (.agg xs) (.agg ys) = if P.eqGuardType P.depth t then none else (leq P 8 t (.agg xs) (.agg ys)).map fun b => .bool (!b) := rfl
end

/-- how many bits a number that is not below 0 may have -/
def nb : IntKind → Nat
  | .i8 => 7 | .i16 => 15 | .i32 => 31 | .i64 => 63 | .u8 => 8 | .u16 => 16 | .u32 => 32 | .u64 => 64

theorem nb_le (k : IntKind) : nb k ≤ k.bits := by cases k <;> decide

theorem wrap_nb (k : IntKind) {n : Nat} (h : n < 2 ^ nb k) : k.wrap (n : Int) = n := by
  cases k <;> simp only [nb] at h <;> simp [IntKind.wrap, IntKind.bits, IntKind.signed] <;> omega

theorem ofInt_nb (k : IntKind) {n : Nat} (h : n < 2 ^ nb k) : (BitVec.ofInt k.bits (n : Int)).toNat = n := by
  rw [BitVec.ofInt_natCast, BitVec.toNat_ofNat]
  exact Nat.mod_eq_of_lt (Nat.lt_of_lt_of_le h (Nat.pow_le_pow_right (by omega) (nb_le k)))

theorem iand_nat (k : IntKind) {a b : Nat} (ha : a < 2 ^ nb k) (hb : b < 2 ^ nb k) : iand k a b = ((a &&& b : Nat) : Int) := by
  unfold iand
  rw [BitVec.toNat_and, ofInt_nb k ha, ofInt_nb k hb, wrap_nb k (Nat.and_lt_two_pow _ hb)]
theorem ior_nat (k : IntKind) {a b : Nat} (ha : a < 2 ^ nb k) (hb : b < 2 ^ nb k) : ior k a b = ((a ||| b : Nat) : Int) := by
  unfold ior
  rw [BitVec.toNat_or, ofInt_nb k ha, ofInt_nb k hb, wrap_nb k (Nat.or_lt_two_pow ha hb)]
theorem ixor_nat (k : IntKind) {a b : Nat} (ha : a < 2 ^ nb k) (hb : b < 2 ^ nb k) : ixor k a b = ((a ^^^ b : Nat) : Int) := by
  unfold ixor
  rw [BitVec.toNat_xor, ofInt_nb k ha, ofInt_nb k hb, wrap_nb k (Nat.xor_lt_two_pow ha hb)]

/-- with a mask of the lowest n bits -/
theorem iand_mask (k : IntKind) (n : Nat) {a c : Nat} (ha : a < 2 ^ nb k) (hc : c = 2 ^ n - 1) (hn : n ≤ nb k) : iand k a c = ((a % 2 ^ n : Nat) : Int) := by
  subst hc
  have : 0 < 2 ^ n := Nat.two_pow_pos n
  have : 2 ^ n ≤ 2 ^ nb k := Nat.pow_le_pow_right (by omega) hn
  rw [iand_nat k ha (by omega), Nat.and_two_pow_sub_one_eq_mod]

theorem ishl_nat (k : IntKind) {a n : Nat} (hn : n ≤ k.bits) : ishl k a n = k.wrap ((a * 2 ^ n : Nat) : Int) := by
  unfold ishl
  rw [show min (n : Int).toNat k.bits = n by rw [Int.toNat_natCast]; exact Nat.min_eq_left hn]
  simp
theorem ishr_nat (k : IntKind) {a n : Nat} (hn : n ≤ k.bits) : ishr k a n = ((a / 2 ^ n : Nat) : Int) := by
  unfold ishr
  rw [show min (n : Int).toNat k.bits = n by rw [Int.toNat_natCast]; exact Nat.min_eq_left hn, Int.fdiv_eq_ediv_of_nonneg _ (by exact Int.pow_nonneg (by decide))]
  simp

theorem wrap_u32_nat (n : Nat) : IntKind.u32.wrap (n : Int) = ((n % 4294967296 : Nat) : Int) := by
  simp [IntKind.wrap, IntKind.bits, IntKind.signed]
theorem wrap_u64_nat (n : Nat) : IntKind.u64.wrap (n : Int) = ((n % 18446744073709551616 : Nat) : Int) := by
  simp [IntKind.wrap, IntKind.bits, IntKind.signed]
end Go.Lm
