/- calquelaw08.InsBits. -/
import Derived.Test.YtfgcnehjdaiipaaC15
set_option linter.unusedSimpArgs false
set_option linter.unusedVariables false
namespace Go.Lm
open Go.Proofs

theorem fl_xor (x y at_ n : Nat) : fl (x ^^^ y) at_ n = fl x at_ n ^^^ fl y at_ n := by
  unfold fl
  apply Nat.eq_of_testBit_eq
  intro i
  simp only [Nat.testBit_xor, Nat.testBit_mod_two_pow, Nat.testBit_div_two_pow]
  cases decide (i < n) <;> simp
theorem dec_addu (v : Nat) (h1 : fl v 26 6 = 0) (h2 : fl v 0 6 = 33) : decQ v = if fl v 6 5 = 0 then ⟨1, fl v 21 5, fl v 16 5, fl v 11 5, 0, 0⟩ else noIns := by
  have h3 : atQ v = (0, 33) := by unfold atQ; rw [h1, h2]; rfl
  have h4 : rowsTab.tail.find? (fun r => decide (slotQ r = (0, 33))) = some (1, 0, ⟨#[97, 100, 100, 117]⟩, 33) := by kernel_rfl
  have h5 : ofQ v = some (1, 0, ⟨#[97, 100, 100, 117]⟩, 33) := by unfold ofQ; rw [h3]; exact h4
  rw [decQ, h5]
  rfl
theorem sh_nat (a k : Nat) (h : a < 32) : sh (a : Int) k = a * 2 ^ k := by
  unfold sh
  have : ((a : Int) % 32).toNat = a := by omega
  rw [this]
def w0 (a b c : Nat) : Nat := a * 2097152 + b * 65536 + c * 2048 + 33
theorem word_addu (a b c : Nat) (ha : a < 32) (hb : b < 32) (hc : c < 32) : (rencQ ⟨1, a, b, c, 0, 0⟩).1 = w0 a b c := by
  unfold w0
  have h1 : rfindQ 1 = some (1, 68, 0, 33, ⟨#[97, 100, 100, 117]⟩) := by kernel_rfl
  have h0 : sh 0 6 = 0 := rfl
  simp only [rencQ, h1, wordQ, sh_nat a 21 ha, sh_nat b 16 hb, sh_nat c 11 hc, h0]
  omega

theorem w0_fl (a b c : Nat) (ha : a < 32) (hb : b < 32) (hc : c < 32) : fl (w0 a b c) 26 6 = 0 ∧ fl (w0 a b c) 0 6 = 33 ∧ fl (w0 a b c) 21 5 = a ∧ fl (w0 a b c) 16 5 = b ∧ fl (w0 a b c) 11 5 = c ∧ fl (w0 a b c) 6 5 = 0 := by
  unfold fl w0
  omega

theorem w0_lt (a b c : Nat) (ha : a < 32) (hb : b < 32) (hc : c < 32) : w0 a b c < 2 ^ 26 := by unfold w0; omega
theorem xbU (w j : Nat) (hw : w < 2 ^ 26) (hj : j < 32) : ixor .u32 (w : Int) (ishl .u32 1 (j : Int)) = ((w ^^^ 2 ^ j : Nat) : Int) := by
  have h1 : 2 ^ j ≤ 2 ^ 31 := Nat.pow_le_pow_right (by decide) (by omega)
  have e : ishl .u32 1 (j : Int) = ((2 ^ j : Nat) : Int) := by
    have := ishl_nat .u32 (a := 1) (n := j) (by simp; omega)
    rw [show ((1 : Nat) : Int) = (1 : Int) from rfl] at this
    rw [this, wrap_u32_nat, Nat.one_mul, Nat.mod_eq_of_lt (by omega)]
  rw [e, ixor_nat .u32 (by simp only [nb]; omega) (by simp only [nb]; omega)]
theorem xbI (a k : Nat) (ha : a < 32) (hk : k < 5) : ixor .i64 (a : Int) (ishl .i64 1 (k : Int)) = ((a ^^^ 2 ^ k : Nat) : Int) := by
  have h1 : 2 ^ k ≤ 2 ^ 4 := Nat.pow_le_pow_right (by decide) (by omega)
  have e : ishl .i64 1 (k : Int) = ((2 ^ k : Nat) : Int) := by
    have := ishl_nat .i64 (a := 1) (n := k) (by simp; omega)
    rw [show ((1 : Nat) : Int) = (1 : Int) from rfl] at this
    rw [this, wI64 (by omega) (by omega), Nat.one_mul]
  rw [e, ixor_nat .i64 (by simp only [nb]; omega) (by simp only [nb]; omega)]
theorem dec_x (w j : Nat) (f1 : fl w 26 6 = 0) (f2 : fl w 0 6 = 33) (f6 : fl w 6 5 = 0) (g1 : fl (2 ^ j) 26 6 = 0) (g2 : fl (2 ^ j) 0 6 = 0) (g6 : fl (2 ^ j) 6 5 = 0) :
    decQ (w ^^^ 2 ^ j) = ⟨1, fl w 21 5 ^^^ fl (2 ^ j) 21 5, fl w 16 5 ^^^ fl (2 ^ j) 16 5, fl w 11 5 ^^^ fl (2 ^ j) 11 5, 0, 0⟩ := by
  rw [dec_addu _ (by rw [fl_xor, f1, g1]; rfl) (by rw [fl_xor, f2, g2]; rfl), if_pos (by rw [fl_xor, f6, g6]; rfl), fl_xor, fl_xor, fl_xor]
theorem dec_y (w j : Nat) (f1 : fl w 26 6 = 0) (f2 : fl w 0 6 = 33) (f6 : fl w 6 5 = 0) (g1 : fl (2 ^ j) 26 6 = 0) (g2 : fl (2 ^ j) 0 6 = 0) (g6 : fl (2 ^ j) 6 5 ≠ 0) :
    decQ (w ^^^ 2 ^ j) = noIns := by
  rw [dec_addu _ (by rw [fl_xor, f1, g1]; rfl) (by rw [fl_xor, f2, g2]; rfl), if_neg (by rw [fl_xor, f6, Nat.zero_xor]; exact g6)]

theorem xb_lt (w j : Nat) (hw : w < 2 ^ 26) (hj : j < 32) : w ^^^ 2 ^ j < 2 ^ 32 := by
  have h1 : 2 ^ j ≤ 2 ^ 31 := Nat.pow_le_pow_right (by decide) (by omega)
  exact Nat.xor_lt_two_pow (by omega) (by omega)
theorem four (a b c k : Nat) (ha : a < 32) (hb : b < 32) (hc : c < 32) (hk : k < 5) :
    decQ (w0 a b c ^^^ 2 ^ (21 + k)) = ⟨1, a ^^^ 2 ^ k, b, c, 0, 0⟩ ∧ decQ (w0 a b c ^^^ 2 ^ (16 + k)) = ⟨1, a, b ^^^ 2 ^ k, c, 0, 0⟩ ∧ decQ (w0 a b c ^^^ 2 ^ (11 + k)) = ⟨1, a, b, c ^^^ 2 ^ k, 0, 0⟩ ∧
    decQ (w0 a b c ^^^ 2 ^ (6 + k)) = noIns := by
  obtain ⟨f1, f2, f3, f4, f5, f6⟩ := w0_fl a b c ha hb hc
  have h1 : ∀ i < 5, fl (2 ^ (21 + i)) 26 6 = 0 ∧ fl (2 ^ (21 + i)) 0 6 = 0 ∧ fl (2 ^ (21 + i)) 6 5 = 0 ∧ fl (2 ^ (21 + i)) 21 5 = 2 ^ i ∧ fl (2 ^ (21 + i)) 16 5 = 0 ∧ fl (2 ^ (21 + i)) 11 5 = 0 := by decide
  have h2 : ∀ i < 5, fl (2 ^ (16 + i)) 26 6 = 0 ∧ fl (2 ^ (16 + i)) 0 6 = 0 ∧ fl (2 ^ (16 + i)) 6 5 = 0 ∧ fl (2 ^ (16 + i)) 21 5 = 0 ∧ fl (2 ^ (16 + i)) 16 5 = 2 ^ i ∧ fl (2 ^ (16 + i)) 11 5 = 0 := by decide
  have h3 : ∀ i < 5, fl (2 ^ (11 + i)) 26 6 = 0 ∧ fl (2 ^ (11 + i)) 0 6 = 0 ∧ fl (2 ^ (11 + i)) 6 5 = 0 ∧ fl (2 ^ (11 + i)) 21 5 = 0 ∧ fl (2 ^ (11 + i)) 16 5 = 0 ∧ fl (2 ^ (11 + i)) 11 5 = 2 ^ i := by decide
  have h4 : ∀ i < 5, fl (2 ^ (6 + i)) 26 6 = 0 ∧ fl (2 ^ (6 + i)) 0 6 = 0 ∧ fl (2 ^ (6 + i)) 6 5 ≠ 0 := by decide
  obtain ⟨a1, a2, a3, a4, a5, a6⟩ := h1 k hk
  obtain ⟨b1, b2, b3, b4, b5, b6⟩ := h2 k hk
  obtain ⟨c1, c2, c3, c4, c5, c6⟩ := h3 k hk
  obtain ⟨d1, d2, d3⟩ := h4 k hk
  refine ⟨?_, ?_, ?_, ?_⟩
  · rw [dec_x _ _ f1 f2 f6 a1 a2 a3, f3, f4, f5, a4, a5, a6, Nat.xor_zero, Nat.xor_zero]
  · rw [dec_x _ _ f1 f2 f6 b1 b2 b3, f3, f4, f5, b4, b5, b6, Nat.xor_zero, Nat.xor_zero]
  · rw [dec_x _ _ f1 f2 f6 c1 c2 c3, f3, f4, f5, c4, c5, c6, Nat.xor_zero, Nat.xor_zero]
  · exact dec_y _ _ f1 f2 f6 d1 d2 d3

set_option maxRecDepth 100000 in
set_option maxHeartbeats 4000000 in
theorem bits_tc (s t d at_ : Int) (m : Mem) : TC Try.prog 5 [.int .i64 s, .int .i64 t, .int .i64 d, .int .i64 at_] m (fun v _ => v = .bool true) := by
  refine TC_fn mixed Try.func5 rfl Try.ntmps5 rfl (by decide) (by simp) ?_
  refine wpc_st fun K hK => ?_
  simp -dsimp
  refine hK _ _ ?_
  clear hK K
  refine wpc_st fun K hK => ?_
  simp -dsimp
  refine place_tc s 32 (by decide) (by decide) _ _ ?_
  simp -dsimp
  refine place_tc t 32 (by decide) (by decide) _ _ ?_
  simp -dsimp
  refine place_tc d 32 (by decide) (by decide) _ _ ?_
  simp -dsimp
  refine hK _ _ ?_
  clear hK K
  refine wpc_st fun K hK => ?_
  simp -dsimp
  refine place_tc at_ 5 (by decide) (by decide) _ _ ?_
  simp -dsimp
  refine hK _ _ ?_
  clear hK K
  obtain ⟨a, ha, ea⟩ : ∃ a : Nat, a < 32 ∧ s % 32 = (a : Int) := ⟨(s % 32).toNat, by omega, by omega⟩
  obtain ⟨b, hb, eb⟩ : ∃ b : Nat, b < 32 ∧ t % 32 = (b : Int) := ⟨(t % 32).toNat, by omega, by omega⟩
  obtain ⟨c, hc, ec⟩ : ∃ c : Nat, c < 32 ∧ d % 32 = (c : Int) := ⟨(d % 32).toNat, by omega, by omega⟩
  rw [ea, eb, ec]
  refine wpc_st fun K hK => ?_
  simp -dsimp
  refine lword_tc 1 a b c 0 0 (by decide) _ _ ?_
  rw [word_addu a b c ha hb hc]
  simp -dsimp
  refine hK _ _ ?_
  clear hK K
  have hk : at_ % 5 = 0 ∨ at_ % 5 = 1 ∨ at_ % 5 = 2 ∨ at_ % 5 = 3 ∨ at_ % 5 = 4 := by omega
  obtain ⟨k, hk, ek⟩ : ∃ k : Nat, k < 5 ∧ at_ % 5 = (k : Int) := ⟨(at_ % 5).toNat, by omega, by omega⟩
  rw [ek]
  obtain ⟨hx, hy, hz, hn⟩ := four a b c k ha hb hc hk
  have wl := w0_lt a b c ha hb hc
  have gx := xb_lt (w0 a b c) (21 + k) wl (by omega)
  have xx := xbU (w0 a b c) (21 + k) wl (by omega)
  have sx : IntKind.u64.wrap (IntKind.i64.wrap (21 + (k : Int))) = ((21 + k : Nat) : Int) := by rw [wI64 (by omega) (by omega), wU64 (by omega) (by omega)]; omega
  have gy := xb_lt (w0 a b c) (16 + k) wl (by omega)
  have xy := xbU (w0 a b c) (16 + k) wl (by omega)
  have sy : IntKind.u64.wrap (IntKind.i64.wrap (16 + (k : Int))) = ((16 + k : Nat) : Int) := by rw [wI64 (by omega) (by omega), wU64 (by omega) (by omega)]; omega
  have gz := xb_lt (w0 a b c) (11 + k) wl (by omega)
  have xz := xbU (w0 a b c) (11 + k) wl (by omega)
  have sz : IntKind.u64.wrap (IntKind.i64.wrap (11 + (k : Int))) = ((11 + k : Nat) : Int) := by rw [wI64 (by omega) (by omega), wU64 (by omega) (by omega)]; omega
  have gn := xb_lt (w0 a b c) (6 + k) wl (by omega)
  have xn := xbU (w0 a b c) (6 + k) wl (by omega)
  have sn : IntKind.u64.wrap (IntKind.i64.wrap (6 + (k : Int))) = ((6 + k : Nat) : Int) := by rw [wI64 (by omega) (by omega), wU64 (by omega) (by omega)]; omega
  have s0 : IntKind.u64.wrap (k : Int) = (k : Int) := wU64 (by omega) (by omega)
  have xa := xbI a k ha hk
  have xb := xbI b k hb hk
  have xc := xbI c k hc hk
  generalize 21 + k = jx at hx gx xx sx
  generalize 16 + k = jy at hy gy xy sy
  generalize 11 + k = jz at hz gz xz sz
  generalize 6 + k = jn at hn gn xn sn
  generalize w0 a b c = W at *
  generalize hA : a ^^^ 2 ^ k = A at *
  generalize hB : b ^^^ 2 ^ k = B at *
  generalize hC : c ^^^ 2 ^ k = C at *
  refine wpc_st fun K hK => ?_
  simp -dsimp [sx, xx]
  refine dec_tc _ gx _ _ ?_
  rw [hx]
  simp -dsimp [insV]
  refine hK _ _ ?_
  clear hK K
  refine wpc_st fun K hK => ?_
  simp -dsimp [sy, xy]
  refine dec_tc _ gy _ _ ?_
  rw [hy]
  simp -dsimp [insV]
  refine hK _ _ ?_
  clear hK K
  refine wpc_st fun K hK => ?_
  simp -dsimp [sz, xz]
  refine dec_tc _ gz _ _ ?_
  rw [hz]
  simp -dsimp [insV]
  refine hK _ _ ?_
  clear hK K
  simp -dsimp [s0, xa, xb, xc, sn, xn]
  refine dec_tc _ gn _ _ ?_
  rw [hn]
  simp -dsimp [insV, noIns]
  refine awake_tc _ _ ?_
  simp -dsimp
  exact fin_ret rfl (leave_pure (by simp) rfl)
end Go.Lm
