/- Contracts of the two Encode, of calquelaw08.InsBits, InsAll and InsBack; the two Decode and the two Encode are the same. -/
import Derived.Test.YtfgcnehjdaiipaaMD
import Derived.Test.YtfgcnehjdaiipaaMC
import Derived.Test.YtfgcnehjdaiipaaMB
/- calqueref08.Encode. -/
set_option linter.unusedSimpArgs false
set_option linter.unusedVariables false
namespace Go.Lm
open Go.Proofs

def eqZ (a : InsM) (i : InsZ) : Bool := ((a.op : Int) == i.op) && (((a.s : Int) == i.s) && (((a.t : Int) == i.t) && (((a.d : Int) == i.d) && (((a.a : Int) == i.a) && ((a.imm : Int) == (i.imm : Int))))))
def rencQ (i : InsZ) : Nat × Bool := match rfindQ i.op with | none => (0, false) | some r => (wordQ r.2.1 r.2.2.1 r.2.2.2.1 i, eqZ (rdecQ (wordQ r.2.1 r.2.2.1 r.2.2.2.1 i)) i)

theorem wordQ_lt (r : RRow) (hr : okRow r = true) (i : InsZ) (hi : i.imm < 2 ^ 32) : wordQ r.2.1 r.2.2.1 r.2.2.2.1 i < 2 ^ 32 := by
  obtain ⟨op, form, O, F, nm⟩ := r
  simp only [okRow, Bool.and_eq_true, decide_eq_true_eq] at hr
  obtain ⟨⟨⟨h1, hO⟩, hF⟩, h2⟩ := hr
  have bs := sh_le i.s 21
  have bt := sh_le i.t 16
  have bd := sh_le i.d 11
  have ba := sh_le i.a 6
  rcases okForm_cases h1 with rfl | rfl | rfl | rfl | rfl | rfl | rfl | rfl | rfl | rfl | rfl | rfl | rfl | rfl | rfl | rfl | rfl | rfl <;> simp only [wordQ] <;> first | omega | (simp at h2; omega)

def rencI (i : InsZ) (m : Mem) (f : Nat) (env : Env) (m' : Mem) : Prop :=
  ∃ k, k ≤ 69 ∧ f = 69 - k ∧ (∀ j, j < k → decide (((rrowK j).1 : Int) = i.op) = false) ∧ elook env 1 = some (.pointer (some ⟨m.top, 0, none⟩)) ∧ elook env 4 = some (.pointer (some ⟨m.top + 1, 0, none⟩)) ∧
  elook env 5 = some (.int .i64 k) ∧ m' = { base := m.get, n := m.top, loc := [.cells false 0 #[.int .i64 i.op, .int .i64 i.s, .int .i64 i.t, .int .i64 i.d, .int .i64 i.a, .int .u32 i.imm], .cells false 0 refA] }

set_option maxRecDepth 100000 in
set_option maxHeartbeats 4000000 in
theorem renc_tc (i : InsZ) (hi : i.imm < 2 ^ 32) (m : Mem) (Q) (h : Q (.tuple #[.int .u32 ((rencQ i).1 : Nat), .bool (rencQ i).2]) m) : TC Try.prog 25 [insZV i] m Q := by
  refine TC_fn mixed Try.func25 rfl Try.ntmps25 rfl (by decide) (by simp) ?_
  refine wpc_st fun K hK => ?_
  simp -dsimp [insZV]
  refine hK _ _ ?_
  clear hK K
  refine wpc_st fun K hK => ?_
  simp -dsimp
  refine table_tc _ _ ?_
  simp -dsimp
  refine hK _ _ ?_
  clear hK K
  refine wpc_mid (fun env m' => ∃ f, rfindQ i.op = none ∧ rencI i m f env m') ?_ ?_
  · refine wpc_st fun K hK => ?_
    simp -dsimp
    refine hK _ _ ?_
    clear hK K
    simp -dsimp
    refine loop_by (rencI i m) 69 ?_ ?_
    · refine ⟨0, by decide, rfl, fun j hj => absurd hj (Nat.not_lt_zero _), ?_⟩
      simp -dsimp
    rintro f env m' ⟨k, hk, rfl, hno, e1, e4, e5, rfl⟩
    by_cases hkk : k < 69
    · have hkk' : (k : Int) < 69 := by omega
      have hb : k * 5 + 5 ≤ 345 := by omega
      simp -dsimp [e1, e4, e5, hkk']
      refine draw_go 6 [0, 1, 3, 7, 0, 16, 63] (by kernel_rfl) (by kernel_rfl) ?_
      simp -dsimp [e1, e4, e5, hkk', hb, refA_op k hkk]
      by_cases hm : ((rrowK k).1 : Int) = i.op
      · rw [if_pos hm]
        refine draw_go 4 [0, 1, 3, 0, 15, 31] (by kernel_rfl) (by kernel_rfl) ?_
        simp -dsimp [e1, e4, e5, hkk', hb, refA_at k hkk]
        refine word_tc (rrowK k) (rrowK_ok k) i hi _ _ ?_
        simp -dsimp
        have hwl := wordQ_lt (rrowK k) (rrowK_ok k) i hi
        refine draw_go 6 [0, 0, 2, 0, 14, 7, 63] (by kernel_rfl) (by kernel_rfl) ?_
        simp -dsimp [e1, e4, e5]
        refine .inl ⟨_, fun m' _ => rdec_tc _ hwl _ _ ⟨rfl, rfl⟩, drw_go ?_⟩
        simp -dsimp [e1, e4, e5, insV]
        have hf : rfindQ i.op = some (rrowK k) := by
          rw [← hm]
          exact ref_some (p := fun r => decide ((r.1 : Int) = ((rrowK k).1 : Int))) hkk (by simp) (by rw [hm]; exact hno)
        rw [rencQ, hf] at h
        exact fin_ret (v := .tuple #[.int .u32 ((wordQ (rrowK k).2.1 (rrowK k).2.2.1 (rrowK k).2.2.2.1 i : Nat) : Int), .bool (eqZ (rdecQ (wordQ (rrowK k).2.1 (rrowK k).2.2.1 (rrowK k).2.2.2.1 i)) i)]) rfl (leave_pure (by simp) h)
      · rw [if_neg hm]
        refine ⟨69 - (k + 1), by omega, k + 1, by omega, rfl, ?_, ?_⟩
        · intro j hj
          by_cases hjk : j = k
          · subst hjk; simpa using hm
          · exact hno j (by omega)
        simp -dsimp [e1, e4, e5]
        exact wI64 (by omega) (by omega)
    · have hk9 : k = 69 := by omega
      have hkk' : ¬ (k : Int) < 69 := by omega
      simp -dsimp [e1, e4, e5, hkk']
      refine ⟨ref_none (p := fun r => decide ((r.1 : Int) = i.op)) (hk9 ▸ hno), 0, 69, by decide, rfl, hk9 ▸ hno, ?_⟩
      simp -dsimp [e1, e4, e5, hk9]
  rintro env m' ⟨f, hno, k, hk, rfl, -, e1, e4, e5, rfl⟩
  simp -dsimp
  refine fin_ret (v := .tuple #[.int .u32 0, .bool false]) rfl (leave_pure (by simp) ?_)
  rw [rencQ, hno] at h
  exact h
end Go.Lm
/- calquelaw00.Word. -/
set_option linter.unusedSimpArgs false
set_option linter.unusedVariables false
namespace Go.Lm
open Go.Proofs

theorem lword_tc (op s t d a : Int) (imm : Nat) (hi : imm < 2 ^ 32) (m : Mem) (Q) (h : Q (.int .u32 ((rencQ ⟨op, s, t, d, a, imm⟩).1 : Nat)) m) :
    TC Try.prog 23 [.int .i64 op, .int .i64 s, .int .i64 t, .int .i64 d, .int .i64 a, .int .u32 imm] m Q := by
  refine TC_fn mixed Try.func23 rfl Try.ntmps23 rfl (by decide) (by simp) ?_
  simp -dsimp
  refine renc_tc ⟨op, s, t, d, a, imm⟩ hi _ _ ?_
  simp -dsimp
  exact fin_ret rfl (leave_pure (by simp) h)
end Go.Lm
/- calquelaw08.InsBits. -/
set_option linter.unusedSimpArgs false
set_option linter.unusedVariables false
namespace Go.Lm
open Go.Proofs

theorem fl_xor (x y at_ n : Nat) : fl (x ^^^ y) at_ n = fl x at_ n ^^^ fl y at_ n := by
  unfold fl
  apply Nat.eq_of_testBit_eq
  intro i
  simp only [Nat.testBit_xor, Nat.testBit_mod_two_pow, Nat.testBit_div_two_pow]
  cases decide (i < n) <;> simp
theorem dec_addu (v : Nat) (h1 : fl v 26 6 = 0) (h2 : fl v 0 6 = 33) : decQ v = if fl v 6 5 = 0 then ⟨1, fl v 21 5, fl v 16 5, fl v 11 5, 0, 0⟩ else noIns := by
  have h3 : atQ v = (0, 33) := by unfold atQ; rw [h1, h2]; rfl
  have h4 : rowsTab.tail.find? (fun r => decide (slotQ r = (0, 33))) = some (1, 0, ⟨#[97, 100, 100, 117]⟩, 33) := by kernel_rfl
  have h5 : ofQ v = some (1, 0, ⟨#[97, 100, 100, 117]⟩, 33) := by unfold ofQ; rw [h3]; exact h4
  rw [decQ, h5]
  rfl
theorem sh_nat (a k : Nat) (h : a < 32) : sh (a : Int) k = a * 2 ^ k := by
  unfold sh
  have : ((a : Int) % 32).toNat = a := by omega
  rw [this]
def w0 (a b c : Nat) : Nat := a * 2097152 + b * 65536 + c * 2048 + 33
theorem word_addu (a b c : Nat) (ha : a < 32) (hb : b < 32) (hc : c < 32) : (rencQ ⟨1, a, b, c, 0, 0⟩).1 = w0 a b c := by
  unfold w0
  have h1 : rfindQ 1 = some (1, 68, 0, 33, ⟨#[97, 100, 100, 117]⟩) := by kernel_rfl
  have h0 : sh 0 6 = 0 := rfl
  simp only [rencQ, h1, wordQ, sh_nat a 21 ha, sh_nat b 16 hb, sh_nat c 11 hc, h0]
  omega

theorem w0_fl (a b c : Nat) (ha : a < 32) (hb : b < 32) (hc : c < 32) : fl (w0 a b c) 26 6 = 0 ∧ fl (w0 a b c) 0 6 = 33 ∧ fl (w0 a b c) 21 5 = a ∧ fl (w0 a b c) 16 5 = b ∧ fl (w0 a b c) 11 5 = c ∧ fl (w0 a b c) 6 5 = 0 := by
  unfold fl w0
  omega

theorem w0_lt (a b c : Nat) (ha : a < 32) (hb : b < 32) (hc : c < 32) : w0 a b c < 2 ^ 26 := by unfold w0; omega
theorem xbU (w j : Nat) (hw : w < 2 ^ 26) (hj : j < 32) : ixor .u32 (w : Int) (ishl .u32 1 (j : Int)) = ((w ^^^ 2 ^ j : Nat) : Int) := by
  have h1 : 2 ^ j ≤ 2 ^ 31 := Nat.pow_le_pow_right (by decide) (by omega)
  have e : ishl .u32 1 (j : Int) = ((2 ^ j : Nat) : Int) := by
    have := ishl_nat .u32 (a := 1) (n := j) (by simp; omega)
    rw [show ((1 : Nat) : Int) = (1 : Int) from rfl] at this
    rw [this, wrap_u32_nat, Nat.one_mul, Nat.mod_eq_of_lt (by omega)]
  rw [e, ixor_nat .u32 (by simp only [nb]; omega) (by simp only [nb]; omega)]
theorem xbI (a k : Nat) (ha : a < 32) (hk : k < 5) : ixor .i64 (a : Int) (ishl .i64 1 (k : Int)) = ((a ^^^ 2 ^ k : Nat) : Int) := by
  have h1 : 2 ^ k ≤ 2 ^ 4 := Nat.pow_le_pow_right (by decide) (by omega)
  have e : ishl .i64 1 (k : Int) = ((2 ^ k : Nat) : Int) := by
    have := ishl_nat .i64 (a := 1) (n := k) (by simp; omega)
    rw [show ((1 : Nat) : Int) = (1 : Int) from rfl] at this
    rw [this, wI64 (by omega) (by omega), Nat.one_mul]
  rw [e, ixor_nat .i64 (by simp only [nb]; omega) (by simp only [nb]; omega)]
theorem dec_x (w j : Nat) (f1 : fl w 26 6 = 0) (f2 : fl w 0 6 = 33) (f6 : fl w 6 5 = 0) (g1 : fl (2 ^ j) 26 6 = 0) (g2 : fl (2 ^ j) 0 6 = 0) (g6 : fl (2 ^ j) 6 5 = 0) :
    decQ (w ^^^ 2 ^ j) = ⟨1, fl w 21 5 ^^^ fl (2 ^ j) 21 5, fl w 16 5 ^^^ fl (2 ^ j) 16 5, fl w 11 5 ^^^ fl (2 ^ j) 11 5, 0, 0⟩ := by
  rw [dec_addu _ (by rw [fl_xor, f1, g1]; rfl) (by rw [fl_xor, f2, g2]; rfl), if_pos (by rw [fl_xor, f6, g6]; rfl), fl_xor, fl_xor, fl_xor]
theorem dec_y (w j : Nat) (f1 : fl w 26 6 = 0) (f2 : fl w 0 6 = 33) (f6 : fl w 6 5 = 0) (g1 : fl (2 ^ j) 26 6 = 0) (g2 : fl (2 ^ j) 0 6 = 0) (g6 : fl (2 ^ j) 6 5 ≠ 0) :
    decQ (w ^^^ 2 ^ j) = noIns := by
  rw [dec_addu _ (by rw [fl_xor, f1, g1]; rfl) (by rw [fl_xor, f2, g2]; rfl), if_neg (by rw [fl_xor, f6, Nat.zero_xor]; exact g6)]

theorem xb_lt (w j : Nat) (hw : w < 2 ^ 26) (hj : j < 32) : w ^^^ 2 ^ j < 2 ^ 32 := by
  have h1 : 2 ^ j ≤ 2 ^ 31 := Nat.pow_le_pow_right (by decide) (by omega)
  exact Nat.xor_lt_two_pow (by omega) (by omega)
theorem four (a b c k : Nat) (ha : a < 32) (hb : b < 32) (hc : c < 32) (hk : k < 5) :
    decQ (w0 a b c ^^^ 2 ^ (21 + k)) = ⟨1, a ^^^ 2 ^ k, b, c, 0, 0⟩ ∧ decQ (w0 a b c ^^^ 2 ^ (16 + k)) = ⟨1, a, b ^^^ 2 ^ k, c, 0, 0⟩ ∧ decQ (w0 a b c ^^^ 2 ^ (11 + k)) = ⟨1, a, b, c ^^^ 2 ^ k, 0, 0⟩ ∧
    decQ (w0 a b c ^^^ 2 ^ (6 + k)) = noIns := by
  obtain ⟨f1, f2, f3, f4, f5, f6⟩ := w0_fl a b c ha hb hc
  have h1 : ∀ i < 5, fl (2 ^ (21 + i)) 26 6 = 0 ∧ fl (2 ^ (21 + i)) 0 6 = 0 ∧ fl (2 ^ (21 + i)) 6 5 = 0 ∧ fl (2 ^ (21 + i)) 21 5 = 2 ^ i ∧ fl (2 ^ (21 + i)) 16 5 = 0 ∧ fl (2 ^ (21 + i)) 11 5 = 0 := by decide
  have h2 : ∀ i < 5, fl (2 ^ (16 + i)) 26 6 = 0 ∧ fl (2 ^ (16 + i)) 0 6 = 0 ∧ fl (2 ^ (16 + i)) 6 5 = 0 ∧ fl (2 ^ (16 + i)) 21 5 = 0 ∧ fl (2 ^ (16 + i)) 16 5 = 2 ^ i ∧ fl (2 ^ (16 + i)) 11 5 = 0 := by decide
  have h3 : ∀ i < 5, fl (2 ^ (11 + i)) 26 6 = 0 ∧ fl (2 ^ (11 + i)) 0 6 = 0 ∧ fl (2 ^ (11 + i)) 6 5 = 0 ∧ fl (2 ^ (11 + i)) 21 5 = 0 ∧ fl (2 ^ (11 + i)) 16 5 = 0 ∧ fl (2 ^ (11 + i)) 11 5 = 2 ^ i := by decide
  have h4 : ∀ i < 5, fl (2 ^ (6 + i)) 26 6 = 0 ∧ fl (2 ^ (6 + i)) 0 6 = 0 ∧ fl (2 ^ (6 + i)) 6 5 ≠ 0 := by decide
  obtain ⟨a1, a2, a3, a4, a5, a6⟩ := h1 k hk
  obtain ⟨b1, b2, b3, b4, b5, b6⟩ := h2 k hk
  obtain ⟨c1, c2, c3, c4, c5, c6⟩ := h3 k hk
  obtain ⟨d1, d2, d3⟩ := h4 k hk
  refine ⟨?_, ?_, ?_, ?_⟩
  · rw [dec_x _ _ f1 f2 f6 a1 a2 a3, f3, f4, f5, a4, a5, a6, Nat.xor_zero, Nat.xor_zero]
  · rw [dec_x _ _ f1 f2 f6 b1 b2 b3, f3, f4, f5, b4, b5, b6, Nat.xor_zero, Nat.xor_zero]
  · rw [dec_x _ _ f1 f2 f6 c1 c2 c3, f3, f4, f5, c4, c5, c6, Nat.xor_zero, Nat.xor_zero]
  · exact dec_y _ _ f1 f2 f6 d1 d2 d3

set_option maxRecDepth 100000 in
set_option maxHeartbeats 4000000 in
theorem bits_tc (s t d at_ : Int) (m : Mem) : TC Try.prog 5 [.int .i64 s, .int .i64 t, .int .i64 d, .int .i64 at_] m (fun v _ => v = .bool true) := by
  refine TC_fn mixed Try.func5 rfl Try.ntmps5 rfl (by decide) (by simp) ?_
  refine wpc_st fun K hK => ?_
  simp -dsimp
  refine hK _ _ ?_
  clear hK K
  refine wpc_st fun K hK => ?_
  simp -dsimp
  refine place_tc s 32 (by decide) (by decide) _ _ ?_
  simp -dsimp
  refine place_tc t 32 (by decide) (by decide) _ _ ?_
  simp -dsimp
  refine place_tc d 32 (by decide) (by decide) _ _ ?_
  simp -dsimp
  refine hK _ _ ?_
  clear hK K
  refine wpc_st fun K hK => ?_
  simp -dsimp
  refine place_tc at_ 5 (by decide) (by decide) _ _ ?_
  simp -dsimp
  refine hK _ _ ?_
  clear hK K
  obtain ⟨a, ha, ea⟩ : ∃ a : Nat, a < 32 ∧ s % 32 = (a : Int) := ⟨(s % 32).toNat, by omega, by omega⟩
  obtain ⟨b, hb, eb⟩ : ∃ b : Nat, b < 32 ∧ t % 32 = (b : Int) := ⟨(t % 32).toNat, by omega, by omega⟩
  obtain ⟨c, hc, ec⟩ : ∃ c : Nat, c < 32 ∧ d % 32 = (c : Int) := ⟨(d % 32).toNat, by omega, by omega⟩
  rw [ea, eb, ec]
  refine wpc_st fun K hK => ?_
  simp -dsimp
  refine lword_tc 1 a b c 0 0 (by decide) _ _ ?_
  rw [word_addu a b c ha hb hc]
  simp -dsimp
  refine hK _ _ ?_
  clear hK K
  have hk : at_ % 5 = 0 ∨ at_ % 5 = 1 ∨ at_ % 5 = 2 ∨ at_ % 5 = 3 ∨ at_ % 5 = 4 := by omega
  obtain ⟨k, hk, ek⟩ : ∃ k : Nat, k < 5 ∧ at_ % 5 = (k : Int) := ⟨(at_ % 5).toNat, by omega, by omega⟩
  rw [ek]
  obtain ⟨hx, hy, hz, hn⟩ := four a b c k ha hb hc hk
  have wl := w0_lt a b c ha hb hc
  have gx := xb_lt (w0 a b c) (21 + k) wl (by omega)
  have xx := xbU (w0 a b c) (21 + k) wl (by omega)
  have sx : IntKind.u64.wrap (IntKind.i64.wrap (21 + (k : Int))) = ((21 + k : Nat) : Int) := by rw [wI64 (by omega) (by omega), wU64 (by omega) (by omega)]; omega
  have gy := xb_lt (w0 a b c) (16 + k) wl (by omega)
  have xy := xbU (w0 a b c) (16 + k) wl (by omega)
  have sy : IntKind.u64.wrap (IntKind.i64.wrap (16 + (k : Int))) = ((16 + k : Nat) : Int) := by rw [wI64 (by omega) (by omega), wU64 (by omega) (by omega)]; omega
  have gz := xb_lt (w0 a b c) (11 + k) wl (by omega)
  have xz := xbU (w0 a b c) (11 + k) wl (by omega)
  have sz : IntKind.u64.wrap (IntKind.i64.wrap (11 + (k : Int))) = ((11 + k : Nat) : Int) := by rw [wI64 (by omega) (by omega), wU64 (by omega) (by omega)]; omega
  have gn := xb_lt (w0 a b c) (6 + k) wl (by omega)
  have xn := xbU (w0 a b c) (6 + k) wl (by omega)
  have sn : IntKind.u64.wrap (IntKind.i64.wrap (6 + (k : Int))) = ((6 + k : Nat) : Int) := by rw [wI64 (by omega) (by omega), wU64 (by omega) (by omega)]; omega
  have s0 : IntKind.u64.wrap (k : Int) = (k : Int) := wU64 (by omega) (by omega)
  have xa := xbI a k ha hk
  have xb := xbI b k hb hk
  have xc := xbI c k hc hk
  generalize 21 + k = jx at hx gx xx sx
  generalize 16 + k = jy at hy gy xy sy
  generalize 11 + k = jz at hz gz xz sz
  generalize 6 + k = jn at hn gn xn sn
  generalize w0 a b c = W at *
  generalize hA : a ^^^ 2 ^ k = A at *
  generalize hB : b ^^^ 2 ^ k = B at *
  generalize hC : c ^^^ 2 ^ k = C at *
  refine wpc_st fun K hK => ?_
  simp -dsimp [sx, xx]
  refine dec_tc _ gx _ _ ?_
  rw [hx]
  simp -dsimp [insV]
  refine hK _ _ ?_
  clear hK K
  refine wpc_st fun K hK => ?_
  simp -dsimp [sy, xy]
  refine dec_tc _ gy _ _ ?_
  rw [hy]
  simp -dsimp [insV]
  refine hK _ _ ?_
  clear hK K
  refine wpc_st fun K hK => ?_
  simp -dsimp [sz, xz]
  refine dec_tc _ gz _ _ ?_
  rw [hz]
  simp -dsimp [insV]
  refine hK _ _ ?_
  clear hK K
  simp -dsimp [s0, xa, xb, xc, sn, xn]
  refine dec_tc _ gn _ _ ?_
  rw [hn]
  simp -dsimp [insV, noIns]
  refine awake_tc _ _ ?_
  simp -dsimp
  exact fin_ret rfl (leave_pure (by simp) rfl)
end Go.Lm
/- decQ (the program's Decode) and rdecQ (the document's) are the same. -/
set_option linter.unusedSimpArgs false
set_option linter.unusedVariables false
namespace Go.Lm
open Go.Proofs

def cform : Nat → Nat
  | 0 => 68 | 1 => 72 | 2 => 77 | 3 => 70 | 4 => 76 | 5 => 71 | 6 => 84 | 7 => 67 | 8 => 88 | 9 => 89 | 10 => 73 | 11 => 85 | 12 => 86 | 13 => 80 | 14 => 66 | 15 => 90 | 16 => 82 | 17 => 74 | _ => 0

def rowOf (r : Row) : RRow := (r.1, cform r.2.1, (slotQ r).1, (slotQ r).2, r.2.2.1)
theorem tab_eq : refTab = rowsTab.tail.map rowOf := by kernel_rfl

/-- what is so of each row -/
def okR (r : Row) : Bool := decide (r.2.1 < 18) && decide (r.2.2.2 < 64) && (decide (r.2.1 < 10) || (r.2.1 == 16 && decide (r.2.2.2 < 32)) || (r.2.1 != 16 && r.2.2.2 != 0 && r.2.2.2 != 1 && r.2.2.2 != 28)) && decide (1 ≤ r.1) && decide (r.1 ≤ 69)
theorem tab_ok : rowsTab.tail.all okR = true := by kernel_rfl
theorem tab_apart : rowsTab.tail.Pairwise (fun a b => slotQ a ≠ slotQ b) := by
  have h : decide (rowsTab.tail.Pairwise (fun a b => slotQ a ≠ slotQ b)) = true := by kernel_rfl
  exact of_decide_eq_true h

theorem find_and {α : Type} {q s : α → Bool} : ∀ (l : List α), l.Pairwise (fun a b => ¬ (q a = true ∧ q b = true)) →
    l.find? (fun r => q r && s r) = match l.find? q with | some r => if s r then some r else none | none => none
  | [], _ => rfl
  | a :: l, h => by
    rw [List.pairwise_cons] at h
    rw [List.find?_cons, List.find?_cons]
    cases hq : q a with
    | true =>
      cases hs : s a with
      | true => simp [hs]
      | false =>
        simp only [Bool.and_false, hs]
        simp only [Bool.false_eq_true, if_false]
        rw [List.find?_eq_none]
        intro x hx
        have := h.1 x hx
        rw [hq] at this
        simp only [true_and] at this
        simp [this]
    | false =>
      simp only [Bool.false_and]
      exact find_and l h.2

theorem or0 (a b : Nat) : (a ||| b = 0) = (a = 0 ∧ b = 0) := by
  rw [eq_iff_iff]; exact Nat.or_eq_zero_iff
theorem xor0 (a b : Nat) : (a ^^^ b = 0) = (a = b) := by
  rw [eq_iff_iff]
  refine ⟨fun h => ?_, fun h => by rw [h, Nat.xor_self]⟩
  calc a = a ^^^ (a ^^^ b) := by rw [h, Nat.xor_zero]
    _ = b := by rw [← Nat.xor_assoc, Nat.xor_self, Nat.zero_xor]

theorem fit_row (r : Row) (hr : okR r = true) (w : Nat) : fitQ (rowOf r) w = (decide (slotQ r = atQ w) && decide ((formQ r.1 r.2.1 w).2 = 0)) := by
  obtain ⟨op, form, nm, code⟩ := r
  simp only [okR, Bool.and_eq_true, Bool.or_eq_true, decide_eq_true_eq, beq_iff_eq, bne_iff_ne] at hr
  obtain ⟨⟨⟨⟨hf, hc⟩, hx⟩, -⟩, -⟩ := hr
  have hfc : form = 0 ∨ form = 1 ∨ form = 2 ∨ form = 3 ∨ form = 4 ∨ form = 5 ∨ form = 6 ∨ form = 7 ∨ form = 8 ∨ form = 9 ∨ form = 10 ∨ form = 11 ∨ form = 12 ∨ form = 13 ∨ form = 14 ∨ form = 15 ∨ form = 16 ∨ form = 17 := by omega
  rw [Bool.eq_iff_iff]
  generalize ho : fl w 26 6 = o
  generalize hf6 : fl w 0 6 = f
  generalize ht : fl w 16 5 = t
  have hat : (o = 0 ∨ o = 28) ∧ atQ w = (o, f) ∨ o = 1 ∧ atQ w = (o, t) ∨ (o ≠ 0 ∧ o ≠ 28 ∧ o ≠ 1) ∧ atQ w = (o, 0) := by
    unfold atQ; rw [ho, hf6, ht]
    by_cases h0 : o = 0 ∨ o = 28
    · rw [if_pos h0]; exact .inl ⟨h0, rfl⟩
    · rw [if_neg h0]
      by_cases h1 : o = 1
      · rw [if_pos h1]; exact .inr (.inl ⟨h1, rfl⟩)
      · rw [if_neg h1]; exact .inr (.inr ⟨by omega, rfl⟩)
  rcases hat with ⟨hat0, hat⟩ | ⟨hat0, hat⟩ | ⟨hat0, hat⟩ <;> rw [hat] <;>
  rcases hfc with rfl | rfl | rfl | rfl | rfl | rfl | rfl | rfl | rfl | rfl | rfl | rfl | rfl | rfl | rfl | rfl | rfl | rfl <;>
    simp only [fitQ, rowOf, cform, slotQ, fitF, formQ, ho, hf6, ht, or0, xor0] <;>
    simp only [Nat.reduceLT, Nat.reduceLeDiff, Nat.reduceEqDiff, if_true, if_false, ite_true, ite_false, Bool.and_eq_true, decide_eq_true_eq, Prod.mk.injEq, and_true, true_and] <;>
    omega

theorem cut_row (r : Row) (hr : okR r = true) (w : Nat) : cutQ (rowOf r).1 (rowOf r).2.1 w = (formQ r.1 r.2.1 w).1 := by
  obtain ⟨op, form, nm, code⟩ := r
  simp only [okR, Bool.and_eq_true, Bool.or_eq_true, decide_eq_true_eq, beq_iff_eq, bne_iff_ne] at hr
  obtain ⟨⟨⟨⟨hf, -⟩, -⟩, -⟩, -⟩ := hr
  have hs : sxt 16 (fl w 0 16) = sxt 16 w := by
    have : fl w 0 16 % 2 ^ 16 = w % 2 ^ 16 := by unfold fl; omega
    simp only [sxt, this]
  have hfc : form = 0 ∨ form = 1 ∨ form = 2 ∨ form = 3 ∨ form = 4 ∨ form = 5 ∨ form = 6 ∨ form = 7 ∨ form = 8 ∨ form = 9 ∨ form = 10 ∨ form = 11 ∨ form = 12 ∨ form = 13 ∨ form = 14 ∨ form = 15 ∨ form = 16 ∨ form = 17 := by omega
  rcases hfc with rfl | rfl | rfl | rfl | rfl | rfl | rfl | rfl | rfl | rfl | rfl | rfl | rfl | rfl | rfl | rfl | rfl | rfl <;> simp only [cutQ, rowOf, cform, formQ, hs]

theorem find_map' {α β : Type} (f : α → β) (p : β → Bool) : ∀ l : List α, (l.map f).find? p = (l.find? (fun a => p (f a))).map f
  | [] => rfl
  | a :: l => by
    rw [List.map_cons, List.find?_cons, List.find?_cons]
    cases p (f a) with
    | true => rfl
    | false => exact find_map' f p l
theorem find_congr' {α : Type} {p q : α → Bool} : ∀ l : List α, (∀ a ∈ l, p a = q a) → l.find? p = l.find? q
  | [], _ => rfl
  | a :: l, h => by
    rw [List.find?_cons, List.find?_cons, h a (List.mem_cons_self ..), find_congr' l fun b hb => h b (List.mem_cons_of_mem _ hb)]

theorem row_ok {r : Row} (h : r ∈ rowsTab.tail) : okR r = true := List.all_eq_true.1 tab_ok r h

theorem rof_eq (w : Nat) : rofQ w = match ofQ w with | some r => if (formQ r.1 r.2.1 w).2 = 0 then some (rowOf r) else none | none => none := by
  unfold rofQ ofQ
  rw [tab_eq, find_map', find_congr' (q := fun r => decide (slotQ r = atQ w) && decide ((formQ r.1 r.2.1 w).2 = 0)) _ fun a ha => fit_row a (row_ok ha) w, find_and]
  · cases rowsTab.tail.find? fun r => decide (slotQ r = atQ w) with
    | none => rfl
    | some r =>
      simp only
      by_cases h : (formQ r.1 r.2.1 w).2 = 0
      · rw [if_pos h, if_pos (by simpa using h)]; rfl
      · rw [if_neg h, if_neg (by simpa using h)]; rfl
  · refine tab_apart.imp fun h hab => ?_
    simp only [decide_eq_true_eq] at hab
    exact h (hab.1.trans hab.2.symm)

theorem of_mem {w : Nat} {r : Row} (h : ofQ w = some r) : r ∈ rowsTab.tail ∧ slotQ r = atQ w := by
  have h1 := List.mem_of_find?_eq_some h
  have h2 := List.find?_some h
  exact ⟨h1, by simpa using h2⟩

theorem dec_eq (w : Nat) : rdecQ w = decQ w := by
  unfold rdecQ decQ
  rw [rof_eq]
  cases ho : ofQ w with
  | none => rfl
  | some r =>
    simp only
    by_cases h : (formQ r.1 r.2.1 w).2 = 0
    · rw [if_pos h, if_pos h]
      exact cut_row r (row_ok (of_mem ho).1) w
    · rw [if_neg h, if_neg h]
end Go.Lm
/- ins.Encode. -/
set_option linter.unusedSimpArgs false
set_option linter.unusedVariables false
namespace Go.Lm
open Go.Proofs

theorem and31u (x : Int) : iand .u32 (IntKind.u32.wrap x) 31 = ((sh x 0 : Nat) : Int) := by
  unfold iand sh
  have e0 : IntKind.u32.wrap x = x % 4294967296 := by simp [IntKind.wrap, IntKind.bits, IntKind.signed]
  have e1 : (BitVec.ofInt IntKind.u32.bits (x % 4294967296)).toNat = (x % 4294967296).toNat := by
    rw [BitVec.toNat_ofInt]
    show ((x % 4294967296) % 4294967296).toNat = _
    rw [Int.emod_emod_of_dvd _ (Int.dvd_refl _)]
  have e2 : (BitVec.ofInt IntKind.u32.bits 31).toNat = 2 ^ 5 - 1 := rfl
  rw [e0, BitVec.toNat_and, e1, e2, Nat.and_two_pow_sub_one_eq_mod]
  have : (x % 4294967296).toNat % 2 ^ 5 = (x % 32).toNat * 2 ^ 0 := by omega
  rw [this]
  exact wU32 (by omega) (by omega)

theorem encf_tc (x : Int) (k : Nat) (hk : k ≤ 26) (m : Mem) (Q) (h : Q (.int .u32 (sh x k : Nat)) m) : TC Try.prog 69 [.int .i64 x, .int .i64 k] m Q := by
  refine TC_fn mixed Try.func69 rfl Try.ntmps69 rfl (by decide) (by simp) ?_
  simp -dsimp
  rw [and31u, shl_sh x k hk]
  exact fin_ret rfl (leave_pure (by simp) h)

/-- the word of a row, by the fields -/
def encHi (r : Row) (i : InsZ) : Nat := (((slotQ r).1 * 67108864 ||| sh i.s 21) ||| sh i.d 11) ||| sh i.a 6
def encMid (r : Row) (i : InsZ) : Nat := encHi r i ||| (if r.2.1 = 16 then (slotQ r).2 * 65536 else sh i.t 16)
def encLow (r : Row) (i : InsZ) : Nat :=
  match r.2.1 with
  | 6 => (slotQ r).2 ||| (i.imm * 64 % 67108864)
  | 7 => (slotQ r).2 ||| (i.imm * 64 % 67108864)
  | 14 => fl i.imm 2 16
  | 15 => fl i.imm 2 16
  | 16 => fl i.imm 2 16
  | 17 => fl i.imm 2 26
  | 10 => fl i.imm 0 16
  | 13 => fl i.imm 0 16
  | 11 => fl i.imm 0 16
  | 12 => fl i.imm 0 16
  | _ => (slotQ r).2
def encW (r : Row) (i : InsZ) : Nat := encMid r i ||| encLow r i
def encQ (i : InsZ) : Nat × Nat :=
  if kindQ i.op = 0 then (0, 1) else
  let w := encW ((rowsTab[i.op.toNat]?).getD noRow) i
  if eqZ (decQ w) i then (w, 0) else (0, 1)

theorem encQ_eq (i : InsZ) (hz : ¬ kindQ i.op = 0) (r : Row) (hr : (rowsTab[i.op.toNat]?).getD noRow = r) : encQ i = if eqZ (decQ (encW r i)) i then (encW r i, 0) else (0, 1) := by
  subst hr
  unfold encQ
  rw [if_neg hz]

/-- the parts fit -/
structure EncOk (r : Row) : Prop where
  hi : (slotQ r).1 < 64
  lo : (slotQ r).2 < 64
  near : r.2.1 = 16 → (slotQ r).2 < 32
theorem row_encOk (r : Row) (h : okR r = true) : EncOk r := by
  obtain ⟨op, form, nm, code⟩ := r
  simp only [okR, Bool.and_eq_true, Bool.or_eq_true, decide_eq_true_eq, beq_iff_eq, bne_iff_ne] at h
  obtain ⟨⟨⟨⟨hf, hc⟩, hx⟩, -⟩, -⟩ := h
  refine ⟨?_, ?_, fun e => ?_⟩ <;> simp only [slotQ] <;> (repeat' split) <;> simp only <;> first | omega | (simp at e; omega)

theorem or_lt32 {a b : Nat} (ha : a < 2 ^ 32) (hb : b < 2 ^ 32) : a ||| b < 2 ^ 32 := Nat.or_lt_two_pow ha hb
theorem sh_lt32 (x : Int) (k : Nat) (hk : k ≤ 26) : sh x k < 2 ^ 32 := by
  have h2 := sh_lt x k
  have h3 : 2 ^ k ≤ 2 ^ 26 := Nat.pow_le_pow_right (by decide) hk
  omega
theorem encHi_lt {r : Row} (h : EncOk r) (i : InsZ) : encHi r i < 2 ^ 32 := by
  have := h.hi
  exact or_lt32 (or_lt32 (or_lt32 (by omega) (sh_lt32 _ _ (by decide))) (sh_lt32 _ _ (by decide))) (sh_lt32 _ _ (by decide))
theorem encMid_lt {r : Row} (h : EncOk r) (i : InsZ) : encMid r i < 2 ^ 32 := by
  refine or_lt32 (encHi_lt h i) ?_
  have := h.lo
  split
  · omega
  · exact sh_lt32 _ _ (by decide)
theorem fl_lt32 (w a n : Nat) (h : n ≤ 32 := by decide) : fl w a n < 2 ^ 32 := fl_lt w a n h
theorem encLow_lt {r : Row} (h : EncOk r) (i : InsZ) : encLow r i < 2 ^ 32 := by
  have := h.lo
  unfold encLow
  split <;> first | exact fl_lt32 _ _ _ | exact or_lt32 (by omega) (by omega) | omega
theorem encW_lt {r : Row} (h : EncOk r) (i : InsZ) : encW r i < 2 ^ 32 := or_lt32 (encMid_lt h i) (encLow_lt h i)

theorem ior32 {a b : Nat} (ha : a < 2 ^ 32) (hb : b < 2 ^ 32) : ior .u32 (a : Int) (b : Int) = ((a ||| b : Nat) : Int) := ior_nat .u32 ha hb
theorem shl26 (n : Nat) (h : n < 64) : ishl .u32 (n : Int) 26 = ((n * 67108864 : Nat) : Int) := by
  have := ishl_nat .u32 (a := n) (n := 26) (by decide)
  rw [show ((26 : Nat) : Int) = (26 : Int) from rfl] at this
  rw [this, wrap_u32_nat, Nat.mod_eq_of_lt (by omega)]
theorem shl16n (n : Nat) (h : n < 64) : ishl .u32 (n : Int) 16 = ((n * 65536 : Nat) : Int) := by
  have := ishl_nat .u32 (a := n) (n := 16) (by decide)
  rw [show ((16 : Nat) : Int) = (16 : Int) from rfl] at this
  rw [this, wrap_u32_nat, Nat.mod_eq_of_lt (by omega)]
theorem and6 (n : Nat) : iand .u32 (ishl .u32 (n : Int) 6) 67108863 = ((n * 64 % 67108864 : Nat) : Int) := by
  have := ishl_nat .u32 (a := n) (n := 6) (by decide)
  rw [show ((6 : Nat) : Int) = (6 : Int) from rfl] at this
  have h2 := iand_mask .u32 26 (a := n * 2 ^ 6 % 4294967296) (c := 67108863) (by simp only [nb]; omega) rfl (by decide)
  rw [show ((67108863 : Nat) : Int) = (67108863 : Int) from rfl] at h2
  rw [this, wrap_u32_nat, h2]
  have : n * 2 ^ 6 % 4294967296 % 2 ^ 26 = n * 64 % 67108864 := by omega
  rw [this]

theorem mem_tail (n : Nat) (hn : n < 70) (h : 0 < n) : rowsTab[n]'hn ∈ rowsTab.tail := by
  obtain ⟨k, rfl⟩ : ∃ k, n = k + 1 := ⟨n - 1, by omega⟩
  have hk : k < rowsTab.tail.length := by rw [tab_len]; omega
  have h2 : rowsTab.tail[k]'hk = rowsTab[k + 1]'hn := List.getElem_tail hk
  exact h2 ▸ List.getElem_mem hk

def lowF (s2 form imm : Nat) : Nat :=
  match form with
  | 6 => s2 ||| (imm * 64 % 67108864)
  | 7 => s2 ||| (imm * 64 % 67108864)
  | 14 => fl imm 2 16
  | 15 => fl imm 2 16
  | 16 => fl imm 2 16
  | 17 => fl imm 2 26
  | 10 => fl imm 0 16
  | 13 => fl imm 0 16
  | 11 => fl imm 0 16
  | 12 => fl imm 0 16
  | _ => s2
/-- what plays no part in the word's lowest bits -/
structure Vv where
  n : Int
  s : Int
  t : Int
  d : Int
  a : Int
  rop : Int
  nm : ByteArray
  code : Int
  s1 : Int
def Vv.mem (v : Vv) (m : Mem) (s2 form imm : Nat) : Mem := { base := m.get, n := m.top, loc := [.cells false 0 #[.int .i64 v.n, .int .i64 v.s, .int .i64 v.t, .int .i64 v.d, .int .i64 v.a, .int .u32 imm], .cells false 0 #[.int .i64 v.rop, .int .i64 form, .string v.nm, .int .u32 v.code], .cells false 0 #[.int .u32 v.s1, .int .u32 s2]] }
set_option maxRecDepth 100000 in
set_option maxHeartbeats 4000000 in
theorem enc_low_a (s2 M form imm : Nat) (hs2 : s2 < 64) (hM : M < 2 ^ 32) (hi : imm < 2 ^ 32) (hf : form = 0 ∨ form = 1 ∨ form = 2 ∨ form = 3 ∨ form = 4 ∨ form = 5 ∨ form = 8 ∨ form = 9) (m : Mem) (v : Vv) (env : Env)
    (e7 : elook env 7 = some (.int .u32 M)) (e1 : elook env 1 = some (.pointer (some ⟨m.top, 0, none⟩))) (e4 : elook env 4 = some (.pointer (some ⟨m.top + 1, 0, none⟩))) (e6 : elook env 6 = some (.pointer (some ⟨m.top + 2, 0, none⟩)))
    (R : Ex → Env → Mem → Prop) (hR : ∀ env', elook env' 7 = some (.int .u32 ((M ||| lowF s2 form imm : Nat) : Int)) → elook env' 1 = elook env 1 → elook env' 2 = elook env 2 → elook env' 3 = elook env 3 → R .normal env' (v.mem m s2 form imm)) :
    wpc Try.prog 100 (cpick (fbody Try.f24) [1, 1, 1, 1, 1, 1, 1, 0]) env (v.mem m s2 form imm) R := by
  refine wpc_part (b := _) rfl ?_
  simp only [Vv.mem] at hR ⊢
  rcases hf with rfl | rfl | rfl | rfl | rfl | rfl | rfl | rfl
  all_goals
    simp -dsimp [e7, e1, e4, e6]
    rw [ior32 hM (by omega)]
    exact hR _ (by simp -dsimp [lowF]) (by simp -dsimp) (by simp -dsimp) (by simp -dsimp)

set_option maxRecDepth 100000 in
set_option maxHeartbeats 4000000 in
theorem enc_low_b (s2 M form imm : Nat) (hs2 : s2 < 64) (hM : M < 2 ^ 32) (hi : imm < 2 ^ 32) (hf : form = 6 ∨ form = 7) (m : Mem) (v : Vv) (env : Env)
    (e7 : elook env 7 = some (.int .u32 M)) (e1 : elook env 1 = some (.pointer (some ⟨m.top, 0, none⟩))) (e4 : elook env 4 = some (.pointer (some ⟨m.top + 1, 0, none⟩))) (e6 : elook env 6 = some (.pointer (some ⟨m.top + 2, 0, none⟩)))
    (R : Ex → Env → Mem → Prop) (hR : ∀ env', elook env' 7 = some (.int .u32 ((M ||| lowF s2 form imm : Nat) : Int)) → elook env' 1 = elook env 1 → elook env' 2 = elook env 2 → elook env' 3 = elook env 3 → R .normal env' (v.mem m s2 form imm)) :
    wpc Try.prog 100 (cpick (fbody Try.f24) [1, 1, 1, 1, 1, 1, 1, 0]) env (v.mem m s2 form imm) R := by
  refine wpc_part (b := _) rfl ?_
  simp only [Vv.mem] at hR ⊢
  rcases hf with rfl | rfl
  all_goals
    simp -dsimp [e7, e1, e4, e6]
    rw [and6, ior32 (by omega) (by omega), ior32 hM (or_lt32 (by omega) (by omega))]
    exact hR _ (by simp -dsimp [lowF]) (by simp -dsimp) (by simp -dsimp) (by simp -dsimp)

set_option maxRecDepth 100000 in
set_option maxHeartbeats 4000000 in
theorem enc_low_c (s2 M form imm : Nat) (hs2 : s2 < 64) (hM : M < 2 ^ 32) (hi : imm < 2 ^ 32) (hf : form = 14 ∨ form = 15 ∨ form = 16) (m : Mem) (v : Vv) (env : Env)
    (e7 : elook env 7 = some (.int .u32 M)) (e1 : elook env 1 = some (.pointer (some ⟨m.top, 0, none⟩))) (e4 : elook env 4 = some (.pointer (some ⟨m.top + 1, 0, none⟩))) (e6 : elook env 6 = some (.pointer (some ⟨m.top + 2, 0, none⟩)))
    (R : Ex → Env → Mem → Prop) (hR : ∀ env', elook env' 7 = some (.int .u32 ((M ||| lowF s2 form imm : Nat) : Int)) → elook env' 1 = elook env 1 → elook env' 2 = elook env 2 → elook env' 3 = elook env 3 → R .normal env' (v.mem m s2 form imm)) :
    wpc Try.prog 100 (cpick (fbody Try.f24) [1, 1, 1, 1, 1, 1, 1, 0]) env (v.mem m s2 form imm) R := by
  refine wpc_part (b := _) rfl ?_
  simp only [Vv.mem] at hR ⊢
  rcases hf with rfl | rfl | rfl
  all_goals
    simp -dsimp [e7, e1, e4, e6]
    refine Field_tc imm hi 2 16 (by decide) (by decide) _ _ ?_
    simp -dsimp [e7, e1, e4, e6]
    rw [ior32 hM (fl_lt32 _ _ _)]
    exact hR _ (by simp -dsimp [lowF]) (by simp -dsimp) (by simp -dsimp) (by simp -dsimp)

set_option maxRecDepth 100000 in
set_option maxHeartbeats 4000000 in
theorem enc_low_d (s2 M form imm : Nat) (hs2 : s2 < 64) (hM : M < 2 ^ 32) (hi : imm < 2 ^ 32) (hf : form = 17) (m : Mem) (v : Vv) (env : Env)
    (e7 : elook env 7 = some (.int .u32 M)) (e1 : elook env 1 = some (.pointer (some ⟨m.top, 0, none⟩))) (e4 : elook env 4 = some (.pointer (some ⟨m.top + 1, 0, none⟩))) (e6 : elook env 6 = some (.pointer (some ⟨m.top + 2, 0, none⟩)))
    (R : Ex → Env → Mem → Prop) (hR : ∀ env', elook env' 7 = some (.int .u32 ((M ||| lowF s2 form imm : Nat) : Int)) → elook env' 1 = elook env 1 → elook env' 2 = elook env 2 → elook env' 3 = elook env 3 → R .normal env' (v.mem m s2 form imm)) :
    wpc Try.prog 100 (cpick (fbody Try.f24) [1, 1, 1, 1, 1, 1, 1, 0]) env (v.mem m s2 form imm) R := by
  refine wpc_part (b := _) rfl ?_
  simp only [Vv.mem] at hR ⊢
  rcases hf with rfl
  all_goals
    simp -dsimp [e7, e1, e4, e6]
    refine Field_tc imm hi 2 26 (by decide) (by decide) _ _ ?_
    simp -dsimp [e7, e1, e4, e6]
    rw [ior32 hM (fl_lt32 _ _ _)]
    exact hR _ (by simp -dsimp [lowF]) (by simp -dsimp) (by simp -dsimp) (by simp -dsimp)

set_option maxRecDepth 100000 in
set_option maxHeartbeats 4000000 in
theorem enc_low_e (s2 M form imm : Nat) (hs2 : s2 < 64) (hM : M < 2 ^ 32) (hi : imm < 2 ^ 32) (hf : form = 10 ∨ form = 13 ∨ form = 11 ∨ form = 12) (m : Mem) (v : Vv) (env : Env)
    (e7 : elook env 7 = some (.int .u32 M)) (e1 : elook env 1 = some (.pointer (some ⟨m.top, 0, none⟩))) (e4 : elook env 4 = some (.pointer (some ⟨m.top + 1, 0, none⟩))) (e6 : elook env 6 = some (.pointer (some ⟨m.top + 2, 0, none⟩)))
    (R : Ex → Env → Mem → Prop) (hR : ∀ env', elook env' 7 = some (.int .u32 ((M ||| lowF s2 form imm : Nat) : Int)) → elook env' 1 = elook env 1 → elook env' 2 = elook env 2 → elook env' 3 = elook env 3 → R .normal env' (v.mem m s2 form imm)) :
    wpc Try.prog 100 (cpick (fbody Try.f24) [1, 1, 1, 1, 1, 1, 1, 0]) env (v.mem m s2 form imm) R := by
  refine wpc_part (b := _) rfl ?_
  simp only [Vv.mem] at hR ⊢
  rcases hf with rfl | rfl | rfl | rfl
  all_goals
    simp -dsimp [e7, e1, e4, e6]
    refine Field_tc imm hi 0 16 (by decide) (by decide) _ _ ?_
    simp -dsimp [e7, e1, e4, e6]
    rw [ior32 hM (fl_lt32 _ _ _)]
    exact hR _ (by simp -dsimp [lowF]) (by simp -dsimp) (by simp -dsimp) (by simp -dsimp)

theorem enc_low (s2 M form imm : Nat) (hs2 : s2 < 64) (hM : M < 2 ^ 32) (hi : imm < 2 ^ 32) (hf : form < 18) (m : Mem) (v : Vv) (env : Env)
    (e7 : elook env 7 = some (.int .u32 M)) (e1 : elook env 1 = some (.pointer (some ⟨m.top, 0, none⟩))) (e4 : elook env 4 = some (.pointer (some ⟨m.top + 1, 0, none⟩))) (e6 : elook env 6 = some (.pointer (some ⟨m.top + 2, 0, none⟩)))
    (R : Ex → Env → Mem → Prop) (hR : ∀ env', elook env' 7 = some (.int .u32 ((M ||| lowF s2 form imm : Nat) : Int)) → elook env' 1 = elook env 1 → elook env' 2 = elook env 2 → elook env' 3 = elook env 3 → R .normal env' (v.mem m s2 form imm)) :
    wpc Try.prog 100 (cpick (fbody Try.f24) [1, 1, 1, 1, 1, 1, 1, 0]) env (v.mem m s2 form imm) R := by
  have hfc : (form = 0 ∨ form = 1 ∨ form = 2 ∨ form = 3 ∨ form = 4 ∨ form = 5 ∨ form = 8 ∨ form = 9) ∨ (form = 6 ∨ form = 7) ∨ (form = 14 ∨ form = 15 ∨ form = 16) ∨ form = 17 ∨ (form = 10 ∨ form = 13 ∨ form = 11 ∨ form = 12) := by omega
  rcases hfc with h | h | h | h | h
  · exact enc_low_a s2 M form imm hs2 hM hi h m v env e7 e1 e4 e6 R hR
  · exact enc_low_b s2 M form imm hs2 hM hi h m v env e7 e1 e4 e6 R hR
  · exact enc_low_c s2 M form imm hs2 hM hi h m v env e7 e1 e4 e6 R hR
  · exact enc_low_d s2 M form imm hs2 hM hi h m v env e7 e1 e4 e6 R hR
  · exact enc_low_e s2 M form imm hs2 hM hi h m v env e7 e1 e4 e6 R hR

set_option maxRecDepth 100000 in
set_option maxHeartbeats 4000000 in
theorem enc_tc (i : InsZ) (hi : i.imm < 2 ^ 32) (m : Mem) (Q) (h : Q (.tuple #[.int .u32 ((encQ i).1 : Nat), .int .i64 ((encQ i).2 : Nat)]) m) : TC Try.prog 24 [insZV i] m Q := by
  refine TC_fn mixed Try.func24 rfl Try.ntmps24 rfl (by decide) (by simp) ?_
  obtain ⟨op, s, t, d, a, imm⟩ := i
  simp only at hi
  refine wpc_st fun K hK => ?_
  simp -dsimp [insZV]
  refine hK _ _ ?_
  clear hK K
  refine wpc_sq fun K hK => ?_
  simp -dsimp
  refine kind_tc op _ _ ?_
  simp -dsimp
  by_cases hz : kindQ op = 0
  · simp -dsimp [hz]
    refine fin_ret (v := .tuple #[.int .u32 0, .int .i64 1]) rfl (leave_pure (by simp) ?_)
    simp only [encQ, hz] at h
    exact h
  rw [if_neg hz]
  refine hK _ _ ?_
  clear hK K
  obtain ⟨g1, g2⟩ := kind_range hz
  obtain ⟨n, rfl⟩ : ∃ n : Nat, op = n := ⟨op.toNat, by omega⟩
  have hn : n < 70 := by omega
  have hb : n * 4 + 4 ≤ 280 := by omega
  have hn' : (n : Int) < 70 := by omega
  obtain ⟨r, hr⟩ : ∃ r, r = (rowsTab[n]?).getD noRow := ⟨_, rfl⟩
  have hr2 : rowsTab[n]'(by simpa [rowsTab] using hn) = r := by rw [hr, List.getElem?_eq_getElem (by simpa [rowsTab] using hn)]; rfl
  refine wpc_sq fun K hK => ?_
  simp -dsimp
  refine draw_go 5 [0, 0, 2, 7, 0, 31] (by kernel_rfl) (by kernel_rfl) ?_
  simp -dsimp
  refine .inl ⟨_, fun m' _ => rows_tc _ _ ⟨rfl, rfl⟩, drw_go ?_⟩
  have hro : okR r = true := row_ok (by
    rw [← hr2]
    have : 0 < n := by omega
    exact mem_tail n hn this)
  have hE := row_encOk r hro
  obtain ⟨rop, form, nm, code⟩ := r
  simp -dsimp [hb, hn', rowsA_at n hn, hr2, rowVal]
  refine hK _ _ ?_
  clear hK K
  refine wpc_st fun K hK => ?_
  simp -dsimp
  refine hK _ _ ?_
  clear hK K
  refine wpc_st fun K hK => ?_
  simp -dsimp
  refine slot_tc (rop, form, nm, code) _ _ ?_
  simp -dsimp [pairV]
  refine hK _ _ ?_
  clear hK K
  have hH := encHi_lt hE ⟨n, s, t, d, a, imm⟩
  have hM := encMid_lt hE ⟨n, s, t, d, a, imm⟩
  have hL := encLow_lt hE ⟨n, s, t, d, a, imm⟩
  generalize hS : slotQ (rop, form, nm, code) = S at *
  obtain ⟨s1, s2⟩ := S
  have hs1 := hE.hi
  have hs2 := hE.lo
  rw [hS] at hs1 hs2
  simp only at hs1 hs2
  refine wpc_sq fun K hK => ?_
  simp -dsimp
  refine draw_go 17 [0, 1, 3, 0, 0, 16, 56, 127, 0, 0, 512, 1912, 4095, 0, 0, 16384, 61304, 131071, 262143] (by kernel_rfl) (by kernel_rfl) ?_
  simp -dsimp
  refine .inl ⟨_, fun m' _ => encf_tc s 21 (by decide) _ _ ⟨rfl, rfl⟩, drw_go ?_⟩
  simp -dsimp
  refine .inl ⟨_, fun m' _ => encf_tc d 11 (by decide) _ _ ⟨rfl, rfl⟩, drw_go ?_⟩
  simp -dsimp
  refine .inl ⟨_, fun m' _ => encf_tc a 6 (by decide) _ _ ⟨rfl, rfl⟩, drw_go ?_⟩
  have hw : ior .u32 (ior .u32 (ior .u32 (ishl .u32 (s1 : Int) 26) ((sh s 21 : Nat) : Int)) ((sh d 11 : Nat) : Int)) ((sh a 6 : Nat) : Int) = ((encHi (rop, form, nm, code) ⟨n, s, t, d, a, imm⟩ : Nat) : Int) := by
    rw [shl26 s1 hs1, ior32 (by omega) (sh_lt32 _ _ (by decide)), ior32 (or_lt32 (by omega) (sh_lt32 _ _ (by decide))) (sh_lt32 _ _ (by decide)), ior32 (or_lt32 (or_lt32 (by omega) (sh_lt32 _ _ (by decide))) (sh_lt32 _ _ (by decide))) (sh_lt32 _ _ (by decide))]
    rw [encHi, hS]
  simp -dsimp [hw]
  refine hK _ _ ?_
  clear hK K hw
  generalize hHH : encHi (rop, form, nm, code) ⟨n, s, t, d, a, imm⟩ = H at *
  have hMM : encMid (rop, form, nm, code) ⟨n, s, t, d, a, imm⟩ = H ||| (if form = 16 then s2 * 65536 else sh t 16) := by
    rw [encMid, hHH, hS]
  refine wpc_mid (fun env m' => elook env 7 = some (.int .u32 (encMid (rop, form, nm, code) ⟨n, s, t, d, a, imm⟩ : Nat)) ∧ elook env 1 = some (.pointer (some ⟨m.top, 0, none⟩)) ∧
    elook env 4 = some (.pointer (some ⟨m.top + 1, 0, none⟩)) ∧ elook env 6 = some (.pointer (some ⟨m.top + 2, 0, none⟩)) ∧ elook env 2 = some (.int .u32 0) ∧ elook env 3 = some (.int .i64 0) ∧
    m' = { base := m.get, n := m.top, loc := [.cells false 0 #[.int .i64 n, .int .i64 s, .int .i64 t, .int .i64 d, .int .i64 a, .int .u32 imm], .cells false 0 #[.int .i64 rop, .int .i64 form, .string nm, .int .u32 code], .cells false 0 #[.int .u32 s1, .int .u32 s2]] }) ?_ ?_
  · simp -dsimp
    by_cases h16 : form = 16
    · subst h16
      simp -dsimp
      rw [hMM, if_pos rfl, shl16n s2 hs2, ior32 hH (by omega)]
    · have h16' : ¬ (form : Int) = 16 := by omega
      simp -dsimp [h16']
      refine encf_tc t 16 (by decide) _ _ ?_
      simp -dsimp
      rw [hMM, if_neg h16, ior32 hH (sh_lt32 _ _ (by decide))]
  rintro env m' ⟨e7, e1, e4, e6, e2, e3, rfl⟩
  generalize hMm : encMid (rop, form, nm, code) ⟨n, s, t, d, a, imm⟩ = M at *
  have hWW : encW (rop, form, nm, code) ⟨n, s, t, d, a, imm⟩ = M ||| encLow (rop, form, nm, code) ⟨n, s, t, d, a, imm⟩ := by rw [encW, hMm]
  refine wpc_mid (fun env m' => elook env 7 = some (.int .u32 (encW (rop, form, nm, code) ⟨n, s, t, d, a, imm⟩ : Nat)) ∧ elook env 1 = some (.pointer (some ⟨m.top, 0, none⟩)) ∧
    elook env 2 = some (.int .u32 0) ∧ elook env 3 = some (.int .i64 0) ∧
    m' = { base := m.get, n := m.top, loc := [.cells false 0 #[.int .i64 n, .int .i64 s, .int .i64 t, .int .i64 d, .int .i64 a, .int .u32 imm], .cells false 0 #[.int .i64 rop, .int .i64 form, .string nm, .int .u32 code], .cells false 0 #[.int .u32 s1, .int .u32 s2]] }) ?_ ?_
  · have hfc : form < 18 := by
      simp only [okR, Bool.and_eq_true, decide_eq_true_eq] at hro
      exact hro.1.1.1.1
    refine enc_low s2 M form imm hs2 hM hi hfc m ⟨n, s, t, d, a, rop, nm, code, s1⟩ env e7 e1 e4 e6 _ ?_
    intro env' h7 h1 h2 h3
    exact ⟨by rw [h7, hWW]; simp only [encLow, hS, lowF], by rw [h1, e1], by rw [h2, e2], by rw [h3, e3], rfl⟩
  clear e7 e1 e4 e6 e2 e3
  rintro env m' ⟨e7, e1, e2, e3, rfl⟩
  have hWl := encW_lt hE ⟨n, s, t, d, a, imm⟩
  have hqq := encQ_eq ⟨n, s, t, d, a, imm⟩ hz (rop, form, nm, code) (by simp only [Int.toNat_natCast]; exact hr.symm)
  rw [hqq] at h
  generalize encW (rop, form, nm, code) ⟨n, s, t, d, a, imm⟩ = W at *
  obtain ⟨D, hD⟩ : ∃ D, decQ W = D := ⟨_, rfl⟩
  have hdec : ∀ (m : Mem) (Q : Value → Mem → Prop), Q (insV D) m → TC Try.prog 18 [.int .u32 W] m Q := fun m Q h => dec_tc W hWl m Q (hD.symm ▸ h)
  rw [hD] at h
  clear hD hWl
  obtain ⟨p1, p2, p3, p4, p5, p6⟩ := D
  simp -dsimp [e7, e1, e2, e3]
  refine draw_go 3 [0, 1, 0, 7] (by kernel_rfl) (by kernel_rfl) ?_
  simp -dsimp [e7, e1, e2, e3]
  refine .inl ⟨_, fun m' _ => hdec _ _ ⟨rfl, rfl⟩, drw_go ?_⟩
  simp -dsimp [e7, e1, e2, e3, insV]
  by_cases hq : eqZ ⟨p1, p2, p3, p4, p5, p6⟩ ⟨n, s, t, d, a, imm⟩ = true
  · rw [if_pos hq] at h
    have hq' : ¬(¬(p1 : Int) = n ∨ ¬(p2 : Int) = s ∨ ¬(p3 : Int) = t ∨ ¬(p4 : Int) = d ∨ ¬(p5 : Int) = a ∨ ¬(p6 : Int) = (imm : Int)) := by
      simp only [eqZ, Bool.and_eq_true, beq_iff_eq] at hq
      obtain ⟨q1, q2, q3, q4, q5, q6⟩ := hq
      rintro (x | x | x | x | x | x)
      · exact x q1
      · exact x q2
      · exact x q3
      · exact x q4
      · exact x q5
      · exact x q6
    rw [if_neg hq']
    exact fin_ret (v := .tuple #[.int .u32 W, .int .i64 0]) rfl (leave_pure (by simp) h)
  · rw [if_neg hq] at h
    have hq' : (¬(p1 : Int) = n ∨ ¬(p2 : Int) = s ∨ ¬(p3 : Int) = t ∨ ¬(p4 : Int) = d ∨ ¬(p5 : Int) = a ∨ ¬(p6 : Int) = (imm : Int)) := by
      refine Classical.byContradiction fun hn => hq ?_
      simp only [not_or, Decidable.not_not] at hn
      obtain ⟨q1, q2, q3, q4, q5, q6⟩ := hn
      simp only [eqZ, q1, q2, q3, q4, q5, q6, beq_self_eq_true, Bool.and_self]
    rw [if_pos hq']
    exact fin_ret (v := .tuple #[.int .u32 0, .int .i64 1]) rfl (leave_pure (by simp) h)
end Go.Lm
/- Words and instructions, there and back: the program's Encode and the document's. -/
set_option linter.unusedSimpArgs false
set_option linter.unusedVariables false
namespace Go.Lm
open Go.Proofs

def toZ (x : InsM) : InsZ := ⟨x.op, x.s, x.t, x.d, x.a, x.imm⟩

theorem or_add {x y : Nat} (k : Nat) (hx : x % 2 ^ k = 0) (hy : y < 2 ^ k) : x ||| y = x + y := by
  obtain ⟨z, rfl⟩ := Nat.dvd_of_mod_eq_zero hx
  exact (Nat.two_pow_add_eq_or_of_lt hy z).symm
theorem or_rc (a b c : Nat) : (a ||| b) ||| c = (a ||| c) ||| b := by rw [Nat.or_assoc, Nat.or_comm b c, ← Nat.or_assoc]

theorem orG {O S D A T L : Nat} (hO : O % 67108864 = 0) (hS : S % 2097152 = 0) (hS' : S < 67108864) (hT : T % 65536 = 0) (hT' : T < 2097152) (hD : D % 2048 = 0) (hD' : D < 65536) (hA : A % 64 = 0) (hA' : A < 2048) (hL : L < 64) :
    ((((O ||| S) ||| D) ||| A) ||| T) ||| L = O + S + T + D + A + L := by
  rw [or_rc _ A T, or_rc _ D T, or_add (x := O) 26 (by omega) (by omega), or_add (x := O + S) 21 (by omega) (by omega),
    or_add (x := O + S + T) 16 (by omega) (by omega), or_add (x := O + S + T + D) 11 (by omega) (by omega), or_add (x := O + S + T + D + A) 6 (by omega) (by omega)]
theorem orH {O S T L : Nat} (hO : O % 67108864 = 0) (hS : S % 2097152 = 0) (hS' : S < 67108864) (hT : T % 65536 = 0) (hT' : T < 2097152) (hL : L < 65536) :
    ((((O ||| S) ||| 0) ||| 0) ||| T) ||| L = O + S + T + L := by
  rw [Nat.or_zero, Nat.or_zero, or_add (x := O) 26 (by omega) (by omega), or_add (x := O + S) 21 (by omega) (by omega), or_add (x := O + S + T) 16 (by omega) (by omega)]
theorem orJ {O L : Nat} (hO : O % 67108864 = 0) (hL : L < 67108864) : ((((O ||| 0) ||| 0) ||| 0) ||| 0) ||| L = O + L := by
  simp only [Nat.or_zero]
  rw [or_add (x := O) 26 (by omega) (by omega)]
theorem orL {x y : Nat} (hx : x < 64) (hy : y % 64 = 0) : x ||| y = y + x := by
  rw [Nat.or_comm, or_add 6 (by omega) (by omega)]

theorem sh_0 (k : Nat) : sh ((0 : Nat) : Int) k = 0 := by unfold sh; simp
theorem sh_z (k : Nat) : sh 0 k = 0 := by unfold sh; simp

/-- a word by its fields -/
theorem parts (w : Nat) (hw : w < 2 ^ 32) : ∃ o s t d a f, o < 64 ∧ s < 32 ∧ t < 32 ∧ d < 32 ∧ a < 32 ∧ f < 64 ∧ w = o * 67108864 + s * 2097152 + t * 65536 + d * 2048 + a * 64 + f ∧
    fl w 26 6 = o ∧ fl w 21 5 = s ∧ fl w 16 5 = t ∧ fl w 11 5 = d ∧ fl w 6 5 = a ∧ fl w 0 6 = f ∧ fl w 0 16 = d * 2048 + a * 64 + f ∧ fl w 6 10 = d * 32 + a ∧ fl w 6 20 = s * 32768 + t * 1024 + d * 32 + a ∧
    fl w 0 26 = s * 2097152 + t * 65536 + d * 2048 + a * 64 + f := by
  refine ⟨fl w 26 6, fl w 21 5, fl w 16 5, fl w 11 5, fl w 6 5, fl w 0 6, ?_⟩
  unfold fl
  refine ⟨by omega, by omega, by omega, by omega, by omega, by omega, by omega, rfl, rfl, rfl, rfl, rfl, rfl, by omega, by omega, by omega, by omega⟩

theorem sxt_low (x : Nat) (hx : x < 65536) : sxt 16 x % 65536 = x ∧ (sxt 16 x * 4 % 2 ^ 32) / 4 % 65536 = x := by
  unfold sxt
  simp only
  split <;> omega

set_option maxHeartbeats 4000000 in
theorem encA (w : Nat) (hw : w < 2 ^ 32) (r : Row) (hr : okR r = true) (ha : slotQ r = atQ w) (h0 : (formQ r.1 r.2.1 w).2 = 0) :
    encW r (toZ (formQ r.1 r.2.1 w).1) = w ∧ wordQ (cform r.2.1) (slotQ r).1 (slotQ r).2 (toZ (formQ r.1 r.2.1 w).1) = w := by
  obtain ⟨o, s, t, d, a, f, ho, hs, ht, hd, haa, hf, hwe, f1, f2, f3, f4, f5, f6, f7, f8, f9, f10⟩ := parts w hw
  have hat : (o = 0 ∨ o = 28) ∧ atQ w = (o, f) ∨ o = 1 ∧ atQ w = (o, t) ∨ (o ≠ 0 ∧ o ≠ 28 ∧ o ≠ 1) ∧ atQ w = (o, 0) := by
    unfold atQ; rw [f1, f6, f3]
    by_cases h0 : o = 0 ∨ o = 28
    · rw [if_pos h0]; exact .inl ⟨h0, rfl⟩
    · rw [if_neg h0]
      by_cases h1 : o = 1
      · rw [if_pos h1]; exact .inr (.inl ⟨h1, rfl⟩)
      · rw [if_neg h1]; exact .inr (.inr ⟨by omega, rfl⟩)
  have hb : (o = 0 ∨ o = 28) ∧ slotQ r = (o, f) ∨ o = 1 ∧ slotQ r = (o, t) ∨ (o ≠ 0 ∧ o ≠ 28 ∧ o ≠ 1) ∧ slotQ r = (o, 0) := by rw [ha]; exact hat
  clear ha hat
  obtain ⟨op, form, nm, code⟩ := r
  simp only [okR, Bool.and_eq_true, Bool.or_eq_true, decide_eq_true_eq, beq_iff_eq, bne_iff_ne] at hr
  obtain ⟨⟨⟨⟨hfm, hc⟩, hx⟩, -⟩, -⟩ := hr
  have hlow := sxt_low (d * 2048 + a * 64 + f) (by omega)
  have hfc : form = 0 ∨ form = 1 ∨ form = 2 ∨ form = 3 ∨ form = 4 ∨ form = 5 ∨ form = 6 ∨ form = 7 ∨ form = 8 ∨ form = 9 ∨ form = 10 ∨ form = 11 ∨ form = 12 ∨ form = 13 ∨ form = 14 ∨ form = 15 ∨ form = 16 ∨ form = 17 := by omega
  have hfl (x : Nat) : fl x 2 16 = x / 4 % 65536 ∧ fl x 2 26 = x / 4 % 67108864 ∧ fl x 0 16 = x % 65536 := by unfold fl; omega
  simp only at h0 ⊢
  rcases hfc with rfl | rfl | rfl | rfl | rfl | rfl | rfl | rfl | rfl | rfl | rfl | rfl | rfl | rfl | rfl | rfl | rfl | rfl <;>
    simp only [formQ, or0, xor0, f2, f3, f4, f5, f7, f8, f9, f10] at h0 ⊢ <;>
    simp only [slotQ, Nat.reduceLT, Nat.reduceLeDiff, Nat.reduceEqDiff, if_true, if_false, ite_true, ite_false, Prod.mk.injEq] at hb <;>
    simp only [encW, encMid, encHi, encLow, slotQ, wordQ, cform, toZ, Nat.reduceLT, Nat.reduceLeDiff, Nat.reduceEqDiff, if_true, if_false, ite_true, ite_false, hfl] <;>
    simp only [sh_nat _ _ hs, sh_nat _ _ ht, sh_nat _ _ hd, sh_nat _ _ haa, sh_0, Nat.reducePow]
  · exact ⟨by rw [orG (by omega) (by omega) (by omega) (by omega) (by omega) (by omega) (by omega) (by omega) (by omega) (by omega)]; omega, by omega⟩
  · exact ⟨by rw [orG (by omega) (by omega) (by omega) (by omega) (by omega) (by omega) (by omega) (by omega) (by omega) (by omega)]; omega, by omega⟩
  · exact ⟨by rw [orG (by omega) (by omega) (by omega) (by omega) (by omega) (by omega) (by omega) (by omega) (by omega) (by omega)]; omega, by omega⟩
  · exact ⟨by rw [orG (by omega) (by omega) (by omega) (by omega) (by omega) (by omega) (by omega) (by omega) (by omega) (by omega)]; omega, by omega⟩
  · exact ⟨by rw [orG (by omega) (by omega) (by omega) (by omega) (by omega) (by omega) (by omega) (by omega) (by omega) (by omega)]; omega, by omega⟩
  · exact ⟨by rw [orG (by omega) (by omega) (by omega) (by omega) (by omega) (by omega) (by omega) (by omega) (by omega) (by omega)]; omega, by omega⟩
  · exact ⟨by rw [orL (x := code) (by omega) (by omega), orH (by omega) (by omega) (by omega) (by omega) (by omega) (by omega)]; omega, by omega⟩
  · exact ⟨by rw [orL (x := code) (by omega) (by omega), orJ (by omega) (by omega)]; omega, by omega⟩
  · exact ⟨by rw [orG (by omega) (by omega) (by omega) (by omega) (by omega) (by omega) (by omega) (by omega) (by omega) (by omega)]; omega, by omega⟩
  · exact ⟨by rw [orG (by omega) (by omega) (by omega) (by omega) (by omega) (by omega) (by omega) (by omega) (by omega) (by omega)]; omega, by omega⟩
  all_goals (try rw [hlow.1]) <;> (try rw [hlow.2])
  · exact ⟨by rw [orH (by omega) (by omega) (by omega) (by omega) (by omega) (by omega)]; omega, by omega⟩
  · exact ⟨by rw [orH (by omega) (by omega) (by omega) (by omega) (by omega) (by omega)]; omega, by omega⟩
  · exact ⟨by rw [orH (by omega) (by omega) (by omega) (by omega) (by omega) (by omega)]; omega, by omega⟩
  · exact ⟨by rw [orH (by omega) (by omega) (by omega) (by omega) (by omega) (by omega)]; omega, by omega⟩
  · exact ⟨by rw [orH (by omega) (by omega) (by omega) (by omega) (by omega) (by omega)]; omega, by omega⟩
  · exact ⟨by rw [orH (by omega) (by omega) (by omega) (by omega) (by omega) (by omega)]; omega, by omega⟩
  · exact ⟨by rw [orH (by omega) (by omega) (by omega) (by omega) (by omega) (by omega)]; omega, by omega⟩
  · exact ⟨by rw [orJ (by omega) (by omega)]; omega, by omega⟩
end Go.Lm
/- There and back; the program's Encode, Name are the document's. -/
set_option linter.unusedSimpArgs false
set_option linter.unusedVariables false
namespace Go.Lm
open Go.Proofs

theorem kind_pos {n : Int} (h1 : 1 ≤ n) (h2 : n ≤ 69) : ¬ kindQ n = 0 := by
  unfold kindQ
  rw [if_neg (by omega)]
  repeat' split
  all_goals decide

theorem tab_op {r : Row} (h : r ∈ rowsTab.tail) : rowsTab[r.1]? = some r ∧ rfindQ (r.1 : Int) = some (rowOf r) ∧ 1 ≤ r.1 ∧ r.1 ≤ 69 := by
  have h1 : rowsTab.tail.all (fun r => decide (rowsTab[r.1]? = some r) && decide (rfindQ (r.1 : Int) = some (rowOf r)) && decide (1 ≤ r.1) && decide (r.1 ≤ 69)) = true := by kernel_rfl
  have h2 := List.all_eq_true.1 h1 r h
  simp only [Bool.and_eq_true, decide_eq_true_eq] at h2
  obtain ⟨⟨⟨h2, h3⟩, h4⟩, h5⟩ := h2
  exact ⟨h2, h3, h4, h5⟩

theorem rfind_none {n : Int} (h : kindQ n = 0) : rfindQ n = none := by
  have h1 : refTab.all (fun r => decide (1 ≤ r.1) && decide (r.1 ≤ 69)) = true := by kernel_rfl
  unfold rfindQ
  rw [List.find?_eq_none]
  intro r hr
  have h2 := List.all_eq_true.1 h1 r hr
  simp only [Bool.and_eq_true, decide_eq_true_eq] at h2
  simp only [decide_eq_true_eq]
  intro e
  exact kind_pos (n := n) (by omega) (by omega) h

theorem row_at {n : Int} (h : ¬ kindQ n = 0) : ∃ r ∈ rowsTab.tail, n = (r.1 : Int) := by
  obtain ⟨g1, g2⟩ := kind_range h
  have hn : n.toNat < 70 := by omega
  refine ⟨rowsTab[n.toNat]'hn, mem_tail _ hn (by omega), ?_⟩
  have h1 : (List.range 70).all (fun n => decide ((rowsTab[n]?).map (·.1) = some n)) = true := by kernel_rfl
  have h2 := List.all_eq_true.1 h1 n.toNat (List.mem_range.2 hn)
  have h3 : rowsTab[n.toNat]? = some (rowsTab[n.toNat]'hn) := List.getElem?_eq_getElem hn
  rw [h3] at h2
  simp only [Option.map_some, decide_eq_true_eq, Option.some.injEq] at h2
  have h4 : ((rowsTab[n.toNat]'hn).1 : Int) = n.toNat := congrArg (fun (x : Nat) => (x : Int)) h2
  omega

theorem formQ_op (op form w : Nat) : (formQ op form w).1.op = op := by
  unfold formQ
  repeat' split
  all_goals rfl

theorem dec_some {w : Nat} (h : (decQ w).op ≠ 0) : ∃ r ∈ rowsTab.tail, slotQ r = atQ w ∧ (formQ r.1 r.2.1 w).2 = 0 ∧ decQ w = (formQ r.1 r.2.1 w).1 := by
  unfold decQ at h ⊢
  cases ho : ofQ w with
  | none => rw [ho] at h; exact absurd rfl h
  | some r =>
    rw [ho] at h
    simp only at h ⊢
    obtain ⟨h1, h2⟩ := of_mem ho
    by_cases h3 : (formQ r.1 r.2.1 w).2 = 0
    · exact ⟨r, h1, h2, h3, by rw [if_pos h3]⟩
    · rw [if_neg h3] at h; exact absurd rfl h

theorem eqZ_iff (a : InsM) (i : InsZ) : eqZ a i = true ↔ toZ a = i := by
  obtain ⟨op, s, t, d, x, imm⟩ := i
  unfold eqZ toZ
  simp only [Bool.and_eq_true, beq_iff_eq, InsZ.mk.injEq]
  constructor
  · rintro ⟨h1, h2, h3, h4, h5, h6⟩; exact ⟨h1, h2, h3, h4, h5, by omega⟩
  · rintro ⟨h1, h2, h3, h4, h5, h6⟩; exact ⟨h1, h2, h3, h4, h5, by omega⟩

theorem enc_dec (w : Nat) (hw : w < 2 ^ 32) (h : (decQ w).op ≠ 0) : encQ (toZ (decQ w)) = (w, 0) ∧ rencQ (toZ (decQ w)) = (w, true) := by
  obtain ⟨r, hr, h1, h2, h3⟩ := dec_some h
  obtain ⟨t1, t2, t3, t4⟩ := tab_op hr
  obtain ⟨e1, e2⟩ := encA w hw r (row_ok hr) h1 h2
  have hop : (decQ w).op = r.1 := by rw [h3, formQ_op]
  have hop' : (toZ (decQ w)).op = (r.1 : Int) := congrArg (fun (x : Nat) => (x : Int)) hop
  rw [← h3] at e1 e2
  constructor
  · rw [encQ_eq (toZ (decQ w)) (by rw [hop']; exact kind_pos (by omega) (by omega)) r (by rw [hop', Int.toNat_natCast, t1]; rfl), e1, if_pos ((eqZ_iff _ _).2 rfl)]
  · unfold rencQ
    rw [hop', t2]
    simp only [rowOf]
    rw [e2, dec_eq, (eqZ_iff _ _).2 rfl]

theorem enc_ok {i : InsZ} (hz : ¬ encQ i = (0, 1)) : ¬ kindQ i.op = 0 ∧ ∃ w, w < 2 ^ 32 ∧ encQ i = (w, 0) ∧ toZ (decQ w) = i := by
  by_cases hk : kindQ i.op = 0
  · exact absurd (by unfold encQ; rw [if_pos hk]) hz
  refine ⟨hk, ?_⟩
  obtain ⟨r, hr, hop⟩ := row_at hk
  obtain ⟨t1, t2, t3, t4⟩ := tab_op hr
  have he := encQ_eq i hk r (by rw [hop, Int.toNat_natCast, t1]; rfl)
  by_cases hq : eqZ (decQ (encW r i)) i = true
  · rw [if_pos hq] at he
    exact ⟨_, encW_lt (row_encOk r (row_ok hr)) i, he, (eqZ_iff _ _).1 hq⟩
  · rw [if_neg hq] at he; exact absurd he hz

theorem renc_ok {i : InsZ} (hi : i.imm < 2 ^ 32) (h : (rencQ i).2 = true) : ¬ kindQ i.op = 0 ∧ ∃ w, w < 2 ^ 32 ∧ rencQ i = (w, true) ∧ toZ (decQ w) = i := by
  by_cases hk : kindQ i.op = 0
  · unfold rencQ at h; rw [rfind_none hk] at h; cases h
  refine ⟨hk, ?_⟩
  obtain ⟨r, hr, hop⟩ := row_at hk
  obtain ⟨t1, t2, t3, t4⟩ := tab_op hr
  have hok : okRow (rowOf r) = true := by
    have h1 : rowsTab.tail.all (fun r => okRow (rowOf r)) = true := by kernel_rfl
    exact List.all_eq_true.1 h1 r hr
  have hl := wordQ_lt (rowOf r) hok i hi
  unfold rencQ at h ⊢
  rw [hop, t2] at h ⊢
  simp only at h ⊢
  rw [h]
  rw [dec_eq] at h
  exact ⟨_, hl, rfl, (eqZ_iff _ _).1 h⟩

theorem enc_all (i : InsZ) (hi : i.imm < 2 ^ 32) : encQ i = if (rencQ i).2 = true then ((rencQ i).1, 0) else (0, 1) := by
  by_cases h : (rencQ i).2 = true
  · obtain ⟨hk, w, hw, h1, h2⟩ := renc_ok hi h
    have hop : (decQ w).op ≠ 0 := by
      intro e
      apply hk
      rw [← h2]
      show kindQ ((decQ w).op : Int) = 0
      rw [e]; rfl
    rw [if_pos h, h1]
    have := (enc_dec w hw hop).1
    rw [h2] at this
    exact this
  · rw [if_neg h]
    refine Classical.byContradiction fun hz => ?_
    obtain ⟨hk, w, hw, h1, h2⟩ := enc_ok hz
    have hop : (decQ w).op ≠ 0 := by
      intro e
      apply hk
      rw [← h2]
      show kindQ ((decQ w).op : Int) = 0
      rw [e]; rfl
    have := (enc_dec w hw hop).2
    rw [h2] at this
    rw [this] at h
    exact h rfl

theorem name_eq (n : Int) : rnameQ n = nameQ n := by
  unfold rnameQ nameQ
  by_cases hk : kindQ n = 0
  · rw [rfind_none hk, if_pos hk]; rfl
  · obtain ⟨r, hr, rfl⟩ := row_at hk
    obtain ⟨t1, t2, t3, t4⟩ := tab_op hr
    rw [t2, if_neg hk, Int.toNat_natCast, t1]
    rfl
end Go.Lm
/- calquelaw08: InsAll, InsBack. -/
set_option linter.unusedSimpArgs false
set_option linter.unusedVariables false
namespace Go.Lm
open Go.Proofs

theorem decQ_imm (w : Nat) : (decQ w).imm < 2 ^ 32 := by
  by_cases h : (decQ w).op = 0
  · unfold decQ at h ⊢
    cases ho : ofQ w with
    | none => exact (by decide : (0 : Nat) < 2 ^ 32)
    | some r =>
      rw [ho] at h
      simp only at h ⊢
      by_cases h3 : (formQ r.1 r.2.1 w).2 = 0
      · rw [if_pos h3, formQ_op] at h
        have := (tab_op (of_mem ho).1).2.2.1
        omega
      · rw [if_neg h3]; decide
  · obtain ⟨r, _, _, _, h⟩ := dec_some h
    rw [h]
    have hs : ∀ x, sxt 16 x < 2 ^ 32 := fun x => by unfold sxt; simp only; split <;> omega
    unfold formQ
    repeat' split
    all_goals first | exact fl_lt _ _ _ | exact hs _ | (simp only; omega) | decide
theorem enc_tcG (i : InsZ) (hi : i.imm < 2 ^ 32) {a b : Nat} (hab : encQ i = (a, b)) (m : Mem) (Q) (h : Q (.tuple #[.int .u32 (a : Nat), .int .i64 (b : Nat)]) m) : TC Try.prog 24 [insZV i] m Q :=
  enc_tc i hi m Q (by rw [hab]; exact h)
theorem renc_tcG (i : InsZ) (hi : i.imm < 2 ^ 32) {a : Nat} {b : Bool} (hab : rencQ i = (a, b)) (m : Mem) (Q) (h : Q (.tuple #[.int .u32 (a : Nat), .bool b]) m) : TC Try.prog 25 [insZV i] m Q :=
  renc_tc i hi m Q (by rw [hab]; exact h)
theorem dec_tcG (w : Nat) (hw : w < 2 ^ 32) {D : InsM} (hD : decQ w = D) (m : Mem) (Q) (h : Q (insV D) m) : TC Try.prog 18 [.int .u32 w] m Q :=
  dec_tc w hw m Q (by rw [hD]; exact h)
theorem rdec_tcG (w : Nat) (hw : w < 2 ^ 32) {D : InsM} (hD : decQ w = D) (m : Mem) (Q) (h : Q (insV D) m) : TC Try.prog 26 [.int .u32 w] m Q :=
  rdec_tc w hw m Q (by rw [dec_eq, hD]; exact h)

set_option maxRecDepth 100000 in
set_option maxHeartbeats 4000000 in
theorem insAll_tc (w : Nat) (hw : w < 2 ^ 32) (i : InsZ) (hi : i.imm < 2 ^ 32) (op : Int) (m : Mem) : TC Try.prog 6 [.int .u32 w, insZV i, .int .i64 op] m (fun v _ => v = .bool true) := by
  refine TC_fn mixed Try.func6 rfl Try.ntmps6 rfl (by decide) (by simp) ?_
  have hall := enc_all i hi
  generalize hab : encQ i = A at hall
  generalize hcd : rencQ i = B at hall
  generalize hD : decQ w = D
  obtain ⟨a, b⟩ := A
  obtain ⟨c, d⟩ := B
  have e1 := enc_tcG i hi hab
  have e2 := renc_tcG i hi hcd
  have e3 := dec_tcG w hw hD
  have e4 := rdec_tcG w hw hD
  have e5 : ∀ m Q, Q (.string (nameQ op)) m → TC Try.prog 22 [.int .i64 op] m Q := name_tc op
  have e6 : ∀ m Q, Q (.string (nameQ op)) m → TC Try.prog 27 [.int .i64 op] m Q := fun m Q h => rname_tc op m Q (by rw [name_eq]; exact h)
  have e7 : ∀ m Q, Q (.int .i64 (kindQ op)) m → TC Try.prog 21 [.int .i64 op] m Q := kind_tc op
  have e8 : ∀ m Q, Q (.int .i64 (kindQ op)) m → TC Try.prog 28 [.int .i64 op] m Q := rkind_tc op
  generalize nameQ op = N at e5 e6
  generalize kindQ op = K0 at e7 e8
  clear hab hcd hD
  obtain ⟨i1, i2, i3, i4, i5, i6⟩ := i
  obtain ⟨d1, d2, d3, d4, d5, d6⟩ := D
  refine wpc_st fun K hK => ?_
  simp -dsimp [insZV]
  refine hK _ _ ?_
  clear hK K
  refine wpc_st fun K hK => ?_
  simp -dsimp
  refine e1 _ _ ?_
  simp -dsimp
  refine hK _ _ ?_
  clear hK K
  refine wpc_st fun K hK => ?_
  simp -dsimp
  refine e2 _ _ ?_
  simp -dsimp
  refine hK _ _ ?_
  clear hK K
  refine wpc_mid (fun env m' => elook env 0 = some (.int .u32 w) ∧ elook env 2 = some (.int .i64 op) ∧ elook env 7 = some (.int .u32 a) ∧ elook env 8 = some (.int .i64 b) ∧ elook env 9 = some (.int .u32 a) ∧ elook env 10 = some (.bool (b == 0)) ∧ (b = 0 ∨ b = 1) ∧
    m' = { base := m.get, n := m.top, loc := [.cells false 0 #[.int .i64 i1, .int .i64 i2, .int .i64 i3, .int .i64 i4, .int .i64 i5, .int .u32 i6]] }) ?_ ?_
  · cases d with
    | true =>
      simp only [if_true, Prod.mk.injEq] at hall
      obtain ⟨rfl, rfl⟩ := hall
      simp -dsimp
    | false =>
      simp only [Bool.false_eq_true, if_false, Prod.mk.injEq] at hall
      obtain ⟨rfl, rfl⟩ := hall
      simp -dsimp
  clear e1 e2 hall
  rintro env m' ⟨l0, l2, l7, l8, l9, l10, hb, rfl⟩
  rcases hb with rfl | rfl
  all_goals
    refine wpc_st fun K hK => ?_
    simp -dsimp [l0, l2, l7, l8, l9, l10]
    refine e3 _ _ ?_
    simp -dsimp [l0, l2, l7, l8, l9, l10, insV]
    refine e4 _ _ ?_
    simp -dsimp [l0, l2, l7, l8, l9, l10, insV]
    refine e5 _ _ ?_
    simp -dsimp [l0, l2, l7, l8, l9, l10]
    refine e6 _ _ ?_
    simp -dsimp [l0, l2, l7, l8, l9, l10]
    refine e7 _ _ ?_
    simp -dsimp [l0, l2, l7, l8, l9, l10]
    refine e8 _ _ ?_
    simp -dsimp [l0, l2, l7, l8, l9, l10]
    refine awake_tc _ _ ?_
    simp -dsimp
    refine hK _ _ ?_
    clear hK K
    simp -dsimp
    exact fin_ret rfl (leave_pure (by simp) rfl)

theorem dec_zero {w : Nat} (h : (decQ w).op = 0) : decQ w = noIns := by
  unfold decQ at h ⊢
  cases ho : ofQ w with
  | none => rfl
  | some r =>
    rw [ho] at h
    simp only at h ⊢
    by_cases h3 : (formQ r.1 r.2.1 w).2 = 0
    · rw [if_pos h3, formQ_op] at h
      have := (tab_op (of_mem ho).1).2.2.1
      omega
    · rw [if_neg h3]

set_option maxRecDepth 100000 in
set_option maxHeartbeats 4000000 in
theorem insBack_tc (w : Nat) (hw : w < 2 ^ 32) (i : InsZ) (hi : i.imm < 2 ^ 32) (m : Mem) : TC Try.prog 7 [.int .u32 w, insZV i] m (fun v _ => v = .bool true) := by
  refine TC_fn mixed Try.func7 rfl Try.ntmps7 rfl (by decide) (by simp) ?_
  have hx : ((decQ w).op ≠ 0 ∧ encQ (toZ (decQ w)) = (w, 0)) ∨ ((decQ w).op = 0 ∧ encQ (toZ (decQ w)) = (0, 1)) := by
    by_cases h : (decQ w).op = 0
    · right
      refine ⟨h, ?_⟩
      unfold encQ
      rw [if_pos]
      show kindQ ((decQ w).op : Int) = 0
      rw [h]; rfl
    · exact .inl ⟨h, (enc_dec w hw h).1⟩
  have hy : (∃ u, u < 2 ^ 32 ∧ encQ i = (u, 0) ∧ toZ (decQ u) = i) ∨ encQ i = (0, 1) := by
    by_cases h : encQ i = (0, 1)
    · exact .inr h
    · obtain ⟨_, u, h1, h2, h3⟩ := enc_ok h
      exact .inl ⟨u, h1, h2, h3⟩
  have himm : (toZ (decQ w)).imm < 2 ^ 32 := decQ_imm w
  have e0 : ∀ m Q, Q (insV (decQ w)) m → TC Try.prog 18 [.int .u32 w] m Q := fun m Q h => dec_tc w hw m Q h
  have e1 : ∀ a b, encQ (toZ (decQ w)) = (a, b) → ∀ m Q, Q (.tuple #[.int .u32 (a : Nat), .int .i64 (b : Nat)]) m → TC Try.prog 24 [insZV (toZ (decQ w))] m Q := fun a b hab m Q h => enc_tcG _ himm hab m Q h
  have e2 : ∀ a b, encQ i = (a, b) → ∀ m Q, Q (.tuple #[.int .u32 (a : Nat), .int .i64 (b : Nat)]) m → TC Try.prog 24 [insZV i] m Q := fun a b hab m Q h => enc_tcG _ hi hab m Q h
  have e3 : ∀ u, u < 2 ^ 32 → toZ (decQ u) = i → ∀ m Q, Q (insZV i) m → TC Try.prog 18 [.int .u32 u] m Q := fun u hu hd m Q h => dec_tc u hu m Q (by rw [← hd] at h; exact h)
  clear himm
  generalize decQ w = D at *
  obtain ⟨d1, d2, d3, d4, d5, d6⟩ := D
  simp only [toZ] at hx e1
  have e1' : ∃ v e : Nat, (d1 ≠ 0 ∧ v = w ∧ e = 0 ∨ d1 = 0 ∧ v = 0 ∧ e = 1) ∧ ∀ m Q, Q (.tuple #[.int .u32 (v : Nat), .int .i64 (e : Nat)]) m → TC Try.prog 24 [insZV ⟨d1, d2, d3, d4, d5, d6⟩] m Q := by
    rcases hx with ⟨h1, h2⟩ | ⟨h1, h2⟩
    · exact ⟨w, 0, .inl ⟨h1, rfl, rfl⟩, e1 _ _ h2⟩
    · exact ⟨0, 1, .inr ⟨h1, rfl, rfl⟩, e1 _ _ h2⟩
  have e2' : ∃ u f : Nat, (f = 0 ∧ (∀ m Q, Q (insZV i) m → TC Try.prog 18 [.int .u32 u] m Q) ∨ u = 0 ∧ f = 1) ∧ ∀ m Q, Q (.tuple #[.int .u32 (u : Nat), .int .i64 (f : Nat)]) m → TC Try.prog 24 [insZV i] m Q := by
    rcases hy with ⟨u, h1, h2, h3⟩ | h2
    · exact ⟨u, 0, .inl ⟨rfl, e3 u h1 h3⟩, e2 _ _ h2⟩
    · exact ⟨0, 1, .inr ⟨rfl, rfl⟩, e2 _ _ h2⟩
  clear e1 e2 e3 hx hy
  obtain ⟨v, e, hve, e1⟩ := e1'
  obtain ⟨u, f, huf, e2⟩ := e2'
  obtain ⟨i1, i2, i3, i4, i5, i6⟩ := i
  refine wpc_st fun K hK => ?_
  simp -dsimp [insZV]
  refine hK _ _ ?_
  clear hK K
  refine wpc_st fun K hK => ?_
  simp -dsimp
  refine e0 _ _ ?_
  simp -dsimp [insV]
  refine hK _ _ ?_
  clear hK K e0
  refine wpc_st fun K hK => ?_
  simp -dsimp
  refine e1 _ _ ?_
  simp -dsimp
  refine hK _ _ ?_
  clear hK K e1
  refine wpc_sq fun K hK => ?_
  obtain ⟨hd, hv⟩ : (d1 = 0 ∨ ¬ d1 = 0) ∧ True := ⟨by omega, trivial⟩
  rcases hve with ⟨hd, rfl, rfl⟩ | ⟨rfl, rfl, rfl⟩
  all_goals
    simp -dsimp [hd]
    refine hK _ _ ?_
    clear hK K
    refine wpc_st fun K hK => ?_
    simp -dsimp
    refine e2 _ _ ?_
    simp -dsimp
    refine hK _ _ ?_
    clear hK K e2
    rcases huf with ⟨rfl, e3⟩ | ⟨rfl, rfl⟩
    · simp -dsimp
      refine draw_go 6 [0, 1, 3, 7, 15, 7, 63, 127, 255, 511, 1023, 2047, 4095, 8191, 16383, 32767, 65535, 131071, 262143, 524287] (by kernel_rfl) (by kernel_rfl) ?_
      simp -dsimp
      refine .inl ⟨_, fun m' _ => e3 _ _ ⟨rfl, rfl⟩, drw_go ?_⟩
      simp -dsimp [insZV]
      refine awake_tc _ _ ?_
      simp -dsimp
      exact fin_ret rfl (leave_pure (by simp) rfl)
    · simp -dsimp
      refine draw_go 6 [0, 1, 3, 7, 15, 7, 63, 127, 255, 511, 1023, 2047, 4095, 8191, 16383, 32767, 65535, 131071, 262143, 524287] (by kernel_rfl) (by kernel_rfl) ?_
      simp -dsimp
      refine awake_tc _ _ ?_
      simp -dsimp
      exact fin_ret rfl (leave_pure (by simp) rfl)
end Go.Lm
