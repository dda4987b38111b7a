/- calqueref08.cut, form by form. -/
import Derived.Test.YtfgcnehjdaiipaaC8
set_option linter.unusedSimpArgs false
set_option linter.unusedVariables false
namespace Go.Lm
open Go.Proofs

/-- what a form's word says -/
def cutQ (op form w : Nat) : InsM :=
  match form with
  | 68 => ⟨op, fl w 21 5, fl w 16 5, fl w 11 5, 0, 0⟩
  | 88 => ⟨op, fl w 21 5, fl w 16 5, fl w 11 5, 0, 0⟩
  | 89 => ⟨op, fl w 21 5, fl w 16 5, fl w 11 5, 0, 0⟩
  | 72 => ⟨op, 0, fl w 16 5, fl w 11 5, fl w 6 5, 0⟩
  | 77 => ⟨op, fl w 21 5, fl w 16 5, 0, 0, 0⟩
  | 70 => ⟨op, 0, 0, fl w 11 5, 0, 0⟩
  | 76 => ⟨op, fl w 21 5, 0, 0, 0, 0⟩
  | 71 => ⟨op, fl w 21 5, 0, fl w 11 5, 0, 0⟩
  | 84 => ⟨op, fl w 21 5, fl w 16 5, 0, 0, fl w 6 10⟩
  | 67 => ⟨op, 0, 0, 0, 0, fl w 6 20⟩
  | 73 => ⟨op, fl w 21 5, fl w 16 5, 0, 0, sxt 16 w⟩
  | 80 => ⟨op, fl w 21 5, fl w 16 5, 0, 0, sxt 16 w⟩
  | 85 => ⟨op, fl w 21 5, fl w 16 5, 0, 0, fl w 0 16⟩
  | 86 => ⟨op, 0, fl w 16 5, 0, 0, fl w 0 16⟩
  | 66 => ⟨op, fl w 21 5, fl w 16 5, 0, 0, sxt 16 w * 4 % 2 ^ 32⟩
  | 90 => ⟨op, fl w 21 5, 0, 0, 0, sxt 16 w * 4 % 2 ^ 32⟩
  | 82 => ⟨op, fl w 21 5, 0, 0, 0, sxt 16 w * 4 % 2 ^ 32⟩
  | 74 => ⟨op, 0, 0, 0, 0, fl w 0 26 * 4 % 2 ^ 32⟩
  | _ => ⟨op, 0, 0, 0, 0, 0⟩

theorem and16 (w : Nat) (hw : w < 2 ^ 32) : iand .u32 (w : Int) 65535 = ((fl w 0 16 : Nat) : Int) := by
  have := iand_mask .u32 16 (a := w) (c := 65535) hw rfl (by decide)
  rw [show ((65535 : Nat) : Int) = (65535 : Int) from rfl] at this
  rw [this]
  have : w % 2 ^ 16 = fl w 0 16 := by unfold fl; omega
  rw [this]
theorem times4 (n : Nat) : IntKind.u32.wrap ((n : Int) * 4) = ((n * 4 % 2 ^ 32 : Nat) : Int) := by
  rw [show (n : Int) * 4 = ((n * 4 : Nat) : Int) by omega, wrap_u32_nat]

set_option maxRecDepth 100000 in
set_option maxHeartbeats 4000000 in
theorem cut_68 (w : Nat) (hw : w < 2 ^ 32) (op O F : Nat) (nm : ByteArray) (m : Mem) (Q) (h : Q (insV (cutQ op 68 w)) m) : TC Try.prog 74 [rrowV (op, 68, O, F, nm), .int .u32 w] m Q := by
  change Q (insV ⟨op, fl w 21 5, fl w 16 5, fl w 11 5, 0, 0⟩) m at h
  refine TC_fn mixed Try.func74 rfl Try.ntmps74 rfl (by decide) (by simp) ?_
  refine wpc_st fun K hK => ?_
  simp -dsimp [rrowV, rrowVal]
  refine hK _ _ ?_
  clear hK K
  refine wpc_st fun K hK => ?_
  simp -dsimp
  refine hK _ _ ?_
  clear hK K
  refine wpc_st fun K hK => ?_
  simp -dsimp
  refine rField_tc w hw 21 5 (by decide) (by decide) _ _ ?_
  simp -dsimp [fl_i64]
  refine rField_tc w hw 16 5 (by decide) (by decide) _ _ ?_
  simp -dsimp [fl_i64]
  refine rField_tc w hw 11 5 (by decide) (by decide) _ _ ?_
  simp -dsimp [fl_i64]
  refine hK _ _ ?_
  clear hK K
  refine wpc_st fun K hK => ?_
  simp -dsimp
  refine rSext16_tc w _ _ ?_
  simp -dsimp
  refine hK _ _ ?_
  clear hK K
  refine env_cut fun env he => ?_
  have e1 := he 1
  have e2 := he 2
  have e4 := he 4
  have e5 := he 5
  have e6 := he 6
  have e7 := he 7
  have e8 := he 8
  have e9 := he 9
  clear he
  simp -dsimp at e1 e2 e4 e5 e6 e7 e8 e9
  refine wpc_sq fun K hK => ?_
  simp -dsimp [and16 w hw, times4, fl_i64, e1, e2, e4, e5, e6, e7, e8, e9]
  refine hK _ _ ?_
  clear hK K
  simp -dsimp [e1, e2, e4, e5, e6, e7, e8, e9]
  exact fin_ret (v := insV _) (by simp -dsimp [e4]; rfl) (leave_pure (by simp [insV]) h)

set_option maxRecDepth 100000 in
set_option maxHeartbeats 4000000 in
theorem cut_88 (w : Nat) (hw : w < 2 ^ 32) (op O F : Nat) (nm : ByteArray) (m : Mem) (Q) (h : Q (insV (cutQ op 88 w)) m) : TC Try.prog 74 [rrowV (op, 88, O, F, nm), .int .u32 w] m Q := by
  change Q (insV ⟨op, fl w 21 5, fl w 16 5, fl w 11 5, 0, 0⟩) m at h
  refine TC_fn mixed Try.func74 rfl Try.ntmps74 rfl (by decide) (by simp) ?_
  refine wpc_st fun K hK => ?_
  simp -dsimp [rrowV, rrowVal]
  refine hK _ _ ?_
  clear hK K
  refine wpc_st fun K hK => ?_
  simp -dsimp
  refine hK _ _ ?_
  clear hK K
  refine wpc_st fun K hK => ?_
  simp -dsimp
  refine rField_tc w hw 21 5 (by decide) (by decide) _ _ ?_
  simp -dsimp [fl_i64]
  refine rField_tc w hw 16 5 (by decide) (by decide) _ _ ?_
  simp -dsimp [fl_i64]
  refine rField_tc w hw 11 5 (by decide) (by decide) _ _ ?_
  simp -dsimp [fl_i64]
  refine hK _ _ ?_
  clear hK K
  refine wpc_st fun K hK => ?_
  simp -dsimp
  refine rSext16_tc w _ _ ?_
  simp -dsimp
  refine hK _ _ ?_
  clear hK K
  refine env_cut fun env he => ?_
  have e1 := he 1
  have e2 := he 2
  have e4 := he 4
  have e5 := he 5
  have e6 := he 6
  have e7 := he 7
  have e8 := he 8
  have e9 := he 9
  clear he
  simp -dsimp at e1 e2 e4 e5 e6 e7 e8 e9
  refine wpc_sq fun K hK => ?_
  simp -dsimp [and16 w hw, times4, fl_i64, e1, e2, e4, e5, e6, e7, e8, e9]
  refine hK _ _ ?_
  clear hK K
  simp -dsimp [e1, e2, e4, e5, e6, e7, e8, e9]
  exact fin_ret (v := insV _) (by simp -dsimp [e4]; rfl) (leave_pure (by simp [insV]) h)

set_option maxRecDepth 100000 in
set_option maxHeartbeats 4000000 in
theorem cut_89 (w : Nat) (hw : w < 2 ^ 32) (op O F : Nat) (nm : ByteArray) (m : Mem) (Q) (h : Q (insV (cutQ op 89 w)) m) : TC Try.prog 74 [rrowV (op, 89, O, F, nm), .int .u32 w] m Q := by
  change Q (insV ⟨op, fl w 21 5, fl w 16 5, fl w 11 5, 0, 0⟩) m at h
  refine TC_fn mixed Try.func74 rfl Try.ntmps74 rfl (by decide) (by simp) ?_
  refine wpc_st fun K hK => ?_
  simp -dsimp [rrowV, rrowVal]
  refine hK _ _ ?_
  clear hK K
  refine wpc_st fun K hK => ?_
  simp -dsimp
  refine hK _ _ ?_
  clear hK K
  refine wpc_st fun K hK => ?_
  simp -dsimp
  refine rField_tc w hw 21 5 (by decide) (by decide) _ _ ?_
  simp -dsimp [fl_i64]
  refine rField_tc w hw 16 5 (by decide) (by decide) _ _ ?_
  simp -dsimp [fl_i64]
  refine rField_tc w hw 11 5 (by decide) (by decide) _ _ ?_
  simp -dsimp [fl_i64]
  refine hK _ _ ?_
  clear hK K
  refine wpc_st fun K hK => ?_
  simp -dsimp
  refine rSext16_tc w _ _ ?_
  simp -dsimp
  refine hK _ _ ?_
  clear hK K
  refine env_cut fun env he => ?_
  have e1 := he 1
  have e2 := he 2
  have e4 := he 4
  have e5 := he 5
  have e6 := he 6
  have e7 := he 7
  have e8 := he 8
  have e9 := he 9
  clear he
  simp -dsimp at e1 e2 e4 e5 e6 e7 e8 e9
  refine wpc_sq fun K hK => ?_
  simp -dsimp [and16 w hw, times4, fl_i64, e1, e2, e4, e5, e6, e7, e8, e9]
  refine hK _ _ ?_
  clear hK K
  simp -dsimp [e1, e2, e4, e5, e6, e7, e8, e9]
  exact fin_ret (v := insV _) (by simp -dsimp [e4]; rfl) (leave_pure (by simp [insV]) h)

set_option maxRecDepth 100000 in
set_option maxHeartbeats 4000000 in
theorem cut_72 (w : Nat) (hw : w < 2 ^ 32) (op O F : Nat) (nm : ByteArray) (m : Mem) (Q) (h : Q (insV (cutQ op 72 w)) m) : TC Try.prog 74 [rrowV (op, 72, O, F, nm), .int .u32 w] m Q := by
  change Q (insV ⟨op, 0, fl w 16 5, fl w 11 5, fl w 6 5, 0⟩) m at h
  refine TC_fn mixed Try.func74 rfl Try.ntmps74 rfl (by decide) (by simp) ?_
  refine wpc_st fun K hK => ?_
  simp -dsimp [rrowV, rrowVal]
  refine hK _ _ ?_
  clear hK K
  refine wpc_st fun K hK => ?_
  simp -dsimp
  refine hK _ _ ?_
  clear hK K
  refine wpc_st fun K hK => ?_
  simp -dsimp
  refine rField_tc w hw 21 5 (by decide) (by decide) _ _ ?_
  simp -dsimp [fl_i64]
  refine rField_tc w hw 16 5 (by decide) (by decide) _ _ ?_
  simp -dsimp [fl_i64]
  refine rField_tc w hw 11 5 (by decide) (by decide) _ _ ?_
  simp -dsimp [fl_i64]
  refine hK _ _ ?_
  clear hK K
  refine wpc_st fun K hK => ?_
  simp -dsimp
  refine rSext16_tc w _ _ ?_
  simp -dsimp
  refine hK _ _ ?_
  clear hK K
  refine env_cut fun env he => ?_
  have e1 := he 1
  have e2 := he 2
  have e4 := he 4
  have e5 := he 5
  have e6 := he 6
  have e7 := he 7
  have e8 := he 8
  have e9 := he 9
  clear he
  simp -dsimp at e1 e2 e4 e5 e6 e7 e8 e9
  refine wpc_sq fun K hK => ?_
  simp -dsimp [and16 w hw, times4, fl_i64, e1, e2, e4, e5, e6, e7, e8, e9]
  refine rField_tc w hw 6 5 (by decide) (by decide) _ _ ?_
  simp -dsimp [and16 w hw, times4, fl_i64, e1, e2, e4, e5, e6, e7, e8, e9]
  refine hK _ _ ?_
  clear hK K
  simp -dsimp [e1, e2, e4, e5, e6, e7, e8, e9]
  exact fin_ret (v := insV _) (by simp -dsimp [e4]; rfl) (leave_pure (by simp [insV]) h)

set_option maxRecDepth 100000 in
set_option maxHeartbeats 4000000 in
theorem cut_77 (w : Nat) (hw : w < 2 ^ 32) (op O F : Nat) (nm : ByteArray) (m : Mem) (Q) (h : Q (insV (cutQ op 77 w)) m) : TC Try.prog 74 [rrowV (op, 77, O, F, nm), .int .u32 w] m Q := by
  change Q (insV ⟨op, fl w 21 5, fl w 16 5, 0, 0, 0⟩) m at h
  refine TC_fn mixed Try.func74 rfl Try.ntmps74 rfl (by decide) (by simp) ?_
  refine wpc_st fun K hK => ?_
  simp -dsimp [rrowV, rrowVal]
  refine hK _ _ ?_
  clear hK K
  refine wpc_st fun K hK => ?_
  simp -dsimp
  refine hK _ _ ?_
  clear hK K
  refine wpc_st fun K hK => ?_
  simp -dsimp
  refine rField_tc w hw 21 5 (by decide) (by decide) _ _ ?_
  simp -dsimp [fl_i64]
  refine rField_tc w hw 16 5 (by decide) (by decide) _ _ ?_
  simp -dsimp [fl_i64]
  refine rField_tc w hw 11 5 (by decide) (by decide) _ _ ?_
  simp -dsimp [fl_i64]
  refine hK _ _ ?_
  clear hK K
  refine wpc_st fun K hK => ?_
  simp -dsimp
  refine rSext16_tc w _ _ ?_
  simp -dsimp
  refine hK _ _ ?_
  clear hK K
  refine env_cut fun env he => ?_
  have e1 := he 1
  have e2 := he 2
  have e4 := he 4
  have e5 := he 5
  have e6 := he 6
  have e7 := he 7
  have e8 := he 8
  have e9 := he 9
  clear he
  simp -dsimp at e1 e2 e4 e5 e6 e7 e8 e9
  refine wpc_sq fun K hK => ?_
  simp -dsimp [and16 w hw, times4, fl_i64, e1, e2, e4, e5, e6, e7, e8, e9]
  refine hK _ _ ?_
  clear hK K
  simp -dsimp [e1, e2, e4, e5, e6, e7, e8, e9]
  exact fin_ret (v := insV _) (by simp -dsimp [e4]; rfl) (leave_pure (by simp [insV]) h)

set_option maxRecDepth 100000 in
set_option maxHeartbeats 4000000 in
theorem cut_70 (w : Nat) (hw : w < 2 ^ 32) (op O F : Nat) (nm : ByteArray) (m : Mem) (Q) (h : Q (insV (cutQ op 70 w)) m) : TC Try.prog 74 [rrowV (op, 70, O, F, nm), .int .u32 w] m Q := by
  change Q (insV ⟨op, 0, 0, fl w 11 5, 0, 0⟩) m at h
  refine TC_fn mixed Try.func74 rfl Try.ntmps74 rfl (by decide) (by simp) ?_
  refine wpc_st fun K hK => ?_
  simp -dsimp [rrowV, rrowVal]
  refine hK _ _ ?_
  clear hK K
  refine wpc_st fun K hK => ?_
  simp -dsimp
  refine hK _ _ ?_
  clear hK K
  refine wpc_st fun K hK => ?_
  simp -dsimp
  refine rField_tc w hw 21 5 (by decide) (by decide) _ _ ?_
  simp -dsimp [fl_i64]
  refine rField_tc w hw 16 5 (by decide) (by decide) _ _ ?_
  simp -dsimp [fl_i64]
  refine rField_tc w hw 11 5 (by decide) (by decide) _ _ ?_
  simp -dsimp [fl_i64]
  refine hK _ _ ?_
  clear hK K
  refine wpc_st fun K hK => ?_
  simp -dsimp
  refine rSext16_tc w _ _ ?_
  simp -dsimp
  refine hK _ _ ?_
  clear hK K
  refine env_cut fun env he => ?_
  have e1 := he 1
  have e2 := he 2
  have e4 := he 4
  have e5 := he 5
  have e6 := he 6
  have e7 := he 7
  have e8 := he 8
  have e9 := he 9
  clear he
  simp -dsimp at e1 e2 e4 e5 e6 e7 e8 e9
  refine wpc_sq fun K hK => ?_
  simp -dsimp [and16 w hw, times4, fl_i64, e1, e2, e4, e5, e6, e7, e8, e9]
  refine hK _ _ ?_
  clear hK K
  simp -dsimp [e1, e2, e4, e5, e6, e7, e8, e9]
  exact fin_ret (v := insV _) (by simp -dsimp [e4]; rfl) (leave_pure (by simp [insV]) h)

set_option maxRecDepth 100000 in
set_option maxHeartbeats 4000000 in
theorem cut_76 (w : Nat) (hw : w < 2 ^ 32) (op O F : Nat) (nm : ByteArray) (m : Mem) (Q) (h : Q (insV (cutQ op 76 w)) m) : TC Try.prog 74 [rrowV (op, 76, O, F, nm), .int .u32 w] m Q := by
  change Q (insV ⟨op, fl w 21 5, 0, 0, 0, 0⟩) m at h
  refine TC_fn mixed Try.func74 rfl Try.ntmps74 rfl (by decide) (by simp) ?_
  refine wpc_st fun K hK => ?_
  simp -dsimp [rrowV, rrowVal]
  refine hK _ _ ?_
  clear hK K
  refine wpc_st fun K hK => ?_
  simp -dsimp
  refine hK _ _ ?_
  clear hK K
  refine wpc_st fun K hK => ?_
  simp -dsimp
  refine rField_tc w hw 21 5 (by decide) (by decide) _ _ ?_
  simp -dsimp [fl_i64]
  refine rField_tc w hw 16 5 (by decide) (by decide) _ _ ?_
  simp -dsimp [fl_i64]
  refine rField_tc w hw 11 5 (by decide) (by decide) _ _ ?_
  simp -dsimp [fl_i64]
  refine hK _ _ ?_
  clear hK K
  refine wpc_st fun K hK => ?_
  simp -dsimp
  refine rSext16_tc w _ _ ?_
  simp -dsimp
  refine hK _ _ ?_
  clear hK K
  refine env_cut fun env he => ?_
  have e1 := he 1
  have e2 := he 2
  have e4 := he 4
  have e5 := he 5
  have e6 := he 6
  have e7 := he 7
  have e8 := he 8
  have e9 := he 9
  clear he
  simp -dsimp at e1 e2 e4 e5 e6 e7 e8 e9
  refine wpc_sq fun K hK => ?_
  simp -dsimp [and16 w hw, times4, fl_i64, e1, e2, e4, e5, e6, e7, e8, e9]
  refine hK _ _ ?_
  clear hK K
  simp -dsimp [e1, e2, e4, e5, e6, e7, e8, e9]
  exact fin_ret (v := insV _) (by simp -dsimp [e4]; rfl) (leave_pure (by simp [insV]) h)

set_option maxRecDepth 100000 in
set_option maxHeartbeats 4000000 in
theorem cut_71 (w : Nat) (hw : w < 2 ^ 32) (op O F : Nat) (nm : ByteArray) (m : Mem) (Q) (h : Q (insV (cutQ op 71 w)) m) : TC Try.prog 74 [rrowV (op, 71, O, F, nm), .int .u32 w] m Q := by
  change Q (insV ⟨op, fl w 21 5, 0, fl w 11 5, 0, 0⟩) m at h
  refine TC_fn mixed Try.func74 rfl Try.ntmps74 rfl (by decide) (by simp) ?_
  refine wpc_st fun K hK => ?_
  simp -dsimp [rrowV, rrowVal]
  refine hK _ _ ?_
  clear hK K
  refine wpc_st fun K hK => ?_
  simp -dsimp
  refine hK _ _ ?_
  clear hK K
  refine wpc_st fun K hK => ?_
  simp -dsimp
  refine rField_tc w hw 21 5 (by decide) (by decide) _ _ ?_
  simp -dsimp [fl_i64]
  refine rField_tc w hw 16 5 (by decide) (by decide) _ _ ?_
  simp -dsimp [fl_i64]
  refine rField_tc w hw 11 5 (by decide) (by decide) _ _ ?_
  simp -dsimp [fl_i64]
  refine hK _ _ ?_
  clear hK K
  refine wpc_st fun K hK => ?_
  simp -dsimp
  refine rSext16_tc w _ _ ?_
  simp -dsimp
  refine hK _ _ ?_
  clear hK K
  refine env_cut fun env he => ?_
  have e1 := he 1
  have e2 := he 2
  have e4 := he 4
  have e5 := he 5
  have e6 := he 6
  have e7 := he 7
  have e8 := he 8
  have e9 := he 9
  clear he
  simp -dsimp at e1 e2 e4 e5 e6 e7 e8 e9
  refine wpc_sq fun K hK => ?_
  simp -dsimp [and16 w hw, times4, fl_i64, e1, e2, e4, e5, e6, e7, e8, e9]
  refine hK _ _ ?_
  clear hK K
  simp -dsimp [e1, e2, e4, e5, e6, e7, e8, e9]
  exact fin_ret (v := insV _) (by simp -dsimp [e4]; rfl) (leave_pure (by simp [insV]) h)

set_option maxRecDepth 100000 in
set_option maxHeartbeats 4000000 in
theorem cut_84 (w : Nat) (hw : w < 2 ^ 32) (op O F : Nat) (nm : ByteArray) (m : Mem) (Q) (h : Q (insV (cutQ op 84 w)) m) : TC Try.prog 74 [rrowV (op, 84, O, F, nm), .int .u32 w] m Q := by
  change Q (insV ⟨op, fl w 21 5, fl w 16 5, 0, 0, fl w 6 10⟩) m at h
  refine TC_fn mixed Try.func74 rfl Try.ntmps74 rfl (by decide) (by simp) ?_
  refine wpc_st fun K hK => ?_
  simp -dsimp [rrowV, rrowVal]
  refine hK _ _ ?_
  clear hK K
  refine wpc_st fun K hK => ?_
  simp -dsimp
  refine hK _ _ ?_
  clear hK K
  refine wpc_st fun K hK => ?_
  simp -dsimp
  refine rField_tc w hw 21 5 (by decide) (by decide) _ _ ?_
  simp -dsimp [fl_i64]
  refine rField_tc w hw 16 5 (by decide) (by decide) _ _ ?_
  simp -dsimp [fl_i64]
  refine rField_tc w hw 11 5 (by decide) (by decide) _ _ ?_
  simp -dsimp [fl_i64]
  refine hK _ _ ?_
  clear hK K
  refine wpc_st fun K hK => ?_
  simp -dsimp
  refine rSext16_tc w _ _ ?_
  simp -dsimp
  refine hK _ _ ?_
  clear hK K
  refine env_cut fun env he => ?_
  have e1 := he 1
  have e2 := he 2
  have e4 := he 4
  have e5 := he 5
  have e6 := he 6
  have e7 := he 7
  have e8 := he 8
  have e9 := he 9
  clear he
  simp -dsimp at e1 e2 e4 e5 e6 e7 e8 e9
  refine wpc_sq fun K hK => ?_
  simp -dsimp [and16 w hw, times4, fl_i64, e1, e2, e4, e5, e6, e7, e8, e9]
  refine rField_tc w hw 6 10 (by decide) (by decide) _ _ ?_
  simp -dsimp [and16 w hw, times4, fl_i64, e1, e2, e4, e5, e6, e7, e8, e9]
  refine hK _ _ ?_
  clear hK K
  simp -dsimp [e1, e2, e4, e5, e6, e7, e8, e9]
  exact fin_ret (v := insV _) (by simp -dsimp [e4]; rfl) (leave_pure (by simp [insV]) h)

set_option maxRecDepth 100000 in
set_option maxHeartbeats 4000000 in
theorem cut_67 (w : Nat) (hw : w < 2 ^ 32) (op O F : Nat) (nm : ByteArray) (m : Mem) (Q) (h : Q (insV (cutQ op 67 w)) m) : TC Try.prog 74 [rrowV (op, 67, O, F, nm), .int .u32 w] m Q := by
  change Q (insV ⟨op, 0, 0, 0, 0, fl w 6 20⟩) m at h
  refine TC_fn mixed Try.func74 rfl Try.ntmps74 rfl (by decide) (by simp) ?_
  refine wpc_st fun K hK => ?_
  simp -dsimp [rrowV, rrowVal]
  refine hK _ _ ?_
  clear hK K
  refine wpc_st fun K hK => ?_
  simp -dsimp
  refine hK _ _ ?_
  clear hK K
  refine wpc_st fun K hK => ?_
  simp -dsimp
  refine rField_tc w hw 21 5 (by decide) (by decide) _ _ ?_
  simp -dsimp [fl_i64]
  refine rField_tc w hw 16 5 (by decide) (by decide) _ _ ?_
  simp -dsimp [fl_i64]
  refine rField_tc w hw 11 5 (by decide) (by decide) _ _ ?_
  simp -dsimp [fl_i64]
  refine hK _ _ ?_
  clear hK K
  refine wpc_st fun K hK => ?_
  simp -dsimp
  refine rSext16_tc w _ _ ?_
  simp -dsimp
  refine hK _ _ ?_
  clear hK K
  refine env_cut fun env he => ?_
  have e1 := he 1
  have e2 := he 2
  have e4 := he 4
  have e5 := he 5
  have e6 := he 6
  have e7 := he 7
  have e8 := he 8
  have e9 := he 9
  clear he
  simp -dsimp at e1 e2 e4 e5 e6 e7 e8 e9
  refine wpc_sq fun K hK => ?_
  simp -dsimp [and16 w hw, times4, fl_i64, e1, e2, e4, e5, e6, e7, e8, e9]
  refine rField_tc w hw 6 20 (by decide) (by decide) _ _ ?_
  simp -dsimp [and16 w hw, times4, fl_i64, e1, e2, e4, e5, e6, e7, e8, e9]
  refine hK _ _ ?_
  clear hK K
  simp -dsimp [e1, e2, e4, e5, e6, e7, e8, e9]
  exact fin_ret (v := insV _) (by simp -dsimp [e4]; rfl) (leave_pure (by simp [insV]) h)

set_option maxRecDepth 100000 in
set_option maxHeartbeats 4000000 in
theorem cut_73 (w : Nat) (hw : w < 2 ^ 32) (op O F : Nat) (nm : ByteArray) (m : Mem) (Q) (h : Q (insV (cutQ op 73 w)) m) : TC Try.prog 74 [rrowV (op, 73, O, F, nm), .int .u32 w] m Q := by
  change Q (insV ⟨op, fl w 21 5, fl w 16 5, 0, 0, sxt 16 w⟩) m at h
  refine TC_fn mixed Try.func74 rfl Try.ntmps74 rfl (by decide) (by simp) ?_
  refine wpc_st fun K hK => ?_
  simp -dsimp [rrowV, rrowVal]
  refine hK _ _ ?_
  clear hK K
  refine wpc_st fun K hK => ?_
  simp -dsimp
  refine hK _ _ ?_
  clear hK K
  refine wpc_st fun K hK => ?_
  simp -dsimp
  refine rField_tc w hw 21 5 (by decide) (by decide) _ _ ?_
  simp -dsimp [fl_i64]
  refine rField_tc w hw 16 5 (by decide) (by decide) _ _ ?_
  simp -dsimp [fl_i64]
  refine rField_tc w hw 11 5 (by decide) (by decide) _ _ ?_
  simp -dsimp [fl_i64]
  refine hK _ _ ?_
  clear hK K
  refine wpc_st fun K hK => ?_
  simp -dsimp
  refine rSext16_tc w _ _ ?_
  simp -dsimp
  refine hK _ _ ?_
  clear hK K
  refine env_cut fun env he => ?_
  have e1 := he 1
  have e2 := he 2
  have e4 := he 4
  have e5 := he 5
  have e6 := he 6
  have e7 := he 7
  have e8 := he 8
  have e9 := he 9
  clear he
  simp -dsimp at e1 e2 e4 e5 e6 e7 e8 e9
  refine wpc_sq fun K hK => ?_
  simp -dsimp [and16 w hw, times4, fl_i64, e1, e2, e4, e5, e6, e7, e8, e9]
  refine hK _ _ ?_
  clear hK K
  simp -dsimp [e1, e2, e4, e5, e6, e7, e8, e9]
  exact fin_ret (v := insV _) (by simp -dsimp [e4]; rfl) (leave_pure (by simp [insV]) h)

set_option maxRecDepth 100000 in
set_option maxHeartbeats 4000000 in
theorem cut_80 (w : Nat) (hw : w < 2 ^ 32) (op O F : Nat) (nm : ByteArray) (m : Mem) (Q) (h : Q (insV (cutQ op 80 w)) m) : TC Try.prog 74 [rrowV (op, 80, O, F, nm), .int .u32 w] m Q := by
  change Q (insV ⟨op, fl w 21 5, fl w 16 5, 0, 0, sxt 16 w⟩) m at h
  refine TC_fn mixed Try.func74 rfl Try.ntmps74 rfl (by decide) (by simp) ?_
  refine wpc_st fun K hK => ?_
  simp -dsimp [rrowV, rrowVal]
  refine hK _ _ ?_
  clear hK K
  refine wpc_st fun K hK => ?_
  simp -dsimp
  refine hK _ _ ?_
  clear hK K
  refine wpc_st fun K hK => ?_
  simp -dsimp
  refine rField_tc w hw 21 5 (by decide) (by decide) _ _ ?_
  simp -dsimp [fl_i64]
  refine rField_tc w hw 16 5 (by decide) (by decide) _ _ ?_
  simp -dsimp [fl_i64]
  refine rField_tc w hw 11 5 (by decide) (by decide) _ _ ?_
  simp -dsimp [fl_i64]
  refine hK _ _ ?_
  clear hK K
  refine wpc_st fun K hK => ?_
  simp -dsimp
  refine rSext16_tc w _ _ ?_
  simp -dsimp
  refine hK _ _ ?_
  clear hK K
  refine env_cut fun env he => ?_
  have e1 := he 1
  have e2 := he 2
  have e4 := he 4
  have e5 := he 5
  have e6 := he 6
  have e7 := he 7
  have e8 := he 8
  have e9 := he 9
  clear he
  simp -dsimp at e1 e2 e4 e5 e6 e7 e8 e9
  refine wpc_sq fun K hK => ?_
  simp -dsimp [and16 w hw, times4, fl_i64, e1, e2, e4, e5, e6, e7, e8, e9]
  refine hK _ _ ?_
  clear hK K
  simp -dsimp [e1, e2, e4, e5, e6, e7, e8, e9]
  exact fin_ret (v := insV _) (by simp -dsimp [e4]; rfl) (leave_pure (by simp [insV]) h)

set_option maxRecDepth 100000 in
set_option maxHeartbeats 4000000 in
theorem cut_85 (w : Nat) (hw : w < 2 ^ 32) (op O F : Nat) (nm : ByteArray) (m : Mem) (Q) (h : Q (insV (cutQ op 85 w)) m) : TC Try.prog 74 [rrowV (op, 85, O, F, nm), .int .u32 w] m Q := by
  change Q (insV ⟨op, fl w 21 5, fl w 16 5, 0, 0, fl w 0 16⟩) m at h
  refine TC_fn mixed Try.func74 rfl Try.ntmps74 rfl (by decide) (by simp) ?_
  refine wpc_st fun K hK => ?_
  simp -dsimp [rrowV, rrowVal]
  refine hK _ _ ?_
  clear hK K
  refine wpc_st fun K hK => ?_
  simp -dsimp
  refine hK _ _ ?_
  clear hK K
  refine wpc_st fun K hK => ?_
  simp -dsimp
  refine rField_tc w hw 21 5 (by decide) (by decide) _ _ ?_
  simp -dsimp [fl_i64]
  refine rField_tc w hw 16 5 (by decide) (by decide) _ _ ?_
  simp -dsimp [fl_i64]
  refine rField_tc w hw 11 5 (by decide) (by decide) _ _ ?_
  simp -dsimp [fl_i64]
  refine hK _ _ ?_
  clear hK K
  refine wpc_st fun K hK => ?_
  simp -dsimp
  refine rSext16_tc w _ _ ?_
  simp -dsimp
  refine hK _ _ ?_
  clear hK K
  refine env_cut fun env he => ?_
  have e1 := he 1
  have e2 := he 2
  have e4 := he 4
  have e5 := he 5
  have e6 := he 6
  have e7 := he 7
  have e8 := he 8
  have e9 := he 9
  clear he
  simp -dsimp at e1 e2 e4 e5 e6 e7 e8 e9
  refine wpc_sq fun K hK => ?_
  simp -dsimp [and16 w hw, times4, fl_i64, e1, e2, e4, e5, e6, e7, e8, e9]
  refine hK _ _ ?_
  clear hK K
  simp -dsimp [e1, e2, e4, e5, e6, e7, e8, e9]
  exact fin_ret (v := insV _) (by simp -dsimp [e4]; rfl) (leave_pure (by simp [insV]) h)

set_option maxRecDepth 100000 in
set_option maxHeartbeats 4000000 in
theorem cut_86 (w : Nat) (hw : w < 2 ^ 32) (op O F : Nat) (nm : ByteArray) (m : Mem) (Q) (h : Q (insV (cutQ op 86 w)) m) : TC Try.prog 74 [rrowV (op, 86, O, F, nm), .int .u32 w] m Q := by
  change Q (insV ⟨op, 0, fl w 16 5, 0, 0, fl w 0 16⟩) m at h
  refine TC_fn mixed Try.func74 rfl Try.ntmps74 rfl (by decide) (by simp) ?_
  refine wpc_st fun K hK => ?_
  simp -dsimp [rrowV, rrowVal]
  refine hK _ _ ?_
  clear hK K
  refine wpc_st fun K hK => ?_
  simp -dsimp
  refine hK _ _ ?_
  clear hK K
  refine wpc_st fun K hK => ?_
  simp -dsimp
  refine rField_tc w hw 21 5 (by decide) (by decide) _ _ ?_
  simp -dsimp [fl_i64]
  refine rField_tc w hw 16 5 (by decide) (by decide) _ _ ?_
  simp -dsimp [fl_i64]
  refine rField_tc w hw 11 5 (by decide) (by decide) _ _ ?_
  simp -dsimp [fl_i64]
  refine hK _ _ ?_
  clear hK K
  refine wpc_st fun K hK => ?_
  simp -dsimp
  refine rSext16_tc w _ _ ?_
  simp -dsimp
  refine hK _ _ ?_
  clear hK K
  refine env_cut fun env he => ?_
  have e1 := he 1
  have e2 := he 2
  have e4 := he 4
  have e5 := he 5
  have e6 := he 6
  have e7 := he 7
  have e8 := he 8
  have e9 := he 9
  clear he
  simp -dsimp at e1 e2 e4 e5 e6 e7 e8 e9
  refine wpc_sq fun K hK => ?_
  simp -dsimp [and16 w hw, times4, fl_i64, e1, e2, e4, e5, e6, e7, e8, e9]
  refine hK _ _ ?_
  clear hK K
  simp -dsimp [e1, e2, e4, e5, e6, e7, e8, e9]
  exact fin_ret (v := insV _) (by simp -dsimp [e4]; rfl) (leave_pure (by simp [insV]) h)

set_option maxRecDepth 100000 in
set_option maxHeartbeats 4000000 in
theorem cut_66 (w : Nat) (hw : w < 2 ^ 32) (op O F : Nat) (nm : ByteArray) (m : Mem) (Q) (h : Q (insV (cutQ op 66 w)) m) : TC Try.prog 74 [rrowV (op, 66, O, F, nm), .int .u32 w] m Q := by
  change Q (insV ⟨op, fl w 21 5, fl w 16 5, 0, 0, sxt 16 w * 4 % 2 ^ 32⟩) m at h
  refine TC_fn mixed Try.func74 rfl Try.ntmps74 rfl (by decide) (by simp) ?_
  refine wpc_st fun K hK => ?_
  simp -dsimp [rrowV, rrowVal]
  refine hK _ _ ?_
  clear hK K
  refine wpc_st fun K hK => ?_
  simp -dsimp
  refine hK _ _ ?_
  clear hK K
  refine wpc_st fun K hK => ?_
  simp -dsimp
  refine rField_tc w hw 21 5 (by decide) (by decide) _ _ ?_
  simp -dsimp [fl_i64]
  refine rField_tc w hw 16 5 (by decide) (by decide) _ _ ?_
  simp -dsimp [fl_i64]
  refine rField_tc w hw 11 5 (by decide) (by decide) _ _ ?_
  simp -dsimp [fl_i64]
  refine hK _ _ ?_
  clear hK K
  refine wpc_st fun K hK => ?_
  simp -dsimp
  refine rSext16_tc w _ _ ?_
  simp -dsimp
  refine hK _ _ ?_
  clear hK K
  refine env_cut fun env he => ?_
  have e1 := he 1
  have e2 := he 2
  have e4 := he 4
  have e5 := he 5
  have e6 := he 6
  have e7 := he 7
  have e8 := he 8
  have e9 := he 9
  clear he
  simp -dsimp at e1 e2 e4 e5 e6 e7 e8 e9
  refine wpc_sq fun K hK => ?_
  simp -dsimp [and16 w hw, times4, fl_i64, e1, e2, e4, e5, e6, e7, e8, e9]
  refine hK _ _ ?_
  clear hK K
  simp -dsimp [e1, e2, e4, e5, e6, e7, e8, e9]
  exact fin_ret (v := insV _) (by simp -dsimp [e4]; rfl) (leave_pure (by simp [insV]) h)

set_option maxRecDepth 100000 in
set_option maxHeartbeats 4000000 in
theorem cut_90 (w : Nat) (hw : w < 2 ^ 32) (op O F : Nat) (nm : ByteArray) (m : Mem) (Q) (h : Q (insV (cutQ op 90 w)) m) : TC Try.prog 74 [rrowV (op, 90, O, F, nm), .int .u32 w] m Q := by
  change Q (insV ⟨op, fl w 21 5, 0, 0, 0, sxt 16 w * 4 % 2 ^ 32⟩) m at h
  refine TC_fn mixed Try.func74 rfl Try.ntmps74 rfl (by decide) (by simp) ?_
  refine wpc_st fun K hK => ?_
  simp -dsimp [rrowV, rrowVal]
  refine hK _ _ ?_
  clear hK K
  refine wpc_st fun K hK => ?_
  simp -dsimp
  refine hK _ _ ?_
  clear hK K
  refine wpc_st fun K hK => ?_
  simp -dsimp
  refine rField_tc w hw 21 5 (by decide) (by decide) _ _ ?_
  simp -dsimp [fl_i64]
  refine rField_tc w hw 16 5 (by decide) (by decide) _ _ ?_
  simp -dsimp [fl_i64]
  refine rField_tc w hw 11 5 (by decide) (by decide) _ _ ?_
  simp -dsimp [fl_i64]
  refine hK _ _ ?_
  clear hK K
  refine wpc_st fun K hK => ?_
  simp -dsimp
  refine rSext16_tc w _ _ ?_
  simp -dsimp
  refine hK _ _ ?_
  clear hK K
  refine env_cut fun env he => ?_
  have e1 := he 1
  have e2 := he 2
  have e4 := he 4
  have e5 := he 5
  have e6 := he 6
  have e7 := he 7
  have e8 := he 8
  have e9 := he 9
  clear he
  simp -dsimp at e1 e2 e4 e5 e6 e7 e8 e9
  refine wpc_sq fun K hK => ?_
  simp -dsimp [and16 w hw, times4, fl_i64, e1, e2, e4, e5, e6, e7, e8, e9]
  refine hK _ _ ?_
  clear hK K
  simp -dsimp [e1, e2, e4, e5, e6, e7, e8, e9]
  exact fin_ret (v := insV _) (by simp -dsimp [e4]; rfl) (leave_pure (by simp [insV]) h)

set_option maxRecDepth 100000 in
set_option maxHeartbeats 4000000 in
theorem cut_82 (w : Nat) (hw : w < 2 ^ 32) (op O F : Nat) (nm : ByteArray) (m : Mem) (Q) (h : Q (insV (cutQ op 82 w)) m) : TC Try.prog 74 [rrowV (op, 82, O, F, nm), .int .u32 w] m Q := by
  change Q (insV ⟨op, fl w 21 5, 0, 0, 0, sxt 16 w * 4 % 2 ^ 32⟩) m at h
  refine TC_fn mixed Try.func74 rfl Try.ntmps74 rfl (by decide) (by simp) ?_
  refine wpc_st fun K hK => ?_
  simp -dsimp [rrowV, rrowVal]
  refine hK _ _ ?_
  clear hK K
  refine wpc_st fun K hK => ?_
  simp -dsimp
  refine hK _ _ ?_
  clear hK K
  refine wpc_st fun K hK => ?_
  simp -dsimp
  refine rField_tc w hw 21 5 (by decide) (by decide) _ _ ?_
  simp -dsimp [fl_i64]
  refine rField_tc w hw 16 5 (by decide) (by decide) _ _ ?_
  simp -dsimp [fl_i64]
  refine rField_tc w hw 11 5 (by decide) (by decide) _ _ ?_
  simp -dsimp [fl_i64]
  refine hK _ _ ?_
  clear hK K
  refine wpc_st fun K hK => ?_
  simp -dsimp
  refine rSext16_tc w _ _ ?_
  simp -dsimp
  refine hK _ _ ?_
  clear hK K
  refine env_cut fun env he => ?_
  have e1 := he 1
  have e2 := he 2
  have e4 := he 4
  have e5 := he 5
  have e6 := he 6
  have e7 := he 7
  have e8 := he 8
  have e9 := he 9
  clear he
  simp -dsimp at e1 e2 e4 e5 e6 e7 e8 e9
  refine wpc_sq fun K hK => ?_
  simp -dsimp [and16 w hw, times4, fl_i64, e1, e2, e4, e5, e6, e7, e8, e9]
  refine hK _ _ ?_
  clear hK K
  simp -dsimp [e1, e2, e4, e5, e6, e7, e8, e9]
  exact fin_ret (v := insV _) (by simp -dsimp [e4]; rfl) (leave_pure (by simp [insV]) h)

set_option maxRecDepth 100000 in
set_option maxHeartbeats 4000000 in
theorem cut_74 (w : Nat) (hw : w < 2 ^ 32) (op O F : Nat) (nm : ByteArray) (m : Mem) (Q) (h : Q (insV (cutQ op 74 w)) m) : TC Try.prog 74 [rrowV (op, 74, O, F, nm), .int .u32 w] m Q := by
  change Q (insV ⟨op, 0, 0, 0, 0, fl w 0 26 * 4 % 2 ^ 32⟩) m at h
  refine TC_fn mixed Try.func74 rfl Try.ntmps74 rfl (by decide) (by simp) ?_
  refine wpc_st fun K hK => ?_
  simp -dsimp [rrowV, rrowVal]
  refine hK _ _ ?_
  clear hK K
  refine wpc_st fun K hK => ?_
  simp -dsimp
  refine hK _ _ ?_
  clear hK K
  refine wpc_st fun K hK => ?_
  simp -dsimp
  refine rField_tc w hw 21 5 (by decide) (by decide) _ _ ?_
  simp -dsimp [fl_i64]
  refine rField_tc w hw 16 5 (by decide) (by decide) _ _ ?_
  simp -dsimp [fl_i64]
  refine rField_tc w hw 11 5 (by decide) (by decide) _ _ ?_
  simp -dsimp [fl_i64]
  refine hK _ _ ?_
  clear hK K
  refine wpc_st fun K hK => ?_
  simp -dsimp
  refine rSext16_tc w _ _ ?_
  simp -dsimp
  refine hK _ _ ?_
  clear hK K
  refine env_cut fun env he => ?_
  have e1 := he 1
  have e2 := he 2
  have e4 := he 4
  have e5 := he 5
  have e6 := he 6
  have e7 := he 7
  have e8 := he 8
  have e9 := he 9
  clear he
  simp -dsimp at e1 e2 e4 e5 e6 e7 e8 e9
  refine wpc_sq fun K hK => ?_
  simp -dsimp [and16 w hw, times4, fl_i64, e1, e2, e4, e5, e6, e7, e8, e9]
  refine rField_tc w hw 0 26 (by decide) (by decide) _ _ ?_
  simp -dsimp [and16 w hw, times4, fl_i64, e1, e2, e4, e5, e6, e7, e8, e9]
  refine hK _ _ ?_
  clear hK K
  simp -dsimp [e1, e2, e4, e5, e6, e7, e8, e9]
  exact fin_ret (v := insV _) (by simp -dsimp [e4]; rfl) (leave_pure (by simp [insV]) h)

end Go.Lm
