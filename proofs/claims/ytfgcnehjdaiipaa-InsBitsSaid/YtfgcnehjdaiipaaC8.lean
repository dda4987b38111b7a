/- calqueref08.fits, form by form. -/
import Derived.Test.YtfgcnehjdaiipaaC7
set_option linter.unusedSimpArgs false
set_option linter.unusedVariables false
namespace Go.Lm
open Go.Proofs

/-- what is asked of a form's word, but for its opcode -/
def fitF (form F w : Nat) : Bool :=
  match form with
  | 68 => decide (fl w 0 6 = F) && decide (fl w 6 5 = 0)
  | 72 => decide (fl w 0 6 = F) && decide (fl w 21 5 = 0)
  | 77 => decide (fl w 0 6 = F) && decide (fl w 11 5 = 0) && decide (fl w 6 5 = 0)
  | 70 => decide (fl w 0 6 = F) && decide (fl w 21 5 = 0) && decide (fl w 16 5 = 0) && decide (fl w 6 5 = 0)
  | 76 => decide (fl w 0 6 = F) && decide (fl w 16 5 = 0) && decide (fl w 11 5 = 0) && decide (fl w 6 5 = 0)
  | 71 => decide (fl w 0 6 = F) && decide (fl w 16 5 = 0) && decide (fl w 6 5 = 0)
  | 84 => decide (fl w 0 6 = F)
  | 67 => decide (fl w 0 6 = F)
  | 88 => decide (fl w 0 6 = F) && decide (fl w 6 5 = 0)
  | 89 => decide (fl w 0 6 = F) && decide (fl w 6 5 = 0) && decide (fl w 16 5 = fl w 11 5)
  | 73 => true
  | 85 => true
  | 86 => decide (fl w 21 5 = 0)
  | 80 => true
  | 66 => true
  | 90 => decide (fl w 16 5 = 0)
  | 82 => decide (fl w 16 5 = F)
  | 74 => true
  | _ => true

def fitQ (r : RRow) (w : Nat) : Bool := decide (fl w 26 6 = r.2.2.1) && fitF r.2.1 r.2.2.2.1 w
def rrowV (r : RRow) : Value := .agg (rrowVal r).toArray

theorem beq_nat0 (n : Nat) : ((n : Int) == 0) = decide (n = 0) := by
  rw [Bool.eq_iff_iff]; simp
theorem beq_nat (a b : Nat) : ((a : Int) == (b : Int)) = decide (a = b) := by
  rw [Bool.eq_iff_iff]; simp; omega

theorem shr26 (w : Nat) (hw : w < 2 ^ 32) : ishr .u32 (w : Int) 26 = ((fl w 26 6 : Nat) : Int) := by
  have := ishr_nat .u32 (a := w) (n := 26) (by decide)
  rw [show ((26 : Nat) : Int) = (26 : Int) from rfl] at this
  rw [this]
  have : w / 2 ^ 26 = fl w 26 6 := by unfold fl; omega
  rw [this]
theorem fl_i64 (w at_ n : Nat) (h : n ≤ 32 := by decide) : IntKind.i64.wrap ((fl w at_ n : Nat) : Int) = fl w at_ n := by
  have := fl_lt w at_ n h
  exact wI64 (by omega) (by omega)

set_option maxRecDepth 100000 in
set_option maxHeartbeats 4000000 in
theorem fits_68 (w : Nat) (hw : w < 2 ^ 32) (op O F : Nat) (nm : ByteArray) (m : Mem) (Q) (h : Q (.bool (fitQ (op, 68, O, F, nm) w)) m) : TC Try.prog 73 [rrowV (op, 68, O, F, nm), .int .u32 w] m Q := by
  have hg : fitQ (op, 68, O, F, nm) w = (decide (fl w 26 6 = O) && (decide (fl w 0 6 = F) && decide (fl w 6 5 = 0))) := by simp [fitQ, fitF]
  rw [hg] at h
  clear hg
  refine TC_fn mixed Try.func73 rfl Try.ntmps73 rfl (by decide) (by simp) ?_
  refine wpc_st fun K hK => ?_
  simp -dsimp [rrowV, rrowVal]
  refine hK _ _ ?_
  clear hK K
  refine wpc_st fun K hK => ?_
  simp -dsimp
  refine rField_tc w hw 21 5 (by decide) (by decide) _ _ ?_
  simp -dsimp
  refine rField_tc w hw 16 5 (by decide) (by decide) _ _ ?_
  simp -dsimp
  refine rField_tc w hw 11 5 (by decide) (by decide) _ _ ?_
  simp -dsimp
  refine rField_tc w hw 6 5 (by decide) (by decide) _ _ ?_
  simp -dsimp
  refine rField_tc w hw 0 6 (by decide) (by decide) _ _ ?_
  simp -dsimp [fl_i64]
  refine hK _ _ ?_
  clear hK K

  refine env_cut fun env he => ?_
  have e1 := he 1
  have e2 := he 2
  have e4 := he 4
  have e5 := he 5
  have e6 := he 6
  have e7 := he 7
  have e8 := he 8
  have e9 := he 9
  clear he
  simp -dsimp at e1 e2 e4 e5 e6 e7 e8 e9
  have hOi : ((fl w 26 6 : Nat) : Int) = (O : Int) ↔ fl w 26 6 = O := by omega
  have hFi : ((fl w 0 6 : Nat) : Int) = (F : Int) ↔ fl w 0 6 = F := by omega
  have hTi : ((fl w 16 5 : Nat) : Int) = (F : Int) ↔ fl w 16 5 = F := by omega
  have hDi : ((fl w 16 5 : Nat) : Int) = ((fl w 11 5 : Nat) : Int) ↔ fl w 16 5 = fl w 11 5 := by omega
  by_cases hO : fl w 26 6 = O
  · rw [decide_eq_true hO, Bool.true_and] at h
    subst hO
    refine wpc_sq fun K hK => ?_
    simp -dsimp [shr26 w hw, fl_i64, e1, e2, e4, e5, e6, e7, e8, e9]
    refine hK _ _ ?_
    clear hK K
    by_cases hfF : fl w 0 6 = F <;> by_cases ha0 : fl w 6 5 = 0
    all_goals
      simp only [hfF, ha0, decide_true, decide_false, Bool.true_and, Bool.and_true, Bool.false_and, Bool.and_false] at h
      simp -dsimp [beq_nat0, beq_nat, hFi, hTi, hDi, fl_i64, hfF, ha0, e1, e2, e4, e5, e6, e7, e8, e9]
      first | exact fin_ret rfl (leave_pure (by simp) h) | trace_state
  · rw [decide_eq_false hO, Bool.false_and] at h
    simp -dsimp [shr26 w hw, fl_i64, hOi, hO, e1, e2, e4, e5, e6, e7, e8, e9]
    exact fin_ret rfl (leave_pure (by simp) h)

set_option maxRecDepth 100000 in
set_option maxHeartbeats 4000000 in
theorem fits_72 (w : Nat) (hw : w < 2 ^ 32) (op O F : Nat) (nm : ByteArray) (m : Mem) (Q) (h : Q (.bool (fitQ (op, 72, O, F, nm) w)) m) : TC Try.prog 73 [rrowV (op, 72, O, F, nm), .int .u32 w] m Q := by
  have hg : fitQ (op, 72, O, F, nm) w = (decide (fl w 26 6 = O) && (decide (fl w 0 6 = F) && decide (fl w 21 5 = 0))) := by simp [fitQ, fitF]
  rw [hg] at h
  clear hg
  refine TC_fn mixed Try.func73 rfl Try.ntmps73 rfl (by decide) (by simp) ?_
  refine wpc_st fun K hK => ?_
  simp -dsimp [rrowV, rrowVal]
  refine hK _ _ ?_
  clear hK K
  refine wpc_st fun K hK => ?_
  simp -dsimp
  refine rField_tc w hw 21 5 (by decide) (by decide) _ _ ?_
  simp -dsimp
  refine rField_tc w hw 16 5 (by decide) (by decide) _ _ ?_
  simp -dsimp
  refine rField_tc w hw 11 5 (by decide) (by decide) _ _ ?_
  simp -dsimp
  refine rField_tc w hw 6 5 (by decide) (by decide) _ _ ?_
  simp -dsimp
  refine rField_tc w hw 0 6 (by decide) (by decide) _ _ ?_
  simp -dsimp [fl_i64]
  refine hK _ _ ?_
  clear hK K

  refine env_cut fun env he => ?_
  have e1 := he 1
  have e2 := he 2
  have e4 := he 4
  have e5 := he 5
  have e6 := he 6
  have e7 := he 7
  have e8 := he 8
  have e9 := he 9
  clear he
  simp -dsimp at e1 e2 e4 e5 e6 e7 e8 e9
  have hOi : ((fl w 26 6 : Nat) : Int) = (O : Int) ↔ fl w 26 6 = O := by omega
  have hFi : ((fl w 0 6 : Nat) : Int) = (F : Int) ↔ fl w 0 6 = F := by omega
  have hTi : ((fl w 16 5 : Nat) : Int) = (F : Int) ↔ fl w 16 5 = F := by omega
  have hDi : ((fl w 16 5 : Nat) : Int) = ((fl w 11 5 : Nat) : Int) ↔ fl w 16 5 = fl w 11 5 := by omega
  by_cases hO : fl w 26 6 = O
  · rw [decide_eq_true hO, Bool.true_and] at h
    subst hO
    refine wpc_sq fun K hK => ?_
    simp -dsimp [shr26 w hw, fl_i64, e1, e2, e4, e5, e6, e7, e8, e9]
    refine hK _ _ ?_
    clear hK K
    by_cases hfF : fl w 0 6 = F <;> by_cases hs0 : fl w 21 5 = 0
    all_goals
      simp only [hfF, hs0, decide_true, decide_false, Bool.true_and, Bool.and_true, Bool.false_and, Bool.and_false] at h
      simp -dsimp [beq_nat0, beq_nat, hFi, hTi, hDi, fl_i64, hfF, hs0, e1, e2, e4, e5, e6, e7, e8, e9]
      first | exact fin_ret rfl (leave_pure (by simp) h) | trace_state
  · rw [decide_eq_false hO, Bool.false_and] at h
    simp -dsimp [shr26 w hw, fl_i64, hOi, hO, e1, e2, e4, e5, e6, e7, e8, e9]
    exact fin_ret rfl (leave_pure (by simp) h)

set_option maxRecDepth 100000 in
set_option maxHeartbeats 4000000 in
theorem fits_77 (w : Nat) (hw : w < 2 ^ 32) (op O F : Nat) (nm : ByteArray) (m : Mem) (Q) (h : Q (.bool (fitQ (op, 77, O, F, nm) w)) m) : TC Try.prog 73 [rrowV (op, 77, O, F, nm), .int .u32 w] m Q := by
  have hg : fitQ (op, 77, O, F, nm) w = (decide (fl w 26 6 = O) && (decide (fl w 0 6 = F) && decide (fl w 11 5 = 0) && decide (fl w 6 5 = 0))) := by simp [fitQ, fitF]
  rw [hg] at h
  clear hg
  refine TC_fn mixed Try.func73 rfl Try.ntmps73 rfl (by decide) (by simp) ?_
  refine wpc_st fun K hK => ?_
  simp -dsimp [rrowV, rrowVal]
  refine hK _ _ ?_
  clear hK K
  refine wpc_st fun K hK => ?_
  simp -dsimp
  refine rField_tc w hw 21 5 (by decide) (by decide) _ _ ?_
  simp -dsimp
  refine rField_tc w hw 16 5 (by decide) (by decide) _ _ ?_
  simp -dsimp
  refine rField_tc w hw 11 5 (by decide) (by decide) _ _ ?_
  simp -dsimp
  refine rField_tc w hw 6 5 (by decide) (by decide) _ _ ?_
  simp -dsimp
  refine rField_tc w hw 0 6 (by decide) (by decide) _ _ ?_
  simp -dsimp [fl_i64]
  refine hK _ _ ?_
  clear hK K

  refine env_cut fun env he => ?_
  have e1 := he 1
  have e2 := he 2
  have e4 := he 4
  have e5 := he 5
  have e6 := he 6
  have e7 := he 7
  have e8 := he 8
  have e9 := he 9
  clear he
  simp -dsimp at e1 e2 e4 e5 e6 e7 e8 e9
  have hOi : ((fl w 26 6 : Nat) : Int) = (O : Int) ↔ fl w 26 6 = O := by omega
  have hFi : ((fl w 0 6 : Nat) : Int) = (F : Int) ↔ fl w 0 6 = F := by omega
  have hTi : ((fl w 16 5 : Nat) : Int) = (F : Int) ↔ fl w 16 5 = F := by omega
  have hDi : ((fl w 16 5 : Nat) : Int) = ((fl w 11 5 : Nat) : Int) ↔ fl w 16 5 = fl w 11 5 := by omega
  by_cases hO : fl w 26 6 = O
  · rw [decide_eq_true hO, Bool.true_and] at h
    subst hO
    refine wpc_sq fun K hK => ?_
    simp -dsimp [shr26 w hw, fl_i64, e1, e2, e4, e5, e6, e7, e8, e9]
    refine hK _ _ ?_
    clear hK K
    by_cases hfF : fl w 0 6 = F <;> by_cases hd0 : fl w 11 5 = 0 <;> by_cases ha0 : fl w 6 5 = 0
    all_goals
      simp only [hfF, hd0, ha0, decide_true, decide_false, Bool.true_and, Bool.and_true, Bool.false_and, Bool.and_false] at h
      simp -dsimp [beq_nat0, beq_nat, hFi, hTi, hDi, fl_i64, hfF, hd0, ha0, e1, e2, e4, e5, e6, e7, e8, e9]
      first | exact fin_ret rfl (leave_pure (by simp) h) | trace_state
  · rw [decide_eq_false hO, Bool.false_and] at h
    simp -dsimp [shr26 w hw, fl_i64, hOi, hO, e1, e2, e4, e5, e6, e7, e8, e9]
    exact fin_ret rfl (leave_pure (by simp) h)

set_option maxRecDepth 100000 in
set_option maxHeartbeats 4000000 in
theorem fits_70 (w : Nat) (hw : w < 2 ^ 32) (op O F : Nat) (nm : ByteArray) (m : Mem) (Q) (h : Q (.bool (fitQ (op, 70, O, F, nm) w)) m) : TC Try.prog 73 [rrowV (op, 70, O, F, nm), .int .u32 w] m Q := by
  have hg : fitQ (op, 70, O, F, nm) w = (decide (fl w 26 6 = O) && (decide (fl w 0 6 = F) && decide (fl w 21 5 = 0) && decide (fl w 16 5 = 0) && decide (fl w 6 5 = 0))) := by simp [fitQ, fitF]
  rw [hg] at h
  clear hg
  refine TC_fn mixed Try.func73 rfl Try.ntmps73 rfl (by decide) (by simp) ?_
  refine wpc_st fun K hK => ?_
  simp -dsimp [rrowV, rrowVal]
  refine hK _ _ ?_
  clear hK K
  refine wpc_st fun K hK => ?_
  simp -dsimp
  refine rField_tc w hw 21 5 (by decide) (by decide) _ _ ?_
  simp -dsimp
  refine rField_tc w hw 16 5 (by decide) (by decide) _ _ ?_
  simp -dsimp
  refine rField_tc w hw 11 5 (by decide) (by decide) _ _ ?_
  simp -dsimp
  refine rField_tc w hw 6 5 (by decide) (by decide) _ _ ?_
  simp -dsimp
  refine rField_tc w hw 0 6 (by decide) (by decide) _ _ ?_
  simp -dsimp [fl_i64]
  refine hK _ _ ?_
  clear hK K

  refine env_cut fun env he => ?_
  have e1 := he 1
  have e2 := he 2
  have e4 := he 4
  have e5 := he 5
  have e6 := he 6
  have e7 := he 7
  have e8 := he 8
  have e9 := he 9
  clear he
  simp -dsimp at e1 e2 e4 e5 e6 e7 e8 e9
  have hOi : ((fl w 26 6 : Nat) : Int) = (O : Int) ↔ fl w 26 6 = O := by omega
  have hFi : ((fl w 0 6 : Nat) : Int) = (F : Int) ↔ fl w 0 6 = F := by omega
  have hTi : ((fl w 16 5 : Nat) : Int) = (F : Int) ↔ fl w 16 5 = F := by omega
  have hDi : ((fl w 16 5 : Nat) : Int) = ((fl w 11 5 : Nat) : Int) ↔ fl w 16 5 = fl w 11 5 := by omega
  by_cases hO : fl w 26 6 = O
  · rw [decide_eq_true hO, Bool.true_and] at h
    subst hO
    refine wpc_sq fun K hK => ?_
    simp -dsimp [shr26 w hw, fl_i64, e1, e2, e4, e5, e6, e7, e8, e9]
    refine hK _ _ ?_
    clear hK K
    by_cases hfF : fl w 0 6 = F <;> by_cases hs0 : fl w 21 5 = 0 <;> by_cases ht0 : fl w 16 5 = 0 <;> by_cases ha0 : fl w 6 5 = 0
    all_goals
      simp only [hfF, hs0, ht0, ha0, decide_true, decide_false, Bool.true_and, Bool.and_true, Bool.false_and, Bool.and_false] at h
      simp -dsimp [beq_nat0, beq_nat, hFi, hTi, hDi, fl_i64, hfF, hs0, ht0, ha0, e1, e2, e4, e5, e6, e7, e8, e9]
      first | exact fin_ret rfl (leave_pure (by simp) h) | trace_state
  · rw [decide_eq_false hO, Bool.false_and] at h
    simp -dsimp [shr26 w hw, fl_i64, hOi, hO, e1, e2, e4, e5, e6, e7, e8, e9]
    exact fin_ret rfl (leave_pure (by simp) h)

set_option maxRecDepth 100000 in
set_option maxHeartbeats 4000000 in
theorem fits_76 (w : Nat) (hw : w < 2 ^ 32) (op O F : Nat) (nm : ByteArray) (m : Mem) (Q) (h : Q (.bool (fitQ (op, 76, O, F, nm) w)) m) : TC Try.prog 73 [rrowV (op, 76, O, F, nm), .int .u32 w] m Q := by
  have hg : fitQ (op, 76, O, F, nm) w = (decide (fl w 26 6 = O) && (decide (fl w 0 6 = F) && decide (fl w 16 5 = 0) && decide (fl w 11 5 = 0) && decide (fl w 6 5 = 0))) := by simp [fitQ, fitF]
  rw [hg] at h
  clear hg
  refine TC_fn mixed Try.func73 rfl Try.ntmps73 rfl (by decide) (by simp) ?_
  refine wpc_st fun K hK => ?_
  simp -dsimp [rrowV, rrowVal]
  refine hK _ _ ?_
  clear hK K
  refine wpc_st fun K hK => ?_
  simp -dsimp
  refine rField_tc w hw 21 5 (by decide) (by decide) _ _ ?_
  simp -dsimp
  refine rField_tc w hw 16 5 (by decide) (by decide) _ _ ?_
  simp -dsimp
  refine rField_tc w hw 11 5 (by decide) (by decide) _ _ ?_
  simp -dsimp
  refine rField_tc w hw 6 5 (by decide) (by decide) _ _ ?_
  simp -dsimp
  refine rField_tc w hw 0 6 (by decide) (by decide) _ _ ?_
  simp -dsimp [fl_i64]
  refine hK _ _ ?_
  clear hK K

  refine env_cut fun env he => ?_
  have e1 := he 1
  have e2 := he 2
  have e4 := he 4
  have e5 := he 5
  have e6 := he 6
  have e7 := he 7
  have e8 := he 8
  have e9 := he 9
  clear he
  simp -dsimp at e1 e2 e4 e5 e6 e7 e8 e9
  have hOi : ((fl w 26 6 : Nat) : Int) = (O : Int) ↔ fl w 26 6 = O := by omega
  have hFi : ((fl w 0 6 : Nat) : Int) = (F : Int) ↔ fl w 0 6 = F := by omega
  have hTi : ((fl w 16 5 : Nat) : Int) = (F : Int) ↔ fl w 16 5 = F := by omega
  have hDi : ((fl w 16 5 : Nat) : Int) = ((fl w 11 5 : Nat) : Int) ↔ fl w 16 5 = fl w 11 5 := by omega
  by_cases hO : fl w 26 6 = O
  · rw [decide_eq_true hO, Bool.true_and] at h
    subst hO
    refine wpc_sq fun K hK => ?_
    simp -dsimp [shr26 w hw, fl_i64, e1, e2, e4, e5, e6, e7, e8, e9]
    refine hK _ _ ?_
    clear hK K
    by_cases hfF : fl w 0 6 = F <;> by_cases ht0 : fl w 16 5 = 0 <;> by_cases hd0 : fl w 11 5 = 0 <;> by_cases ha0 : fl w 6 5 = 0
    all_goals
      simp only [hfF, ht0, hd0, ha0, decide_true, decide_false, Bool.true_and, Bool.and_true, Bool.false_and, Bool.and_false] at h
      simp -dsimp [beq_nat0, beq_nat, hFi, hTi, hDi, fl_i64, hfF, ht0, hd0, ha0, e1, e2, e4, e5, e6, e7, e8, e9]
      first | exact fin_ret rfl (leave_pure (by simp) h) | trace_state
  · rw [decide_eq_false hO, Bool.false_and] at h
    simp -dsimp [shr26 w hw, fl_i64, hOi, hO, e1, e2, e4, e5, e6, e7, e8, e9]
    exact fin_ret rfl (leave_pure (by simp) h)

set_option maxRecDepth 100000 in
set_option maxHeartbeats 4000000 in
theorem fits_71 (w : Nat) (hw : w < 2 ^ 32) (op O F : Nat) (nm : ByteArray) (m : Mem) (Q) (h : Q (.bool (fitQ (op, 71, O, F, nm) w)) m) : TC Try.prog 73 [rrowV (op, 71, O, F, nm), .int .u32 w] m Q := by
  have hg : fitQ (op, 71, O, F, nm) w = (decide (fl w 26 6 = O) && (decide (fl w 0 6 = F) && decide (fl w 16 5 = 0) && decide (fl w 6 5 = 0))) := by simp [fitQ, fitF]
  rw [hg] at h
  clear hg
  refine TC_fn mixed Try.func73 rfl Try.ntmps73 rfl (by decide) (by simp) ?_
  refine wpc_st fun K hK => ?_
  simp -dsimp [rrowV, rrowVal]
  refine hK _ _ ?_
  clear hK K
  refine wpc_st fun K hK => ?_
  simp -dsimp
  refine rField_tc w hw 21 5 (by decide) (by decide) _ _ ?_
  simp -dsimp
  refine rField_tc w hw 16 5 (by decide) (by decide) _ _ ?_
  simp -dsimp
  refine rField_tc w hw 11 5 (by decide) (by decide) _ _ ?_
  simp -dsimp
  refine rField_tc w hw 6 5 (by decide) (by decide) _ _ ?_
  simp -dsimp
  refine rField_tc w hw 0 6 (by decide) (by decide) _ _ ?_
  simp -dsimp [fl_i64]
  refine hK _ _ ?_
  clear hK K

  refine env_cut fun env he => ?_
  have e1 := he 1
  have e2 := he 2
  have e4 := he 4
  have e5 := he 5
  have e6 := he 6
  have e7 := he 7
  have e8 := he 8
  have e9 := he 9
  clear he
  simp -dsimp at e1 e2 e4 e5 e6 e7 e8 e9
  have hOi : ((fl w 26 6 : Nat) : Int) = (O : Int) ↔ fl w 26 6 = O := by omega
  have hFi : ((fl w 0 6 : Nat) : Int) = (F : Int) ↔ fl w 0 6 = F := by omega
  have hTi : ((fl w 16 5 : Nat) : Int) = (F : Int) ↔ fl w 16 5 = F := by omega
  have hDi : ((fl w 16 5 : Nat) : Int) = ((fl w 11 5 : Nat) : Int) ↔ fl w 16 5 = fl w 11 5 := by omega
  by_cases hO : fl w 26 6 = O
  · rw [decide_eq_true hO, Bool.true_and] at h
    subst hO
    refine wpc_sq fun K hK => ?_
    simp -dsimp [shr26 w hw, fl_i64, e1, e2, e4, e5, e6, e7, e8, e9]
    refine hK _ _ ?_
    clear hK K
    by_cases hfF : fl w 0 6 = F <;> by_cases ht0 : fl w 16 5 = 0 <;> by_cases ha0 : fl w 6 5 = 0
    all_goals
      simp only [hfF, ht0, ha0, decide_true, decide_false, Bool.true_and, Bool.and_true, Bool.false_and, Bool.and_false] at h
      simp -dsimp [beq_nat0, beq_nat, hFi, hTi, hDi, fl_i64, hfF, ht0, ha0, e1, e2, e4, e5, e6, e7, e8, e9]
      first | exact fin_ret rfl (leave_pure (by simp) h) | trace_state
  · rw [decide_eq_false hO, Bool.false_and] at h
    simp -dsimp [shr26 w hw, fl_i64, hOi, hO, e1, e2, e4, e5, e6, e7, e8, e9]
    exact fin_ret rfl (leave_pure (by simp) h)

set_option maxRecDepth 100000 in
set_option maxHeartbeats 4000000 in
theorem fits_84 (w : Nat) (hw : w < 2 ^ 32) (op O F : Nat) (nm : ByteArray) (m : Mem) (Q) (h : Q (.bool (fitQ (op, 84, O, F, nm) w)) m) : TC Try.prog 73 [rrowV (op, 84, O, F, nm), .int .u32 w] m Q := by
  have hg : fitQ (op, 84, O, F, nm) w = (decide (fl w 26 6 = O) && (decide (fl w 0 6 = F))) := by simp [fitQ, fitF]
  rw [hg] at h
  clear hg
  refine TC_fn mixed Try.func73 rfl Try.ntmps73 rfl (by decide) (by simp) ?_
  refine wpc_st fun K hK => ?_
  simp -dsimp [rrowV, rrowVal]
  refine hK _ _ ?_
  clear hK K
  refine wpc_st fun K hK => ?_
  simp -dsimp
  refine rField_tc w hw 21 5 (by decide) (by decide) _ _ ?_
  simp -dsimp
  refine rField_tc w hw 16 5 (by decide) (by decide) _ _ ?_
  simp -dsimp
  refine rField_tc w hw 11 5 (by decide) (by decide) _ _ ?_
  simp -dsimp
  refine rField_tc w hw 6 5 (by decide) (by decide) _ _ ?_
  simp -dsimp
  refine rField_tc w hw 0 6 (by decide) (by decide) _ _ ?_
  simp -dsimp [fl_i64]
  refine hK _ _ ?_
  clear hK K

  refine env_cut fun env he => ?_
  have e1 := he 1
  have e2 := he 2
  have e4 := he 4
  have e5 := he 5
  have e6 := he 6
  have e7 := he 7
  have e8 := he 8
  have e9 := he 9
  clear he
  simp -dsimp at e1 e2 e4 e5 e6 e7 e8 e9
  have hOi : ((fl w 26 6 : Nat) : Int) = (O : Int) ↔ fl w 26 6 = O := by omega
  have hFi : ((fl w 0 6 : Nat) : Int) = (F : Int) ↔ fl w 0 6 = F := by omega
  have hTi : ((fl w 16 5 : Nat) : Int) = (F : Int) ↔ fl w 16 5 = F := by omega
  have hDi : ((fl w 16 5 : Nat) : Int) = ((fl w 11 5 : Nat) : Int) ↔ fl w 16 5 = fl w 11 5 := by omega
  by_cases hO : fl w 26 6 = O
  · rw [decide_eq_true hO, Bool.true_and] at h
    subst hO
    refine wpc_sq fun K hK => ?_
    simp -dsimp [shr26 w hw, fl_i64, e1, e2, e4, e5, e6, e7, e8, e9]
    refine hK _ _ ?_
    clear hK K
    simp -dsimp [beq_nat0, beq_nat, fl_i64, e1, e2, e4, e5, e6, e7, e8, e9]
    exact fin_ret rfl (leave_pure (by simp) h)
  · rw [decide_eq_false hO, Bool.false_and] at h
    simp -dsimp [shr26 w hw, fl_i64, hOi, hO, e1, e2, e4, e5, e6, e7, e8, e9]
    exact fin_ret rfl (leave_pure (by simp) h)

set_option maxRecDepth 100000 in
set_option maxHeartbeats 4000000 in
theorem fits_67 (w : Nat) (hw : w < 2 ^ 32) (op O F : Nat) (nm : ByteArray) (m : Mem) (Q) (h : Q (.bool (fitQ (op, 67, O, F, nm) w)) m) : TC Try.prog 73 [rrowV (op, 67, O, F, nm), .int .u32 w] m Q := by
  have hg : fitQ (op, 67, O, F, nm) w = (decide (fl w 26 6 = O) && (decide (fl w 0 6 = F))) := by simp [fitQ, fitF]
  rw [hg] at h
  clear hg
  refine TC_fn mixed Try.func73 rfl Try.ntmps73 rfl (by decide) (by simp) ?_
  refine wpc_st fun K hK => ?_
  simp -dsimp [rrowV, rrowVal]
  refine hK _ _ ?_
  clear hK K
  refine wpc_st fun K hK => ?_
  simp -dsimp
  refine rField_tc w hw 21 5 (by decide) (by decide) _ _ ?_
  simp -dsimp
  refine rField_tc w hw 16 5 (by decide) (by decide) _ _ ?_
  simp -dsimp
  refine rField_tc w hw 11 5 (by decide) (by decide) _ _ ?_
  simp -dsimp
  refine rField_tc w hw 6 5 (by decide) (by decide) _ _ ?_
  simp -dsimp
  refine rField_tc w hw 0 6 (by decide) (by decide) _ _ ?_
  simp -dsimp [fl_i64]
  refine hK _ _ ?_
  clear hK K

  refine env_cut fun env he => ?_
  have e1 := he 1
  have e2 := he 2
  have e4 := he 4
  have e5 := he 5
  have e6 := he 6
  have e7 := he 7
  have e8 := he 8
  have e9 := he 9
  clear he
  simp -dsimp at e1 e2 e4 e5 e6 e7 e8 e9
  have hOi : ((fl w 26 6 : Nat) : Int) = (O : Int) ↔ fl w 26 6 = O := by omega
  have hFi : ((fl w 0 6 : Nat) : Int) = (F : Int) ↔ fl w 0 6 = F := by omega
  have hTi : ((fl w 16 5 : Nat) : Int) = (F : Int) ↔ fl w 16 5 = F := by omega
  have hDi : ((fl w 16 5 : Nat) : Int) = ((fl w 11 5 : Nat) : Int) ↔ fl w 16 5 = fl w 11 5 := by omega
  by_cases hO : fl w 26 6 = O
  · rw [decide_eq_true hO, Bool.true_and] at h
    subst hO
    refine wpc_sq fun K hK => ?_
    simp -dsimp [shr26 w hw, fl_i64, e1, e2, e4, e5, e6, e7, e8, e9]
    refine hK _ _ ?_
    clear hK K
    simp -dsimp [beq_nat0, beq_nat, fl_i64, e1, e2, e4, e5, e6, e7, e8, e9]
    exact fin_ret rfl (leave_pure (by simp) h)
  · rw [decide_eq_false hO, Bool.false_and] at h
    simp -dsimp [shr26 w hw, fl_i64, hOi, hO, e1, e2, e4, e5, e6, e7, e8, e9]
    exact fin_ret rfl (leave_pure (by simp) h)

set_option maxRecDepth 100000 in
set_option maxHeartbeats 4000000 in
theorem fits_88 (w : Nat) (hw : w < 2 ^ 32) (op O F : Nat) (nm : ByteArray) (m : Mem) (Q) (h : Q (.bool (fitQ (op, 88, O, F, nm) w)) m) : TC Try.prog 73 [rrowV (op, 88, O, F, nm), .int .u32 w] m Q := by
  have hg : fitQ (op, 88, O, F, nm) w = (decide (fl w 26 6 = O) && (decide (fl w 0 6 = F) && decide (fl w 6 5 = 0))) := by simp [fitQ, fitF]
  rw [hg] at h
  clear hg
  refine TC_fn mixed Try.func73 rfl Try.ntmps73 rfl (by decide) (by simp) ?_
  refine wpc_st fun K hK => ?_
  simp -dsimp [rrowV, rrowVal]
  refine hK _ _ ?_
  clear hK K
  refine wpc_st fun K hK => ?_
  simp -dsimp
  refine rField_tc w hw 21 5 (by decide) (by decide) _ _ ?_
  simp -dsimp
  refine rField_tc w hw 16 5 (by decide) (by decide) _ _ ?_
  simp -dsimp
  refine rField_tc w hw 11 5 (by decide) (by decide) _ _ ?_
  simp -dsimp
  refine rField_tc w hw 6 5 (by decide) (by decide) _ _ ?_
  simp -dsimp
  refine rField_tc w hw 0 6 (by decide) (by decide) _ _ ?_
  simp -dsimp [fl_i64]
  refine hK _ _ ?_
  clear hK K

  refine env_cut fun env he => ?_
  have e1 := he 1
  have e2 := he 2
  have e4 := he 4
  have e5 := he 5
  have e6 := he 6
  have e7 := he 7
  have e8 := he 8
  have e9 := he 9
  clear he
  simp -dsimp at e1 e2 e4 e5 e6 e7 e8 e9
  have hOi : ((fl w 26 6 : Nat) : Int) = (O : Int) ↔ fl w 26 6 = O := by omega
  have hFi : ((fl w 0 6 : Nat) : Int) = (F : Int) ↔ fl w 0 6 = F := by omega
  have hTi : ((fl w 16 5 : Nat) : Int) = (F : Int) ↔ fl w 16 5 = F := by omega
  have hDi : ((fl w 16 5 : Nat) : Int) = ((fl w 11 5 : Nat) : Int) ↔ fl w 16 5 = fl w 11 5 := by omega
  by_cases hO : fl w 26 6 = O
  · rw [decide_eq_true hO, Bool.true_and] at h
    subst hO
    refine wpc_sq fun K hK => ?_
    simp -dsimp [shr26 w hw, fl_i64, e1, e2, e4, e5, e6, e7, e8, e9]
    refine hK _ _ ?_
    clear hK K
    by_cases hfF : fl w 0 6 = F <;> by_cases ha0 : fl w 6 5 = 0
    all_goals
      simp only [hfF, ha0, decide_true, decide_false, Bool.true_and, Bool.and_true, Bool.false_and, Bool.and_false] at h
      simp -dsimp [beq_nat0, beq_nat, hFi, hTi, hDi, fl_i64, hfF, ha0, e1, e2, e4, e5, e6, e7, e8, e9]
      first | exact fin_ret rfl (leave_pure (by simp) h) | trace_state
  · rw [decide_eq_false hO, Bool.false_and] at h
    simp -dsimp [shr26 w hw, fl_i64, hOi, hO, e1, e2, e4, e5, e6, e7, e8, e9]
    exact fin_ret rfl (leave_pure (by simp) h)

set_option maxRecDepth 100000 in
set_option maxHeartbeats 4000000 in
theorem fits_89 (w : Nat) (hw : w < 2 ^ 32) (op O F : Nat) (nm : ByteArray) (m : Mem) (Q) (h : Q (.bool (fitQ (op, 89, O, F, nm) w)) m) : TC Try.prog 73 [rrowV (op, 89, O, F, nm), .int .u32 w] m Q := by
  have hg : fitQ (op, 89, O, F, nm) w = (decide (fl w 26 6 = O) && (decide (fl w 0 6 = F) && decide (fl w 6 5 = 0) && decide (fl w 16 5 = fl w 11 5))) := by simp [fitQ, fitF]
  rw [hg] at h
  clear hg
  refine TC_fn mixed Try.func73 rfl Try.ntmps73 rfl (by decide) (by simp) ?_
  refine wpc_st fun K hK => ?_
  simp -dsimp [rrowV, rrowVal]
  refine hK _ _ ?_
  clear hK K
  refine wpc_st fun K hK => ?_
  simp -dsimp
  refine rField_tc w hw 21 5 (by decide) (by decide) _ _ ?_
  simp -dsimp
  refine rField_tc w hw 16 5 (by decide) (by decide) _ _ ?_
  simp -dsimp
  refine rField_tc w hw 11 5 (by decide) (by decide) _ _ ?_
  simp -dsimp
  refine rField_tc w hw 6 5 (by decide) (by decide) _ _ ?_
  simp -dsimp
  refine rField_tc w hw 0 6 (by decide) (by decide) _ _ ?_
  simp -dsimp [fl_i64]
  refine hK _ _ ?_
  clear hK K

  refine env_cut fun env he => ?_
  have e1 := he 1
  have e2 := he 2
  have e4 := he 4
  have e5 := he 5
  have e6 := he 6
  have e7 := he 7
  have e8 := he 8
  have e9 := he 9
  clear he
  simp -dsimp at e1 e2 e4 e5 e6 e7 e8 e9
  have hOi : ((fl w 26 6 : Nat) : Int) = (O : Int) ↔ fl w 26 6 = O := by omega
  have hFi : ((fl w 0 6 : Nat) : Int) = (F : Int) ↔ fl w 0 6 = F := by omega
  have hTi : ((fl w 16 5 : Nat) : Int) = (F : Int) ↔ fl w 16 5 = F := by omega
  have hDi : ((fl w 16 5 : Nat) : Int) = ((fl w 11 5 : Nat) : Int) ↔ fl w 16 5 = fl w 11 5 := by omega
  by_cases hO : fl w 26 6 = O
  · rw [decide_eq_true hO, Bool.true_and] at h
    subst hO
    refine wpc_sq fun K hK => ?_
    simp -dsimp [shr26 w hw, fl_i64, e1, e2, e4, e5, e6, e7, e8, e9]
    refine hK _ _ ?_
    clear hK K
    by_cases hfF : fl w 0 6 = F <;> by_cases ha0 : fl w 6 5 = 0 <;> by_cases htd : fl w 16 5 = fl w 11 5
    all_goals
      simp only [hfF, ha0, htd, decide_true, decide_false, Bool.true_and, Bool.and_true, Bool.false_and, Bool.and_false] at h
      simp -dsimp [beq_nat0, beq_nat, hFi, hTi, hDi, fl_i64, hfF, ha0, htd, e1, e2, e4, e5, e6, e7, e8, e9]
      first | exact fin_ret rfl (leave_pure (by simp) h) | trace_state
  · rw [decide_eq_false hO, Bool.false_and] at h
    simp -dsimp [shr26 w hw, fl_i64, hOi, hO, e1, e2, e4, e5, e6, e7, e8, e9]
    exact fin_ret rfl (leave_pure (by simp) h)

set_option maxRecDepth 100000 in
set_option maxHeartbeats 4000000 in
theorem fits_73 (w : Nat) (hw : w < 2 ^ 32) (op O F : Nat) (nm : ByteArray) (m : Mem) (Q) (h : Q (.bool (fitQ (op, 73, O, F, nm) w)) m) : TC Try.prog 73 [rrowV (op, 73, O, F, nm), .int .u32 w] m Q := by
  have hg : fitQ (op, 73, O, F, nm) w = (decide (fl w 26 6 = O) && (true)) := by simp [fitQ, fitF]
  rw [hg] at h
  clear hg
  refine TC_fn mixed Try.func73 rfl Try.ntmps73 rfl (by decide) (by simp) ?_
  refine wpc_st fun K hK => ?_
  simp -dsimp [rrowV, rrowVal]
  refine hK _ _ ?_
  clear hK K
  refine wpc_st fun K hK => ?_
  simp -dsimp
  refine rField_tc w hw 21 5 (by decide) (by decide) _ _ ?_
  simp -dsimp
  refine rField_tc w hw 16 5 (by decide) (by decide) _ _ ?_
  simp -dsimp
  refine rField_tc w hw 11 5 (by decide) (by decide) _ _ ?_
  simp -dsimp
  refine rField_tc w hw 6 5 (by decide) (by decide) _ _ ?_
  simp -dsimp
  refine rField_tc w hw 0 6 (by decide) (by decide) _ _ ?_
  simp -dsimp [fl_i64]
  refine hK _ _ ?_
  clear hK K

  refine env_cut fun env he => ?_
  have e1 := he 1
  have e2 := he 2
  have e4 := he 4
  have e5 := he 5
  have e6 := he 6
  have e7 := he 7
  have e8 := he 8
  have e9 := he 9
  clear he
  simp -dsimp at e1 e2 e4 e5 e6 e7 e8 e9
  have hOi : ((fl w 26 6 : Nat) : Int) = (O : Int) ↔ fl w 26 6 = O := by omega
  have hFi : ((fl w 0 6 : Nat) : Int) = (F : Int) ↔ fl w 0 6 = F := by omega
  have hTi : ((fl w 16 5 : Nat) : Int) = (F : Int) ↔ fl w 16 5 = F := by omega
  have hDi : ((fl w 16 5 : Nat) : Int) = ((fl w 11 5 : Nat) : Int) ↔ fl w 16 5 = fl w 11 5 := by omega
  by_cases hO : fl w 26 6 = O
  · rw [decide_eq_true hO, Bool.true_and] at h
    subst hO
    refine wpc_sq fun K hK => ?_
    simp -dsimp [shr26 w hw, fl_i64, e1, e2, e4, e5, e6, e7, e8, e9]
    refine hK _ _ ?_
    clear hK K
    simp -dsimp [e1, e2, e4, e5, e6, e7, e8, e9]
    exact fin_ret rfl (leave_pure (by simp) h)
  · rw [decide_eq_false hO, Bool.false_and] at h
    simp -dsimp [shr26 w hw, fl_i64, hOi, hO, e1, e2, e4, e5, e6, e7, e8, e9]
    exact fin_ret rfl (leave_pure (by simp) h)

set_option maxRecDepth 100000 in
set_option maxHeartbeats 4000000 in
theorem fits_85 (w : Nat) (hw : w < 2 ^ 32) (op O F : Nat) (nm : ByteArray) (m : Mem) (Q) (h : Q (.bool (fitQ (op, 85, O, F, nm) w)) m) : TC Try.prog 73 [rrowV (op, 85, O, F, nm), .int .u32 w] m Q := by
  have hg : fitQ (op, 85, O, F, nm) w = (decide (fl w 26 6 = O) && (true)) := by simp [fitQ, fitF]
  rw [hg] at h
  clear hg
  refine TC_fn mixed Try.func73 rfl Try.ntmps73 rfl (by decide) (by simp) ?_
  refine wpc_st fun K hK => ?_
  simp -dsimp [rrowV, rrowVal]
  refine hK _ _ ?_
  clear hK K
  refine wpc_st fun K hK => ?_
  simp -dsimp
  refine rField_tc w hw 21 5 (by decide) (by decide) _ _ ?_
  simp -dsimp
  refine rField_tc w hw 16 5 (by decide) (by decide) _ _ ?_
  simp -dsimp
  refine rField_tc w hw 11 5 (by decide) (by decide) _ _ ?_
  simp -dsimp
  refine rField_tc w hw 6 5 (by decide) (by decide) _ _ ?_
  simp -dsimp
  refine rField_tc w hw 0 6 (by decide) (by decide) _ _ ?_
  simp -dsimp [fl_i64]
  refine hK _ _ ?_
  clear hK K

  refine env_cut fun env he => ?_
  have e1 := he 1
  have e2 := he 2
  have e4 := he 4
  have e5 := he 5
  have e6 := he 6
  have e7 := he 7
  have e8 := he 8
  have e9 := he 9
  clear he
  simp -dsimp at e1 e2 e4 e5 e6 e7 e8 e9
  have hOi : ((fl w 26 6 : Nat) : Int) = (O : Int) ↔ fl w 26 6 = O := by omega
  have hFi : ((fl w 0 6 : Nat) : Int) = (F : Int) ↔ fl w 0 6 = F := by omega
  have hTi : ((fl w 16 5 : Nat) : Int) = (F : Int) ↔ fl w 16 5 = F := by omega
  have hDi : ((fl w 16 5 : Nat) : Int) = ((fl w 11 5 : Nat) : Int) ↔ fl w 16 5 = fl w 11 5 := by omega
  by_cases hO : fl w 26 6 = O
  · rw [decide_eq_true hO, Bool.true_and] at h
    subst hO
    refine wpc_sq fun K hK => ?_
    simp -dsimp [shr26 w hw, fl_i64, e1, e2, e4, e5, e6, e7, e8, e9]
    refine hK _ _ ?_
    clear hK K
    simp -dsimp [e1, e2, e4, e5, e6, e7, e8, e9]
    exact fin_ret rfl (leave_pure (by simp) h)
  · rw [decide_eq_false hO, Bool.false_and] at h
    simp -dsimp [shr26 w hw, fl_i64, hOi, hO, e1, e2, e4, e5, e6, e7, e8, e9]
    exact fin_ret rfl (leave_pure (by simp) h)

set_option maxRecDepth 100000 in
set_option maxHeartbeats 4000000 in
theorem fits_86 (w : Nat) (hw : w < 2 ^ 32) (op O F : Nat) (nm : ByteArray) (m : Mem) (Q) (h : Q (.bool (fitQ (op, 86, O, F, nm) w)) m) : TC Try.prog 73 [rrowV (op, 86, O, F, nm), .int .u32 w] m Q := by
  have hg : fitQ (op, 86, O, F, nm) w = (decide (fl w 26 6 = O) && (decide (fl w 21 5 = 0))) := by simp [fitQ, fitF]
  rw [hg] at h
  clear hg
  refine TC_fn mixed Try.func73 rfl Try.ntmps73 rfl (by decide) (by simp) ?_
  refine wpc_st fun K hK => ?_
  simp -dsimp [rrowV, rrowVal]
  refine hK _ _ ?_
  clear hK K
  refine wpc_st fun K hK => ?_
  simp -dsimp
  refine rField_tc w hw 21 5 (by decide) (by decide) _ _ ?_
  simp -dsimp
  refine rField_tc w hw 16 5 (by decide) (by decide) _ _ ?_
  simp -dsimp
  refine rField_tc w hw 11 5 (by decide) (by decide) _ _ ?_
  simp -dsimp
  refine rField_tc w hw 6 5 (by decide) (by decide) _ _ ?_
  simp -dsimp
  refine rField_tc w hw 0 6 (by decide) (by decide) _ _ ?_
  simp -dsimp [fl_i64]
  refine hK _ _ ?_
  clear hK K

  refine env_cut fun env he => ?_
  have e1 := he 1
  have e2 := he 2
  have e4 := he 4
  have e5 := he 5
  have e6 := he 6
  have e7 := he 7
  have e8 := he 8
  have e9 := he 9
  clear he
  simp -dsimp at e1 e2 e4 e5 e6 e7 e8 e9
  have hOi : ((fl w 26 6 : Nat) : Int) = (O : Int) ↔ fl w 26 6 = O := by omega
  have hFi : ((fl w 0 6 : Nat) : Int) = (F : Int) ↔ fl w 0 6 = F := by omega
  have hTi : ((fl w 16 5 : Nat) : Int) = (F : Int) ↔ fl w 16 5 = F := by omega
  have hDi : ((fl w 16 5 : Nat) : Int) = ((fl w 11 5 : Nat) : Int) ↔ fl w 16 5 = fl w 11 5 := by omega
  by_cases hO : fl w 26 6 = O
  · rw [decide_eq_true hO, Bool.true_and] at h
    subst hO
    refine wpc_sq fun K hK => ?_
    simp -dsimp [shr26 w hw, fl_i64, e1, e2, e4, e5, e6, e7, e8, e9]
    refine hK _ _ ?_
    clear hK K
    simp -dsimp [beq_nat0, beq_nat, fl_i64, e1, e2, e4, e5, e6, e7, e8, e9]
    exact fin_ret rfl (leave_pure (by simp) h)
  · rw [decide_eq_false hO, Bool.false_and] at h
    simp -dsimp [shr26 w hw, fl_i64, hOi, hO, e1, e2, e4, e5, e6, e7, e8, e9]
    exact fin_ret rfl (leave_pure (by simp) h)

set_option maxRecDepth 100000 in
set_option maxHeartbeats 4000000 in
theorem fits_80 (w : Nat) (hw : w < 2 ^ 32) (op O F : Nat) (nm : ByteArray) (m : Mem) (Q) (h : Q (.bool (fitQ (op, 80, O, F, nm) w)) m) : TC Try.prog 73 [rrowV (op, 80, O, F, nm), .int .u32 w] m Q := by
  have hg : fitQ (op, 80, O, F, nm) w = (decide (fl w 26 6 = O) && (true)) := by simp [fitQ, fitF]
  rw [hg] at h
  clear hg
  refine TC_fn mixed Try.func73 rfl Try.ntmps73 rfl (by decide) (by simp) ?_
  refine wpc_st fun K hK => ?_
  simp -dsimp [rrowV, rrowVal]
  refine hK _ _ ?_
  clear hK K
  refine wpc_st fun K hK => ?_
  simp -dsimp
  refine rField_tc w hw 21 5 (by decide) (by decide) _ _ ?_
  simp -dsimp
  refine rField_tc w hw 16 5 (by decide) (by decide) _ _ ?_
  simp -dsimp
  refine rField_tc w hw 11 5 (by decide) (by decide) _ _ ?_
  simp -dsimp
  refine rField_tc w hw 6 5 (by decide) (by decide) _ _ ?_
  simp -dsimp
  refine rField_tc w hw 0 6 (by decide) (by decide) _ _ ?_
  simp -dsimp [fl_i64]
  refine hK _ _ ?_
  clear hK K

  refine env_cut fun env he => ?_
  have e1 := he 1
  have e2 := he 2
  have e4 := he 4
  have e5 := he 5
  have e6 := he 6
  have e7 := he 7
  have e8 := he 8
  have e9 := he 9
  clear he
  simp -dsimp at e1 e2 e4 e5 e6 e7 e8 e9
  have hOi : ((fl w 26 6 : Nat) : Int) = (O : Int) ↔ fl w 26 6 = O := by omega
  have hFi : ((fl w 0 6 : Nat) : Int) = (F : Int) ↔ fl w 0 6 = F := by omega
  have hTi : ((fl w 16 5 : Nat) : Int) = (F : Int) ↔ fl w 16 5 = F := by omega
  have hDi : ((fl w 16 5 : Nat) : Int) = ((fl w 11 5 : Nat) : Int) ↔ fl w 16 5 = fl w 11 5 := by omega
  by_cases hO : fl w 26 6 = O
  · rw [decide_eq_true hO, Bool.true_and] at h
    subst hO
    refine wpc_sq fun K hK => ?_
    simp -dsimp [shr26 w hw, fl_i64, e1, e2, e4, e5, e6, e7, e8, e9]
    refine hK _ _ ?_
    clear hK K
    simp -dsimp [e1, e2, e4, e5, e6, e7, e8, e9]
    exact fin_ret rfl (leave_pure (by simp) h)
  · rw [decide_eq_false hO, Bool.false_and] at h
    simp -dsimp [shr26 w hw, fl_i64, hOi, hO, e1, e2, e4, e5, e6, e7, e8, e9]
    exact fin_ret rfl (leave_pure (by simp) h)

set_option maxRecDepth 100000 in
set_option maxHeartbeats 4000000 in
theorem fits_66 (w : Nat) (hw : w < 2 ^ 32) (op O F : Nat) (nm : ByteArray) (m : Mem) (Q) (h : Q (.bool (fitQ (op, 66, O, F, nm) w)) m) : TC Try.prog 73 [rrowV (op, 66, O, F, nm), .int .u32 w] m Q := by
  have hg : fitQ (op, 66, O, F, nm) w = (decide (fl w 26 6 = O) && (true)) := by simp [fitQ, fitF]
  rw [hg] at h
  clear hg
  refine TC_fn mixed Try.func73 rfl Try.ntmps73 rfl (by decide) (by simp) ?_
  refine wpc_st fun K hK => ?_
  simp -dsimp [rrowV, rrowVal]
  refine hK _ _ ?_
  clear hK K
  refine wpc_st fun K hK => ?_
  simp -dsimp
  refine rField_tc w hw 21 5 (by decide) (by decide) _ _ ?_
  simp -dsimp
  refine rField_tc w hw 16 5 (by decide) (by decide) _ _ ?_
  simp -dsimp
  refine rField_tc w hw 11 5 (by decide) (by decide) _ _ ?_
  simp -dsimp
  refine rField_tc w hw 6 5 (by decide) (by decide) _ _ ?_
  simp -dsimp
  refine rField_tc w hw 0 6 (by decide) (by decide) _ _ ?_
  simp -dsimp [fl_i64]
  refine hK _ _ ?_
  clear hK K

  refine env_cut fun env he => ?_
  have e1 := he 1
  have e2 := he 2
  have e4 := he 4
  have e5 := he 5
  have e6 := he 6
  have e7 := he 7
  have e8 := he 8
  have e9 := he 9
  clear he
  simp -dsimp at e1 e2 e4 e5 e6 e7 e8 e9
  have hOi : ((fl w 26 6 : Nat) : Int) = (O : Int) ↔ fl w 26 6 = O := by omega
  have hFi : ((fl w 0 6 : Nat) : Int) = (F : Int) ↔ fl w 0 6 = F := by omega
  have hTi : ((fl w 16 5 : Nat) : Int) = (F : Int) ↔ fl w 16 5 = F := by omega
  have hDi : ((fl w 16 5 : Nat) : Int) = ((fl w 11 5 : Nat) : Int) ↔ fl w 16 5 = fl w 11 5 := by omega
  by_cases hO : fl w 26 6 = O
  · rw [decide_eq_true hO, Bool.true_and] at h
    subst hO
    refine wpc_sq fun K hK => ?_
    simp -dsimp [shr26 w hw, fl_i64, e1, e2, e4, e5, e6, e7, e8, e9]
    refine hK _ _ ?_
    clear hK K
    simp -dsimp [e1, e2, e4, e5, e6, e7, e8, e9]
    exact fin_ret rfl (leave_pure (by simp) h)
  · rw [decide_eq_false hO, Bool.false_and] at h
    simp -dsimp [shr26 w hw, fl_i64, hOi, hO, e1, e2, e4, e5, e6, e7, e8, e9]
    exact fin_ret rfl (leave_pure (by simp) h)

set_option maxRecDepth 100000 in
set_option maxHeartbeats 4000000 in
theorem fits_90 (w : Nat) (hw : w < 2 ^ 32) (op O F : Nat) (nm : ByteArray) (m : Mem) (Q) (h : Q (.bool (fitQ (op, 90, O, F, nm) w)) m) : TC Try.prog 73 [rrowV (op, 90, O, F, nm), .int .u32 w] m Q := by
  have hg : fitQ (op, 90, O, F, nm) w = (decide (fl w 26 6 = O) && (decide (fl w 16 5 = 0))) := by simp [fitQ, fitF]
  rw [hg] at h
  clear hg
  refine TC_fn mixed Try.func73 rfl Try.ntmps73 rfl (by decide) (by simp) ?_
  refine wpc_st fun K hK => ?_
  simp -dsimp [rrowV, rrowVal]
  refine hK _ _ ?_
  clear hK K
  refine wpc_st fun K hK => ?_
  simp -dsimp
  refine rField_tc w hw 21 5 (by decide) (by decide) _ _ ?_
  simp -dsimp
  refine rField_tc w hw 16 5 (by decide) (by decide) _ _ ?_
  simp -dsimp
  refine rField_tc w hw 11 5 (by decide) (by decide) _ _ ?_
  simp -dsimp
  refine rField_tc w hw 6 5 (by decide) (by decide) _ _ ?_
  simp -dsimp
  refine rField_tc w hw 0 6 (by decide) (by decide) _ _ ?_
  simp -dsimp [fl_i64]
  refine hK _ _ ?_
  clear hK K

  refine env_cut fun env he => ?_
  have e1 := he 1
  have e2 := he 2
  have e4 := he 4
  have e5 := he 5
  have e6 := he 6
  have e7 := he 7
  have e8 := he 8
  have e9 := he 9
  clear he
  simp -dsimp at e1 e2 e4 e5 e6 e7 e8 e9
  have hOi : ((fl w 26 6 : Nat) : Int) = (O : Int) ↔ fl w 26 6 = O := by omega
  have hFi : ((fl w 0 6 : Nat) : Int) = (F : Int) ↔ fl w 0 6 = F := by omega
  have hTi : ((fl w 16 5 : Nat) : Int) = (F : Int) ↔ fl w 16 5 = F := by omega
  have hDi : ((fl w 16 5 : Nat) : Int) = ((fl w 11 5 : Nat) : Int) ↔ fl w 16 5 = fl w 11 5 := by omega
  by_cases hO : fl w 26 6 = O
  · rw [decide_eq_true hO, Bool.true_and] at h
    subst hO
    refine wpc_sq fun K hK => ?_
    simp -dsimp [shr26 w hw, fl_i64, e1, e2, e4, e5, e6, e7, e8, e9]
    refine hK _ _ ?_
    clear hK K
    simp -dsimp [beq_nat0, beq_nat, fl_i64, e1, e2, e4, e5, e6, e7, e8, e9]
    exact fin_ret rfl (leave_pure (by simp) h)
  · rw [decide_eq_false hO, Bool.false_and] at h
    simp -dsimp [shr26 w hw, fl_i64, hOi, hO, e1, e2, e4, e5, e6, e7, e8, e9]
    exact fin_ret rfl (leave_pure (by simp) h)

set_option maxRecDepth 100000 in
set_option maxHeartbeats 4000000 in
theorem fits_82 (w : Nat) (hw : w < 2 ^ 32) (op O F : Nat) (nm : ByteArray) (m : Mem) (Q) (h : Q (.bool (fitQ (op, 82, O, F, nm) w)) m) : TC Try.prog 73 [rrowV (op, 82, O, F, nm), .int .u32 w] m Q := by
  have hg : fitQ (op, 82, O, F, nm) w = (decide (fl w 26 6 = O) && (decide (fl w 16 5 = F))) := by simp [fitQ, fitF]
  rw [hg] at h
  clear hg
  refine TC_fn mixed Try.func73 rfl Try.ntmps73 rfl (by decide) (by simp) ?_
  refine wpc_st fun K hK => ?_
  simp -dsimp [rrowV, rrowVal]
  refine hK _ _ ?_
  clear hK K
  refine wpc_st fun K hK => ?_
  simp -dsimp
  refine rField_tc w hw 21 5 (by decide) (by decide) _ _ ?_
  simp -dsimp
  refine rField_tc w hw 16 5 (by decide) (by decide) _ _ ?_
  simp -dsimp
  refine rField_tc w hw 11 5 (by decide) (by decide) _ _ ?_
  simp -dsimp
  refine rField_tc w hw 6 5 (by decide) (by decide) _ _ ?_
  simp -dsimp
  refine rField_tc w hw 0 6 (by decide) (by decide) _ _ ?_
  simp -dsimp [fl_i64]
  refine hK _ _ ?_
  clear hK K

  refine env_cut fun env he => ?_
  have e1 := he 1
  have e2 := he 2
  have e4 := he 4
  have e5 := he 5
  have e6 := he 6
  have e7 := he 7
  have e8 := he 8
  have e9 := he 9
  clear he
  simp -dsimp at e1 e2 e4 e5 e6 e7 e8 e9
  have hOi : ((fl w 26 6 : Nat) : Int) = (O : Int) ↔ fl w 26 6 = O := by omega
  have hFi : ((fl w 0 6 : Nat) : Int) = (F : Int) ↔ fl w 0 6 = F := by omega
  have hTi : ((fl w 16 5 : Nat) : Int) = (F : Int) ↔ fl w 16 5 = F := by omega
  have hDi : ((fl w 16 5 : Nat) : Int) = ((fl w 11 5 : Nat) : Int) ↔ fl w 16 5 = fl w 11 5 := by omega
  by_cases hO : fl w 26 6 = O
  · rw [decide_eq_true hO, Bool.true_and] at h
    subst hO
    refine wpc_sq fun K hK => ?_
    simp -dsimp [shr26 w hw, fl_i64, e1, e2, e4, e5, e6, e7, e8, e9]
    refine hK _ _ ?_
    clear hK K
    simp -dsimp [beq_nat0, beq_nat, fl_i64, e1, e2, e4, e5, e6, e7, e8, e9]
    exact fin_ret rfl (leave_pure (by simp) h)
  · rw [decide_eq_false hO, Bool.false_and] at h
    simp -dsimp [shr26 w hw, fl_i64, hOi, hO, e1, e2, e4, e5, e6, e7, e8, e9]
    exact fin_ret rfl (leave_pure (by simp) h)

set_option maxRecDepth 100000 in
set_option maxHeartbeats 4000000 in
theorem fits_74 (w : Nat) (hw : w < 2 ^ 32) (op O F : Nat) (nm : ByteArray) (m : Mem) (Q) (h : Q (.bool (fitQ (op, 74, O, F, nm) w)) m) : TC Try.prog 73 [rrowV (op, 74, O, F, nm), .int .u32 w] m Q := by
  have hg : fitQ (op, 74, O, F, nm) w = (decide (fl w 26 6 = O) && (true)) := by simp [fitQ, fitF]
  rw [hg] at h
  clear hg
  refine TC_fn mixed Try.func73 rfl Try.ntmps73 rfl (by decide) (by simp) ?_
  refine wpc_st fun K hK => ?_
  simp -dsimp [rrowV, rrowVal]
  refine hK _ _ ?_
  clear hK K
  refine wpc_st fun K hK => ?_
  simp -dsimp
  refine rField_tc w hw 21 5 (by decide) (by decide) _ _ ?_
  simp -dsimp
  refine rField_tc w hw 16 5 (by decide) (by decide) _ _ ?_
  simp -dsimp
  refine rField_tc w hw 11 5 (by decide) (by decide) _ _ ?_
  simp -dsimp
  refine rField_tc w hw 6 5 (by decide) (by decide) _ _ ?_
  simp -dsimp
  refine rField_tc w hw 0 6 (by decide) (by decide) _ _ ?_
  simp -dsimp [fl_i64]
  refine hK _ _ ?_
  clear hK K

  refine env_cut fun env he => ?_
  have e1 := he 1
  have e2 := he 2
  have e4 := he 4
  have e5 := he 5
  have e6 := he 6
  have e7 := he 7
  have e8 := he 8
  have e9 := he 9
  clear he
  simp -dsimp at e1 e2 e4 e5 e6 e7 e8 e9
  have hOi : ((fl w 26 6 : Nat) : Int) = (O : Int) ↔ fl w 26 6 = O := by omega
  have hFi : ((fl w 0 6 : Nat) : Int) = (F : Int) ↔ fl w 0 6 = F := by omega
  have hTi : ((fl w 16 5 : Nat) : Int) = (F : Int) ↔ fl w 16 5 = F := by omega
  have hDi : ((fl w 16 5 : Nat) : Int) = ((fl w 11 5 : Nat) : Int) ↔ fl w 16 5 = fl w 11 5 := by omega
  by_cases hO : fl w 26 6 = O
  · rw [decide_eq_true hO, Bool.true_and] at h
    subst hO
    refine wpc_sq fun K hK => ?_
    simp -dsimp [shr26 w hw, fl_i64, e1, e2, e4, e5, e6, e7, e8, e9]
    refine hK _ _ ?_
    clear hK K
    simp -dsimp [e1, e2, e4, e5, e6, e7, e8, e9]
    exact fin_ret rfl (leave_pure (by simp) h)
  · rw [decide_eq_false hO, Bool.false_and] at h
    simp -dsimp [shr26 w hw, fl_i64, hOi, hO, e1, e2, e4, e5, e6, e7, e8, e9]
    exact fin_ret rfl (leave_pure (by simp) h)

end Go.Lm
