/- calquelaw00.Word. -/
import Derived.Test.YtfgcnehjdaiipaaC14
import Derived.Test.YtfgcnehjdaiipaaC6
set_option linter.unusedSimpArgs false
set_option linter.unusedVariables false
namespace Go.Lm
open Go.Proofs

theorem lword_tc (op s t d a : Int) (imm : Nat) (hi : imm < 2 ^ 32) (m : Mem) (Q) (h : Q (.int .u32 ((rencQ ⟨op, s, t, d, a, imm⟩).1 : Nat)) m) :
    TC Try.prog 23 [.int .i64 op, .int .i64 s, .int .i64 t, .int .i64 d, .int .i64 a, .int .u32 imm] m Q := by
  refine TC_fn mixed Try.func23 rfl Try.ntmps23 rfl (by decide) (by simp) ?_
  simp -dsimp
  refine renc_tc ⟨op, s, t, d, a, imm⟩ hi _ _ ?_
  simp -dsimp
  exact fin_ret rfl (leave_pure (by simp) h)
end Go.Lm
