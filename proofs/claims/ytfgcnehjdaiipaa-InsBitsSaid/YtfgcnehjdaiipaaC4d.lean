/- ins.Decode: joined. -/
import Derived.Test.YtfgcnehjdaiipaaC4a
import Derived.Test.YtfgcnehjdaiipaaC4b
import Derived.Test.YtfgcnehjdaiipaaC4c
namespace Go.Lm
open Go.Proofs

set_option maxRecDepth 100000 in
set_option maxHeartbeats 4000000 in
theorem dec_none (w : Nat) (hw : w < 2 ^ 32) (m : Mem) (Q) (h : Q (insV (decQ w)) m) (ho : ofQ w = none) : TC Try.prog 18 [.int .u32 w] m Q := by
  refine TC_fn mixed Try.func18 rfl Try.ntmps18 rfl (by decide) (by simp) ?_
  refine wpc_st fun K hK => ?_
  simp -dsimp
  refine hK _ _ ?_
  clear hK K
  refine wpc_st fun K hK => ?_
  simp -dsimp
  refine of_tc w hw _ _ ?_
  simp -dsimp
  simp -dsimp [ho, rowV, rowVal]
  refine hK _ _ ?_
  clear hK K
  simp -dsimp
  refine fin_ret (v := insV noIns) (by simp -dsimp; rfl) (leave_pure (by simp [insV]) ?_)
  rw [decQ, ho] at h
  exact h

theorem dec_tc (w : Nat) (hw : w < 2 ^ 32) (m : Mem) (Q) (h : Q (insV (decQ w)) m) : TC Try.prog 18 [.int .u32 w] m Q := by
  cases ho : ofQ w with
  | none => exact dec_none w hw m Q h ho
  | some r =>
    obtain ⟨op, form, nm, code⟩ := r
    have hf := of_form ho
    have hfc : form = 0 ∨ form = 1 ∨ form = 2 ∨ form = 3 ∨ form = 4 ∨ form = 5 ∨ form = 6 ∨ form = 7 ∨ form = 8 ∨ form = 9 ∨ form = 10 ∨ form = 11 ∨ form = 12 ∨ form = 13 ∨ form = 14 ∨ form = 15 ∨ form = 16 ∨ form = 17 := by omega
    rcases hfc with rfl | rfl | rfl | rfl | rfl | rfl | rfl | rfl | rfl | rfl | rfl | rfl | rfl | rfl | rfl | rfl | rfl | rfl
    · exact dec_0 w hw m Q h op nm code ho
    · exact dec_1 w hw m Q h op nm code ho
    · exact dec_2 w hw m Q h op nm code ho
    · exact dec_3 w hw m Q h op nm code ho
    · exact dec_4 w hw m Q h op nm code ho
    · exact dec_5 w hw m Q h op nm code ho
    · exact dec_6 w hw m Q h op nm code ho
    · exact dec_7 w hw m Q h op nm code ho
    · exact dec_8 w hw m Q h op nm code ho
    · exact dec_9 w hw m Q h op nm code ho
    · exact dec_10 w hw m Q h op nm code ho
    · exact dec_11 w hw m Q h op nm code ho
    · exact dec_12 w hw m Q h op nm code ho
    · exact dec_13 w hw m Q h op nm code ho
    · exact dec_14 w hw m Q h op nm code ho
    · exact dec_15 w hw m Q h op nm code ho
    · exact dec_16 w hw m Q h op nm code ho
    · exact dec_17 w hw m Q h op nm code ho

end Go.Lm
