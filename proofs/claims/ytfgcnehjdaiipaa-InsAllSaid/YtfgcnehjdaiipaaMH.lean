/- The walks of calquelaw08.InsAll and InsBack. -/
import Derived.Test.YtfgcnehjdaiipaaME
import Derived.Test.YtfgcnehjdaiipaaMG
/- calquelaw08: InsAll, InsBack: their walks. -/
set_option linter.unusedSimpArgs false
set_option linter.unusedVariables false
namespace Go.Lm
open Go.Proofs

abbrev ksIns : List IntKind := [.i64, .i64, .i64, .i64, .i64, .u32]
theorem ins_of (n : List Int) (ln : n.length = 6) (w : ∀ (i : Nat) (k : IntKind) (z : Int), ksIns[i]? = some k → n[i]? = some z → (Lit.int k z).wf = true) :
    ∃ i : InsZ, i.imm < 2 ^ 32 ∧ .agg (List.zipWith Value.int ksIns n).toArray = insZV i := by
  match n, ln, w with
  | [b0, b1, b2, b3, b4, b5], _, w =>
    obtain ⟨c, rfl, hc⟩ := nat_of_u32 (w 5 .u32 b5 rfl rfl)
    exact ⟨⟨b0, b1, b2, b3, b4, c⟩, hc, rfl⟩

theorem gnd_insZ (i : InsZ) : gnd (insZV i) = true := by simp [insZV, gnd, gnd0]

theorem insAll_walk (W : World) (a0 : Int) (n : List Int) (a2 : Int) (w0 : (Lit.int .u32 a0).wf = true) (ln : n.length = 6)
    (w : ∀ (i : Nat) (k : IntKind) (z : Int), ksIns[i]? = some k → n[i]? = some z → (Lit.int k z).wf = true) :
    Calls Try.prog 6 #[.int .u32 a0, .agg (List.zipWith Value.int ksIns n).toArray, .int .i64 a2] W fun e W' => e = .returned (.bool true) ∧ Go.RowKit.Below W.heap.size W W' := by
  obtain ⟨i, hi, e⟩ := ins_of n ln w
  obtain ⟨m, rfl, hm⟩ := nat_of_u32 w0
  rw [e]
  refine law_calls Try.func6 rfl (by decide) (vs := [.int .u32 (m : Int), insZV i, .int .i64 a2]) (fun v hv => ?_) (insAll_tc m hm i hi a2 _)
  simp only [List.mem_cons, List.mem_nil_iff, or_false] at hv
  rcases hv with rfl | rfl | rfl
  · exact vRel_gnd rfl
  · exact vRel_gnd (gnd_insZ i)
  · exact vRel_gnd rfl

theorem insBack_walk (W : World) (a0 : Int) (n : List Int) (w0 : (Lit.int .u32 a0).wf = true) (ln : n.length = 6)
    (w : ∀ (i : Nat) (k : IntKind) (z : Int), ksIns[i]? = some k → n[i]? = some z → (Lit.int k z).wf = true) :
    Calls Try.prog 7 #[.int .u32 a0, .agg (List.zipWith Value.int ksIns n).toArray] W fun e W' => e = .returned (.bool true) ∧ Go.RowKit.Below W.heap.size W W' := by
  obtain ⟨i, hi, e⟩ := ins_of n ln w
  obtain ⟨m, rfl, hm⟩ := nat_of_u32 w0
  rw [e]
  refine law_calls Try.func7 rfl (by decide) (vs := [.int .u32 (m : Int), insZV i]) (fun v hv => ?_) (insBack_tc m hm i hi _)
  simp only [List.mem_cons, List.mem_nil_iff, or_false] at hv
  rcases hv with rfl | rfl
  · exact vRel_gnd rfl
  · exact vRel_gnd (gnd_insZ i)
end Go.Lm
