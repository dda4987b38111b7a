/- calqueref08.word: joined; Encode. -/
import Derived.Test.YtfgcnehjdaiipaaC11
import Derived.Test.YtfgcnehjdaiipaaC12
set_option linter.unusedSimpArgs false
set_option linter.unusedVariables false
namespace Go.Lm
open Go.Proofs

def okRow (r : RRow) : Bool := okForm r.2.1 && decide (r.2.2.1 < 64) && decide (r.2.2.2.1 < 64) && (r.2.1 != 82 || decide (r.2.2.2.1 < 32))
theorem rrowK_ok (k : Nat) : okRow (rrowK k) = true := by
  have h : refTab.all okRow = true := by kernel_rfl
  unfold rrowK
  cases hk : refTab[k]? with
  | none => rfl
  | some r => exact List.all_eq_true.1 h r (List.mem_of_getElem? hk)

theorem word_tc (r : RRow) (hr : okRow r = true) (i : InsZ) (hi : i.imm < 2 ^ 32) (m : Mem) (Q) (h : Q (.int .u32 ((wordQ r.2.1 r.2.2.1 r.2.2.2.1 i : Nat) : Int)) m) : TC Try.prog 72 [rrowV r, insZV i] m Q := by
  obtain ⟨op, form, O, F, nm⟩ := r
  simp only [okRow, Bool.and_eq_true, decide_eq_true_eq] at hr
  obtain ⟨⟨⟨h1, hO⟩, hF⟩, h2⟩ := hr
  rcases okForm_cases h1 with rfl | rfl | rfl | rfl | rfl | rfl | rfl | rfl | rfl | rfl | rfl | rfl | rfl | rfl | rfl | rfl | rfl | rfl
  · exact word_68 i hi op O F hO hF nm m Q h
  · exact word_72 i hi op O F hO hF nm m Q h
  · exact word_77 i hi op O F hO hF nm m Q h
  · exact word_70 i hi op O F hO hF nm m Q h
  · exact word_76 i hi op O F hO hF nm m Q h
  · exact word_71 i hi op O F hO hF nm m Q h
  · exact word_84 i hi op O F hO hF nm m Q h
  · exact word_67 i hi op O F hO hF nm m Q h
  · exact word_88 i hi op O F hO hF nm m Q h
  · exact word_89 i hi op O F hO hF nm m Q h
  · exact word_73 i hi op O F hO hF nm m Q h
  · exact word_85 i hi op O F hO hF nm m Q h
  · exact word_86 i hi op O F hO hF nm m Q h
  · exact word_80 i hi op O F hO hF nm m Q h
  · exact word_66 i hi op O F hO hF nm m Q h
  · exact word_90 i hi op O F hO hF nm m Q h
  · exact word_82 i hi op O F hO (by simpa using h2) nm m Q h
  · exact word_74 i hi op O F hO hF nm m Q h
end Go.Lm
