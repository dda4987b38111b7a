/- calqueref08.fits, cut: joined; Decode, Name. -/
import Derived.Test.YtfgcnehjdaiipaaC9
set_option linter.unusedSimpArgs false
set_option linter.unusedVariables false
namespace Go.Lm
open Go.Proofs

def okForm (f : Nat) : Bool := [68, 72, 77, 70, 76, 71, 84, 67, 88, 89, 73, 85, 86, 80, 66, 90, 82, 74].contains f
theorem okForm_cases {f : Nat} (h : okForm f = true) : f = 68 ∨ f = 72 ∨ f = 77 ∨ f = 70 ∨ f = 76 ∨ f = 71 ∨ f = 84 ∨ f = 67 ∨ f = 88 ∨ f = 89 ∨ f = 73 ∨ f = 85 ∨ f = 86 ∨ f = 80 ∨ f = 66 ∨ f = 90 ∨ f = 82 ∨ f = 74 := by
  simpa [okForm] using h

theorem fits_tc (r : RRow) (hr : okForm r.2.1 = true) (w : Nat) (hw : w < 2 ^ 32) (m : Mem) (Q) (h : Q (.bool (fitQ r w)) m) : TC Try.prog 73 [rrowV r, .int .u32 w] m Q := by
  obtain ⟨op, form, O, F, nm⟩ := r
  rcases okForm_cases hr with rfl | rfl | rfl | rfl | rfl | rfl | rfl | rfl | rfl | rfl | rfl | rfl | rfl | rfl | rfl | rfl | rfl | rfl
  · exact fits_68 w hw op O F nm m Q h
  · exact fits_72 w hw op O F nm m Q h
  · exact fits_77 w hw op O F nm m Q h
  · exact fits_70 w hw op O F nm m Q h
  · exact fits_76 w hw op O F nm m Q h
  · exact fits_71 w hw op O F nm m Q h
  · exact fits_84 w hw op O F nm m Q h
  · exact fits_67 w hw op O F nm m Q h
  · exact fits_88 w hw op O F nm m Q h
  · exact fits_89 w hw op O F nm m Q h
  · exact fits_73 w hw op O F nm m Q h
  · exact fits_85 w hw op O F nm m Q h
  · exact fits_86 w hw op O F nm m Q h
  · exact fits_80 w hw op O F nm m Q h
  · exact fits_66 w hw op O F nm m Q h
  · exact fits_90 w hw op O F nm m Q h
  · exact fits_82 w hw op O F nm m Q h
  · exact fits_74 w hw op O F nm m Q h

theorem cut_tc (r : RRow) (hr : okForm r.2.1 = true) (w : Nat) (hw : w < 2 ^ 32) (m : Mem) (Q) (h : Q (insV (cutQ r.1 r.2.1 w)) m) : TC Try.prog 74 [rrowV r, .int .u32 w] m Q := by
  obtain ⟨op, form, O, F, nm⟩ := r
  rcases okForm_cases hr with rfl | rfl | rfl | rfl | rfl | rfl | rfl | rfl | rfl | rfl | rfl | rfl | rfl | rfl | rfl | rfl | rfl | rfl
  · exact cut_68 w hw op O F nm m Q h
  · exact cut_72 w hw op O F nm m Q h
  · exact cut_77 w hw op O F nm m Q h
  · exact cut_70 w hw op O F nm m Q h
  · exact cut_76 w hw op O F nm m Q h
  · exact cut_71 w hw op O F nm m Q h
  · exact cut_84 w hw op O F nm m Q h
  · exact cut_67 w hw op O F nm m Q h
  · exact cut_88 w hw op O F nm m Q h
  · exact cut_89 w hw op O F nm m Q h
  · exact cut_73 w hw op O F nm m Q h
  · exact cut_85 w hw op O F nm m Q h
  · exact cut_86 w hw op O F nm m Q h
  · exact cut_80 w hw op O F nm m Q h
  · exact cut_66 w hw op O F nm m Q h
  · exact cut_90 w hw op O F nm m Q h
  · exact cut_82 w hw op O F nm m Q h
  · exact cut_74 w hw op O F nm m Q h

def noRRow : RRow := (0, 68, 0, 0, .empty)
def rrowK (k : Nat) : RRow := (refTab[k]?).getD noRRow
theorem refA_at (k : Nat) (hk : k < 69) : refA.extract (k * 5) (k * 5 + 5) = (rrowVal (rrowK k)).toArray := by
  have := flat_extract rrowVal 5 (fun _ => rfl) refTab k hk
  rw [rrowK, List.getElem?_eq_getElem hk]
  exact this
theorem rrowK_form (k : Nat) : okForm (rrowK k).2.1 = true := by
  have h : refTab.all (fun r => okForm r.2.1) = true := by kernel_rfl
  unfold rrowK
  cases hk : refTab[k]? with
  | none => rfl
  | some r => exact List.all_eq_true.1 h r (List.mem_of_getElem? hk)
theorem rrowK_eq (k : Nat) (hk : k < refTab.length) : rrowK k = refTab[k] := by
  rw [rrowK, List.getElem?_eq_getElem hk]; rfl
theorem ref_some {p : RRow → Bool} {k : Nat} (hk : k < 69) (hm : p (rrowK k) = true) (hno : ∀ j, j < k → p (rrowK j) = false) : refTab.find? p = some (rrowK k) := by
  rw [List.find?_eq_some_iff_getElem]
  refine ⟨hm, k, hk, (rrowK_eq k _).symm, fun j hj => ?_⟩
  rw [← rrowK_eq j, hno j hj]; rfl
theorem ref_none {p : RRow → Bool} (hno : ∀ j, j < 69 → p (rrowK j) = false) : refTab.find? p = none := by
  rw [List.find?_eq_none]
  intro r hr
  obtain ⟨j, hj, rfl⟩ := List.getElem_of_mem hr
  rw [← rrowK_eq j, hno j hj]; simp

def rofQ (w : Nat) : Option RRow := refTab.find? fun r => fitQ r w
def rdecQ (w : Nat) : InsM := match rofQ w with | none => noIns | some r => cutQ r.1 r.2.1 w

def rdecI (w : Nat) (m : Mem) (n : Nat) (env : Env) (m' : Mem) : Prop :=
  ∃ k, k ≤ 69 ∧ n = 69 - k ∧ (∀ j, j < k → fitQ (rrowK j) w = false) ∧ elook env 0 = some (.int .u32 w) ∧ elook env 2 = some (.pointer (some ⟨m.top, 0, none⟩)) ∧ elook env 3 = some (.pointer (some ⟨m.top + 1, 0, none⟩)) ∧
  elook env 4 = some (.int .i64 k) ∧ m' = { base := m.get, n := m.top, loc := [.cells false 0 #[.int .i64 0, .int .i64 0, .int .i64 0, .int .i64 0, .int .i64 0, .int .u32 0], .cells false 0 refA] }

set_option maxRecDepth 100000 in
set_option maxHeartbeats 4000000 in
theorem rdec_tc (w : Nat) (hw : w < 2 ^ 32) (m : Mem) (Q) (h : Q (insV (rdecQ w)) m) : TC Try.prog 26 [.int .u32 w] m Q := by
  refine TC_fn mixed Try.func26 rfl Try.ntmps26 rfl (by decide) (by simp) ?_
  refine wpc_st fun K hK => ?_
  simp -dsimp
  refine hK _ _ ?_
  clear hK K
  refine wpc_st fun K hK => ?_
  simp -dsimp
  refine table_tc _ _ ?_
  simp -dsimp
  refine hK _ _ ?_
  clear hK K
  refine wpc_mid (fun env m' => ∃ n, rofQ w = none ∧ rdecI w m n env m') ?_ ?_
  · refine wpc_st fun K hK => ?_
    simp -dsimp
    refine hK _ _ ?_
    clear hK K
    simp -dsimp
    refine loop_by (rdecI w m) 69 ?_ ?_
    · refine ⟨0, by decide, rfl, fun j hj => absurd hj (Nat.not_lt_zero _), ?_⟩
      simp -dsimp
    rintro n env m' ⟨k, hk, rfl, hno, e0, e2, e3, e4, rfl⟩
    by_cases hkk : k < 69
    · have hkk' : (k : Int) < 69 := by omega
      have hb : k * 5 + 5 ≤ 345 := by omega
      simp -dsimp [e0, e2, e3, e4, hkk', hb, refA_at k hkk]
      refine fits_tc (rrowK k) (rrowK_form k) w hw _ _ ?_
      simp -dsimp [e0, e2, e3, e4, hkk', hb, refA_at k hkk]
      by_cases hm : fitQ (rrowK k) w = true
      · rw [if_pos hm]
        refine cut_tc (rrowK k) (rrowK_form k) w hw _ _ ?_
        simp -dsimp [e0, e2, e3, e4, insV]
        refine fin_ret (v := insV (cutQ (rrowK k).1 (rrowK k).2.1 w)) (by simp -dsimp [e2]; rfl) (leave_pure (by simp [insV]) ?_)
        have : rofQ w = some (rrowK k) := ref_some hkk hm hno
        rw [rdecQ, this] at h
        exact h
      · rw [if_neg hm]
        refine ⟨69 - (k + 1), by omega, k + 1, by omega, rfl, ?_, ?_⟩
        · intro j hj
          by_cases hjk : j = k
          · subst hjk; simpa using hm
          · exact hno j (by omega)
        simp -dsimp [e0, e2, e3, e4]
        exact wI64 (by omega) (by omega)
    · have hk9 : k = 69 := by omega
      have hkk' : ¬ (k : Int) < 69 := by omega
      simp -dsimp [e0, e2, e3, e4, hkk']
      refine ⟨ref_none (hk9 ▸ hno), 0, 69, by decide, rfl, hk9 ▸ hno, ?_⟩
      simp -dsimp [e0, e2, e3, e4, hk9]
  rintro env m' ⟨n, hno, k, hk, rfl, -, e0, e2, e3, e4, rfl⟩
  simp -dsimp [e2]
  refine fin_ret (v := insV noIns) (by simp -dsimp [e2]; rfl) (leave_pure (by simp [insV]) ?_)
  rw [rdecQ, hno] at h
  exact h
end Go.Lm
