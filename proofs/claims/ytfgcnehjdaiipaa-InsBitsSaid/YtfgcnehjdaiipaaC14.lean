/- calqueref08.Encode. -/
import Derived.Test.YtfgcnehjdaiipaaC13
set_option linter.unusedSimpArgs false
set_option linter.unusedVariables false
namespace Go.Lm
open Go.Proofs

def eqZ (a : InsM) (i : InsZ) : Bool := ((a.op : Int) == i.op) && (((a.s : Int) == i.s) && (((a.t : Int) == i.t) && (((a.d : Int) == i.d) && (((a.a : Int) == i.a) && ((a.imm : Int) == (i.imm : Int))))))
def rencQ (i : InsZ) : Nat × Bool := match rfindQ i.op with | none => (0, false) | some r => (wordQ r.2.1 r.2.2.1 r.2.2.2.1 i, eqZ (rdecQ (wordQ r.2.1 r.2.2.1 r.2.2.2.1 i)) i)

theorem wordQ_lt (r : RRow) (hr : okRow r = true) (i : InsZ) (hi : i.imm < 2 ^ 32) : wordQ r.2.1 r.2.2.1 r.2.2.2.1 i < 2 ^ 32 := by
  obtain ⟨op, form, O, F, nm⟩ := r
  simp only [okRow, Bool.and_eq_true, decide_eq_true_eq] at hr
  obtain ⟨⟨⟨h1, hO⟩, hF⟩, h2⟩ := hr
  have bs := sh_le i.s 21
  have bt := sh_le i.t 16
  have bd := sh_le i.d 11
  have ba := sh_le i.a 6
  rcases okForm_cases h1 with rfl | rfl | rfl | rfl | rfl | rfl | rfl | rfl | rfl | rfl | rfl | rfl | rfl | rfl | rfl | rfl | rfl | rfl <;> simp only [wordQ] <;> first | omega | (simp at h2; omega)

def rencI (i : InsZ) (m : Mem) (f : Nat) (env : Env) (m' : Mem) : Prop :=
  ∃ k, k ≤ 69 ∧ f = 69 - k ∧ (∀ j, j < k → decide (((rrowK j).1 : Int) = i.op) = false) ∧ elook env 1 = some (.pointer (some ⟨m.top, 0, none⟩)) ∧ elook env 4 = some (.pointer (some ⟨m.top + 1, 0, none⟩)) ∧
  elook env 5 = some (.int .i64 k) ∧ m' = { base := m.get, n := m.top, loc := [.cells false 0 #[.int .i64 i.op, .int .i64 i.s, .int .i64 i.t, .int .i64 i.d, .int .i64 i.a, .int .u32 i.imm], .cells false 0 refA] }

set_option maxRecDepth 100000 in
set_option maxHeartbeats 4000000 in
theorem renc_tc (i : InsZ) (hi : i.imm < 2 ^ 32) (m : Mem) (Q) (h : Q (.tuple #[.int .u32 ((rencQ i).1 : Nat), .bool (rencQ i).2]) m) : TC Try.prog 25 [insZV i] m Q := by
  refine TC_fn mixed Try.func25 rfl Try.ntmps25 rfl (by decide) (by simp) ?_
  refine wpc_st fun K hK => ?_
  simp -dsimp [insZV]
  refine hK _ _ ?_
  clear hK K
  refine wpc_st fun K hK => ?_
  simp -dsimp
  refine table_tc _ _ ?_
  simp -dsimp
  refine hK _ _ ?_
  clear hK K
  refine wpc_mid (fun env m' => ∃ f, rfindQ i.op = none ∧ rencI i m f env m') ?_ ?_
  · refine wpc_st fun K hK => ?_
    simp -dsimp
    refine hK _ _ ?_
    clear hK K
    simp -dsimp
    refine loop_by (rencI i m) 69 ?_ ?_
    · refine ⟨0, by decide, rfl, fun j hj => absurd hj (Nat.not_lt_zero _), ?_⟩
      simp -dsimp
    rintro f env m' ⟨k, hk, rfl, hno, e1, e4, e5, rfl⟩
    by_cases hkk : k < 69
    · have hkk' : (k : Int) < 69 := by omega
      have hb : k * 5 + 5 ≤ 345 := by omega
      simp -dsimp [e1, e4, e5, hkk']
      refine draw_go 6 [0, 1, 3, 7, 0, 16, 63] (by kernel_rfl) (by kernel_rfl) ?_
      simp -dsimp [e1, e4, e5, hkk', hb, refA_op k hkk]
      by_cases hm : ((rrowK k).1 : Int) = i.op
      · rw [if_pos hm]
        refine draw_go 4 [0, 1, 3, 0, 15, 31] (by kernel_rfl) (by kernel_rfl) ?_
        simp -dsimp [e1, e4, e5, hkk', hb, refA_at k hkk]
        refine word_tc (rrowK k) (rrowK_ok k) i hi _ _ ?_
        simp -dsimp
        have hwl := wordQ_lt (rrowK k) (rrowK_ok k) i hi
        refine draw_go 6 [0, 0, 2, 0, 14, 7, 63] (by kernel_rfl) (by kernel_rfl) ?_
        simp -dsimp [e1, e4, e5]
        refine .inl ⟨_, fun m' _ => rdec_tc _ hwl _ _ ⟨rfl, rfl⟩, drw_go ?_⟩
        simp -dsimp [e1, e4, e5, insV]
        have hf : rfindQ i.op = some (rrowK k) := by
          rw [← hm]
          exact ref_some (p := fun r => decide ((r.1 : Int) = ((rrowK k).1 : Int))) hkk (by simp) (by rw [hm]; exact hno)
        rw [rencQ, hf] at h
        exact fin_ret (v := .tuple #[.int .u32 ((wordQ (rrowK k).2.1 (rrowK k).2.2.1 (rrowK k).2.2.2.1 i : Nat) : Int), .bool (eqZ (rdecQ (wordQ (rrowK k).2.1 (rrowK k).2.2.1 (rrowK k).2.2.2.1 i)) i)]) rfl (leave_pure (by simp) h)
      · rw [if_neg hm]
        refine ⟨69 - (k + 1), by omega, k + 1, by omega, rfl, ?_, ?_⟩
        · intro j hj
          by_cases hjk : j = k
          · subst hjk; simpa using hm
          · exact hno j (by omega)
        simp -dsimp [e1, e4, e5]
        exact wI64 (by omega) (by omega)
    · have hk9 : k = 69 := by omega
      have hkk' : ¬ (k : Int) < 69 := by omega
      simp -dsimp [e1, e4, e5, hkk']
      refine ⟨ref_none (p := fun r => decide ((r.1 : Int) = i.op)) (hk9 ▸ hno), 0, 69, by decide, rfl, hk9 ▸ hno, ?_⟩
      simp -dsimp [e1, e4, e5, hk9]
  rintro env m' ⟨f, hno, k, hk, rfl, -, e1, e4, e5, rfl⟩
  simp -dsimp
  refine fin_ret (v := .tuple #[.int .u32 0, .bool false]) rfl (leave_pure (by simp) ?_)
  rw [rencQ, hno] at h
  exact h
end Go.Lm
