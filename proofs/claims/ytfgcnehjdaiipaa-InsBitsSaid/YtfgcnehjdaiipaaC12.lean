/- calqueref08.Name. -/
import Derived.Test.YtfgcnehjdaiipaaC10
set_option linter.unusedSimpArgs false
set_option linter.unusedVariables false
namespace Go.Lm
open Go.Proofs

theorem refA_get (k j : Nat) (hk : k < 69) (hj : j < 5) : refA[k * 5 + j]? = (rrowVal (rrowK k))[j]? := by
  have h := congrArg (fun a : Array Value => a[j]?) (refA_at k hk)
  simp only [List.getElem?_toArray] at h
  rw [← h, Array.getElem?_extract]
  rw [if_pos (by rw [refA_size]; omega)]
theorem refA_op (k : Nat) (hk : k < 69) : refA[k * 5]? = some (.int .i64 ((rrowK k).1 : Nat)) := refA_get k 0 hk (by decide)
theorem refA_nm (k : Nat) (hk : k < 69) : refA[k * 5 + 4]? = some (.string (rrowK k).2.2.2.2) := refA_get k 4 hk (by decide)

def rfindQ (n : Int) : Option RRow := refTab.find? fun r => decide ((r.1 : Int) = n)
def rnameQ (n : Int) : ByteArray := match rfindQ n with | none => ⟨#[]⟩ | some r => r.2.2.2.2

def rnameI (n : Int) (m : Mem) (f : Nat) (env : Env) (m' : Mem) : Prop :=
  ∃ k, k ≤ 69 ∧ f = 69 - k ∧ (∀ j, j < k → decide (((rrowK j).1 : Int) = n) = false) ∧ elook env 0 = some (.int .i64 n) ∧ elook env 3 = some (.pointer (some ⟨m.top, 0, none⟩)) ∧
  elook env 4 = some (.int .i64 k) ∧ m' = { base := m.get, n := m.top, loc := [.cells false 0 refA] }

set_option maxRecDepth 100000 in
set_option maxHeartbeats 4000000 in
theorem rname_tc (n : Int) (m : Mem) (Q) (h : Q (.string (rnameQ n)) m) : TC Try.prog 27 [.int .i64 n] m Q := by
  refine TC_fn mixed Try.func27 rfl Try.ntmps27 rfl (by decide) (by simp) ?_
  refine wpc_st fun K hK => ?_
  simp -dsimp
  refine hK _ _ ?_
  clear hK K
  refine wpc_st fun K hK => ?_
  simp -dsimp
  refine table_tc _ _ ?_
  simp -dsimp
  refine hK _ _ ?_
  clear hK K
  refine wpc_mid (fun env m' => ∃ f, rfindQ n = none ∧ rnameI n m f env m') ?_ ?_
  · refine wpc_st fun K hK => ?_
    simp -dsimp
    refine hK _ _ ?_
    clear hK K
    simp -dsimp
    refine loop_by (rnameI n m) 69 ?_ ?_
    · refine ⟨0, by decide, rfl, fun j hj => absurd hj (Nat.not_lt_zero _), ?_⟩
      simp -dsimp
    rintro f env m' ⟨k, hk, rfl, hno, e0, e3, e4, rfl⟩
    by_cases hkk : k < 69
    · have hkk' : (k : Int) < 69 := by omega
      have hb : k * 5 + 5 ≤ 345 := by omega
      by_cases hm : ((rrowK k).1 : Int) = n
      · subst hm
        simp -dsimp [e0, e3, e4, hkk', hb, refA_op k hkk, refA_nm k hkk]
        refine fin_ret rfl (leave_pure (by simp) ?_)
        have : rfindQ ((rrowK k).1 : Int) = some (rrowK k) := ref_some (p := fun r => decide ((r.1 : Int) = ((rrowK k).1 : Int))) hkk (by simp) hno
        rw [rnameQ, this] at h
        exact h
      · simp -dsimp [e0, e3, e4, hkk', hb, refA_op k hkk, refA_nm k hkk, hm]
        refine ⟨69 - (k + 1), by omega, k + 1, by omega, rfl, ?_, ?_⟩
        · intro j hj
          by_cases hjk : j = k
          · subst hjk; simpa using hm
          · exact hno j (by omega)
        simp -dsimp [e0, e3, e4]
        exact wI64 (by omega) (by omega)
    · have hk9 : k = 69 := by omega
      have hkk' : ¬ (k : Int) < 69 := by omega
      simp -dsimp [e0, e3, e4, hkk']
      refine ⟨ref_none (p := fun r => decide ((r.1 : Int) = n)) (hk9 ▸ hno), 0, 69, by decide, rfl, hk9 ▸ hno, ?_⟩
      simp -dsimp [e0, e3, e4, hk9]
  rintro env m' ⟨f, hno, k, hk, rfl, -, e0, e3, e4, rfl⟩
  simp -dsimp
  refine fin_ret rfl (leave_pure (by simp) ?_)
  rw [rnameQ, hno] at h
  exact h
end Go.Lm
