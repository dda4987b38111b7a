/- calquelaw08.InsKinds. -/
import Derived.Test.YtfgcnehjdaiipaaC5
import Derived.Laws.Strings
set_option linter.unusedSimpArgs false
namespace Go.Lm
open Go.Proofs

def kcnt (k j : Nat) : Nat := ((List.range k).filter fun (op : Nat) => kindQ (op : Int) == (j : Int)).length
def cntL (k : Nat) : List Nat := (List.range 7).map (kcnt k)
def intsA (l : List Nat) : Array Value := (l.map fun (n : Nat) => Value.int .i64 (n : Int)).toArray
def cAt (k i : Nat) : Nat := (cntL k).getD i 0
def kn (k : Nat) : Nat := (kindQ k).toNat

theorem kinds_fin : (List.range 71).all (fun k => kindQ k == (kn k : Int) && decide (kn k < 7) && (cntL k).set (kn k) (cAt k (kn k) + 1) == cntL (k + 1) && decide (cAt k (kn k) ≤ 71)
    && ((kindQ k == 0) == ((nameQ k).data.toList == []))) = true := by kernel_rfl

theorem kinds_step {k : Nat} (hk : k < 71) : kindQ k = kn k ∧ kn k < 7 ∧ (cntL k).set (kn k) (cAt k (kn k) + 1) = cntL (k + 1) ∧ cAt k (kn k) ≤ 71 ∧
    (kindQ k == 0) = ((nameQ k).data.toList == []) := by
  have h := List.all_eq_true.1 kinds_fin k (List.mem_range.2 hk)
  simp only [Bool.and_eq_true, beq_iff_eq, decide_eq_true_eq] at h
  obtain ⟨⟨⟨⟨h1, h2⟩, h3⟩, h4⟩, h5⟩ := h
  exact ⟨h1, h2, h3, h4, h5⟩

theorem cntL_len (k : Nat) : (cntL k).length = 7 := by simp [cntL]

theorem intsA_at (l : List Nat) (i : Nat) (h : i < l.length) : (intsA l)[i]? = some (.int .i64 ((l.getD i 0 : Nat) : Int)) := by
  unfold intsA
  rw [List.getElem?_toArray, List.getElem?_map, List.getElem?_eq_getElem h, List.getD_eq_getElem?_getD, List.getElem?_eq_getElem h]; rfl
theorem intsA_set (l : List Nat) (i n : Nat) : (intsA l).setIfInBounds i (.int .i64 (n : Int)) = intsA (l.set i n) := by
  unfold intsA
  rw [List.setIfInBounds_toArray, List.map_set]
theorem intsA_size (l : List Nat) : (intsA l).size = l.length := by simp [intsA]

def kindsI (m : Mem) (n : Nat) (env : Env) (m' : Mem) : Prop :=
  ∃ k, k ≤ 71 ∧ n = 71 - k ∧ elook env 1 = some (.pointer (some ⟨m.top, 0, none⟩)) ∧ elook env 2 = some (.int .i64 k) ∧ m' = { base := m.get, n := m.top, loc := [.cells false 0 (intsA (cntL k))] }

set_option maxRecDepth 100000 in
theorem kinds_tc (m : Mem) : TC Try.prog 4 [] m (fun v _ => v = .bool true) := by
  refine TC_fn mixed Try.func4 rfl Try.ntmps4 rfl (by decide) (by simp) ?_
  refine wpc_st fun K hK => ?_
  simp -dsimp
  refine hK _ _ ?_
  clear hK K
  refine wpc_st fun K hK => ?_
  simp -dsimp
  refine hK _ _ ?_
  clear hK K
  refine wpc_mid (fun env m' => elook env 1 = some (.pointer (some ⟨m.top, 0, none⟩)) ∧ m' = { base := m.get, n := m.top, loc := [.cells false 0 (intsA (cntL 71))] }) ?_ ?_
  · refine wpc_st fun K hK => ?_
    simp -dsimp
    refine hK _ _ ?_
    clear hK K
    simp -dsimp
    refine loop_by (kindsI m) 71 ?_ ?_
    · refine ⟨0, by decide, rfl, ?_⟩
      simp -dsimp
      kernel_rfl
    rintro n env m' ⟨k, hk, rfl, e1, e2, rfl⟩
    by_cases hk8 : k < 71
    · have hkk : (k : Int) ≤ 70 := by omega
      obtain ⟨h1, h2, h3, h4, h5⟩ := kinds_step hk8
      have h6 : ¬ (kn k : Int) < 0 := by omega
      have h7 : ¬ 6 < (kn k : Int) := by omega
      have h8 : (kn k : Int) < 7 := by omega
      have h9 : kn k + 1 ≤ 7 := by omega
      have hat : (intsA (cntL k))[kn k]? = some (.int .i64 ((cAt k (kn k) : Nat) : Int)) := intsA_at (cntL k) (kn k) (by rw [cntL_len]; exact h2)
      have hw : IntKind.i64.wrap (((cAt k (kn k) : Nat) : Int) + 1) = ((cAt k (kn k) + 1 : Nat) : Int) := wI64 (by omega) (by omega)
      have hz : (!(kindQ k == 0) == ((nameQ k).toList == ByteArray.toList ⟨#[]⟩)) = false := by
        rw [h5, Go.ByteArray.toList_eq, Go.ByteArray.toList_eq]; simp
      simp -dsimp [e1, e2, hkk]
      refine kind_tc _ _ _ ?_
      rw [h1] at hz ⊢
      simp -dsimp [e1, e2, h6, h7, h8]
      refine name_tc _ _ _ ?_
      simp -dsimp [e1, e2, h8, h9, hat, cntL_len, intsA_size]
      have hq : ((kn k : Int) == 0) = (nameQ (k : Int)).toList.isEmpty := by
        rw [← h1, h5, Go.ByteArray.toList_eq]
        cases (nameQ (k : Int)).data.toList <;> rfl
      rw [if_pos hq, hw, intsA_set, h3]
      refine ⟨71 - (k + 1), by omega, k + 1, by omega, rfl, ?_⟩
      simp -dsimp [e1, e2]
      exact wI64 (by omega) (by omega)
    · have hkk : ¬ (k : Int) ≤ 70 := by omega
      have hk9 : k = 71 := by omega
      simp -dsimp [e1, e2, hkk, hk9]
  rintro env m' ⟨e1, rfl⟩
  have hf : (intsA (cntL 71)) = #[.int .i64 2, .int .i64 34, .int .i64 12, .int .i64 2, .int .i64 7, .int .i64 5, .int .i64 9] := by kernel_rfl
  rw [hf]
  simp -dsimp [e1]

  refine awake_tc _ _ ?_
  simp -dsimp
  exact fin_ret rfl (leave_pure (by simp) rfl)
end Go.Lm
