/- ins: Decode's parts, Kind, Name. -/
import Derived.Test.YtfgcnehjdaiipaaL24
import Derived.Test.YtfgcnehjdaiipaaC2
set_option linter.unusedSimpArgs false
namespace Go.Lm
open Go.Proofs

theorem set_tc (k off e : Nat) (c : Array Value) (v : Nat) (hv : v < 2 ^ 32) (m : Mem) (Q) (hk : m.get k = .cells false e c) (ho : off + 1 ≤ c.size) (hok : ∀ x ∈ c, gnd0 x = true)
    (h : Q (.tuple #[]) (m.put k (.cells false e (wr c off #[.int .i64 v])))) :
    TC Try.prog 67 [.pointer (some ⟨k, off, none⟩), .int .u32 v] m Q := by
  refine TC_fn mixed Try.func67 rfl Try.ntmps67 rfl (by decide) (by simp) ?_
  have hlt := lt_cells hk
  simp -dsimp [get_base, hlt, hk, ho]
  have hw : IntKind.i64.wrap (v : Int) = v := wI64 (by omega) (by omega)
  rw [hw, put_base _ _ _ _ hlt]
  refine fin_end (v := .tuple #[]) (by simp) (leave_put (by rw [hk]; intro x; cases x) (by intro x; cases x) (by simp) ?_ ?_)
  · intro x hx
    split at hx
    · simp at hx; subst hx; exact okS_gnd0 rfl
    · rcases Array.mem_or_eq_of_mem_setIfInBounds hx with h1 | h1
      · exact okS_gnd0 (hok x h1)
      · subst h1; exact okS_gnd0 rfl
  · simpa [wr] using h

/-- the sort of an instruction -/
def kindQ (n : Int) : Int :=
  if n < 1 ∨ 69 < n then 0 else if n = 27 ∨ n = 28 ∨ 60 ≤ n then 2 else if n = 35 ∨ n = 36 then 3 else if 48 ≤ n ∧ n ≤ 54 then 4 else if 55 ≤ n then 5
  else if n = 9 ∨ n = 10 ∨ n = 41 ∨ (29 ≤ n ∧ n ≤ 34) then 6 else 1

theorem kind_cases (n : Int) {C : Prop} (h : ∀ k : Int, kindQ n = k → (n < 1 ∨ (1 ≤ n ∧ n ≤ 8) ∨ n = 9 ∨ n = 10 ∨ (11 ≤ n ∧ n ≤ 26) ∨ n = 27 ∨ n = 28 ∨ (29 ≤ n ∧ n ≤ 34) ∨ n = 35 ∨ n = 36 ∨ (37 ≤ n ∧ n ≤ 40) ∨ n = 41 ∨ (42 ≤ n ∧ n ≤ 47) ∨ (48 ≤ n ∧ n ≤ 54) ∨ (55 ≤ n ∧ n ≤ 59) ∨ (60 ≤ n ∧ n ≤ 69) ∨ 69 < n) → C) : C := by
  have h0 : n < 1 ∨ (1 ≤ n ∧ n ≤ 8) ∨ n = 9 ∨ n = 10 ∨ (11 ≤ n ∧ n ≤ 26) ∨ n = 27 ∨ n = 28 ∨ (29 ≤ n ∧ n ≤ 34) ∨ n = 35 ∨ n = 36 ∨ (37 ≤ n ∧ n ≤ 40) ∨ n = 41 ∨ (42 ≤ n ∧ n ≤ 47) ∨ (48 ≤ n ∧ n ≤ 54) ∨ (55 ≤ n ∧ n ≤ 59) ∨ (60 ≤ n ∧ n ≤ 69) ∨ 69 < n := by omega
  have ex : ∃ k, kindQ n = k := ⟨_, rfl⟩
  obtain ⟨k, hk⟩ := ex
  exact h k hk h0

set_option maxRecDepth 100000 in
set_option maxHeartbeats 20000000 in
theorem kind_tc (n : Int) (m : Mem) (Q) (h : Q (.int .i64 (kindQ n)) m) : TC Try.prog 21 [.int .i64 n] m Q := by
  refine TC_fn mixed Try.func21 rfl Try.ntmps21 rfl (by decide) (by simp) ?_
  refine kind_cases n fun k hk hc => ?_
  rw [hk] at h
  rcases hc with hc | hc | hc | hc | hc | hc | hc | hc | hc | hc | hc | hc | hc | hc | hc | hc | hc
  · have hv : k = 0 := by rw [← hk]; unfold kindQ; (repeat' split) <;> omega
    subst hv
    have a0 : n < 1 := by omega
    have a1 : ¬ 69 < n := by omega
    have a2 : ¬ n = 27 := by omega
    have a3 : ¬ n = 28 := by omega
    have a4 : ¬ 60 ≤ n := by omega
    have a5 : ¬ n = 35 := by omega
    have a6 : ¬ n = 36 := by omega
    have a7 : ¬ 48 ≤ n := by omega
    have a8 : n ≤ 54 := by omega
    have a9 : ¬ 55 ≤ n := by omega
    have a10 : n ≤ 59 := by omega
    have a11 : ¬ n = 9 := by omega
    have a12 : ¬ n = 10 := by omega
    have a13 : ¬ n = 41 := by omega
    have a14 : ¬ 29 ≤ n := by omega
    have a15 : n ≤ 34 := by omega
    simp -dsimp [a0, a1, a2, a3, a4, a5, a6, a7, a8, a9, a10, a11, a12, a13, a14, a15]
    exact fin_ret rfl (leave_pure (by simp) h)
  · have hv : k = 1 := by rw [← hk]; unfold kindQ; (repeat' split) <;> omega
    subst hv
    have a0 : ¬ n < 1 := by omega
    have a1 : ¬ 69 < n := by omega
    have a2 : ¬ n = 27 := by omega
    have a3 : ¬ n = 28 := by omega
    have a4 : ¬ 60 ≤ n := by omega
    have a5 : ¬ n = 35 := by omega
    have a6 : ¬ n = 36 := by omega
    have a7 : ¬ 48 ≤ n := by omega
    have a8 : n ≤ 54 := by omega
    have a9 : ¬ 55 ≤ n := by omega
    have a10 : n ≤ 59 := by omega
    have a11 : ¬ n = 9 := by omega
    have a12 : ¬ n = 10 := by omega
    have a13 : ¬ n = 41 := by omega
    have a14 : ¬ 29 ≤ n := by omega
    have a15 : n ≤ 34 := by omega
    simp -dsimp [a0, a1, a2, a3, a4, a5, a6, a7, a8, a9, a10, a11, a12, a13, a14, a15]
    exact fin_ret rfl (leave_pure (by simp) h)
  · have hv : k = 6 := by rw [← hk]; unfold kindQ; (repeat' split) <;> omega
    subst hv
    subst hc
    simp -dsimp
    exact fin_ret rfl (leave_pure (by simp) h)
  · have hv : k = 6 := by rw [← hk]; unfold kindQ; (repeat' split) <;> omega
    subst hv
    subst hc
    simp -dsimp
    exact fin_ret rfl (leave_pure (by simp) h)
  · have hv : k = 1 := by rw [← hk]; unfold kindQ; (repeat' split) <;> omega
    subst hv
    have a0 : ¬ n < 1 := by omega
    have a1 : ¬ 69 < n := by omega
    have a2 : ¬ n = 27 := by omega
    have a3 : ¬ n = 28 := by omega
    have a4 : ¬ 60 ≤ n := by omega
    have a5 : ¬ n = 35 := by omega
    have a6 : ¬ n = 36 := by omega
    have a7 : ¬ 48 ≤ n := by omega
    have a8 : n ≤ 54 := by omega
    have a9 : ¬ 55 ≤ n := by omega
    have a10 : n ≤ 59 := by omega
    have a11 : ¬ n = 9 := by omega
    have a12 : ¬ n = 10 := by omega
    have a13 : ¬ n = 41 := by omega
    have a14 : ¬ 29 ≤ n := by omega
    have a15 : n ≤ 34 := by omega
    simp -dsimp [a0, a1, a2, a3, a4, a5, a6, a7, a8, a9, a10, a11, a12, a13, a14, a15]
    exact fin_ret rfl (leave_pure (by simp) h)
  · have hv : k = 2 := by rw [← hk]; unfold kindQ; (repeat' split) <;> omega
    subst hv
    subst hc
    simp -dsimp
    exact fin_ret rfl (leave_pure (by simp) h)
  · have hv : k = 2 := by rw [← hk]; unfold kindQ; (repeat' split) <;> omega
    subst hv
    subst hc
    simp -dsimp
    exact fin_ret rfl (leave_pure (by simp) h)
  · have hv : k = 6 := by rw [← hk]; unfold kindQ; (repeat' split) <;> omega
    subst hv
    have a0 : ¬ n < 1 := by omega
    have a1 : ¬ 69 < n := by omega
    have a2 : ¬ n = 27 := by omega
    have a3 : ¬ n = 28 := by omega
    have a4 : ¬ 60 ≤ n := by omega
    have a5 : ¬ n = 35 := by omega
    have a6 : ¬ n = 36 := by omega
    have a7 : ¬ 48 ≤ n := by omega
    have a8 : n ≤ 54 := by omega
    have a9 : ¬ 55 ≤ n := by omega
    have a10 : n ≤ 59 := by omega
    have a11 : ¬ n = 9 := by omega
    have a12 : ¬ n = 10 := by omega
    have a13 : ¬ n = 41 := by omega
    have a14 : 29 ≤ n := by omega
    have a15 : n ≤ 34 := by omega
    simp -dsimp [a0, a1, a2, a3, a4, a5, a6, a7, a8, a9, a10, a11, a12, a13, a14, a15]
    exact fin_ret rfl (leave_pure (by simp) h)
  · have hv : k = 3 := by rw [← hk]; unfold kindQ; (repeat' split) <;> omega
    subst hv
    subst hc
    simp -dsimp
    exact fin_ret rfl (leave_pure (by simp) h)
  · have hv : k = 3 := by rw [← hk]; unfold kindQ; (repeat' split) <;> omega
    subst hv
    subst hc
    simp -dsimp
    exact fin_ret rfl (leave_pure (by simp) h)
  · have hv : k = 1 := by rw [← hk]; unfold kindQ; (repeat' split) <;> omega
    subst hv
    have a0 : ¬ n < 1 := by omega
    have a1 : ¬ 69 < n := by omega
    have a2 : ¬ n = 27 := by omega
    have a3 : ¬ n = 28 := by omega
    have a4 : ¬ 60 ≤ n := by omega
    have a5 : ¬ n = 35 := by omega
    have a6 : ¬ n = 36 := by omega
    have a7 : ¬ 48 ≤ n := by omega
    have a8 : n ≤ 54 := by omega
    have a9 : ¬ 55 ≤ n := by omega
    have a10 : n ≤ 59 := by omega
    have a11 : ¬ n = 9 := by omega
    have a12 : ¬ n = 10 := by omega
    have a13 : ¬ n = 41 := by omega
    have a14 : 29 ≤ n := by omega
    have a15 : ¬ n ≤ 34 := by omega
    simp -dsimp [a0, a1, a2, a3, a4, a5, a6, a7, a8, a9, a10, a11, a12, a13, a14, a15]
    exact fin_ret rfl (leave_pure (by simp) h)
  · have hv : k = 6 := by rw [← hk]; unfold kindQ; (repeat' split) <;> omega
    subst hv
    subst hc
    simp -dsimp
    exact fin_ret rfl (leave_pure (by simp) h)
  · have hv : k = 1 := by rw [← hk]; unfold kindQ; (repeat' split) <;> omega
    subst hv
    have a0 : ¬ n < 1 := by omega
    have a1 : ¬ 69 < n := by omega
    have a2 : ¬ n = 27 := by omega
    have a3 : ¬ n = 28 := by omega
    have a4 : ¬ 60 ≤ n := by omega
    have a5 : ¬ n = 35 := by omega
    have a6 : ¬ n = 36 := by omega
    have a7 : ¬ 48 ≤ n := by omega
    have a8 : n ≤ 54 := by omega
    have a9 : ¬ 55 ≤ n := by omega
    have a10 : n ≤ 59 := by omega
    have a11 : ¬ n = 9 := by omega
    have a12 : ¬ n = 10 := by omega
    have a13 : ¬ n = 41 := by omega
    have a14 : 29 ≤ n := by omega
    have a15 : ¬ n ≤ 34 := by omega
    simp -dsimp [a0, a1, a2, a3, a4, a5, a6, a7, a8, a9, a10, a11, a12, a13, a14, a15]
    exact fin_ret rfl (leave_pure (by simp) h)
  · have hv : k = 4 := by rw [← hk]; unfold kindQ; (repeat' split) <;> omega
    subst hv
    have a0 : ¬ n < 1 := by omega
    have a1 : ¬ 69 < n := by omega
    have a2 : ¬ n = 27 := by omega
    have a3 : ¬ n = 28 := by omega
    have a4 : ¬ 60 ≤ n := by omega
    have a5 : ¬ n = 35 := by omega
    have a6 : ¬ n = 36 := by omega
    have a7 : 48 ≤ n := by omega
    have a8 : n ≤ 54 := by omega
    have a9 : ¬ 55 ≤ n := by omega
    have a10 : n ≤ 59 := by omega
    have a11 : ¬ n = 9 := by omega
    have a12 : ¬ n = 10 := by omega
    have a13 : ¬ n = 41 := by omega
    have a14 : 29 ≤ n := by omega
    have a15 : ¬ n ≤ 34 := by omega
    simp -dsimp [a0, a1, a2, a3, a4, a5, a6, a7, a8, a9, a10, a11, a12, a13, a14, a15]
    exact fin_ret rfl (leave_pure (by simp) h)
  · have hv : k = 5 := by rw [← hk]; unfold kindQ; (repeat' split) <;> omega
    subst hv
    have a0 : ¬ n < 1 := by omega
    have a1 : ¬ 69 < n := by omega
    have a2 : ¬ n = 27 := by omega
    have a3 : ¬ n = 28 := by omega
    have a4 : ¬ 60 ≤ n := by omega
    have a5 : ¬ n = 35 := by omega
    have a6 : ¬ n = 36 := by omega
    have a7 : 48 ≤ n := by omega
    have a8 : ¬ n ≤ 54 := by omega
    have a9 : 55 ≤ n := by omega
    have a10 : n ≤ 59 := by omega
    have a11 : ¬ n = 9 := by omega
    have a12 : ¬ n = 10 := by omega
    have a13 : ¬ n = 41 := by omega
    have a14 : 29 ≤ n := by omega
    have a15 : ¬ n ≤ 34 := by omega
    simp -dsimp [a0, a1, a2, a3, a4, a5, a6, a7, a8, a9, a10, a11, a12, a13, a14, a15]
    exact fin_ret rfl (leave_pure (by simp) h)
  · have hv : k = 2 := by rw [← hk]; unfold kindQ; (repeat' split) <;> omega
    subst hv
    have a0 : ¬ n < 1 := by omega
    have a1 : ¬ 69 < n := by omega
    have a2 : ¬ n = 27 := by omega
    have a3 : ¬ n = 28 := by omega
    have a4 : 60 ≤ n := by omega
    have a5 : ¬ n = 35 := by omega
    have a6 : ¬ n = 36 := by omega
    have a7 : 48 ≤ n := by omega
    have a8 : ¬ n ≤ 54 := by omega
    have a9 : 55 ≤ n := by omega
    have a10 : ¬ n ≤ 59 := by omega
    have a11 : ¬ n = 9 := by omega
    have a12 : ¬ n = 10 := by omega
    have a13 : ¬ n = 41 := by omega
    have a14 : 29 ≤ n := by omega
    have a15 : ¬ n ≤ 34 := by omega
    simp -dsimp [a0, a1, a2, a3, a4, a5, a6, a7, a8, a9, a10, a11, a12, a13, a14, a15]
    exact fin_ret rfl (leave_pure (by simp) h)
  · have hv : k = 0 := by rw [← hk]; unfold kindQ; (repeat' split) <;> omega
    subst hv
    have a0 : ¬ n < 1 := by omega
    have a1 : 69 < n := by omega
    have a2 : ¬ n = 27 := by omega
    have a3 : ¬ n = 28 := by omega
    have a4 : 60 ≤ n := by omega
    have a5 : ¬ n = 35 := by omega
    have a6 : ¬ n = 36 := by omega
    have a7 : 48 ≤ n := by omega
    have a8 : ¬ n ≤ 54 := by omega
    have a9 : 55 ≤ n := by omega
    have a10 : ¬ n ≤ 59 := by omega
    have a11 : ¬ n = 9 := by omega
    have a12 : ¬ n = 10 := by omega
    have a13 : ¬ n = 41 := by omega
    have a14 : 29 ≤ n := by omega
    have a15 : ¬ n ≤ 34 := by omega
    simp -dsimp [a0, a1, a2, a3, a4, a5, a6, a7, a8, a9, a10, a11, a12, a13, a14, a15]
    exact fin_ret rfl (leave_pure (by simp) h)

set_option maxRecDepth 100000 in
set_option maxHeartbeats 20000000 in
theorem rkind_tc (n : Int) (m : Mem) (Q) (h : Q (.int .i64 (kindQ n)) m) : TC Try.prog 28 [.int .i64 n] m Q := by
  refine TC_fn mixed Try.func28 rfl Try.ntmps28 rfl (by decide) (by simp) ?_
  refine kind_cases n fun k hk hc => ?_
  rw [hk] at h
  rcases hc with hc | hc | hc | hc | hc | hc | hc | hc | hc | hc | hc | hc | hc | hc | hc | hc | hc
  · have hv : k = 0 := by rw [← hk]; unfold kindQ; (repeat' split) <;> omega
    subst hv
    have a0 : n < 1 := by omega
    have a1 : ¬ 69 < n := by omega
    have a2 : ¬ n = 27 := by omega
    have a3 : ¬ n = 28 := by omega
    have a4 : ¬ 60 ≤ n := by omega
    have a5 : ¬ n = 35 := by omega
    have a6 : ¬ n = 36 := by omega
    have a7 : ¬ 48 ≤ n := by omega
    have a8 : n ≤ 54 := by omega
    have a9 : ¬ 55 ≤ n := by omega
    have a10 : n ≤ 59 := by omega
    have a11 : ¬ n = 9 := by omega
    have a12 : ¬ n = 10 := by omega
    have a13 : ¬ n = 41 := by omega
    have a14 : ¬ 29 ≤ n := by omega
    have a15 : n ≤ 34 := by omega
    simp -dsimp [a0, a1, a2, a3, a4, a5, a6, a7, a8, a9, a10, a11, a12, a13, a14, a15]
    exact fin_ret rfl (leave_pure (by simp) h)
  · have hv : k = 1 := by rw [← hk]; unfold kindQ; (repeat' split) <;> omega
    subst hv
    have a0 : ¬ n < 1 := by omega
    have a1 : ¬ 69 < n := by omega
    have a2 : ¬ n = 27 := by omega
    have a3 : ¬ n = 28 := by omega
    have a4 : ¬ 60 ≤ n := by omega
    have a5 : ¬ n = 35 := by omega
    have a6 : ¬ n = 36 := by omega
    have a7 : ¬ 48 ≤ n := by omega
    have a8 : n ≤ 54 := by omega
    have a9 : ¬ 55 ≤ n := by omega
    have a10 : n ≤ 59 := by omega
    have a11 : ¬ n = 9 := by omega
    have a12 : ¬ n = 10 := by omega
    have a13 : ¬ n = 41 := by omega
    have a14 : ¬ 29 ≤ n := by omega
    have a15 : n ≤ 34 := by omega
    simp -dsimp [a0, a1, a2, a3, a4, a5, a6, a7, a8, a9, a10, a11, a12, a13, a14, a15]
    exact fin_ret rfl (leave_pure (by simp) h)
  · have hv : k = 6 := by rw [← hk]; unfold kindQ; (repeat' split) <;> omega
    subst hv
    subst hc
    simp -dsimp
    exact fin_ret rfl (leave_pure (by simp) h)
  · have hv : k = 6 := by rw [← hk]; unfold kindQ; (repeat' split) <;> omega
    subst hv
    subst hc
    simp -dsimp
    exact fin_ret rfl (leave_pure (by simp) h)
  · have hv : k = 1 := by rw [← hk]; unfold kindQ; (repeat' split) <;> omega
    subst hv
    have a0 : ¬ n < 1 := by omega
    have a1 : ¬ 69 < n := by omega
    have a2 : ¬ n = 27 := by omega
    have a3 : ¬ n = 28 := by omega
    have a4 : ¬ 60 ≤ n := by omega
    have a5 : ¬ n = 35 := by omega
    have a6 : ¬ n = 36 := by omega
    have a7 : ¬ 48 ≤ n := by omega
    have a8 : n ≤ 54 := by omega
    have a9 : ¬ 55 ≤ n := by omega
    have a10 : n ≤ 59 := by omega
    have a11 : ¬ n = 9 := by omega
    have a12 : ¬ n = 10 := by omega
    have a13 : ¬ n = 41 := by omega
    have a14 : ¬ 29 ≤ n := by omega
    have a15 : n ≤ 34 := by omega
    simp -dsimp [a0, a1, a2, a3, a4, a5, a6, a7, a8, a9, a10, a11, a12, a13, a14, a15]
    exact fin_ret rfl (leave_pure (by simp) h)
  · have hv : k = 2 := by rw [← hk]; unfold kindQ; (repeat' split) <;> omega
    subst hv
    subst hc
    simp -dsimp
    exact fin_ret rfl (leave_pure (by simp) h)
  · have hv : k = 2 := by rw [← hk]; unfold kindQ; (repeat' split) <;> omega
    subst hv
    subst hc
    simp -dsimp
    exact fin_ret rfl (leave_pure (by simp) h)
  · have hv : k = 6 := by rw [← hk]; unfold kindQ; (repeat' split) <;> omega
    subst hv
    have a0 : ¬ n < 1 := by omega
    have a1 : ¬ 69 < n := by omega
    have a2 : ¬ n = 27 := by omega
    have a3 : ¬ n = 28 := by omega
    have a4 : ¬ 60 ≤ n := by omega
    have a5 : ¬ n = 35 := by omega
    have a6 : ¬ n = 36 := by omega
    have a7 : ¬ 48 ≤ n := by omega
    have a8 : n ≤ 54 := by omega
    have a9 : ¬ 55 ≤ n := by omega
    have a10 : n ≤ 59 := by omega
    have a11 : ¬ n = 9 := by omega
    have a12 : ¬ n = 10 := by omega
    have a13 : ¬ n = 41 := by omega
    have a14 : 29 ≤ n := by omega
    have a15 : n ≤ 34 := by omega
    simp -dsimp [a0, a1, a2, a3, a4, a5, a6, a7, a8, a9, a10, a11, a12, a13, a14, a15]
    exact fin_ret rfl (leave_pure (by simp) h)
  · have hv : k = 3 := by rw [← hk]; unfold kindQ; (repeat' split) <;> omega
    subst hv
    subst hc
    simp -dsimp
    exact fin_ret rfl (leave_pure (by simp) h)
  · have hv : k = 3 := by rw [← hk]; unfold kindQ; (repeat' split) <;> omega
    subst hv
    subst hc
    simp -dsimp
    exact fin_ret rfl (leave_pure (by simp) h)
  · have hv : k = 1 := by rw [← hk]; unfold kindQ; (repeat' split) <;> omega
    subst hv
    have a0 : ¬ n < 1 := by omega
    have a1 : ¬ 69 < n := by omega
    have a2 : ¬ n = 27 := by omega
    have a3 : ¬ n = 28 := by omega
    have a4 : ¬ 60 ≤ n := by omega
    have a5 : ¬ n = 35 := by omega
    have a6 : ¬ n = 36 := by omega
    have a7 : ¬ 48 ≤ n := by omega
    have a8 : n ≤ 54 := by omega
    have a9 : ¬ 55 ≤ n := by omega
    have a10 : n ≤ 59 := by omega
    have a11 : ¬ n = 9 := by omega
    have a12 : ¬ n = 10 := by omega
    have a13 : ¬ n = 41 := by omega
    have a14 : 29 ≤ n := by omega
    have a15 : ¬ n ≤ 34 := by omega
    simp -dsimp [a0, a1, a2, a3, a4, a5, a6, a7, a8, a9, a10, a11, a12, a13, a14, a15]
    exact fin_ret rfl (leave_pure (by simp) h)
  · have hv : k = 6 := by rw [← hk]; unfold kindQ; (repeat' split) <;> omega
    subst hv
    subst hc
    simp -dsimp
    exact fin_ret rfl (leave_pure (by simp) h)
  · have hv : k = 1 := by rw [← hk]; unfold kindQ; (repeat' split) <;> omega
    subst hv
    have a0 : ¬ n < 1 := by omega
    have a1 : ¬ 69 < n := by omega
    have a2 : ¬ n = 27 := by omega
    have a3 : ¬ n = 28 := by omega
    have a4 : ¬ 60 ≤ n := by omega
    have a5 : ¬ n = 35 := by omega
    have a6 : ¬ n = 36 := by omega
    have a7 : ¬ 48 ≤ n := by omega
    have a8 : n ≤ 54 := by omega
    have a9 : ¬ 55 ≤ n := by omega
    have a10 : n ≤ 59 := by omega
    have a11 : ¬ n = 9 := by omega
    have a12 : ¬ n = 10 := by omega
    have a13 : ¬ n = 41 := by omega
    have a14 : 29 ≤ n := by omega
    have a15 : ¬ n ≤ 34 := by omega
    simp -dsimp [a0, a1, a2, a3, a4, a5, a6, a7, a8, a9, a10, a11, a12, a13, a14, a15]
    exact fin_ret rfl (leave_pure (by simp) h)
  · have hv : k = 4 := by rw [← hk]; unfold kindQ; (repeat' split) <;> omega
    subst hv
    have a0 : ¬ n < 1 := by omega
    have a1 : ¬ 69 < n := by omega
    have a2 : ¬ n = 27 := by omega
    have a3 : ¬ n = 28 := by omega
    have a4 : ¬ 60 ≤ n := by omega
    have a5 : ¬ n = 35 := by omega
    have a6 : ¬ n = 36 := by omega
    have a7 : 48 ≤ n := by omega
    have a8 : n ≤ 54 := by omega
    have a9 : ¬ 55 ≤ n := by omega
    have a10 : n ≤ 59 := by omega
    have a11 : ¬ n = 9 := by omega
    have a12 : ¬ n = 10 := by omega
    have a13 : ¬ n = 41 := by omega
    have a14 : 29 ≤ n := by omega
    have a15 : ¬ n ≤ 34 := by omega
    simp -dsimp [a0, a1, a2, a3, a4, a5, a6, a7, a8, a9, a10, a11, a12, a13, a14, a15]
    exact fin_ret rfl (leave_pure (by simp) h)
  · have hv : k = 5 := by rw [← hk]; unfold kindQ; (repeat' split) <;> omega
    subst hv
    have a0 : ¬ n < 1 := by omega
    have a1 : ¬ 69 < n := by omega
    have a2 : ¬ n = 27 := by omega
    have a3 : ¬ n = 28 := by omega
    have a4 : ¬ 60 ≤ n := by omega
    have a5 : ¬ n = 35 := by omega
    have a6 : ¬ n = 36 := by omega
    have a7 : 48 ≤ n := by omega
    have a8 : ¬ n ≤ 54 := by omega
    have a9 : 55 ≤ n := by omega
    have a10 : n ≤ 59 := by omega
    have a11 : ¬ n = 9 := by omega
    have a12 : ¬ n = 10 := by omega
    have a13 : ¬ n = 41 := by omega
    have a14 : 29 ≤ n := by omega
    have a15 : ¬ n ≤ 34 := by omega
    simp -dsimp [a0, a1, a2, a3, a4, a5, a6, a7, a8, a9, a10, a11, a12, a13, a14, a15]
    exact fin_ret rfl (leave_pure (by simp) h)
  · have hv : k = 2 := by rw [← hk]; unfold kindQ; (repeat' split) <;> omega
    subst hv
    have a0 : ¬ n < 1 := by omega
    have a1 : ¬ 69 < n := by omega
    have a2 : ¬ n = 27 := by omega
    have a3 : ¬ n = 28 := by omega
    have a4 : 60 ≤ n := by omega
    have a5 : ¬ n = 35 := by omega
    have a6 : ¬ n = 36 := by omega
    have a7 : 48 ≤ n := by omega
    have a8 : ¬ n ≤ 54 := by omega
    have a9 : 55 ≤ n := by omega
    have a10 : ¬ n ≤ 59 := by omega
    have a11 : ¬ n = 9 := by omega
    have a12 : ¬ n = 10 := by omega
    have a13 : ¬ n = 41 := by omega
    have a14 : 29 ≤ n := by omega
    have a15 : ¬ n ≤ 34 := by omega
    simp -dsimp [a0, a1, a2, a3, a4, a5, a6, a7, a8, a9, a10, a11, a12, a13, a14, a15]
    exact fin_ret rfl (leave_pure (by simp) h)
  · have hv : k = 0 := by rw [← hk]; unfold kindQ; (repeat' split) <;> omega
    subst hv
    have a0 : ¬ n < 1 := by omega
    have a1 : 69 < n := by omega
    have a2 : ¬ n = 27 := by omega
    have a3 : ¬ n = 28 := by omega
    have a4 : 60 ≤ n := by omega
    have a5 : ¬ n = 35 := by omega
    have a6 : ¬ n = 36 := by omega
    have a7 : 48 ≤ n := by omega
    have a8 : ¬ n ≤ 54 := by omega
    have a9 : 55 ≤ n := by omega
    have a10 : ¬ n ≤ 59 := by omega
    have a11 : ¬ n = 9 := by omega
    have a12 : ¬ n = 10 := by omega
    have a13 : ¬ n = 41 := by omega
    have a14 : 29 ≤ n := by omega
    have a15 : ¬ n ≤ 34 := by omega
    simp -dsimp [a0, a1, a2, a3, a4, a5, a6, a7, a8, a9, a10, a11, a12, a13, a14, a15]
    exact fin_ret rfl (leave_pure (by simp) h)
end Go.Lm
