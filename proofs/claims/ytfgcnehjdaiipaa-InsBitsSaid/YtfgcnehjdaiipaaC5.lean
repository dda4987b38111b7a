/- calquelaw08: awake, InsKinds. -/
import Derived.Test.YtfgcnehjdaiipaaC4d
set_option linter.unusedSimpArgs false
namespace Go.Lm
open Go.Proofs

theorem dec_a : decQ 608305153 = ⟨40, 2, 2, 0, 0, 1⟩ := by kernel_rfl
theorem dec_b : decQ 0 = ⟨16, 0, 0, 0, 0, 0⟩ := by kernel_rfl
theorem name_40 : nameQ 40 = ⟨#[97, 100, 100, 105, 117]⟩ := by kernel_rfl
theorem kind_51 : kindQ 51 = 4 := by kernel_rfl

set_option maxRecDepth 100000 in
theorem awake_tc (m : Mem) (Q) (h : Q (.bool true) m) : TC Try.prog 20 [] m Q := by
  refine TC_fn mixed Try.func20 rfl Try.ntmps20 rfl (by decide) (by simp) ?_
  simp -dsimp
  refine dec_tc 608305153 (by decide) _ _ ?_
  simp -dsimp [dec_a, insV]
  refine dec_tc 0 (by decide) _ _ ?_
  simp -dsimp [dec_b, insV]
  refine name_tc 40 _ _ ?_
  simp -dsimp [name_40]
  refine kind_tc 51 _ _ ?_
  simp -dsimp [kind_51]
  exact fin_ret rfl (leave_pure (by simp) h)

theorem place_tc (x n : Int) (hn : 0 < n) (hm : n ≤ 9223372036854775807) (m : Mem) (Q) (h : Q (.int .i64 (x % n)) m) : TC Try.prog 19 [.int .i64 x, .int .i64 n] m Q := by
  refine TC_fn mixed Try.func19 rfl Try.ntmps19 rfl (by decide) (by simp) ?_
  have h0 : ¬ n = 0 := by omega
  have h1 := Int.emod_nonneg x h0
  have h2 := Int.emod_lt_of_pos x hn
  have h3 := Int.tmod_eq_emod (a := x) (b := n)
  have h4 : x.tmod n = x % n ∨ x.tmod n = x % n - n ∧ x % n ≠ 0 := by
    by_cases hx : 0 ≤ x ∨ n ∣ x
    · rw [if_pos hx] at h3; left; omega
    · rw [if_neg hx] at h3
      right
      refine ⟨by omega, fun e => hx (.inr (Int.dvd_of_emod_eq_zero e))⟩
  clear h3
  by_cases hk : x.tmod n < 0
  · have e : x.tmod n + n = x % n := by omega
    simp -dsimp [h0, hk]
    rw [e, wI64 (by omega) (by omega)]
    exact fin_ret rfl (leave_pure (by simp) h)
  · have e : x.tmod n = x % n := by omega
    simp -dsimp [h0, hk]
    rw [e]
    exact fin_ret rfl (leave_pure (by simp) h)

/-- the opcodes that are none -/
def nones : List Nat := [16, 17, 18, 19, 20, 21, 22, 23, 24, 29, 30, 31, 39, 44, 45, 47, 48, 63]

theorem none_of (o w : Nat) (ho : o ∈ nones) (hw : fl w 26 6 = o) : decQ w = noIns := by
  have h1 : nones.all (fun o => !(o == 0 || o == 28 || o == 1) && rowsTab.tail.all (fun r => !(slotQ r == (o, 0)))) = true := by kernel_rfl
  have h2 := List.all_eq_true.1 h1 o ho
  simp only [Bool.and_eq_true, Bool.not_eq_true', Bool.or_eq_false_iff, beq_eq_false_iff_ne, List.all_eq_true] at h2
  have h3 : atQ w = (o, 0) := by
    unfold atQ
    rw [hw, if_neg (by omega), if_neg (by omega)]
  have h4 : ofQ w = none := by
    unfold ofQ
    rw [List.find?_eq_none]
    intro r hr
    have := h2.2 r hr
    rw [h3]
    simpa using this
  rw [decQ, h4]

def nonesA : Array Value := (nones.map fun (o : Nat) => Value.int .u32 (o : Int)).toArray
theorem nonesA_at (k : Nat) (hk : k < 18) : nonesA[k]? = some (.int .u32 ((nones[k]'hk : Nat) : Int)) := by
  unfold nonesA
  rw [List.getElem?_toArray, List.getElem?_map, List.getElem?_eq_getElem hk]; rfl
theorem nones_lt (k : Nat) (hk : k < 18) : nones[k]'hk < 64 := by
  have h : nones.all (fun o => decide (o < 64)) = true := by kernel_rfl
  simpa using List.all_eq_true.1 h _ (List.getElem_mem hk)

def lo26 (w : Nat) : Nat := w % 67108864
theorem lo26_lt (w : Nat) : lo26 w < 67108864 := Nat.mod_lt _ (by decide)
theorem and26 (w : Nat) (hw : w < 2 ^ 32) : iand .u32 (w : Int) 67108863 = ((lo26 w : Nat) : Int) :=
  iand_mask .u32 26 (a := w) (c := 67108863) hw rfl (by decide)
theorem word_none (o w : Nat) (ho : o < 64) : IntKind.u32.wrap (ishl .u32 (o : Int) 26 + (lo26 w : Int)) = ((o * 67108864 + lo26 w : Nat) : Int) := by
  have h := lo26_lt w
  have e : ishl .u32 (o : Int) 26 = IntKind.u32.wrap ((o * 2 ^ 26 : Nat) : Int) := ishl_nat .u32 (a := o) (n := 26) (by decide)
  rw [e, wrap_u32_nat, Nat.mod_eq_of_lt (by omega), wU32 (by omega) (by omega)]
  omega
theorem fl_none (o w : Nat) (ho : o < 64) : fl (o * 67108864 + lo26 w) 26 6 = o := by
  have h := lo26_lt w
  unfold fl
  omega

def noneI (w : Nat) (m : Mem) (n : Nat) (env : Env) (m' : Mem) : Prop :=
  ∃ k, k ≤ 18 ∧ n = 18 - k ∧ elook env 3 = some (.int .u32 ((lo26 w : Nat) : Int)) ∧ elook env 8 = some (.slice (some ⟨m.top, 0, none⟩) 18 18) ∧ elook env 9 = some (.int .i64 18) ∧ elook env 10 = some (.int .i64 k) ∧
  m' = { base := m.get, n := m.top, loc := [.cells false 1 nonesA] }

set_option maxRecDepth 100000 in
theorem none_tc (w : Nat) (hw : w < 2 ^ 32) (m : Mem) : TC Try.prog 3 [.int .u32 w] m (fun v _ => v = .bool true) := by
  refine TC_fn mixed Try.func3 rfl Try.ntmps3 rfl (by decide) (by simp) ?_
  refine wpc_st fun K hK => ?_
  simp -dsimp
  refine hK _ _ ?_
  clear hK K
  refine wpc_st fun K hK => ?_
  simp -dsimp [and26 w hw]
  refine hK _ _ ?_
  clear hK K
  refine wpc_mid (fun env m' => elook env 3 = some (.int .u32 ((lo26 w : Nat) : Int)) ∧ m' = { base := m.get, n := m.top, loc := [.cells false 1 nonesA] }) ?_ ?_
  · simp -dsimp
    refine loop_by (noneI w m) 18 ?_ ?_
    · refine ⟨0, by decide, rfl, ?_⟩
      simp -dsimp
      kernel_rfl
    rintro n env m' ⟨k, hk, rfl, e3, e8, e9, e10, rfl⟩
    by_cases hk8 : k < 18
    · have hkk : (k : Int) < 18 := by omega
      have hlt := nones_lt k hk8
      have hl := lo26_lt w
      have hd := none_of _ _ (List.getElem_mem hk8) (fl_none (nones[k]'hk8) w hlt)
      simp -dsimp [e3, e8, e9, e10, hkk, nonesA_at k hk8]
      rw [word_none _ w hlt]
      refine dec_tc _ (by omega) _ _ ?_
      rw [hd]
      simp -dsimp [insV, noIns, e3, e8, e9, e10]
      refine ⟨18 - (k + 1), by omega, k + 1, by omega, rfl, ?_⟩
      simp -dsimp [e3, e8, e9, e10]
      exact wI64 (by omega) (by omega)
    · have hkk : ¬ (k : Int) < 18 := by omega
      simp -dsimp [e3, e8, e9, e10, hkk]
  rintro env m' ⟨e3, rfl⟩
  simp -dsimp [e3]
  refine place_tc _ 1 (by decide) (by decide) _ _ ?_
  simp -dsimp
  refine awake_tc _ _ ?_
  simp -dsimp
  exact fin_ret rfl (leave_pure (by simp) rfl)
end Go.Lm
