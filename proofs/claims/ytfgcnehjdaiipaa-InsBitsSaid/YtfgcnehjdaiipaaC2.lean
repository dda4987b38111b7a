/- ins.slot, ins.of: contracts. -/
import Derived.Test.YtfgcnehjdaiipaaC1
namespace Go.Lm
open Go.Proofs

abbrev Row := Nat × Nat × ByteArray × Nat
def slotQ (r : Row) : Nat × Nat := if r.2.1 < 8 then (0, r.2.2.2) else if r.2.1 ≤ 9 then (28, r.2.2.2) else if r.2.1 = 16 then (1, r.2.2.2) else (r.2.2.2, 0)
def pairV (p : Nat × Nat) : Value := .agg #[.int .u32 p.1, .int .u32 p.2]
def rowV (r : Row) : Value := .agg (rowVal r).toArray

theorem slot_tc (r : Row) (m : Mem) (Q) (h : Q (pairV (slotQ r)) m) : TC Try.prog 70 [rowV r] m Q := by
  refine TC_fn mixed Try.func70 rfl Try.ntmps70 rfl (by decide) (by simp) ?_
  obtain ⟨op, form, nm, code⟩ := r
  simp [rowV, rowVal]
  have e (a b : Nat) : ((a : Int) < (b : Int)) = (a < b) := by simp
  by_cases h1 : form < 8
  · have : (form : Int) < 8 := by omega
    simp [this]
    refine fin_ret (by simp; rfl) (leave_pure (by simp) ?_)
    simpa [slotQ, pairV, h1] using h
  have h1' : ¬ (form : Int) < 8 := by omega
  by_cases h2 : form ≤ 9
  · have : (form : Int) ≤ 9 := by omega
    simp [this, h1']
    refine fin_ret (by simp; rfl) (leave_pure (by simp) ?_)
    simpa [slotQ, pairV, h1, h2] using h
  have h2' : ¬ (form : Int) ≤ 9 := by omega
  by_cases h3 : form = 16
  · subst h3
    simp
    refine fin_ret (by simp; rfl) (leave_pure (by simp) ?_)
    simpa [slotQ, pairV] using h
  have h3' : ¬ (form : Int) = 16 := by omega
  simp [h1', h2', h3']
  refine fin_ret (by simp; rfl) (leave_pure (by simp) ?_)
  simpa [slotQ, pairV, h1, h2, h3] using h

def atQ (w : Nat) : Nat × Nat :=
  if fl w 26 6 = 0 ∨ fl w 26 6 = 28 then (fl w 26 6, fl w 0 6) else if fl w 26 6 = 1 then (fl w 26 6, fl w 16 5) else (fl w 26 6, 0)

def noRow : Row := (0, 0, .empty, 0)
def ofQ (w : Nat) : Option Row := rowsTab.tail.find? fun r => slotQ r = atQ w

theorem rowsA_at (k : Nat) (hk : k < 70) : rowsA.extract (k * 4) (k * 4 + 4) = (rowVal (rowsTab[k]'(by simpa [rowsTab] using hk))).toArray :=
  flat_extract rowVal 4 (fun _ => rfl) rowsTab k _

def rowK (k : Nat) : Row := (rowsTab[k + 1]?).getD noRow

theorem rowsA_slice (k : Nat) (hk : k < 69) : rowsA.extract (4 + k * 4) (4 + k * 4 + 4) = (rowVal (rowK k)).toArray := by
  have := rowsA_at (k + 1) (by omega)
  rw [show (k + 1) * 4 = 4 + k * 4 by omega] at this
  rw [this, rowK, List.getElem?_eq_getElem]
  rfl

theorem rowK_eq (k : Nat) (hk : k < rowsTab.tail.length) : rowK k = rowsTab.tail[k] := by
  rw [rowK, List.getElem_tail, List.getElem?_eq_getElem (by simp only [List.length_tail] at hk; omega)]; rfl

theorem tab_len : rowsTab.tail.length = 69 := by kernel_rfl

theorem of_some {w k : Nat} (hk : k < 69) (hm : slotQ (rowK k) = atQ w) (hno : ∀ j, j < k → slotQ (rowK j) ≠ atQ w) : ofQ w = some (rowK k) := by
  unfold ofQ
  rw [List.find?_eq_some_iff_getElem]
  refine ⟨by simpa using hm, k, by rw [tab_len]; exact hk, (rowK_eq k _).symm, fun j hj => ?_⟩
  rw [← rowK_eq j]
  simpa using hno j hj

theorem of_none {w : Nat} (hno : ∀ j, j < 69 → slotQ (rowK j) ≠ atQ w) : ofQ w = none := by
  unfold ofQ
  rw [List.find?_eq_none]
  intro r hr
  obtain ⟨j, hj, rfl⟩ := List.getElem_of_mem hr
  rw [← rowK_eq j]
  simpa using hno j (by rw [← tab_len]; exact hj)

def ofI (w : Nat) (m : Mem) (n : Nat) (env : Env) (m' : Mem) : Prop :=
  ∃ k, k ≤ 69 ∧ n = 69 - k ∧ (∀ j, j < k → slotQ (rowK j) ≠ atQ w) ∧ elook env 0 = some (.int .u32 w) ∧ elook env 2 = some (.pointer (some ⟨m.top, 0, none⟩)) ∧ elook env 3 = some (.bool false) ∧
  elook env 5 = some (.pointer (some ⟨m.top + 2, 0, none⟩)) ∧ elook env 25 = some (.slice (some ⟨m.top + 1, 4, none⟩) 69 69) ∧ elook env 26 = some (.int .i64 69) ∧ elook env 27 = some (.int .i64 k) ∧
  ∃ l, m' = { base := m.get, n := m.top, loc := .cells false 0 (rowVal noRow).toArray :: .cells false 0 rowsA :: .cells false 0 #[.int .u32 (atQ w).1, .int .u32 (atQ w).2] :: l }

def ofE (w : Nat) (m : Mem) (at' : Nat × Nat) (env : Env) (m' : Mem) : Prop :=
  elook env 0 = some (.int .u32 w) ∧ elook env 2 = some (.pointer (some ⟨m.top, 0, none⟩)) ∧ elook env 3 = some (.bool false) ∧ elook env 4 = some (.pointer (some ⟨m.top + 1, 0, none⟩)) ∧
  elook env 5 = some (.pointer (some ⟨m.top + 2, 0, none⟩)) ∧ m' = { base := m.get, n := m.top, loc := [.cells false 0 (rowVal noRow).toArray, .cells false 0 rowsA, .cells false 0 #[.int .u32 at'.1, .int .u32 at'.2]] }

set_option maxRecDepth 100000 in
set_option maxHeartbeats 4000000 in
theorem of_tc (w : Nat) (hw : w < 2 ^ 32) (m : Mem) (Q) (h : Q (.tuple #[rowV ((ofQ w).getD noRow), .bool (ofQ w).isSome]) m) : TC Try.prog 64 [.int .u32 w] m Q := by
  refine TC_fn mixed Try.func64 rfl Try.ntmps64 rfl (by decide) (by simp) ?_
  refine wpc_st fun K hK => ?_
  simp -dsimp
  refine hK _ _ ?_
  clear hK K
  refine wpc_st fun K hK => ?_
  simp -dsimp
  refine rows_tc _ _ ?_
  simp -dsimp
  refine hK _ _ ?_
  clear hK K
  refine wpc_st fun K hK => ?_
  simp -dsimp
  refine Field_tc w hw 26 6 (by decide) (by decide) _ _ ?_
  simp -dsimp
  refine hK _ _ ?_
  clear hK K
  refine wpc_mid (ofE w m (atQ w)) ?_ ?_
  · simp -dsimp
    by_cases h1 : fl w 26 6 = 0
    · simp -dsimp [h1]
      refine Field_tc w hw 0 6 (by decide) (by decide) _ _ ?_
      simp -dsimp [ofE, atQ, h1, noRow, rowVal]
    by_cases h2 : fl w 26 6 = 28
    · simp -dsimp [h2]
      refine Field_tc w hw 0 6 (by decide) (by decide) _ _ ?_
      simp -dsimp [ofE, atQ, h2, noRow, rowVal]
    by_cases h3 : fl w 26 6 = 1
    · simp -dsimp [h3]
      refine Field_tc w hw 16 5 (by decide) (by decide) _ _ ?_
      simp -dsimp [ofE, atQ, h3, noRow, rowVal]
    have h2' : ¬ (fl w 26 6 : Int) = 28 := by omega
    have h3' : ¬ (fl w 26 6 : Int) = 1 := by omega
    simp -dsimp [h1, h2', h3', h2, h3, ofE, atQ, noRow, rowVal]
  rintro env m' ⟨e0, e2, e3, e4, e5, rfl⟩
  refine wpc_mid (fun env m' => ∃ n, ofQ w = none ∧ ofI w m n env m') ?_ ?_
  · simp -dsimp [e4]
    refine loop_by (ofI w m) 69 ?_ ?_
    · refine ⟨0, by decide, rfl, fun j hj => absurd hj (Nat.not_lt_zero _), ?_⟩
      simp -dsimp [e0, e2, e3, e5]
    rintro n env m' ⟨k, hk, rfl, hno, e0, e2, e3, e5, e25, e26, e27, l, rfl⟩
    simp -dsimp [e25, e26, e27]
    by_cases hkk : k < 69
    · have hkk' : (k : Int) < 69 := by omega
      have hb : 4 + k * 4 ≤ 276 := by omega
      simp -dsimp [hkk', hb, rowsA_slice k hkk, rowVal]
      refine draw_go 3 [0, 1, 0, 7] (by kernel_rfl) (by kernel_rfl) ?_
      simp -dsimp
      refine .inl ⟨_, fun m' _ => slot_tc (rowK k) _ _ ⟨rfl, rfl⟩, drw_go ?_⟩
      simp -dsimp [e5, pairV]
      have hiff : (((slotQ (rowK k)).1 : Int) = (atQ w).1 ∧ ((slotQ (rowK k)).2 : Int) = (atQ w).2) ↔ slotQ (rowK k) = atQ w := by
        rw [Prod.ext_iff]; omega
      by_cases hm : slotQ (rowK k) = atQ w
      · rw [if_pos (hiff.2 hm)]
        simp -dsimp [e2]
        refine fin_ret (v := .tuple #[rowV (rowK k), .bool true]) (by simp -dsimp [e2]; rfl) (leave_pure (by simp [rowV, rowVal]) ?_)
        have : ofQ w = some (rowK k) := of_some hkk hm hno
        rw [this] at h
        exact h
      · rw [if_neg (fun x => hm (hiff.1 x))]
        simp -dsimp [e27]
        refine ⟨69 - (k + 1), by omega, k + 1, by omega, rfl, ?_, ?_⟩
        · intro j hj
          by_cases hjk : j = k
          · subst hjk; exact hm
          · exact hno j (by omega)
        simp -dsimp [e0, e2, e3, e5, e25, e26]
        exact ⟨wI64 (by omega) (by omega), rfl⟩
    · have hk9 : k = 69 := by omega
      have hkk' : ¬ (k : Int) < 69 := by omega
      simp -dsimp [hkk']
      refine ⟨of_none (hk9 ▸ hno), 0, 69, by decide, rfl, hk9 ▸ hno, ?_⟩
      simp -dsimp [e0, e2, e3, e5, e25, e26, e27, hk9]
  rintro env m' ⟨n, hno, k, hk, rfl, -, e0, e2, e3, e5, e25, e26, e27, l, rfl⟩
  simp -dsimp [e2, rowVal]
  refine fin_ret (v := .tuple #[rowV noRow, .bool false]) (by simp -dsimp [e2]; rfl) (leave_pure (by simp [rowV, rowVal]) ?_)
  rw [hno] at h
  exact h
end Go.Lm
