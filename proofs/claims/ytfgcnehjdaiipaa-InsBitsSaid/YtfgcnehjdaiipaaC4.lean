/- ins.Name, ins.Decode. -/
import Derived.Test.YtfgcnehjdaiipaaL24
import Derived.Test.YtfgcnehjdaiipaaC3
set_option linter.unusedSimpArgs false
namespace Go.Lm
open Go.Proofs

def nameQ (n : Int) : ByteArray := if kindQ n = 0 then .empty else ((rowsTab[n.toNat]?).getD noRow).2.2.1

theorem kind_range {n : Int} (h : ¬ kindQ n = 0) : 1 ≤ n ∧ n ≤ 69 := by
  unfold kindQ at h
  split at h
  · exact absurd rfl h
  · omega

set_option maxRecDepth 100000 in
theorem name_tc (n : Int) (m : Mem) (Q) (h : Q (.string (nameQ n)) m) : TC Try.prog 22 [.int .i64 n] m Q := by
  refine TC_fn mixed Try.func22 rfl Try.ntmps22 rfl (by decide) (by simp) ?_
  simp -dsimp
  refine kind_tc n _ _ ?_
  simp -dsimp
  by_cases hz : kindQ n = 0
  · simp -dsimp [hz]
    refine fin_ret rfl (leave_pure (by simp) ?_)
    rw [nameQ, if_pos hz] at h
    exact h
  obtain ⟨h1, h2⟩ := kind_range hz
  rw [if_neg hz]
  refine rows_tc _ _ ?_
  have hb : n.toNat * 4 + 4 ≤ 280 := by omega
  have h0 : 0 ≤ n := by omega
  have h70 : n < 70 := by omega
  have hn : n.toNat < 70 := by omega
  simp -dsimp [hb, h0, h70, rowsA_at n.toNat hn, rowVal]
  refine fin_ret rfl (leave_pure (by simp) ?_)
  rw [nameQ, if_neg hz, List.getElem?_eq_getElem (by show n.toNat < 70; exact hn)] at h
  exact h

structure InsM where
  op : Nat
  s : Nat
  t : Nat
  d : Nat
  a : Nat
  imm : Nat
  deriving DecidableEq

def insV (i : InsM) : Value := .agg #[.int .i64 i.op, .int .i64 i.s, .int .i64 i.t, .int .i64 i.d, .int .i64 i.a, .int .u32 i.imm]
def noIns : InsM := ⟨0, 0, 0, 0, 0, 0⟩

/-- what a form's word says, and what must be 0 -/
def formQ (op form w : Nat) : InsM × Nat :=
  let s := fl w 21 5; let t := fl w 16 5; let d := fl w 11 5; let a := fl w 6 5; let low := fl w 0 16; let near := sxt 16 low
  match form with
  | 0 | 8 => (⟨op, s, t, d, 0, 0⟩, a)
  | 1 => (⟨op, 0, t, d, a, 0⟩, s)
  | 2 => (⟨op, s, t, 0, 0, 0⟩, d ||| a)
  | 3 => (⟨op, 0, 0, d, 0, 0⟩, s ||| t ||| a)
  | 4 => (⟨op, s, 0, 0, 0, 0⟩, t ||| d ||| a)
  | 5 => (⟨op, s, 0, d, 0, 0⟩, t ||| a)
  | 6 => (⟨op, s, t, 0, 0, fl w 6 10⟩, 0)
  | 7 => (⟨op, 0, 0, 0, 0, fl w 6 20⟩, 0)
  | 9 => (⟨op, s, t, d, 0, 0⟩, a ||| (t ^^^ d))
  | 10 | 13 => (⟨op, s, t, 0, 0, near⟩, 0)
  | 11 => (⟨op, s, t, 0, 0, low⟩, 0)
  | 12 => (⟨op, 0, t, 0, 0, low⟩, s)
  | 14 => (⟨op, s, t, 0, 0, near * 4 % 2 ^ 32⟩, 0)
  | 15 => (⟨op, s, 0, 0, 0, near * 4 % 2 ^ 32⟩, t)
  | 16 => (⟨op, s, 0, 0, 0, near * 4 % 2 ^ 32⟩, 0)
  | 17 => (⟨op, 0, 0, 0, 0, fl w 0 26 * 4 % 2 ^ 32⟩, 0)
  | _ => (⟨op, 0, 0, 0, 0, 0⟩, 0)

def decQ (w : Nat) : InsM :=
  match ofQ w with
  | none => noIns
  | some r => if (formQ r.1 r.2.1 w).2 = 0 then (formQ r.1 r.2.1 w).1 else noIns

theorem of_form {w op form : Nat} {nm : ByteArray} {code : Nat} (h : ofQ w = some (op, form, nm, code)) : form < 18 := by
  have h1 : rowsTab.tail.all (fun r => decide (r.2.1 < 18)) = true := by kernel_rfl
  have h2 := List.mem_of_find?_eq_some h
  simpa using List.all_eq_true.1 h1 _ h2

theorem fl_lt (w at_ n : Nat) (h : n ≤ 32 := by decide) : fl w at_ n < 2 ^ 32 :=
  Nat.lt_of_lt_of_le (Nat.mod_lt _ (Nat.two_pow_pos n)) (Nat.pow_le_pow_right (by decide) h)

end Go.Lm
