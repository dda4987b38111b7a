/- Contracts of block.Right, block.Jumps, alu.Writes, table.learn, table.Find, and of the document's. -/
import Derived.Test.YtfgcnehjdaiipaaME
import Derived.Test.YtfgcnehjdaiipaaMG
/- block: plain, jumps, Right, Jumps; the document's the same. -/
set_option linter.unusedSimpArgs false
set_option linter.unusedVariables false
namespace Go.Lm
open Go.Proofs

def plainK (k : Int) : Bool := k == 1 || decide (4 ≤ k)
def plainOp (n : Int) : Bool := plainK (kindQ n)
def plainQ (w : Nat) : Bool := plainOp ((decQ w).op : Int)
def jumpsQ (w : Nat) : Bool := kindQ ((decQ w).op : Int) == 2

theorem kind_lt (n : Int) : 0 ≤ kindQ n ∧ kindQ n ≤ 6 := by
  unfold kindQ
  (repeat' split) <;> omega

theorem plainOp_tc (n : Int) (m : Mem) (Q) (h : Q (.bool (plainOp n)) m) : TC Try.prog 177 [.int .i64 n] m Q := by
  refine TC_fn mixed Try.func177 rfl Try.ntmps177 rfl (by decide) (by simp) ?_
  have hk := kind_tc n
  have hb := kind_lt n
  unfold plainOp at h
  generalize kindQ n = k at hk hb h
  simp -dsimp
  refine hk _ _ ?_
  have hc : k = 0 ∨ k = 1 ∨ k = 2 ∨ k = 3 ∨ k = 4 ∨ k = 5 ∨ k = 6 := by omega
  rcases hc with rfl | rfl | rfl | rfl | rfl | rfl | rfl
  all_goals
    simp -dsimp
    exact fin_ret rfl (leave_pure (by simp) h)

theorem rplainOp_tc (n : Int) (m : Mem) (Q) (h : Q (.bool (plainOp n)) m) : TC Try.prog 172 [.int .i64 n] m Q := by
  refine TC_fn mixed Try.func172 rfl Try.ntmps172 rfl (by decide) (by simp) ?_
  have hk := rkind_tc n
  have hb := kind_lt n
  unfold plainOp at h
  generalize kindQ n = k at hk hb h
  simp -dsimp
  refine hk _ _ ?_
  have hc : k = 0 ∨ k = 1 ∨ k = 2 ∨ k = 3 ∨ k = 4 ∨ k = 5 ∨ k = 6 := by omega
  rcases hc with rfl | rfl | rfl | rfl | rfl | rfl | rfl
  all_goals
    simp -dsimp
    exact fin_ret rfl (leave_pure (by simp) h)

theorem plain_tc (w : Nat) (hw : w < 2 ^ 32) (m : Mem) (Q) (h : Q (.bool (plainQ w)) m) : TC Try.prog 153 [.int .u32 w] m Q := by
  refine TC_fn mixed Try.func153 rfl Try.ntmps153 rfl (by decide) (by simp) ?_
  have hd := dec_tc w hw
  unfold plainQ at h
  generalize decQ w = D at hd h
  obtain ⟨d1, d2, d3, d4, d5, d6⟩ := D
  simp -dsimp
  refine hd _ _ ?_
  simp -dsimp [insV]
  refine plainOp_tc _ _ _ ?_
  simp -dsimp
  exact fin_ret rfl (leave_pure (by simp) h)

theorem jumps_tc (w : Nat) (hw : w < 2 ^ 32) (m : Mem) (Q) (h : Q (.bool (jumpsQ w)) m) : TC Try.prog 134 [.int .u32 w] m Q := by
  refine TC_fn mixed Try.func134 rfl Try.ntmps134 rfl (by decide) (by simp) ?_
  have hd := dec_tc w hw
  unfold jumpsQ at h
  generalize decQ w = D at hd h
  obtain ⟨d1, d2, d3, d4, d5, d6⟩ := D
  simp -dsimp
  refine hd _ _ ?_
  simp -dsimp [insV]
  refine kind_tc _ _ _ ?_
  simp -dsimp
  exact fin_ret rfl (leave_pure (by simp) h)

def sortQ (w : Nat) : Nat := if plainQ w then 1 else if jumpsQ w then 2 else 0

theorem sort_tc (w : Nat) (hw : w < 2 ^ 32) (m : Mem) (Q) (h : Q (.int .i64 (sortQ w : Nat)) m) : TC Try.prog 136 [.int .u32 w] m Q := by
  refine TC_fn mixed Try.func136 rfl Try.ntmps136 rfl (by decide) (by simp) ?_
  have hd := rdec_tcG w hw rfl
  unfold sortQ plainQ jumpsQ at h
  generalize decQ w = D at hd h
  obtain ⟨d1, d2, d3, d4, d5, d6⟩ := D
  simp only at h
  have hp := rplainOp_tc (d1 : Int)
  have hk := rkind_tc (d1 : Int)
  generalize plainOp (d1 : Int) = P at hp h
  generalize kindQ (d1 : Int) = K at hk h
  simp -dsimp
  refine hd _ _ ?_
  simp -dsimp [insV]
  refine hp _ _ ?_
  cases P with
  | true => simp -dsimp; exact fin_ret rfl (leave_pure (by simp) h)
  | false =>
    simp -dsimp
    refine hk _ _ ?_
    simp -dsimp
    by_cases hK : K = 2
    · subst hK
      simp -dsimp
      exact fin_ret rfl (leave_pure (by simp) h)
    · rw [if_neg hK]
      have : (K == 2) = false := by simpa using hK
      rw [this] at h
      exact fin_ret rfl (leave_pure (by simp) h)

/-- Words in memory. -/
def WordsAt (m : Mem) (v : Value) (l : List Nat) : Prop :=
  (∀ x ∈ l, x < 2 ^ 32) ∧
  ((l = [] ∧ v = .slice none 0 0) ∨ ∃ k off cap ro c, v = .slice (some ⟨k, off, none⟩) l.length cap ∧ l.length ≤ cap ∧ m.get k = .cells ro 1 c ∧ off + cap ≤ c.size ∧
    ∀ (j : Nat) (x : Nat), l[j]? = some x → c[off + j]? = some (.int .u32 (x : Nat)))
end Go.Lm
/- block.Right, Jumps; the document's. -/
set_option linter.unusedSimpArgs false
set_option linter.unusedVariables false
namespace Go.Lm
open Go.Proofs

def okAt (l : List Nat) (j : Nat) : Bool := plainQ (l.getD j 0) || (decide (j + 2 = l.length) && jumpsQ (l.getD j 0))
def rightQ (l : List Nat) : Bool := decide (1 ≤ l.length) && decide (l.length ≤ 16) && (List.range l.length).all (okAt l)
def jumpsB (l : List Nat) : Bool := rightQ l && decide (1 < l.length) && jumpsQ (l.getD (l.length - 2) 0)

theorem words_get {l : List Nat} {c : Array Value} {off : Nat} (hc : ∀ (j : Nat) (x : Nat), l[j]? = some x → c[off + j]? = some (.int .u32 (x : Nat))) {j : Nat} (h : j < l.length) : c[off + j]? = some (.int .u32 ((l.getD j 0 : Nat) : Int)) := by
  rw [List.getD_eq_getElem?_getD, List.getElem?_eq_getElem h]
  exact hc j _ (List.getElem?_eq_getElem h)
theorem words_lt {l : List Nat} (h : ∀ x ∈ l, x < 2 ^ 32) (j : Nat) : l.getD j 0 < 2 ^ 32 := by
  rw [List.getD_eq_getElem?_getD]
  cases hj : l[j]? with
  | none => decide
  | some x => exact h x (List.mem_of_getElem? hj)

theorem right_of {l : List Nat} (h1 : 1 ≤ l.length) (h2 : l.length ≤ 16) (h : ∀ j, j < l.length → okAt l j = true) : rightQ l = true := by
  unfold rightQ
  rw [decide_eq_true h1, decide_eq_true h2, Bool.true_and, Bool.true_and, List.all_eq_true]
  exact fun j hj => h j (List.mem_range.1 hj)
theorem right_no {l : List Nat} {j : Nat} (hj : j < l.length) (h : okAt l j = false) : rightQ l = false := by
  unfold rightQ
  rw [Bool.and_eq_false_iff]
  right
  rw [List.all_eq_false]
  exact ⟨j, List.mem_range.2 hj, by rw [h]; simp⟩

def rightI (m : Mem) (l : List Nat) (v : Value) (n : Nat) (env : Env) (m' : Mem) : Prop :=
  ∃ k, k ≤ l.length ∧ n = l.length - k ∧ (∀ j, j < k → okAt l j = true) ∧ elook env 0 = some v ∧ elook env 13 = some v ∧ elook env 14 = some (.int .i64 l.length) ∧ elook env 15 = some (.int .i64 k) ∧
  m' = { base := m.get, n := m.top, loc := [] }

set_option maxRecDepth 100000 in
set_option maxHeartbeats 4000000 in
theorem right_tc (l : List Nat) (v : Value) (m : Mem) (hw : WordsAt m v l) (Q) (h : Q (.bool (rightQ l)) m) : TC Try.prog 133 [v] m Q := by
  refine TC_fn mixed Try.func133 rfl Try.ntmps133 rfl (by decide) (by simp) ?_
  obtain ⟨hlt, hw⟩ := hw
  rcases hw with ⟨rfl, rfl⟩ | ⟨k0, off, cap, ro, c, rfl, hcap, hm, hsz, hc⟩
  · simp -dsimp
    exact fin_ret rfl (leave_pure (by simp) h)
  have htop := lt_cells hm
  by_cases h1 : l.length < 1
  · have h1' : (l.length : Int) < 1 := by omega
    simp -dsimp [h1']
    have : rightQ l = false := by unfold rightQ; rw [decide_eq_false (by omega)]; rfl
    rw [this] at h
    exact fin_ret rfl (leave_pure (by simp) h)
  by_cases h2 : 16 < l.length
  · have h1' : ¬ (l.length : Int) < 1 := by omega
    have h2' : (16 : Int) < l.length := by omega
    simp -dsimp [h1', h2']
    have : rightQ l = false := by unfold rightQ; rw [decide_eq_false (p := l.length ≤ 16) (by omega), Bool.and_false]; rfl
    rw [this] at h
    exact fin_ret rfl (leave_pure (by simp) h)
  have h1' : ¬ (l.length : Int) < 1 := by omega
  have h2' : ¬ (16 : Int) < l.length := by omega
  refine wpc_st fun K hK => ?_
  simp -dsimp
  refine hK _ _ ?_
  clear hK K
  refine wpc_sq fun K hK => ?_
  simp -dsimp [h1', h2']
  refine hK _ _ ?_
  clear hK K
  refine wpc_mid (fun env m' => (∀ j, j < l.length → okAt l j = true) ∧ m' = { base := m.get, n := m.top, loc := [] }) ?_ ?_
  · refine wpc_st fun K hK => ?_
    simp -dsimp
    refine hK _ _ ?_
    clear hK K
    simp -dsimp
    refine loop_by (rightI m l (.slice (some ⟨k0, off, none⟩) l.length cap)) l.length ?_ ?_
    · refine ⟨0, by omega, rfl, fun j hj => absurd hj (Nat.not_lt_zero _), ?_⟩
      simp -dsimp
    rintro n env m' ⟨k, hk, rfl, hok, e0, e13, e14, e15, rfl⟩
    by_cases hkk : k < l.length
    · have hkk' : (k : Int) < l.length := by omega
      have hget := words_get hc hkk
      have hx := words_lt hlt k
      have hpl := plain_tc _ hx
      have hju := jumps_tc _ hx
      have hkw : IntKind.i64.wrap ((l.length : Int) - 2) = (l.length : Int) - 2 := wI64 (by omega) (by omega)
      have hkw1 : IntKind.i64.wrap ((k : Int) + 1) = ((k + 1 : Nat) : Int) := wI64 (by omega) (by omega)
      have hokk : okAt l k = (plainQ (l.getD k 0) || (decide (k + 2 = l.length) && jumpsQ (l.getD k 0))) := rfl
      generalize l.getD k 0 = x at *
      generalize plainQ x = p at *
      generalize jumpsQ x = q at *
      have hz : (k : Int) = (l.length : Int) - 2 ↔ k + 2 = l.length := by omega
      have bad : okAt l k = false → rightQ l = false := right_no hkk
      refine wpc_st fun K hK => ?_
      simp -dsimp [e15, e14, hkk']
      refine hK _ _ ?_
      clear hK K
      refine wpc_sq fun K hK => ?_
      simp -dsimp
      refine hK _ _ ?_
      clear hK K
      refine wpc_mid (fun env' m' => okAt l k = true ∧ elook env' 0 = elook env 0 ∧ elook env' 13 = elook env 13 ∧ elook env' 14 = elook env 14 ∧ elook env' 15 = elook env 15 ∧ m' = { base := m.get, n := m.top, loc := [] }) ?_ ?_
      · rw [wpc_block]
        refine wpc_st fun K hK => ?_
        simp -dsimp [e15, e13, hkk', get_base, htop, hm, hget]
        refine hK _ _ ?_
        clear hK K
        refine wpc_st fun K hK => ?_
        simp -dsimp
        refine hpl _ _ ?_
        cases p with
        | true =>
          simp -dsimp
          refine hK _ _ ?_
          clear hK K
          simp -dsimp
          rw [hokk]; rfl
        | false =>
          by_cases hz' : k + 2 = l.length
          · have hkw2 : IntKind.i64.wrap ((l.length : Int) - 2) = (k : Int) := by rw [hkw]; omega
            simp -dsimp [e0, hkw2]
            refine hju _ _ ?_
            cases q with
            | true =>
              simp -dsimp
              refine hK _ _ ?_
              clear hK K
              simp -dsimp
              rw [hokk, decide_eq_true hz']; rfl
            | false =>
              simp -dsimp
              refine hK _ _ ?_
              clear hK K
              simp -dsimp
              rw [bad (by rw [hokk, decide_eq_true hz']; rfl)] at h
              exact fin_ret rfl (leave_pure (by simp) h)
          · have hz2 : ¬ (k : Int) = (l.length : Int) - 2 := fun e => hz' (hz.1 e)
            simp -dsimp [e0, hkw, hz2]
            refine hK _ _ ?_
            clear hK K
            simp -dsimp
            rw [bad (by rw [hokk, decide_eq_false hz']; rfl)] at h
            exact fin_ret rfl (leave_pure (by simp) h)
      rintro env' m' ⟨ho, q0, q13, q14, q15, rfl⟩
      rw [e0] at q0; rw [e13] at q13; rw [e14] at q14; rw [e15] at q15
      simp -dsimp [q15, hkw1]
      refine ⟨l.length - (k + 1), by omega, k + 1, by omega, rfl, fun j hj => ?_, ?_⟩
      · by_cases hjk : j = k
        · rw [hjk]; exact ho
        · exact hok j (by omega)
      simp -dsimp [q0, q13, q14]
    · have hk9 : k = l.length := by omega
      have hkk' : ¬ (k : Int) < l.length := by omega
      simp -dsimp [e14, e15, hkk']
      exact fun j hj => hok j (by omega)
  rintro env m' ⟨hall, rfl⟩
  rw [right_of (by omega) (by omega) hall] at h
  simp -dsimp
  exact fin_ret rfl (leave_pure (by simp) h)

def rrightI (m : Mem) (l : List Nat) (v : Value) (n : Nat) (env : Env) (m' : Mem) : Prop :=
  ∃ k, k ≤ l.length ∧ n = l.length - k ∧ (∀ j, j < k → okAt l j = true) ∧ elook env 0 = some v ∧ elook env 3 = some (.int .i64 l.length) ∧ elook env 4 = some (.int .i64 k) ∧
  m' = { base := m.get, n := m.top, loc := [] }

set_option maxRecDepth 100000 in
set_option maxHeartbeats 4000000 in
theorem rright_tc (l : List Nat) (v : Value) (m : Mem) (hw : WordsAt m v l) (Q) (h : Q (.bool (rightQ l)) m) : TC Try.prog 107 [v] m Q := by
  refine TC_fn mixed Try.func107 rfl Try.ntmps107 rfl (by decide) (by simp) ?_
  obtain ⟨hlt, hw⟩ := hw
  rcases hw with ⟨rfl, rfl⟩ | ⟨k0, off, cap, ro, c, rfl, hcap, hm, hsz, hc⟩
  · simp -dsimp
    exact fin_ret rfl (leave_pure (by simp) h)
  have htop := lt_cells hm
  by_cases h1 : l.length < 1
  · have h1' : (l.length : Int) < 1 := by omega
    simp -dsimp [h1']
    have : rightQ l = false := by unfold rightQ; rw [decide_eq_false (by omega)]; rfl
    rw [this] at h
    exact fin_ret rfl (leave_pure (by simp) h)
  by_cases h2 : 16 < l.length
  · have h1' : ¬ (l.length : Int) < 1 := by omega
    have h2' : (16 : Int) < l.length := by omega
    simp -dsimp [h1', h2']
    have : rightQ l = false := by unfold rightQ; rw [decide_eq_false (p := l.length ≤ 16) (by omega), Bool.and_false]; rfl
    rw [this] at h
    exact fin_ret rfl (leave_pure (by simp) h)
  have h1' : ¬ (l.length : Int) < 1 := by omega
  have h2' : ¬ (16 : Int) < l.length := by omega
  refine wpc_st fun K hK => ?_
  simp -dsimp
  refine hK _ _ ?_
  clear hK K
  refine wpc_st fun K hK => ?_
  simp -dsimp
  refine hK _ _ ?_
  clear hK K
  refine wpc_sq fun K hK => ?_
  simp -dsimp [h1', h2']
  refine hK _ _ ?_
  clear hK K
  refine wpc_mid (fun env m' => (∀ j, j < l.length → okAt l j = true) ∧ m' = { base := m.get, n := m.top, loc := [] }) ?_ ?_
  · refine wpc_st fun K hK => ?_
    simp -dsimp
    refine hK _ _ ?_
    clear hK K
    simp -dsimp
    refine loop_by (rrightI m l (.slice (some ⟨k0, off, none⟩) l.length cap)) l.length ?_ ?_
    · refine ⟨0, by omega, rfl, fun j hj => absurd hj (Nat.not_lt_zero _), ?_⟩
      simp -dsimp
    rintro n env m' ⟨k, hk, rfl, hok, e0, e3, e4, rfl⟩
    by_cases hkk : k < l.length
    · have hkk' : (k : Int) < l.length := by omega
      have hget := words_get hc hkk
      have hx := words_lt hlt k
      have hso := sort_tc _ hx
      have hkw : IntKind.i64.wrap ((l.length : Int) - 2) = (l.length : Int) - 2 := wI64 (by omega) (by omega)
      have hkw1 : IntKind.i64.wrap ((k : Int) + 1) = ((k + 1 : Nat) : Int) := wI64 (by omega) (by omega)
      have hokk : okAt l k = (plainQ (l.getD k 0) || (decide (k + 2 = l.length) && jumpsQ (l.getD k 0))) := rfl
      unfold sortQ at hso
      generalize l.getD k 0 = x at *
      generalize plainQ x = p at *
      generalize jumpsQ x = q at *
      have hz : (k : Int) = (l.length : Int) - 2 ↔ k + 2 = l.length := by omega
      have bad : okAt l k = false → rightQ l = false := right_no hkk
      refine wpc_sq fun K hK => ?_
      simp -dsimp [e3, e4, hkk']
      refine hK _ _ ?_
      clear hK K
      refine wpc_mid (fun env' m' => okAt l k = true ∧ elook env' 0 = elook env 0 ∧ elook env' 3 = elook env 3 ∧ elook env' 4 = elook env 4 ∧ m' = { base := m.get, n := m.top, loc := [] }) ?_ ?_
      · rw [wpc_block]
        refine wpc_st fun K hK => ?_
        simp -dsimp [e0, e3, e4, hkk', get_base, htop, hm, hget]
        refine hso _ _ ?_
        simp -dsimp
        refine hK _ _ ?_
        clear hK K
        cases p with
        | true =>
          simp -dsimp
          rw [hokk]; rfl
        | false =>
          cases q with
          | true =>
            by_cases hz' : k + 2 = l.length
            · have hkw2 : IntKind.i64.wrap ((l.length : Int) - 2) = (k : Int) := by rw [hkw]; omega
              simp -dsimp [e0, e3, e4, hkw2]
              rw [hokk, decide_eq_true hz']; rfl
            · have hz2 : ¬ (k : Int) = (l.length : Int) - 2 := fun e => hz' (hz.1 e)
              simp -dsimp [e0, e3, e4, hkw, hz2]
              rw [bad (by rw [hokk, decide_eq_false hz']; rfl)] at h
              exact fin_ret rfl (leave_pure (by simp) h)
          | false =>
            simp -dsimp [e0, e3, e4]
            rw [bad (by rw [hokk, Bool.and_false]; rfl)] at h
            exact fin_ret rfl (leave_pure (by simp) h)
      rintro env' m' ⟨ho, q0, q3, q4, rfl⟩
      rw [e0] at q0; rw [e3] at q3; rw [e4] at q4
      simp -dsimp [q4, hkw1]
      refine ⟨l.length - (k + 1), by omega, k + 1, by omega, rfl, fun j hj => ?_, ?_⟩
      · by_cases hjk : j = k
        · rw [hjk]; exact ho
        · exact hok j (by omega)
      simp -dsimp [q0, q3]
    · have hk9 : k = l.length := by omega
      have hkk' : ¬ (k : Int) < l.length := by omega
      simp -dsimp [e3, e4, hkk']
      exact fun j hj => hok j (by omega)
  rintro env m' ⟨hall, rfl⟩
  rw [right_of (by omega) (by omega) hall] at h
  simp -dsimp
  exact fin_ret rfl (leave_pure (by simp) h)

theorem WordsAt_enter {m : Mem} {v : Value} {l : List Nat} (h : WordsAt m v l) (loc : List Ob) : WordsAt { base := m.get, n := m.top, loc := loc } v l := by
  obtain ⟨h1, h2⟩ := h
  refine ⟨h1, ?_⟩
  rcases h2 with h2 | ⟨k0, off, cap, ro, c, h2, h3, h4, h5, h6⟩
  · exact .inl h2
  · exact .inr ⟨k0, off, cap, ro, c, h2, h3, by rw [get_base _ _ _ (lt_cells h4)]; exact h4, h5, h6⟩

theorem sort_two (w : Nat) : (sortQ w == 2) = jumpsQ w := by
  unfold sortQ plainQ plainOp jumpsQ plainK
  have hb := kind_lt ((decQ w).op : Int)
  generalize kindQ ((decQ w).op : Int) = k at *
  have hc : k = 0 ∨ k = 1 ∨ k = 2 ∨ k = 3 ∨ k = 4 ∨ k = 5 ∨ k = 6 := by omega
  rcases hc with rfl | rfl | rfl | rfl | rfl | rfl | rfl <;> decide

theorem jumpsB_lt {l : List Nat} (h : rightQ l = true) : 1 ≤ l.length ∧ l.length ≤ 16 := by
  unfold rightQ at h
  simp only [Bool.and_eq_true, decide_eq_true_eq] at h
  exact h.1

set_option maxRecDepth 100000 in
set_option maxHeartbeats 4000000 in
theorem jumpsB_tc (l : List Nat) (v : Value) (m : Mem) (hw : WordsAt m v l) (Q) (h : Q (.bool (jumpsB l)) m) : TC Try.prog 75 [v] m Q := by
  refine TC_fn mixed Try.func75 rfl Try.ntmps75 rfl (by decide) (by simp) ?_
  have hr : ∀ Q, Q (.bool (rightQ l)) { base := m.get, n := m.top, loc := [] } → TC Try.prog 133 [v] { base := m.get, n := m.top, loc := [] } Q := fun Q h => right_tc l v _ (WordsAt_enter hw []) Q h
  obtain ⟨hlt, hw⟩ := hw
  have hcut := @jumpsB_lt l
  unfold jumpsB at h
  generalize rightQ l = R at *
  rcases hw with ⟨rfl, rfl⟩ | ⟨k0, off, cap, ro, c, rfl, hcap, hm, hsz, hc⟩
  · simp -dsimp
    refine hr _ ?_
    cases R with
    | false => simp -dsimp; exact fin_ret rfl (leave_pure (by simp) h)
    | true => simp -dsimp; exact fin_ret rfl (leave_pure (by simp) h)
  have htop := lt_cells hm
  refine wpc_st fun K hK => ?_
  simp -dsimp
  refine hK _ _ ?_
  clear hK K
  simp -dsimp
  refine hr _ ?_
  cases R with
  | false => simp -dsimp; exact fin_ret rfl (leave_pure (by simp) h)
  | true =>
    obtain ⟨c1, c2⟩ := hcut rfl
    by_cases h2 : 1 < l.length
    · have h2' : (1 : Int) < l.length := by omega
      have hkw : IntKind.i64.wrap ((l.length : Int) - 2) = ((l.length - 2 : Nat) : Int) := by rw [wI64 (by omega) (by omega)]; omega
      have hget := words_get hc (j := l.length - 2) (by omega)
      have hju := jumps_tc _ (words_lt hlt (l.length - 2))
      have hlt2 : ((l.length - 2 : Nat) : Int) < l.length := by omega
      rw [decide_eq_true h2] at h
      generalize l.getD (l.length - 2) 0 = x at *
      generalize l.length - 2 = j at *
      simp -dsimp [h2', hkw, hlt2, get_base, htop, hm, hget]
      refine hju _ _ ?_
      simp -dsimp
      exact fin_ret rfl (leave_pure (by simp) h)
    · have h2' : ¬ (1 : Int) < l.length := by omega
      rw [decide_eq_false h2] at h
      simp -dsimp [h2']
      exact fin_ret rfl (leave_pure (by simp) h)

set_option maxRecDepth 100000 in
set_option maxHeartbeats 4000000 in
theorem rjumpsB_tc (l : List Nat) (v : Value) (m : Mem) (hw : WordsAt m v l) (Q) (h : Q (.bool (jumpsB l)) m) : TC Try.prog 78 [v] m Q := by
  refine TC_fn mixed Try.func78 rfl Try.ntmps78 rfl (by decide) (by simp) ?_
  have hr : ∀ Q, Q (.bool (rightQ l)) { base := m.get, n := m.top, loc := [] } → TC Try.prog 107 [v] { base := m.get, n := m.top, loc := [] } Q := fun Q h => rright_tc l v _ (WordsAt_enter hw []) Q h
  obtain ⟨hlt, hw⟩ := hw
  have hcut := @jumpsB_lt l
  unfold jumpsB at h
  generalize rightQ l = R at *
  rcases hw with ⟨rfl, rfl⟩ | ⟨k0, off, cap, ro, c, rfl, hcap, hm, hsz, hc⟩
  · simp -dsimp
    refine hr _ ?_
    cases R with
    | false => simp -dsimp; exact fin_ret rfl (leave_pure (by simp) h)
    | true => simp -dsimp; exact fin_ret rfl (leave_pure (by simp) h)
  have htop := lt_cells hm
  refine wpc_st fun K hK => ?_
  simp -dsimp
  refine hK _ _ ?_
  clear hK K
  simp -dsimp
  refine hr _ ?_
  cases R with
  | false => simp -dsimp; exact fin_ret rfl (leave_pure (by simp) h)
  | true =>
    obtain ⟨c1, c2⟩ := hcut rfl
    by_cases h2 : 1 < l.length
    · have h2' : (1 : Int) < l.length := by omega
      have hkw : IntKind.i64.wrap ((l.length : Int) - 2) = ((l.length - 2 : Nat) : Int) := by rw [wI64 (by omega) (by omega)]; omega
      have hget := words_get hc (j := l.length - 2) (by omega)
      have hju := sort_tc _ (words_lt hlt (l.length - 2))
      have hlt2 : ((l.length - 2 : Nat) : Int) < l.length := by omega
      rw [decide_eq_true h2] at h
      have hsq : (sortQ (l.getD (l.length - 2) 0) == 2) = (jumpsQ (l.getD (l.length - 2) 0)) := sort_two _
      generalize l.getD (l.length - 2) 0 = x at *
      generalize l.length - 2 = j at *
      rw [← hsq] at h
      generalize sortQ x = y at *
      simp -dsimp [h2', hkw, hlt2, get_base, htop, hm, hget]
      refine hju _ _ ?_
      have hy : ((y : Int) == 2) = (y == 2) := by rw [Bool.eq_iff_iff]; simp; omega
      simp -dsimp [hy]
      exact fin_ret rfl (leave_pure (by simp) h)
    · have h2' : ¬ (1 : Int) < l.length := by omega
      rw [decide_eq_false h2] at h
      simp -dsimp [h2']
      exact fin_ret rfl (leave_pure (by simp) h)
end Go.Lm
/- alu.Writes; the document's. Written by gen_e3.py. -/
set_option linter.unusedSimpArgs false
set_option linter.unusedVariables false
namespace Go.Lm
open Go.Proofs

def writesQ (i : InsM) : Nat :=
  if (1 ≤ i.op ∧ i.op ≤ 18) ∨ i.op = 23 ∨ i.op = 24 ∨ i.op = 28 ∨ (37 ≤ i.op ∧ i.op ≤ 39) then i.d else if 40 ≤ i.op ∧ i.op ≤ 54 then i.t else if i.op = 66 ∨ i.op = 67 ∨ i.op = 69 then 31 else 0

theorem op_cases (op : Nat) : op = 0 ∨ (1 ≤ op ∧ op ≤ 18) ∨ (19 ≤ op ∧ op ≤ 22) ∨ op = 23 ∨ op = 24 ∨ (25 ≤ op ∧ op ≤ 27) ∨ op = 28 ∨ (29 ≤ op ∧ op ≤ 36) ∨ (37 ≤ op ∧ op ≤ 39) ∨ (40 ≤ op ∧ op ≤ 54) ∨ (55 ≤ op ∧ op ≤ 65) ∨ op = 66 ∨ op = 67 ∨ op = 68 ∨ op = 69 ∨ 70 ≤ op := by omega

set_option maxRecDepth 100000 in
set_option maxHeartbeats 8000000 in
theorem writes_tc (i : InsM) (m : Mem) (Q) (h : Q (.int .i64 (writesQ i : Nat)) m) : TC Try.prog 76 [insV i] m Q := by
  refine TC_fn mixed Try.func76 rfl Try.ntmps76 rfl (by decide) (by simp) ?_
  obtain ⟨op, s, t, d, a, imm⟩ := i
  simp only [writesQ] at h
  rcases op_cases op with hc | hc | hc | hc | hc | hc | hc | hc | hc | hc | hc | hc | hc | hc | hc | hc
  · have hv : writesQ ⟨op, s, t, d, a, imm⟩ = 0 := by simp only [writesQ]; (repeat' split) <;> omega
    simp only [writesQ] at hv
    rw [hv] at h
    clear hv
    subst hc
    simp -dsimp -implicitDefEqProofs [insV]
    exact fin_ret rfl (leave_pure (by simp) h)
  · have hv : writesQ ⟨op, s, t, d, a, imm⟩ = d := by simp only [writesQ]; (repeat' split) <;> omega
    simp only [writesQ] at hv
    rw [hv] at h
    clear hv
    have a0 : (1 : Int) ≤ op := by omega
    have a1 : ¬ (37 : Int) ≤ op := by omega
    have a2 : ¬ (40 : Int) ≤ op := by omega
    have a3 : (op : Int) ≤ 18 := by omega
    have a4 : (op : Int) ≤ 39 := by omega
    have a5 : (op : Int) ≤ 54 := by omega
    have a6 : ¬ (op : Int) = 23 := by omega
    have a7 : ¬ (op : Int) = 24 := by omega
    have a8 : ¬ (op : Int) = 28 := by omega
    have a9 : ¬ (op : Int) = 66 := by omega
    have a10 : ¬ (op : Int) = 67 := by omega
    have a11 : ¬ (op : Int) = 69 := by omega
    simp -dsimp -implicitDefEqProofs [insV, a0, a1, a2, a3, a4, a5, a6, a7, a8, a9, a10, a11]
    exact fin_ret rfl (leave_pure (by simp) h)
  · have hv : writesQ ⟨op, s, t, d, a, imm⟩ = 0 := by simp only [writesQ]; (repeat' split) <;> omega
    simp only [writesQ] at hv
    rw [hv] at h
    clear hv
    have a0 : (1 : Int) ≤ op := by omega
    have a1 : ¬ (37 : Int) ≤ op := by omega
    have a2 : ¬ (40 : Int) ≤ op := by omega
    have a3 : ¬ (op : Int) ≤ 18 := by omega
    have a4 : (op : Int) ≤ 39 := by omega
    have a5 : (op : Int) ≤ 54 := by omega
    have a6 : ¬ (op : Int) = 23 := by omega
    have a7 : ¬ (op : Int) = 24 := by omega
    have a8 : ¬ (op : Int) = 28 := by omega
    have a9 : ¬ (op : Int) = 66 := by omega
    have a10 : ¬ (op : Int) = 67 := by omega
    have a11 : ¬ (op : Int) = 69 := by omega
    simp -dsimp -implicitDefEqProofs [insV, a0, a1, a2, a3, a4, a5, a6, a7, a8, a9, a10, a11]
    exact fin_ret rfl (leave_pure (by simp) h)
  · have hv : writesQ ⟨op, s, t, d, a, imm⟩ = d := by simp only [writesQ]; (repeat' split) <;> omega
    simp only [writesQ] at hv
    rw [hv] at h
    clear hv
    subst hc
    simp -dsimp -implicitDefEqProofs [insV]
    exact fin_ret rfl (leave_pure (by simp) h)
  · have hv : writesQ ⟨op, s, t, d, a, imm⟩ = d := by simp only [writesQ]; (repeat' split) <;> omega
    simp only [writesQ] at hv
    rw [hv] at h
    clear hv
    subst hc
    simp -dsimp -implicitDefEqProofs [insV]
    exact fin_ret rfl (leave_pure (by simp) h)
  · have hv : writesQ ⟨op, s, t, d, a, imm⟩ = 0 := by simp only [writesQ]; (repeat' split) <;> omega
    simp only [writesQ] at hv
    rw [hv] at h
    clear hv
    have a0 : (1 : Int) ≤ op := by omega
    have a1 : ¬ (37 : Int) ≤ op := by omega
    have a2 : ¬ (40 : Int) ≤ op := by omega
    have a3 : ¬ (op : Int) ≤ 18 := by omega
    have a4 : (op : Int) ≤ 39 := by omega
    have a5 : (op : Int) ≤ 54 := by omega
    have a6 : ¬ (op : Int) = 23 := by omega
    have a7 : ¬ (op : Int) = 24 := by omega
    have a8 : ¬ (op : Int) = 28 := by omega
    have a9 : ¬ (op : Int) = 66 := by omega
    have a10 : ¬ (op : Int) = 67 := by omega
    have a11 : ¬ (op : Int) = 69 := by omega
    simp -dsimp -implicitDefEqProofs [insV, a0, a1, a2, a3, a4, a5, a6, a7, a8, a9, a10, a11]
    exact fin_ret rfl (leave_pure (by simp) h)
  · have hv : writesQ ⟨op, s, t, d, a, imm⟩ = d := by simp only [writesQ]; (repeat' split) <;> omega
    simp only [writesQ] at hv
    rw [hv] at h
    clear hv
    subst hc
    simp -dsimp -implicitDefEqProofs [insV]
    exact fin_ret rfl (leave_pure (by simp) h)
  · have hv : writesQ ⟨op, s, t, d, a, imm⟩ = 0 := by simp only [writesQ]; (repeat' split) <;> omega
    simp only [writesQ] at hv
    rw [hv] at h
    clear hv
    have a0 : (1 : Int) ≤ op := by omega
    have a1 : ¬ (37 : Int) ≤ op := by omega
    have a2 : ¬ (40 : Int) ≤ op := by omega
    have a3 : ¬ (op : Int) ≤ 18 := by omega
    have a4 : (op : Int) ≤ 39 := by omega
    have a5 : (op : Int) ≤ 54 := by omega
    have a6 : ¬ (op : Int) = 23 := by omega
    have a7 : ¬ (op : Int) = 24 := by omega
    have a8 : ¬ (op : Int) = 28 := by omega
    have a9 : ¬ (op : Int) = 66 := by omega
    have a10 : ¬ (op : Int) = 67 := by omega
    have a11 : ¬ (op : Int) = 69 := by omega
    simp -dsimp -implicitDefEqProofs [insV, a0, a1, a2, a3, a4, a5, a6, a7, a8, a9, a10, a11]
    exact fin_ret rfl (leave_pure (by simp) h)
  · have hv : writesQ ⟨op, s, t, d, a, imm⟩ = d := by simp only [writesQ]; (repeat' split) <;> omega
    simp only [writesQ] at hv
    rw [hv] at h
    clear hv
    have a0 : (1 : Int) ≤ op := by omega
    have a1 : (37 : Int) ≤ op := by omega
    have a2 : ¬ (40 : Int) ≤ op := by omega
    have a3 : ¬ (op : Int) ≤ 18 := by omega
    have a4 : (op : Int) ≤ 39 := by omega
    have a5 : (op : Int) ≤ 54 := by omega
    have a6 : ¬ (op : Int) = 23 := by omega
    have a7 : ¬ (op : Int) = 24 := by omega
    have a8 : ¬ (op : Int) = 28 := by omega
    have a9 : ¬ (op : Int) = 66 := by omega
    have a10 : ¬ (op : Int) = 67 := by omega
    have a11 : ¬ (op : Int) = 69 := by omega
    simp -dsimp -implicitDefEqProofs [insV, a0, a1, a2, a3, a4, a5, a6, a7, a8, a9, a10, a11]
    exact fin_ret rfl (leave_pure (by simp) h)
  · have hv : writesQ ⟨op, s, t, d, a, imm⟩ = t := by simp only [writesQ]; (repeat' split) <;> omega
    simp only [writesQ] at hv
    rw [hv] at h
    clear hv
    have a0 : (1 : Int) ≤ op := by omega
    have a1 : (37 : Int) ≤ op := by omega
    have a2 : (40 : Int) ≤ op := by omega
    have a3 : ¬ (op : Int) ≤ 18 := by omega
    have a4 : ¬ (op : Int) ≤ 39 := by omega
    have a5 : (op : Int) ≤ 54 := by omega
    have a6 : ¬ (op : Int) = 23 := by omega
    have a7 : ¬ (op : Int) = 24 := by omega
    have a8 : ¬ (op : Int) = 28 := by omega
    have a9 : ¬ (op : Int) = 66 := by omega
    have a10 : ¬ (op : Int) = 67 := by omega
    have a11 : ¬ (op : Int) = 69 := by omega
    simp -dsimp -implicitDefEqProofs [insV, a0, a1, a2, a3, a4, a5, a6, a7, a8, a9, a10, a11]
    exact fin_ret rfl (leave_pure (by simp) h)
  · have hv : writesQ ⟨op, s, t, d, a, imm⟩ = 0 := by simp only [writesQ]; (repeat' split) <;> omega
    simp only [writesQ] at hv
    rw [hv] at h
    clear hv
    have a0 : (1 : Int) ≤ op := by omega
    have a1 : (37 : Int) ≤ op := by omega
    have a2 : (40 : Int) ≤ op := by omega
    have a3 : ¬ (op : Int) ≤ 18 := by omega
    have a4 : ¬ (op : Int) ≤ 39 := by omega
    have a5 : ¬ (op : Int) ≤ 54 := by omega
    have a6 : ¬ (op : Int) = 23 := by omega
    have a7 : ¬ (op : Int) = 24 := by omega
    have a8 : ¬ (op : Int) = 28 := by omega
    have a9 : ¬ (op : Int) = 66 := by omega
    have a10 : ¬ (op : Int) = 67 := by omega
    have a11 : ¬ (op : Int) = 69 := by omega
    simp -dsimp -implicitDefEqProofs [insV, a0, a1, a2, a3, a4, a5, a6, a7, a8, a9, a10, a11]
    exact fin_ret rfl (leave_pure (by simp) h)
  · have hv : writesQ ⟨op, s, t, d, a, imm⟩ = 31 := by simp only [writesQ]; (repeat' split) <;> omega
    simp only [writesQ] at hv
    rw [hv] at h
    clear hv
    subst hc
    simp -dsimp -implicitDefEqProofs [insV]
    exact fin_ret rfl (leave_pure (by simp) h)
  · have hv : writesQ ⟨op, s, t, d, a, imm⟩ = 31 := by simp only [writesQ]; (repeat' split) <;> omega
    simp only [writesQ] at hv
    rw [hv] at h
    clear hv
    subst hc
    simp -dsimp -implicitDefEqProofs [insV]
    exact fin_ret rfl (leave_pure (by simp) h)
  · have hv : writesQ ⟨op, s, t, d, a, imm⟩ = 0 := by simp only [writesQ]; (repeat' split) <;> omega
    simp only [writesQ] at hv
    rw [hv] at h
    clear hv
    subst hc
    simp -dsimp -implicitDefEqProofs [insV]
    exact fin_ret rfl (leave_pure (by simp) h)
  · have hv : writesQ ⟨op, s, t, d, a, imm⟩ = 31 := by simp only [writesQ]; (repeat' split) <;> omega
    simp only [writesQ] at hv
    rw [hv] at h
    clear hv
    subst hc
    simp -dsimp -implicitDefEqProofs [insV]
    exact fin_ret rfl (leave_pure (by simp) h)
  · have hv : writesQ ⟨op, s, t, d, a, imm⟩ = 0 := by simp only [writesQ]; (repeat' split) <;> omega
    simp only [writesQ] at hv
    rw [hv] at h
    clear hv
    have a0 : (1 : Int) ≤ op := by omega
    have a1 : (37 : Int) ≤ op := by omega
    have a2 : (40 : Int) ≤ op := by omega
    have a3 : ¬ (op : Int) ≤ 18 := by omega
    have a4 : ¬ (op : Int) ≤ 39 := by omega
    have a5 : ¬ (op : Int) ≤ 54 := by omega
    have a6 : ¬ (op : Int) = 23 := by omega
    have a7 : ¬ (op : Int) = 24 := by omega
    have a8 : ¬ (op : Int) = 28 := by omega
    have a9 : ¬ (op : Int) = 66 := by omega
    have a10 : ¬ (op : Int) = 67 := by omega
    have a11 : ¬ (op : Int) = 69 := by omega
    simp -dsimp -implicitDefEqProofs [insV, a0, a1, a2, a3, a4, a5, a6, a7, a8, a9, a10, a11]
    exact fin_ret rfl (leave_pure (by simp) h)

set_option maxRecDepth 100000 in
set_option maxHeartbeats 8000000 in
theorem rwrites_tc (i : InsM) (m : Mem) (Q) (h : Q (.int .i64 (writesQ i : Nat)) m) : TC Try.prog 79 [insV i] m Q := by
  refine TC_fn mixed Try.func79 rfl Try.ntmps79 rfl (by decide) (by simp) ?_
  obtain ⟨op, s, t, d, a, imm⟩ := i
  simp only [writesQ] at h
  rcases op_cases op with hc | hc | hc | hc | hc | hc | hc | hc | hc | hc | hc | hc | hc | hc | hc | hc
  · have hv : writesQ ⟨op, s, t, d, a, imm⟩ = 0 := by simp only [writesQ]; (repeat' split) <;> omega
    simp only [writesQ] at hv
    rw [hv] at h
    clear hv
    subst hc
    simp -dsimp -implicitDefEqProofs [insV]
    exact fin_ret rfl (leave_pure (by simp) h)
  · have hv : writesQ ⟨op, s, t, d, a, imm⟩ = d := by simp only [writesQ]; (repeat' split) <;> omega
    simp only [writesQ] at hv
    rw [hv] at h
    clear hv
    have a0 : (1 : Int) ≤ op := by omega
    have a1 : ¬ (37 : Int) ≤ op := by omega
    have a2 : ¬ (40 : Int) ≤ op := by omega
    have a3 : (op : Int) ≤ 18 := by omega
    have a4 : (op : Int) ≤ 39 := by omega
    have a5 : (op : Int) ≤ 54 := by omega
    have a6 : ¬ (op : Int) = 23 := by omega
    have a7 : ¬ (op : Int) = 24 := by omega
    have a8 : ¬ (op : Int) = 28 := by omega
    have a9 : ¬ (op : Int) = 66 := by omega
    have a10 : ¬ (op : Int) = 67 := by omega
    have a11 : ¬ (op : Int) = 69 := by omega
    simp -dsimp -implicitDefEqProofs [insV, a0, a1, a2, a3, a4, a5, a6, a7, a8, a9, a10, a11]
    exact fin_ret rfl (leave_pure (by simp) h)
  · have hv : writesQ ⟨op, s, t, d, a, imm⟩ = 0 := by simp only [writesQ]; (repeat' split) <;> omega
    simp only [writesQ] at hv
    rw [hv] at h
    clear hv
    have a0 : (1 : Int) ≤ op := by omega
    have a1 : ¬ (37 : Int) ≤ op := by omega
    have a2 : ¬ (40 : Int) ≤ op := by omega
    have a3 : ¬ (op : Int) ≤ 18 := by omega
    have a4 : (op : Int) ≤ 39 := by omega
    have a5 : (op : Int) ≤ 54 := by omega
    have a6 : ¬ (op : Int) = 23 := by omega
    have a7 : ¬ (op : Int) = 24 := by omega
    have a8 : ¬ (op : Int) = 28 := by omega
    have a9 : ¬ (op : Int) = 66 := by omega
    have a10 : ¬ (op : Int) = 67 := by omega
    have a11 : ¬ (op : Int) = 69 := by omega
    simp -dsimp -implicitDefEqProofs [insV, a0, a1, a2, a3, a4, a5, a6, a7, a8, a9, a10, a11]
    exact fin_ret rfl (leave_pure (by simp) h)
  · have hv : writesQ ⟨op, s, t, d, a, imm⟩ = d := by simp only [writesQ]; (repeat' split) <;> omega
    simp only [writesQ] at hv
    rw [hv] at h
    clear hv
    subst hc
    simp -dsimp -implicitDefEqProofs [insV]
    exact fin_ret rfl (leave_pure (by simp) h)
  · have hv : writesQ ⟨op, s, t, d, a, imm⟩ = d := by simp only [writesQ]; (repeat' split) <;> omega
    simp only [writesQ] at hv
    rw [hv] at h
    clear hv
    subst hc
    simp -dsimp -implicitDefEqProofs [insV]
    exact fin_ret rfl (leave_pure (by simp) h)
  · have hv : writesQ ⟨op, s, t, d, a, imm⟩ = 0 := by simp only [writesQ]; (repeat' split) <;> omega
    simp only [writesQ] at hv
    rw [hv] at h
    clear hv
    have a0 : (1 : Int) ≤ op := by omega
    have a1 : ¬ (37 : Int) ≤ op := by omega
    have a2 : ¬ (40 : Int) ≤ op := by omega
    have a3 : ¬ (op : Int) ≤ 18 := by omega
    have a4 : (op : Int) ≤ 39 := by omega
    have a5 : (op : Int) ≤ 54 := by omega
    have a6 : ¬ (op : Int) = 23 := by omega
    have a7 : ¬ (op : Int) = 24 := by omega
    have a8 : ¬ (op : Int) = 28 := by omega
    have a9 : ¬ (op : Int) = 66 := by omega
    have a10 : ¬ (op : Int) = 67 := by omega
    have a11 : ¬ (op : Int) = 69 := by omega
    simp -dsimp -implicitDefEqProofs [insV, a0, a1, a2, a3, a4, a5, a6, a7, a8, a9, a10, a11]
    exact fin_ret rfl (leave_pure (by simp) h)
  · have hv : writesQ ⟨op, s, t, d, a, imm⟩ = d := by simp only [writesQ]; (repeat' split) <;> omega
    simp only [writesQ] at hv
    rw [hv] at h
    clear hv
    subst hc
    simp -dsimp -implicitDefEqProofs [insV]
    exact fin_ret rfl (leave_pure (by simp) h)
  · have hv : writesQ ⟨op, s, t, d, a, imm⟩ = 0 := by simp only [writesQ]; (repeat' split) <;> omega
    simp only [writesQ] at hv
    rw [hv] at h
    clear hv
    have a0 : (1 : Int) ≤ op := by omega
    have a1 : ¬ (37 : Int) ≤ op := by omega
    have a2 : ¬ (40 : Int) ≤ op := by omega
    have a3 : ¬ (op : Int) ≤ 18 := by omega
    have a4 : (op : Int) ≤ 39 := by omega
    have a5 : (op : Int) ≤ 54 := by omega
    have a6 : ¬ (op : Int) = 23 := by omega
    have a7 : ¬ (op : Int) = 24 := by omega
    have a8 : ¬ (op : Int) = 28 := by omega
    have a9 : ¬ (op : Int) = 66 := by omega
    have a10 : ¬ (op : Int) = 67 := by omega
    have a11 : ¬ (op : Int) = 69 := by omega
    simp -dsimp -implicitDefEqProofs [insV, a0, a1, a2, a3, a4, a5, a6, a7, a8, a9, a10, a11]
    exact fin_ret rfl (leave_pure (by simp) h)
  · have hv : writesQ ⟨op, s, t, d, a, imm⟩ = d := by simp only [writesQ]; (repeat' split) <;> omega
    simp only [writesQ] at hv
    rw [hv] at h
    clear hv
    have a0 : (1 : Int) ≤ op := by omega
    have a1 : (37 : Int) ≤ op := by omega
    have a2 : ¬ (40 : Int) ≤ op := by omega
    have a3 : ¬ (op : Int) ≤ 18 := by omega
    have a4 : (op : Int) ≤ 39 := by omega
    have a5 : (op : Int) ≤ 54 := by omega
    have a6 : ¬ (op : Int) = 23 := by omega
    have a7 : ¬ (op : Int) = 24 := by omega
    have a8 : ¬ (op : Int) = 28 := by omega
    have a9 : ¬ (op : Int) = 66 := by omega
    have a10 : ¬ (op : Int) = 67 := by omega
    have a11 : ¬ (op : Int) = 69 := by omega
    simp -dsimp -implicitDefEqProofs [insV, a0, a1, a2, a3, a4, a5, a6, a7, a8, a9, a10, a11]
    exact fin_ret rfl (leave_pure (by simp) h)
  · have hv : writesQ ⟨op, s, t, d, a, imm⟩ = t := by simp only [writesQ]; (repeat' split) <;> omega
    simp only [writesQ] at hv
    rw [hv] at h
    clear hv
    have a0 : (1 : Int) ≤ op := by omega
    have a1 : (37 : Int) ≤ op := by omega
    have a2 : (40 : Int) ≤ op := by omega
    have a3 : ¬ (op : Int) ≤ 18 := by omega
    have a4 : ¬ (op : Int) ≤ 39 := by omega
    have a5 : (op : Int) ≤ 54 := by omega
    have a6 : ¬ (op : Int) = 23 := by omega
    have a7 : ¬ (op : Int) = 24 := by omega
    have a8 : ¬ (op : Int) = 28 := by omega
    have a9 : ¬ (op : Int) = 66 := by omega
    have a10 : ¬ (op : Int) = 67 := by omega
    have a11 : ¬ (op : Int) = 69 := by omega
    simp -dsimp -implicitDefEqProofs [insV, a0, a1, a2, a3, a4, a5, a6, a7, a8, a9, a10, a11]
    exact fin_ret rfl (leave_pure (by simp) h)
  · have hv : writesQ ⟨op, s, t, d, a, imm⟩ = 0 := by simp only [writesQ]; (repeat' split) <;> omega
    simp only [writesQ] at hv
    rw [hv] at h
    clear hv
    have a0 : (1 : Int) ≤ op := by omega
    have a1 : (37 : Int) ≤ op := by omega
    have a2 : (40 : Int) ≤ op := by omega
    have a3 : ¬ (op : Int) ≤ 18 := by omega
    have a4 : ¬ (op : Int) ≤ 39 := by omega
    have a5 : ¬ (op : Int) ≤ 54 := by omega
    have a6 : ¬ (op : Int) = 23 := by omega
    have a7 : ¬ (op : Int) = 24 := by omega
    have a8 : ¬ (op : Int) = 28 := by omega
    have a9 : ¬ (op : Int) = 66 := by omega
    have a10 : ¬ (op : Int) = 67 := by omega
    have a11 : ¬ (op : Int) = 69 := by omega
    simp -dsimp -implicitDefEqProofs [insV, a0, a1, a2, a3, a4, a5, a6, a7, a8, a9, a10, a11]
    exact fin_ret rfl (leave_pure (by simp) h)
  · have hv : writesQ ⟨op, s, t, d, a, imm⟩ = 31 := by simp only [writesQ]; (repeat' split) <;> omega
    simp only [writesQ] at hv
    rw [hv] at h
    clear hv
    subst hc
    simp -dsimp -implicitDefEqProofs [insV]
    exact fin_ret rfl (leave_pure (by simp) h)
  · have hv : writesQ ⟨op, s, t, d, a, imm⟩ = 31 := by simp only [writesQ]; (repeat' split) <;> omega
    simp only [writesQ] at hv
    rw [hv] at h
    clear hv
    subst hc
    simp -dsimp -implicitDefEqProofs [insV]
    exact fin_ret rfl (leave_pure (by simp) h)
  · have hv : writesQ ⟨op, s, t, d, a, imm⟩ = 0 := by simp only [writesQ]; (repeat' split) <;> omega
    simp only [writesQ] at hv
    rw [hv] at h
    clear hv
    subst hc
    simp -dsimp -implicitDefEqProofs [insV]
    exact fin_ret rfl (leave_pure (by simp) h)
  · have hv : writesQ ⟨op, s, t, d, a, imm⟩ = 31 := by simp only [writesQ]; (repeat' split) <;> omega
    simp only [writesQ] at hv
    rw [hv] at h
    clear hv
    subst hc
    simp -dsimp -implicitDefEqProofs [insV]
    exact fin_ret rfl (leave_pure (by simp) h)
  · have hv : writesQ ⟨op, s, t, d, a, imm⟩ = 0 := by simp only [writesQ]; (repeat' split) <;> omega
    simp only [writesQ] at hv
    rw [hv] at h
    clear hv
    have a0 : (1 : Int) ≤ op := by omega
    have a1 : (37 : Int) ≤ op := by omega
    have a2 : (40 : Int) ≤ op := by omega
    have a3 : ¬ (op : Int) ≤ 18 := by omega
    have a4 : ¬ (op : Int) ≤ 39 := by omega
    have a5 : ¬ (op : Int) ≤ 54 := by omega
    have a6 : ¬ (op : Int) = 23 := by omega
    have a7 : ¬ (op : Int) = 24 := by omega
    have a8 : ¬ (op : Int) = 28 := by omega
    have a9 : ¬ (op : Int) = 66 := by omega
    have a10 : ¬ (op : Int) = 67 := by omega
    have a11 : ¬ (op : Int) = 69 := by omega
    simp -dsimp -implicitDefEqProofs [insV, a0, a1, a2, a3, a4, a5, a6, a7, a8, a9, a10, a11]
    exact fin_ret rfl (leave_pure (by simp) h)

end Go.Lm
/- table.put, learn; the document's sum, put. -/
set_option linter.unusedSimpArgs false
set_option linter.unusedVariables false
namespace Go.Lm
open Go.Proofs

/-- what is known of a register -/
structure Kn where
  how : Nat
  v : Nat
  deriving DecidableEq
def knV (k : Kn) : Value := .agg #[.int .i64 k.how, .int .u32 k.v]
def noKn : Kn := ⟨0, 0⟩
structure Kn.ok (k : Kn) : Prop where
  how : k.how ≤ 3
  v : k.v < 2 ^ 32

def sumQ (a b : Kn) : Kn :=
  if a.how = 1 then
    (if b.how = 1 then ⟨1, (a.v + b.v) % 2 ^ 32⟩ else if b.how = 2 then ⟨2, (a.v + b.v) % 2 ^ 32⟩ else ⟨2, a.v⟩)
  else if b.how = 1 then
    (if a.how = 2 then ⟨2, (a.v + b.v) % 2 ^ 32⟩ else ⟨2, b.v⟩)
  else noKn
def learnQ (i : InsM) (s t : Kn) : Kn :=
  if i.op = 47 then ⟨1, i.imm * 65536 % 2 ^ 32⟩
  else if i.op = 40 then (if s.how = 1 ∨ s.how = 2 then ⟨s.how, (s.v + i.imm) % 2 ^ 32⟩ else noKn)
  else if i.op = 45 then (if s.how = 1 then ⟨1, s.v ||| i.imm⟩ else noKn)
  else if i.op = 1 ∨ i.op = 9 then sumQ s t
  else if i.op = 51 then (if s.how = 2 then ⟨3, (s.v + i.imm) % 2 ^ 32⟩ else noKn)
  else noKn

theorem addU (a b : Nat) : IntKind.u32.wrap ((a : Int) + (b : Int)) = (((a + b) % 2 ^ 32 : Nat) : Int) := by
  rw [show (a : Int) + (b : Int) = ((a + b : Nat) : Int) by omega, wrap_u32_nat]
theorem shl16V (a : Nat) : ishl .u32 (a : Int) 16 = ((a * 65536 % 2 ^ 32 : Nat) : Int) := by
  have := ishl_nat .u32 (a := a) (n := 16) (by decide)
  rw [show ((16 : Nat) : Int) = (16 : Int) from rfl] at this
  rw [this, wrap_u32_nat]

theorem how_cases {k : Kn} (h : k.ok) : k.how = 0 ∨ k.how = 1 ∨ k.how = 2 ∨ k.how = 3 := by have := h.how; omega

set_option maxRecDepth 100000 in
set_option maxHeartbeats 8000000 in
theorem put_tc (a b : Kn) (ha : a.ok) (hb : b.ok) (m : Mem) (Q) (h : Q (knV (sumQ a b)) m) : TC Try.prog 135 [knV a, knV b] m Q := by
  refine TC_fn mixed Try.func135 rfl Try.ntmps135 rfl (by decide) (by simp) ?_
  have h1 := how_cases ha
  have h2 := how_cases hb
  obtain ⟨ah, av⟩ := a
  obtain ⟨bh, bv⟩ := b
  simp only at h1 h2
  have hcom : (bv + av) % 2 ^ 32 = (av + bv) % 2 ^ 32 := by rw [Nat.add_comm]
  rcases h1 with rfl | rfl | rfl | rfl <;> rcases h2 with rfl | rfl | rfl | rfl
  all_goals
    simp -dsimp -implicitDefEqProofs [knV, addU, undef]
    simp only [sumQ, knV, noKn, Nat.reduceEqDiff, if_true, if_false, hcom] at h
    exact fin_ret (by simp -dsimp; rfl) (leave_pure (by simp) (by first | exact h | simpa [Int.add_comm] using h))

set_option maxRecDepth 100000 in
set_option maxHeartbeats 8000000 in
theorem sum_tc (a b : Kn) (ha : a.ok) (hb : b.ok) (m : Mem) (Q) (h : Q (knV (sumQ a b)) m) : TC Try.prog 137 [knV a, knV b] m Q := by
  refine TC_fn mixed Try.func137 rfl Try.ntmps137 rfl (by decide) (by simp) ?_
  have h1 := how_cases ha
  have h2 := how_cases hb
  obtain ⟨ah, av⟩ := a
  obtain ⟨bh, bv⟩ := b
  simp only at h1 h2
  rcases h1 with rfl | rfl | rfl | rfl <;> rcases h2 with rfl | rfl | rfl | rfl
  all_goals
    simp -dsimp -implicitDefEqProofs [knV, addU, undef]
    simp only [sumQ, knV, noKn, Nat.reduceEqDiff, if_true, if_false] at h
    exact fin_ret (by simp -dsimp; rfl) (leave_pure (by simp) (by first | exact h | simpa [Int.add_comm] using h))
end Go.Lm
/- table.learn; the document's put. -/
set_option linter.unusedSimpArgs false
set_option linter.unusedVariables false
namespace Go.Lm
open Go.Proofs

/-- what is known of each register, in memory -/
def knL (k : Kn) : List Value := [.int .i64 k.how, .int .u32 k.v]
def knsA (f : List Kn) : Array Value := (f.flatMap knL).toArray
theorem knsA_size (f : List Kn) : (knsA f).size = f.length * 2 := flat_size knL 2 (fun _ => rfl) f
theorem knsA_at (f : List Kn) (k : Nat) (hk : k < f.length) : (knsA f).extract (k * 2) (k * 2 + 2) = #[.int .i64 (f[k].how : Nat), .int .u32 (f[k].v : Nat)] :=
  flat_extract knL 2 (fun _ => rfl) f k hk

theorem op_cases2 (op : Nat) : op = 47 ∨ op = 40 ∨ op = 45 ∨ op = 1 ∨ op = 9 ∨ op = 51 ∨ (op ≠ 47 ∧ op ≠ 40 ∧ op ≠ 45 ∧ op ≠ 1 ∧ op ≠ 9 ∧ op ≠ 51) := by omega

set_option maxRecDepth 100000 in
set_option maxHeartbeats 8000000 in
theorem learn_tc (i : InsM) (f : List Kn) (hf : f.length = 32) (hok : ∀ k ∈ f, k.ok) (hs : i.s < 32) (ht : i.t < 32) (himm : i.imm < 2 ^ 32) (m : Mem) (Q)
    (h : Q (knV (learnQ i (f.getD i.s noKn) (f.getD i.t noKn))) m) : TC Try.prog 77 [insV i, .agg (knsA f)] m Q := by
  refine TC_fn mixed Try.func77 rfl Try.ntmps77 rfl (by decide) (by simp) ?_
  obtain ⟨op, s, t, d, a, imm⟩ := i
  simp only at hs ht himm
  have hsz : (knsA f).size = 64 := by rw [knsA_size, hf]
  have has := knsA_at f s (by omega)
  have hat := knsA_at f t (by omega)
  have hks : (f[s]'(by omega)).ok := hok _ (List.getElem_mem _)
  have hkt : (f[t]'(by omega)).ok := hok _ (List.getElem_mem _)
  have e1 : f.getD s noKn = f[s]'(by omega) := by rw [List.getD_eq_getElem?_getD, List.getElem?_eq_getElem (by omega)]; rfl
  have e2 : f.getD t noKn = f[t]'(by omega) := by rw [List.getD_eq_getElem?_getD, List.getElem?_eq_getElem (by omega)]; rfl
  rw [e1, e2] at h
  clear e1 e2
  generalize f[s]'(by omega) = ks at *
  generalize f[t]'(by omega) = kt at *
  have bs : (s : Int) < 32 := by omega
  have bt : (t : Int) < 32 := by omega
  have cs : s * 2 + 2 ≤ 64 := by omega
  have ct : t * 2 + 2 ≤ 64 := by omega
  have hput := put_tc ks kt hks hkt
  have h1 := how_cases hks
  obtain ⟨sh, sv⟩ := ks
  obtain ⟨th, tv⟩ := kt
  have hsv := hks.v
  simp only at h1 has hat hsv
  simp only [knV] at hput
  have hor : ior .u32 (sv : Int) (imm : Int) = ((sv ||| imm : Nat) : Int) := ior_nat .u32 hsv himm
  refine wpc_st fun K hK => ?_
  simp -dsimp [insV]
  refine hK _ _ ?_
  clear hK K
  refine wpc_st fun K hK => ?_
  simp -dsimp [bs, cs, has, hsz]
  refine hK _ _ ?_
  clear hK K
  rcases op_cases2 op with rfl | rfl | rfl | rfl | rfl | rfl | ⟨o1, o2, o3, o4, o5, o6⟩
  · simp -dsimp -implicitDefEqProofs [shl16V]
    simp only [learnQ, if_true, knV] at h
    exact fin_ret (by simp -dsimp; rfl) (leave_pure (by simp) (by first | exact h | simpa using h))
  · rcases h1 with rfl | rfl | rfl | rfl
    all_goals
      simp -dsimp -implicitDefEqProofs [addU]
      simp only [learnQ, Nat.reduceEqDiff, if_true, if_false, knV, noKn, or_self, or_true, true_or, or_false, false_or] at h
      exact fin_ret (by simp -dsimp; rfl) (leave_pure (by simp) (by first | exact h | simpa using h))
  · rcases h1 with rfl | rfl | rfl | rfl
    all_goals
      simp -dsimp -implicitDefEqProofs [hor]
      simp only [learnQ, Nat.reduceEqDiff, if_true, if_false, knV, noKn] at h
      exact fin_ret (by simp -dsimp; rfl) (leave_pure (by simp) (by first | exact h | simpa using h))
  · simp -dsimp -implicitDefEqProofs
    refine draw_go 5 [0, 0, 2, 6, 14, 31, 63] (by kernel_rfl) (by kernel_rfl) ?_
    simp -dsimp -implicitDefEqProofs [bt, ct, hat, hsz]
    refine hput _ _ ?_
    simp only [learnQ, Nat.reduceEqDiff, if_true, if_false, true_or, or_true] at h
    generalize sumQ ⟨sh, sv⟩ ⟨th, tv⟩ = r at *
    obtain ⟨rh, rv⟩ := r
    simp -dsimp -implicitDefEqProofs [knV]
    exact fin_ret (by simp -dsimp; rfl) (leave_pure (by simp) (by first | exact h | simpa [knV] using h))
  · simp -dsimp -implicitDefEqProofs
    refine draw_go 5 [0, 0, 2, 6, 14, 31, 63] (by kernel_rfl) (by kernel_rfl) ?_
    simp -dsimp -implicitDefEqProofs [bt, ct, hat, hsz]
    refine hput _ _ ?_
    simp only [learnQ, Nat.reduceEqDiff, if_true, if_false, true_or, or_true] at h
    generalize sumQ ⟨sh, sv⟩ ⟨th, tv⟩ = r at *
    obtain ⟨rh, rv⟩ := r
    simp -dsimp -implicitDefEqProofs [knV]
    exact fin_ret (by simp -dsimp; rfl) (leave_pure (by simp) (by first | exact h | simpa [knV] using h))
  · rcases h1 with rfl | rfl | rfl | rfl
    all_goals
      simp -dsimp -implicitDefEqProofs [addU]
      simp only [learnQ, Nat.reduceEqDiff, if_true, if_false, knV, noKn, or_self] at h
      exact fin_ret (by simp -dsimp; rfl) (leave_pure (by simp) (by first | exact h | simpa using h))
  · have z1 : ¬ (op : Int) = 47 := by omega
    have z2 : ¬ (op : Int) = 40 := by omega
    have z3 : ¬ (op : Int) = 45 := by omega
    have z4 : ¬ (op : Int) = 1 := by omega
    have z5 : ¬ (op : Int) = 9 := by omega
    have z6 : ¬ (op : Int) = 51 := by omega
    simp -dsimp -implicitDefEqProofs [z1, z2, z3, z4, z5, z6]
    simp only [learnQ, o1, o2, o3, o4, o5, o6, if_false, or_self, knV, noKn] at h
    exact fin_ret (by simp -dsimp; rfl) (leave_pure (by simp) (by first | exact h | simpa using h))

set_option maxRecDepth 100000 in
set_option maxHeartbeats 8000000 in
theorem rput_tc (i : InsM) (ks kt : Kn) (hks : ks.ok) (hkt : kt.ok) (himm : i.imm < 2 ^ 32) (m : Mem) (Q) (h : Q (knV (learnQ i ks kt)) m) : TC Try.prog 80 [insV i, knV ks, knV kt] m Q := by
  refine TC_fn mixed Try.func80 rfl Try.ntmps80 rfl (by decide) (by simp) ?_
  obtain ⟨op, s, t, d, a, imm⟩ := i
  simp only at himm
  have hput := sum_tc ks kt hks hkt
  have h1 := how_cases hks
  obtain ⟨sh, sv⟩ := ks
  obtain ⟨th, tv⟩ := kt
  have hsv := hks.v
  simp only at h1 hsv
  simp only [knV] at hput
  have hor : ior .u32 (sv : Int) (imm : Int) = ((sv ||| imm : Nat) : Int) := ior_nat .u32 hsv himm
  refine wpc_st fun K hK => ?_
  simp -dsimp [insV, knV]
  refine hK _ _ ?_
  clear hK K
  rcases op_cases2 op with rfl | rfl | rfl | rfl | rfl | rfl | ⟨o1, o2, o3, o4, o5, o6⟩
  · simp -dsimp -implicitDefEqProofs [shl16V]
    simp only [learnQ, if_true, knV] at h
    exact fin_ret (by simp -dsimp; rfl) (leave_pure (by simp) (by first | exact h | simpa using h))
  · rcases h1 with rfl | rfl | rfl | rfl
    all_goals
      simp -dsimp -implicitDefEqProofs [addU]
      simp only [learnQ, Nat.reduceEqDiff, if_true, if_false, knV, noKn, or_self, or_true, true_or, or_false, false_or] at h
      exact fin_ret (by simp -dsimp; rfl) (leave_pure (by simp) (by first | exact h | simpa using h))
  · rcases h1 with rfl | rfl | rfl | rfl
    all_goals
      simp -dsimp -implicitDefEqProofs [hor]
      simp only [learnQ, Nat.reduceEqDiff, if_true, if_false, knV, noKn] at h
      exact fin_ret (by simp -dsimp; rfl) (leave_pure (by simp) (by first | exact h | simpa using h))
  · simp -dsimp -implicitDefEqProofs
    refine hput _ _ ?_
    simp only [learnQ, Nat.reduceEqDiff, if_true, if_false, true_or, or_true] at h
    generalize sumQ ⟨sh, sv⟩ ⟨th, tv⟩ = r at *
    obtain ⟨rh, rv⟩ := r
    simp -dsimp -implicitDefEqProofs
    exact fin_ret (by simp -dsimp; rfl) (leave_pure (by simp) (by first | exact h | simpa [knV] using h))
  · simp -dsimp -implicitDefEqProofs
    refine hput _ _ ?_
    simp only [learnQ, Nat.reduceEqDiff, if_true, if_false, true_or, or_true] at h
    generalize sumQ ⟨sh, sv⟩ ⟨th, tv⟩ = r at *
    obtain ⟨rh, rv⟩ := r
    simp -dsimp -implicitDefEqProofs
    exact fin_ret (by simp -dsimp; rfl) (leave_pure (by simp) (by first | exact h | simpa [knV] using h))
  · rcases h1 with rfl | rfl | rfl | rfl
    all_goals
      simp -dsimp -implicitDefEqProofs [addU]
      simp only [learnQ, Nat.reduceEqDiff, if_true, if_false, knV, noKn, or_self] at h
      exact fin_ret (by simp -dsimp; rfl) (leave_pure (by simp) (by first | exact h | simpa using h))
  · have z1 : ¬ (op : Int) = 47 := by omega
    have z2 : ¬ (op : Int) = 40 := by omega
    have z3 : ¬ (op : Int) = 45 := by omega
    have z4 : ¬ (op : Int) = 1 := by omega
    have z5 : ¬ (op : Int) = 9 := by omega
    have z6 : ¬ (op : Int) = 51 := by omega
    simp -dsimp -implicitDefEqProofs [z1, z2, z3, z4, z5, z6]
    simp only [learnQ, o1, o2, o3, o4, o5, o6, if_false, or_self, knV, noKn] at h
    exact fin_ret (by simp -dsimp; rfl) (leave_pure (by simp) (by first | exact h | simpa using h))

theorem sumQ_ok {a b : Kn} (ha : a.ok) (hb : b.ok) : (sumQ a b).ok := by
  have h1 := ha.v; have h2 := hb.v
  unfold sumQ noKn
  (repeat' split) <;> exact ⟨by simp only; omega, by simp only; omega⟩
theorem learnQ_ok {i : InsM} {a b : Kn} (ha : a.ok) (hb : b.ok) (hi : i.imm < 2 ^ 32) : (learnQ i a b).ok := by
  have h1 := ha.v; have h2 := hb.v; have h3 := ha.how
  have h4 : a.v ||| i.imm < 2 ^ 32 := Nat.or_lt_two_pow h1 hi
  have h5 := sumQ_ok ha hb
  unfold learnQ noKn
  (repeat' split) <;> first | exact h5 | exact ⟨by simp only; omega, by simp only; omega⟩ | exact ⟨h3, by simp only; omega⟩ | exact ⟨by decide, h4⟩
end Go.Lm
/- What Find tells: the plain function; and small facts. -/
set_option linter.unusedSimpArgs false
set_option linter.unusedVariables false
namespace Go.Lm
open Go.Proofs

def stepQ (f : List Kn) (w : Nat) : List Kn :=
  if writesQ (decQ w) = 0 then f else f.set (writesQ (decQ w)) (learnQ (decQ w) (f.getD (decQ w).s noKn) (f.getD (decQ w).t noKn))
def initK : List Kn := ⟨1, 0⟩ :: List.replicate 31 noKn
def knownQ (l : List Nat) : List Kn := l.foldl stepQ initK
def lastQ (l : List Nat) : InsM := decQ (l.getD (l.length - 2) 0)
def findQ (l : List Nat) : Nat × Bool :=
  if jumpsB l = false then (0, false) else if (lastQ l).op ≠ 27 then (0, false) else
  let k := (knownQ (l.take (l.length - 2))).getD (lastQ l).s noKn
  if k.how = 3 then (k.v, true) else (0, false)

structure InsM.low (i : InsM) : Prop where
  s : i.s < 32
  t : i.t < 32
  d : i.d < 32
  imm : i.imm < 2 ^ 32
theorem decQ_low (w : Nat) : (decQ w).low := by
  have hf : ∀ at_, fl w at_ 5 < 32 := fun at_ => Nat.mod_lt _ (by decide)
  by_cases h : (decQ w).op = 0
  · rw [dec_zero h]; exact ⟨by decide, by decide, by decide, by decide⟩
  · refine ⟨?_, ?_, ?_, decQ_imm w⟩
    all_goals
      obtain ⟨r, _, _, _, h⟩ := dec_some h
      rw [h]
      unfold formQ
      repeat' split
      all_goals first | exact hf _ | (simp only; omega)
theorem writes_lt {i : InsM} (h : i.low) : writesQ i < 32 := by
  have := h.t; have := h.d
  unfold writesQ
  repeat' split
  all_goals omega

structure KnsOk (f : List Kn) : Prop where
  len : f.length = 32
  ok : ∀ k ∈ f, k.ok
theorem KnsOk.at {f : List Kn} (h : KnsOk f) {j : Nat} (hj : j < 32) : (f.getD j noKn).ok := by
  rw [List.getD_eq_getElem?_getD, List.getElem?_eq_getElem (by rw [h.len]; exact hj)]
  exact h.ok _ (List.getElem_mem _)
theorem initK_ok : KnsOk initK := by
  refine ⟨rfl, fun k hk => ?_⟩
  simp only [initK, List.mem_cons, List.mem_replicate] at hk
  rcases hk with rfl | ⟨_, rfl⟩ <;> exact ⟨by decide, by decide⟩
theorem stepQ_ok {f : List Kn} (h : KnsOk f) (w : Nat) : KnsOk (stepQ f w) := by
  have hl := decQ_low w
  unfold stepQ
  by_cases hz : writesQ (decQ w) = 0
  · rw [if_pos hz]; exact h
  · rw [if_neg hz]
    refine ⟨by rw [List.length_set]; exact h.len, fun k hk => ?_⟩
    rcases List.mem_or_eq_of_mem_set hk with hk | rfl
    · exact h.ok k hk
    · exact learnQ_ok (h.at hl.s) (h.at hl.t) hl.imm
theorem knownQ_ok (l : List Nat) : KnsOk (knownQ l) := by
  unfold knownQ
  have : ∀ (l : List Nat) (f : List Kn), KnsOk f → KnsOk (l.foldl stepQ f) := by
    intro l
    induction l with
    | nil => exact fun f h => h
    | cons a l ih => exact fun f h => ih _ (stepQ_ok h a)
  exact this l _ initK_ok
theorem knownQ_snoc (l : List Nat) (k : Nat) (h : k < l.length) : knownQ (l.take (k + 1)) = stepQ (knownQ (l.take k)) (l.getD k 0) := by
  have e : l.take (k + 1) = l.take k ++ [l.getD k 0] := by
    rw [List.take_add_one, List.getElem?_eq_getElem h, List.getD_eq_getElem?_getD, List.getElem?_eq_getElem h]; rfl
  unfold knownQ
  rw [e, List.foldl_append]; rfl

/-- one register's two cells -/
theorem knsA_get (f : List Kn) (k : Nat) (hk : k < f.length) : (knsA f)[k * 2]? = some (.int .i64 (f[k].how : Nat)) ∧ (knsA f)[k * 2 + 1]? = some (.int .u32 (f[k].v : Nat)) := by
  have h := knsA_at f k hk
  have hs := knsA_size f
  have g (j : Nat) (hj : j < 2) : (knsA f)[k * 2 + j]? = (#[Value.int .i64 (f[k].how : Nat), .int .u32 (f[k].v : Nat)] : Array Value)[j]? := by
    rw [← h, Array.getElem?_extract]
    rw [if_pos (by rw [hs]; omega)]
  exact ⟨g 0 (by decide), g 1 (by decide)⟩
theorem knsA_set (f : List Kn) (k : Nat) (hk : k < f.length) (x : Kn) : ((knsA f).setIfInBounds (k * 2) (.int .i64 x.how)).setIfInBounds (k * 2 + 1) (.int .u32 x.v) = knsA (f.set k x) := by
  apply Array.ext_getElem?
  intro i
  have hs := knsA_size f
  have hs2 := knsA_size (f.set k x)
  rw [List.length_set] at hs2
  rw [Array.getElem?_setIfInBounds, Array.getElem?_setIfInBounds, Array.size_setIfInBounds]
  by_cases hi : i < f.length * 2
  · have hj : i / 2 < f.length := by omega
    obtain ⟨g1, g2⟩ := knsA_get (f.set k x) (i / 2) (by rw [List.length_set]; exact hj)
    obtain ⟨q1, q2⟩ := knsA_get f (i / 2) hj
    have hpar : i = i / 2 * 2 ∨ i = i / 2 * 2 + 1 := by omega
    by_cases hk2 : i / 2 = k
    · have hx : (f.set k x)[i / 2]'(by rw [List.length_set]; exact hj) = x := by
        simp only [hk2, List.getElem_set_self]
      rw [hx] at g1 g2
      rcases hpar with hp | hp
      · rw [if_neg (by omega), if_pos (by omega), if_pos (by omega)]
        rw [← hp] at g1; exact g1.symm
      · rw [if_pos (by omega), if_pos (by omega)]
        rw [← hp] at g2; exact g2.symm
    · have hx : (f.set k x)[i / 2]'(by rw [List.length_set]; exact hj) = f[i / 2] := by
        rw [List.getElem_set_ne (fun e => hk2 e.symm)]
      rw [hx] at g1 g2
      rw [if_neg (by omega), if_neg (by omega)]
      rcases hpar with hp | hp
      · rw [← hp] at g1 q1; rw [g1, q1]
      · rw [← hp] at g2 q2; rw [g2, q2]
  · rw [if_neg (by omega), if_neg (by omega), Array.getElem?_eq_none (by omega), Array.getElem?_eq_none (by omega)]
end Go.Lm
/- table.Find. -/
set_option linter.unusedSimpArgs false
set_option linter.unusedVariables false
namespace Go.Lm
open Go.Proofs

def findI (m : Mem) (l : List Nat) (v : Value) (lc : Value) (o1 : Ob) (n : Nat) (env : Env) (m' : Mem) : Prop :=
  ∃ k, k ≤ l.length - 2 ∧ n = l.length - 2 - k ∧ elook env 4 = some (.pointer (some ⟨m.top, 0, none⟩)) ∧ elook env 5 = some (.pointer (some ⟨m.top + 1, 0, none⟩)) ∧ elook env 30 = some lc ∧ elook env 31 = some (.int .i64 (l.length - 2 : Nat)) ∧
  elook env 32 = some (.int .i64 k) ∧ ∃ g, m' = { base := m.get, n := m.top, loc := o1 :: .cells false 0 (knsA (knownQ (l.take k))) :: g }

theorem kns0 : ((zrep 32 [Value.int .i64 0, Value.int .u32 0]).setIfInBounds 0 (.int .i64 1)).setIfInBounds 1 (.int .u32 0) = knsA (knownQ []) := by kernel_rfl

set_option maxRecDepth 100000 in
set_option maxHeartbeats 8000000 in
theorem find_tc (l : List Nat) (v : Value) (m : Mem) (hw : WordsAt m v l) (Q) (h : Q (.tuple #[.int .u32 ((findQ l).1 : Nat), .bool (findQ l).2]) m) : TC Try.prog 30 [v] m Q := by
  refine TC_fn mixed Try.func30 rfl Try.ntmps30 rfl (by decide) (by simp) ?_
  have hj : ∀ Q, Q (.bool (jumpsB l)) { base := m.get, n := m.top, loc := [] } → TC Try.prog 75 [v] { base := m.get, n := m.top, loc := [] } Q := fun Q h => jumpsB_tc l v _ (WordsAt_enter hw []) Q h
  obtain ⟨hlt, hw⟩ := hw
  have hJ : jumpsB l = true → 2 ≤ l.length ∧ l.length ≤ 16 := fun e => by
    unfold jumpsB at e
    simp only [Bool.and_eq_true, decide_eq_true_eq] at e
    obtain ⟨⟨e1, e2⟩, _⟩ := e
    have := jumpsB_lt e1
    omega
  unfold findQ at h
  generalize jumpsB l = J at hj hJ h
  refine wpc_st fun K hK => ?_
  simp -dsimp
  refine hK _ _ ?_
  clear hK K
  cases J with
  | false =>
    simp -dsimp
    refine hj _ ?_
    simp -dsimp
    simp only [if_true] at h
    exact fin_ret rfl (leave_pure (by simp) h)
  | true =>
  obtain ⟨hl2, hl16⟩ := hJ rfl
  rw [if_neg (by decide)] at h
  refine wpc_sq fun K hK => ?_
  simp -dsimp
  refine hj _ ?_
  simp -dsimp
  refine hK _ _ ?_
  clear hK K hj hJ
  rcases hw with ⟨rfl, rfl⟩ | ⟨k0, off, cap, ro, c, rfl, hcap, hm, hsz, hc⟩
  · simp at hl2
  have htop := lt_cells hm
  obtain ⟨L, hL⟩ : ∃ L, L = l.length - 2 := ⟨_, rfl⟩
  have hkw : IntKind.i64.wrap ((l.length : Int) - 2) = ((L : Nat) : Int) := by rw [wI64 (by omega) (by omega)]; omega
  have hlt2 : (L : Int) < l.length := by omega
  have hlt3 : L ≤ cap := by omega
  have hget := words_get hc (j := L) (by omega)
  have hlow := decQ_low (l.getD L 0)
  have hdec := dec_tcG (l.getD L 0) (words_lt hlt L) rfl
  unfold lastQ at h
  rw [← hL] at h
  generalize decQ (l.getD L 0) = D at hdec hlow h
  generalize l.getD L 0 = x at hget hdec
  obtain ⟨d1, d2, d3, d4, d5, d6⟩ := D
  simp only at h
  refine wpc_st fun K hK => ?_
  simp -dsimp [hkw, hlt2, get_base, htop, hm, hget]
  refine hdec _ _ ?_
  simp -dsimp [insV]
  refine hK _ _ ?_
  clear hK K hdec hget
  by_cases hop : d1 ≠ 27
  · have hop' : ¬ (d1 : Int) = 27 := by omega
    rw [if_pos hop] at h
    simp -dsimp [hop']
    exact fin_ret (v := .tuple #[.int .u32 0, .bool false]) (by simp -dsimp) (leave_pure (by simp) h)
  rw [if_neg hop] at h
  have hop' : d1 = 27 := by omega
  subst hop'
  refine wpc_sq fun K hK => ?_
  simp -dsimp
  refine hK _ _ ?_
  clear hK K
  refine wpc_st fun K hK => ?_
  simp -dsimp
  refine hK _ _ ?_
  clear hK K
  refine wpc_st fun K hK => ?_
  simp -dsimp [kns0]
  refine hK _ _ ?_
  clear hK K
  refine wpc_mid (fun env m' => ∃ n, findI m l (.slice (some ⟨k0, off, none⟩) l.length cap) (.slice (some ⟨k0, off, none⟩) L cap) (.cells false 0 #[.int .i64 (27 : Nat), .int .i64 d2, .int .i64 d3, .int .i64 d4, .int .i64 d5, .int .u32 d6]) n env m' ∧ elook env 32 = some (.int .i64 L)) ?_ ?_
  · refine wpc_st fun K hK => ?_
    simp -dsimp [hkw, hlt3, get_base, htop, hm]
    refine hK _ _ ?_
    clear hK K
    simp -dsimp
    refine loop_by (findI m l (.slice (some ⟨k0, off, none⟩) l.length cap) (.slice (some ⟨k0, off, none⟩) L cap) (.cells false 0 #[.int .i64 (27 : Nat), .int .i64 d2, .int .i64 d3, .int .i64 d4, .int .i64 d5, .int .u32 d6])) L ?_ ?_
    · refine ⟨0, by omega, by omega, ?_⟩
      simp -dsimp [← hL]
    rintro n env m' ⟨k, hk, rfl, e4, e5, e30, e31, e32, g, rfl⟩
    rw [← hL] at hk e31
    by_cases hkk : k < L
    · have hkk' : (k : Int) < L := by omega
      have hget := words_get hc (j := k) (by omega)
      have hx := words_lt hlt k
      have hdec := dec_tcG (l.getD k 0) hx rfl
      have hlow := decQ_low (l.getD k 0)
      have hsn := knownQ_snoc l k (by omega)
      have hok := knownQ_ok (l.take k)
      have hkw1 : IntKind.i64.wrap ((k : Int) + 1) = ((k + 1 : Nat) : Int) := wI64 (by omega) (by omega)
      unfold stepQ at hsn
      generalize l.getD k 0 = y at *
      generalize decQ y = D at *
      generalize knownQ (l.take k) = F at *
      have hwl := writes_lt hlow
      have hwr := writes_tc D
      have hle := learn_tc D F hok.len hok.ok hlow.s hlow.t hlow.imm
      have hset := knsA_set F (writesQ D) (by rw [hok.len]; exact hwl) (learnQ D (F.getD D.s noKn) (F.getD D.t noKn))
      have hFs : (knsA F).size = 64 := by rw [knsA_size, hok.len]
      generalize learnQ D (F.getD D.s noKn) (F.getD D.t noKn) = R at *
      generalize hW : writesQ D = W at *
      obtain ⟨i1, i2, i3, i4, i5, i6⟩ := D
      obtain ⟨rh, rv⟩ := R
      simp only [insV, knV] at hdec hwr hle
      refine wpc_st fun K hK => ?_
      simp -dsimp [e31, e32, hkk']
      refine hK _ _ ?_
      clear hK K
      refine wpc_sq fun K hK => ?_
      simp -dsimp
      refine hK _ _ ?_
      clear hK K
      refine wpc_mid (fun env' m' => elook env' 4 = elook env 4 ∧ elook env' 5 = elook env 5 ∧ elook env' 30 = elook env 30 ∧ elook env' 31 = elook env 31 ∧ elook env' 32 = elook env 32 ∧
        ∃ g, m' = { base := m.get, n := m.top, loc := .cells false 0 #[.int .i64 (27 : Nat), .int .i64 d2, .int .i64 d3, .int .i64 d4, .int .i64 d5, .int .u32 d6] :: .cells false 0 (knsA (knownQ (l.take (k + 1)))) :: g }) ?_ ?_
      · rw [wpc_block]
        refine wpc_st fun K hK => ?_
        simp -dsimp [e4, e5, e30, e31, e32, hkk', get_base, htop, hm, hget]
        refine hK _ _ ?_
        clear hK K
        refine wpc_st fun K hK => ?_
        simp -dsimp
        refine hdec _ _ ?_
        simp -dsimp
        refine hK _ _ ?_
        clear hK K hdec
        refine wpc_st fun K hK => ?_
        simp -dsimp
        refine hwr _ _ ?_
        simp -dsimp
        refine hK _ _ ?_
        clear hK K hwr
        by_cases hW0 : W = 0
        · subst hW0
          rw [if_pos rfl] at hsn
          simp -dsimp
          rw [hsn]
        · rw [if_neg hW0] at hsn
          have hW0' : ¬ (W : Int) = 0 := by omega
          have hW32 : (W : Int) < 32 := by omega
          have hWs : W * 2 + 2 ≤ 64 := by omega
          have hFe : (knsA F).extract 0 64 = knsA F := by rw [← hFs, Array.extract_size]
          simp -dsimp [hW0, hW0', e5, hFs, hFe]
          refine hle _ _ ?_
          simp -dsimp [hW32, e5, hFs, hWs]
          rw [hsn, ← hset]
      rintro env' m' ⟨q4, q5, q30, q31, q32, g', rfl⟩
      rw [e4] at q4; rw [e5] at q5; rw [e30] at q30; rw [e31] at q31; rw [e32] at q32
      simp -dsimp [q32, hkw1]
      refine ⟨l.length - 2 - (k + 1), by omega, k + 1, by omega, rfl, ?_⟩
      simp -dsimp [q4, q5, q30, q31, ← hL]
    · have hk9 : k = L := by omega
      have hkk' : ¬ (k : Int) < L := by omega
      simp -dsimp [e31, e32, hkk']
      refine ⟨⟨0, k, by omega, by omega, ?_⟩, ?_⟩
      · simp -dsimp [e4, e5, e30, e31, e32, ← hL]
      · simp -dsimp [e32, hk9]
  rintro env m' ⟨n, ⟨k, hk, rfl, e4, e5, e30, e31, e32, g, rfl⟩, e32'⟩
  have hk9 : k = L := by
    rw [e32] at e32'
    simp only [Option.some.injEq, Value.int.injEq, true_and] at e32'
    omega
  subst hk9
  have hok := knownQ_ok (l.take k)
  generalize knownQ (l.take k) = F at *
  have hd2 : d2 < 32 := hlow.s
  have hFs : (knsA F).size = 64 := by rw [knsA_size, hok.len]
  have hat := knsA_at F d2 (by rw [hok.len]; exact hd2)
  have hgd : F.getD d2 noKn = F[d2]'(by rw [hok.len]; exact hd2) := by rw [List.getD_eq_getElem?_getD, List.getElem?_eq_getElem (by rw [hok.len]; exact hd2)]; rfl
  have hkn := hok.at hd2
  rw [hgd] at h hkn
  clear hgd
  generalize F[d2]'(by rw [hok.len]; exact hd2) = X at *
  obtain ⟨xh, xv⟩ := X
  have hd2' : (d2 : Int) < 32 := by omega
  have hd2s : d2 * 2 + 2 ≤ 64 := by omega
  simp only at h hat
  refine wpc_st fun K hK => ?_
  simp -dsimp [e4, e5, hd2', hFs, hd2s, hat]
  refine hK _ _ ?_
  clear hK K
  by_cases hxh : xh = 3
  · subst hxh
    rw [if_pos rfl] at h
    simp -dsimp
    exact fin_ret rfl (leave_pure (by simp) h)
  · have hxh' : ¬ (xh : Int) = 3 := by omega
    rw [if_neg hxh] at h
    simp -dsimp [hxh']
    exact fin_ret (v := .tuple #[.int .u32 0, .bool false]) (by simp -dsimp) (leave_pure (by simp) h)
end Go.Lm
/- calqueref16.Find. -/
set_option linter.unusedSimpArgs false
set_option linter.unusedVariables false
namespace Go.Lm
open Go.Proofs

def rfindI (m : Mem) (l : List Nat) (v : Value) (n : Nat) (env : Env) (m' : Mem) : Prop :=
  ∃ k, k ≤ l.length - 2 ∧ n = l.length - 2 - k ∧ elook env 0 = some v ∧ elook env 4 = some (.pointer (some ⟨m.top, 0, none⟩)) ∧ elook env 5 = some (.int .i64 k) ∧
  ∃ g, m' = { base := m.get, n := m.top, loc := .cells false 0 (knsA (knownQ (l.take k))) :: g }

set_option maxRecDepth 100000 in
set_option maxHeartbeats 8000000 in
theorem rtfind_tc (l : List Nat) (v : Value) (m : Mem) (hw : WordsAt m v l) (Q) (h : Q (.tuple #[.int .u32 ((findQ l).1 : Nat), .bool (findQ l).2]) m) : TC Try.prog 31 [v] m Q := by
  refine TC_fn mixed Try.func31 rfl Try.ntmps31 rfl (by decide) (by simp) ?_
  have hj : ∀ Q, Q (.bool (jumpsB l)) { base := m.get, n := m.top, loc := [] } → TC Try.prog 78 [v] { base := m.get, n := m.top, loc := [] } Q := fun Q h => rjumpsB_tc l v _ (WordsAt_enter hw []) Q h
  obtain ⟨hlt, hw⟩ := hw
  have hJ : jumpsB l = true → 2 ≤ l.length ∧ l.length ≤ 16 := fun e => by
    unfold jumpsB at e
    simp only [Bool.and_eq_true, decide_eq_true_eq] at e
    obtain ⟨⟨e1, e2⟩, _⟩ := e
    have := jumpsB_lt e1
    omega
  unfold findQ at h
  generalize jumpsB l = J at hj hJ h
  refine wpc_st fun K hK => ?_
  simp -dsimp
  refine hK _ _ ?_
  clear hK K
  cases J with
  | false =>
    simp -dsimp
    refine hj _ ?_
    simp -dsimp
    simp only [if_true] at h
    exact fin_ret rfl (leave_pure (by simp) h)
  | true =>
  obtain ⟨hl2, hl16⟩ := hJ rfl
  rw [if_neg (by decide)] at h
  rcases hw with ⟨rfl, rfl⟩ | ⟨k0, off, cap, ro, c, rfl, hcap, hm, hsz, hc⟩
  · simp at hl2
  have htop := lt_cells hm
  obtain ⟨L, hL⟩ : ∃ L, L = l.length - 2 := ⟨_, rfl⟩
  have hkw : IntKind.i64.wrap ((l.length : Int) - 2) = ((L : Nat) : Int) := by rw [wI64 (by omega) (by omega)]; omega
  have hlt2 : (L : Int) < l.length := by omega
  have hlt3 : L ≤ cap := by omega
  have hgetL := words_get hc (j := L) (by omega)
  have hlow := decQ_low (l.getD L 0)
  have hdecL := rdec_tcG (l.getD L 0) (words_lt hlt L) rfl
  unfold lastQ at h
  rw [← hL] at h
  generalize decQ (l.getD L 0) = D at hdecL hlow h
  generalize l.getD L 0 = x at hgetL hdecL
  obtain ⟨d1, d2, d3, d4, d5, d6⟩ := D
  simp only at h
  simp only [insV] at hdecL
  refine wpc_sq fun K hK => ?_
  simp -dsimp
  refine hj _ ?_
  simp -dsimp [hkw, hlt2, get_base, htop, hm, hgetL]
  refine hdecL _ _ ?_
  by_cases hop : d1 ≠ 27
  · have hop' : ¬ (d1 : Int) = 27 := by omega
    rw [if_pos hop] at h
    simp -dsimp [hop']
    exact fin_ret (v := .tuple #[.int .u32 0, .bool false]) (by simp -dsimp) (leave_pure (by simp) h)
  rw [if_neg hop] at h
  have hop' : d1 = 27 := by omega
  subst hop'
  simp -dsimp
  refine hK _ _ ?_
  clear hK K hj hJ
  refine wpc_st fun K hK => ?_
  simp -dsimp
  refine hK _ _ ?_
  clear hK K
  refine wpc_st fun K hK => ?_
  simp -dsimp [kns0]
  refine hK _ _ ?_
  clear hK K
  refine wpc_mid (fun env m' => ∃ n, rfindI m l (.slice (some ⟨k0, off, none⟩) l.length cap) n env m' ∧ elook env 5 = some (.int .i64 L)) ?_ ?_
  · refine wpc_st fun K hK => ?_
    simp -dsimp
    refine hK _ _ ?_
    clear hK K
    simp -dsimp
    refine loop_by (rfindI m l (.slice (some ⟨k0, off, none⟩) l.length cap)) L ?_ ?_
    · refine ⟨0, by omega, by omega, ?_⟩
      simp -dsimp [← hL]
    rintro n env m' ⟨k, hk, rfl, e0, e4, e5, g, rfl⟩
    rw [← hL] at hk
    by_cases hkk : k < L
    · have hkk' : (k : Int) < L := by omega
      have hkl' : (k : Int) < l.length := by omega
      have hget := words_get hc (j := k) (by omega)
      have hx := words_lt hlt k
      have hdec := rdec_tcG (l.getD k 0) hx rfl
      have hlow := decQ_low (l.getD k 0)
      have hsn := knownQ_snoc l k (by omega)
      have hok := knownQ_ok (l.take k)
      have hkw1 : IntKind.i64.wrap ((k : Int) + 1) = ((k + 1 : Nat) : Int) := wI64 (by omega) (by omega)
      unfold stepQ at hsn
      generalize l.getD k 0 = y at *
      generalize decQ y = D at *
      generalize knownQ (l.take k) = F at *
      have hwl := writes_lt hlow
      have hwr := rwrites_tc D
      have hok1 := hok.at hlow.s
      have hok2 := hok.at hlow.t
      have hat1 := knsA_at F D.s (by rw [hok.len]; exact hlow.s)
      have hat2 := knsA_at F D.t (by rw [hok.len]; exact hlow.t)
      have g1 : F.getD D.s noKn = F[D.s]'(by rw [hok.len]; exact hlow.s) := by rw [List.getD_eq_getElem?_getD, List.getElem?_eq_getElem (by rw [hok.len]; exact hlow.s)]; rfl
      have g2 : F.getD D.t noKn = F[D.t]'(by rw [hok.len]; exact hlow.t) := by rw [List.getD_eq_getElem?_getD, List.getElem?_eq_getElem (by rw [hok.len]; exact hlow.t)]; rfl
      rw [← g1] at hat1; rw [← g2] at hat2
      clear g1 g2
      have hle := rput_tc D _ _ hok1 hok2 hlow.imm
      have hset := knsA_set F (writesQ D) (by rw [hok.len]; exact hwl) (learnQ D (F.getD D.s noKn) (F.getD D.t noKn))
      have hFs : (knsA F).size = 64 := by rw [knsA_size, hok.len]
      have hs1 := hlow.s; have hs2 := hlow.t
      generalize learnQ D (F.getD D.s noKn) (F.getD D.t noKn) = R at *
      generalize F.getD D.s noKn = ks at *
      generalize F.getD D.t noKn = kt at *
      generalize hW : writesQ D = W at *
      obtain ⟨i1, i2, i3, i4, i5, i6⟩ := D
      obtain ⟨rh, rv⟩ := R
      obtain ⟨ksh, ksv⟩ := ks
      obtain ⟨kth, ktv⟩ := kt
      simp only at hs1 hs2
      simp only [insV, knV] at hdec hwr hle hat1 hat2
      have hs1' : (i2 : Int) < 32 := by omega
      have hs2' : (i3 : Int) < 32 := by omega
      have hb1 : i2 * 2 + 2 ≤ 64 := by omega
      have hb2 : i3 * 2 + 2 ≤ 64 := by omega
      refine wpc_sq fun K hK => ?_
      simp -dsimp [e0, e5, hkw, hkk']
      refine hK _ _ ?_
      clear hK K
      refine wpc_mid (fun env' m' => elook env' 0 = elook env 0 ∧ elook env' 4 = elook env 4 ∧ elook env' 5 = elook env 5 ∧
        ∃ g, m' = { base := m.get, n := m.top, loc := .cells false 0 (knsA (knownQ (l.take (k + 1)))) :: g }) ?_ ?_
      · rw [wpc_block]
        refine wpc_st fun K hK => ?_
        simp -dsimp [e0, e4, e5, hkk', hkl', get_base, htop, hm, hget]
        refine hdec _ _ ?_
        simp -dsimp
        refine hK _ _ ?_
        clear hK K hdec
        refine wpc_st fun K hK => ?_
        simp -dsimp
        refine hwr _ _ ?_
        simp -dsimp
        refine hK _ _ ?_
        clear hK K hwr
        by_cases hW0 : W = 0
        · subst hW0
          rw [if_pos rfl] at hsn
          simp -dsimp
          rw [hsn]
        · rw [if_neg hW0] at hsn
          have hW0' : (0 : Int) < W := by omega
          have hW0'' : 0 < W := by omega
          have hW32 : (W : Int) < 32 := by omega
          have hWs : W * 2 + 2 ≤ 64 := by omega
          simp -dsimp [hW0', hW0'', e4]
          refine draw_go 11 [0, 0, 0, 4, 12, 28, 0, 64, 192, 448, 1022, 2047, 4095] (by kernel_rfl) (by kernel_rfl) ?_
          simp -dsimp -implicitDefEqProofs [e4, hFs, hs1', hs2', hb1, hb2, hat1, hat2]
          refine .inl ⟨_, fun m' _ => hle _ _ ⟨rfl, rfl⟩, drw_go ?_⟩
          simp -dsimp -implicitDefEqProofs [hW32, e4, hFs, hWs]
          rw [hsn, ← hset]
      rintro env' m' ⟨q0, q4, q5, g', rfl⟩
      rw [e0] at q0; rw [e4] at q4; rw [e5] at q5
      simp -dsimp [q5, hkw1]
      refine ⟨l.length - 2 - (k + 1), by omega, k + 1, by omega, rfl, ?_⟩
      simp -dsimp [q0, q4]
    · have hk9 : k = L := by omega
      have hkk' : ¬ (k : Int) < L := by omega
      simp -dsimp [e0, e5, hkw, hkk']
      refine ⟨⟨0, k, by omega, by omega, ?_⟩, ?_⟩
      · simp -dsimp [e0, e4, e5, ← hL]
      · simp -dsimp [e5, hk9]
  rintro env m' ⟨n, ⟨k, hk, rfl, e0, e4, e5, g, rfl⟩, e5'⟩
  have hk9 : k = L := by
    rw [e5] at e5'
    simp only [Option.some.injEq, Value.int.injEq, true_and] at e5'
    omega
  subst hk9
  have hok := knownQ_ok (l.take k)
  generalize knownQ (l.take k) = F at *
  have hd2 : d2 < 32 := hlow.s
  have hFs : (knsA F).size = 64 := by rw [knsA_size, hok.len]
  have hat := knsA_at F d2 (by rw [hok.len]; exact hd2)
  have hgd : F.getD d2 noKn = F[d2]'(by rw [hok.len]; exact hd2) := by rw [List.getD_eq_getElem?_getD, List.getElem?_eq_getElem (by rw [hok.len]; exact hd2)]; rfl
  have hkn := hok.at hd2
  rw [hgd] at h hkn
  clear hgd
  generalize F[d2]'(by rw [hok.len]; exact hd2) = X at *
  obtain ⟨xh, xv⟩ := X
  have hd2' : (d2 : Int) < 32 := by omega
  have hd2s : d2 * 2 + 2 ≤ 64 := by omega
  simp only at h hat
  refine wpc_st fun K hK => ?_
  simp -dsimp [e0, e4, hkw, hlt2, get_base, htop, hm, hgetL]
  refine hdecL _ _ ?_
  simp -dsimp [e0, e4, hd2', hFs, hd2s, hat]
  refine hK _ _ ?_
  clear hK K
  by_cases hxh : xh = 3
  · subst hxh
    rw [if_pos rfl] at h
    simp -dsimp
    exact fin_ret rfl (leave_pure (by simp) h)
  · have hxh' : ¬ (xh : Int) = 3 := by omega
    rw [if_neg hxh] at h
    simp -dsimp [hxh']
    exact fin_ret (v := .tuple #[.int .u32 0, .bool false]) (by simp -dsimp) (leave_pure (by simp) h)
end Go.Lm
