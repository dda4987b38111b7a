/- How a call is left: an object of the caller's turned; a new object handed back. -/
import Derived.Test.YtfgcnehjdaiipaaL23
namespace Go.Lm

/-- The environment, of which only what is asked for will be told. -/
theorem env_cut {P : Program} {N : Nat} {c : Code} {env : Env} {m : Mem} {Q : Ex → Env → Mem → Prop} (h : ∀ env' : Env, (∀ t, elook env' t = elook env t) → wpc P N c env' m Q) : wpc P N c env m Q := h env fun _ => rfl

theorem get_lt {m : Mem} {k : Nat} (h : m.get k ≠ .free) : k < m.top := by
  rcases Nat.lt_or_ge k m.top with h' | h'
  · exact h'
  · refine absurd ?_ h
    simp only [Mem.top] at h'
    unfold Mem.get
    rw [if_neg (by omega), List.getElem?_eq_none (by omega)]
    rfl

theorem get_top_le {m : Mem} {k : Nat} (h : m.top ≤ k) : m.get k = .free := by
  simp only [Mem.top] at h
  unfold Mem.get
  rw [if_neg (by omega), List.getElem?_eq_none (by omega)]
  rfl

theorem lt_cells {m : Mem} {k : Nat} {ro : Bool} {e : Nat} {c : Array Value} (h : m.get k = .cells ro e c) : k < m.top := get_lt (by rw [h]; intro x; cases x)
theorem lt_map {m : Mem} {k : Nat} {es : List (Value × Value)} (h : m.get k = .map es) : k < m.top := get_lt (by rw [h]; intro x; cases x)

theorem rnO_id (o : Ob) : rnO id o = o := by
  have h : rnS id = id := funext rnS_id
  cases o with
  | cells ro e c => simp only [rnO, h, Array.map_id]
  | map es => simp [rnO, h]
  | _ => rfl

/-- What the caller has, is turned. -/
theorem leave_base {m m0 : Mem} {B : Nat → Ob} {loc : List Ob} {v : Value} {Q : Value → Mem → Prop} (hv : okV (fun k => m0.get k ≠ .free) v)
    (hd : ∀ k, m.get k ≠ .free → m0.get k ≠ .free)
    (ho : ∀ k, (m0.get k).alive = true → k < m.top ∧ B k = m0.get k ∧ (m.get k = m0.get k ∨ okO (fun k => m0.get k ≠ .free) (m0.get k)))
    (h : Q v m0) : ∃ m0 v0, Nonempty (Leave m { base := B, n := m.top, loc := loc } v m0 v0) ∧ Q v0 m0 := by
  refine ⟨m0, v, ⟨⟨id, (rnV_id v).symm, hv, fun k hk => ⟨rfl, hd k hk⟩, fun k hk => ?_, fun k k' hne _ _ => hne⟩⟩, h⟩
  obtain ⟨h1, h2, h3⟩ := ho k hk
  have hg : (Mem.mk B m.top loc).get k = B k := get_base _ _ _ h1
  rcases h3 with h3 | h3
  · refine .inl ⟨fun e => ?_, h3.symm, ?_⟩
    · rw [← h3, e] at hk; cases hk
    · rw [hg, h2, h3]
  · refine .inr ⟨?_, h3⟩
    show (Mem.mk B m.top loc).get k = rnO id (m0.get k)
    rw [hg, h2, rnO_id]

/-- One object of the caller's is turned. -/
theorem leave_put {m : Mem} {k : Nat} {o : Ob} {loc : List Ob} {v : Value} {Q : Value → Mem → Prop} (hk : m.get k ≠ .free) (hf : o ≠ .free) (hv : okV (fun k => m.get k ≠ .free) v)
    (ho : okO (fun k => m.get k ≠ .free) o) (h : Q v (m.put k o)) : ∃ m0 v0, Nonempty (Leave m { base := Mset m.get k o, n := m.top, loc := loc } v m0 v0) ∧ Q v0 m0 := by
  have hg : (m.put k o).get = Mset m.get k o := Mem.get_put m k o
  have hd : (fun j => (m.put k o).get j ≠ .free) = fun j => m.get j ≠ .free := by
    funext j
    rw [hg, Mset]
    by_cases hj : j = k
    · subst hj; rw [if_pos rfl]; simp [hf, hk]
    · rw [if_neg hj]
  refine leave_base (m0 := m.put k o) (by rw [hd]; exact hv) (fun j hj => by have := congrFun hd j; rw [this]; exact hj) (fun j hj => ?_) h
  rw [hg] at hj ⊢
  refine ⟨?_, rfl, ?_⟩
  · by_cases e : j = k
    · subst e; exact get_lt hk
    · rw [Mset, if_neg e] at hj
      exact get_lt (by intro x; rw [x] at hj; cases hj)
  · by_cases e : j = k
    · subst e
      right
      rw [Mset, if_pos rfl]
      have := hd
      rw [hg] at this
      rw [this]; exact ho
    · left; rw [Mset, if_neg e]

/-- A new object is handed back: it is the call's number i. -/
theorem leave_new {m : Mem} {loc : List Ob} {v0 : Value} {o : Ob} {i : Nat} {Q : Value → Mem → Prop}
    (hi : (loc[i]?).getD .free = rnO (fun k => if k = m.top then m.top + i else k) o) (hf : o ≠ .free)
    (hv : okV (fun k => m.get k ≠ .free ∨ k = m.top) v0) (ho : okO (fun k => m.get k ≠ .free ∨ k = m.top) o)
    (h : Q v0 (m.put m.top o)) :
    ∃ m0 v1, Nonempty (Leave m { base := m.get, n := m.top, loc := loc } (rnV (fun k => if k = m.top then m.top + i else k) v0) m0 v1) ∧ Q v1 m0 := by
  have hg : (m.put m.top o).get = Mset m.get m.top o := Mem.get_put m m.top o
  have hd : (fun j => (m.put m.top o).get j ≠ .free) = fun j => m.get j ≠ .free ∨ j = m.top := by
    funext j
    rw [hg, Mset]
    by_cases hj : j = m.top
    · subst hj; rw [if_pos rfl]; simp [hf]
    · rw [if_neg hj]; simp [hj]
  refine ⟨m.put m.top o, v0, ⟨⟨_, rfl, by rw [hd]; exact hv, fun k hk => ?_, fun k hk => ?_, fun k k' hne hk hk' => ?_⟩⟩, h⟩
  · have := congrFun hd k
    refine ⟨if_neg ?_, by rw [this]; exact .inl hk⟩
    intro e; subst e; exact hk (get_top_le (Nat.le_refl _))
  · by_cases e : k = m.top
    · subst e
      right
      rw [hd, hg, Mset, if_pos rfl, if_pos rfl]
      exact ⟨(get_loc _ _ _ _).trans hi, ho⟩
    · left
      rw [hg, Mset, if_neg e] at hk ⊢
      have hnf : m.get k ≠ .free := by intro x; rw [x] at hk; cases hk
      exact ⟨hnf, rfl, get_base _ _ _ (get_lt hnf)⟩
  · rw [hg] at hk hk'
    have hlt : ∀ j, (Mset m.get m.top o j).alive = true → j ≠ m.top → j < m.top := by
      intro j hj hne'
      rw [Mset, if_neg hne'] at hj
      exact get_lt (by intro x; rw [x] at hj; cases hj)
    by_cases e : k = m.top
    · by_cases e' : k' = m.top
      · exact absurd (e.trans e'.symm) hne
      · rw [if_pos e, if_neg e']; have := hlt k' hk' e'; omega
    · by_cases e' : k' = m.top
      · rw [if_neg e, if_pos e']; have := hlt k hk e; omega
      · rw [if_neg e, if_neg e']; exact hne
end Go.Lm
