/- Words and rules by which simp runs a Go function's code. -/
import Derived.Test.YtfgcnehjdaiipaaL13
namespace Go.Lm

/-- The post of a function's body. -/
def Fin (P : Program) (m : Mem) (rs : List ResultVar) (Q : Value → Mem → Prop) (e : Ex) (env' : Env) (m' : Mem) : Prop :=
  (e = .normal ∨ e = .ret) ∧ ∃ v, resV P env' m' rs = some v ∧ ∃ m0 v0, Nonempty (Leave m m' v m0 v0) ∧ Q v0 m0

theorem TC_fn {P : Program} (hmix : P.follows .mixedOrders = true) {g : FuncId} {fn : Func} {c : Code} {N : Nat} {rs : List ResultVar} (hf : P.funcs[g]? = some fn) (hb : fn.body = some c) (hN : fn.ntmps = N) (hrs : fn.results.toList = rs)
    (hname : (fn.name == "runtime.NumGoroutine") = false) {vs : List Value} (hn : vs.length ≤ N) {m : Mem} {Q : Value → Mem → Prop}
    (h : wpc P N c (params 0 vs) m.enter (Fin P m rs Q)) : TC P g vs m Q := by
  subst hN; subst hrs
  exact TC_of_body hmix hf hb hname hn h

theorem fin_ret {P : Program} {m m' : Mem} {rs : List ResultVar} {Q : Value → Mem → Prop} {env' : Env} {v : Value} (hv : resV P env' m' rs = some v) (h : ∃ m0 v0, Nonempty (Leave m m' v m0 v0) ∧ Q v0 m0) : Fin P m rs Q .ret env' m' :=
  ⟨.inr rfl, v, hv, h⟩
theorem fin_end {P : Program} {m m' : Mem} {rs : List ResultVar} {Q : Value → Mem → Prop} {env' : Env} {v : Value} (hv : resV P env' m' rs = some v) (h : ∃ m0 v0, Nonempty (Leave m m' v m0 v0) ∧ Q v0 m0) : Fin P m rs Q .normal env' m' :=
  ⟨.inl rfl, v, hv, h⟩

theorem rnB_id (v : Value) : rnB id v = v := by
  cases v with
  | pointer a => cases a <;> rfl
  | slice a l c => cases a <;> rfl
  | map a => cases a <;> rfl
  | _ => rfl
theorem rnS_id (v : Value) : rnS id v = v := by
  have h : rnB id = id := funext rnB_id
  cases v with
  | func f fi ca => simp [rnS, h]
  | _ => simp only [rnS]; exact rnB_id _
theorem rnT_id (v : Value) : rnT id v = v := by
  have h : rnS id = id := funext rnS_id
  cases v with
  | agg c => simp [rnT, h]
  | _ => simp only [rnT]; exact rnS_id _
theorem rnV_id (v : Value) : rnV id v = v := by
  have h : rnT id = id := funext rnT_id
  cases v with
  | tuple c => simp [rnV, h]
  | _ => simp only [rnV]; exact rnT_id _

/-- Nothing of the caller's has turned; what is handed back names nothing new. -/
theorem leave_pure {m : Mem} {loc : List Ob} {v : Value} {Q : Value → Mem → Prop} (hv : okV (fun k => m.get k ≠ .free) v) (h : Q v m) :
    ∃ m0 v0, Nonempty (Leave m { base := m.get, n := m.top, loc := loc } v m0 v0) ∧ Q v0 m0 := by
  refine ⟨m, v, ⟨⟨id, (rnV_id v).symm, hv, fun k hk => ⟨rfl, hk⟩, fun k hk => .inl ?_, fun k k' hne _ _ => hne⟩⟩, h⟩
  have hnf : m.get k ≠ .free := fun e => by rw [e] at hk; cases hk
  refine ⟨hnf, rfl, ?_⟩
  have hlt : k < m.top := by
    rcases Nat.lt_or_ge k m.top with h' | h'
    · exact h'
    · refine absurd ?_ hnf
      simp only [Mem.top] at h'
      unfold Mem.get
      rw [if_neg (by omega), List.getElem?_eq_none (by omega)]
      rfl
  show (if k < m.top then m.get k else _) = _
  rw [if_pos hlt]

/-! simp does not look into code, environments and what comes later -/
attribute [local irreducible] TC
@[congr] theorem wpc_congr (P : Program) (N : Nat) (c : Code) (env : Env) (m : Mem) (Q : Ex → Env → Mem → Prop) : wpc P N c env m Q = wpc P N c env m Q := rfl
@[congr] theorem wpo_congr (P : Program) (N : Nat) (ops : List Oper) (K : Env → Mem → Prop) (l : List Oper) (env : Env) (m : Mem) : wpo P N ops K l env m = wpo P N ops K l env m := rfl
@[congr] theorem TC_congr (P : Program) (g : FuncId) (vs : List Value) (m : Mem) (Q : Value → Mem → Prop) : TC P g vs m Q = TC P g vs m Q := rfl
@[congr] theorem LoopW_congr (W : Env → Mem → (Ex → Env → Mem → Prop) → Prop) (env : Env) (m : Mem) (Q : Ex → Env → Mem → Prop) : LoopW W env m Q = LoopW W env m Q := rfl
@[congr] theorem DrawW_congr (P : Program) (N : Nat) (ops : Array Oper) (env : Env) (m : Mem) (K : Env → Mem → Prop) : DrawW P N ops env m K = DrawW P N ops env m K := rfl
@[congr] theorem Fin_congr (P : Program) (m : Mem) (rs : List ResultVar) (Q : Value → Mem → Prop) (e : Ex) (env' : Env) (m' : Mem) : Fin P m rs Q e env' m' = Fin P m rs Q e env' m' := rfl

section
variable (b : Nat → Ob) (n k : Nat) (l : List Ob) (o : Ob)
theorem get_loc : (Mem.mk b n l).get (n + k) = (l[k]?).getD .free := by
  unfold Mem.get
  simp only
  rw [if_neg (by omega), Nat.add_sub_cancel_left]
theorem get_loc0 : (Mem.mk b n l).get n = (l[0]?).getD .free := get_loc b n 0 l
theorem get_base {i : Nat} (h : i < n) : (Mem.mk b n l).get i = b i := by
  unfold Mem.get; simp only; rw [if_pos h]
theorem put_base {i : Nat} (h : i < n) : (Mem.mk b n l).put i o = Mem.mk (Mset b i o) n l := by
  unfold Mem.put; simp only; rw [if_pos h]
theorem put_loc : (Mem.mk b n l).put (n + k) o = if k < l.length then Mem.mk b n (l.set k o) else Mem.mk b n (l ++ List.replicate (k - l.length) .free ++ [o]) := by
  unfold Mem.put Mem.top
  simp only
  rw [if_neg (by omega)]
  split
  · rw [if_pos (by omega), Nat.add_sub_cancel_left]
  · rw [if_neg (by omega), show n + k - (n + l.length) = k - l.length by omega]
theorem put_loc0 : (Mem.mk b n l).put n o = if 0 < l.length then Mem.mk b n (l.set 0 o) else Mem.mk b n [o] := by
  have := put_loc b n 0 l o
  simp only [Nat.add_zero] at this
  rw [this]
  split
  · rfl
  · rename_i h
    have : l = [] := by cases l with | nil => rfl | cons a b => simp at h
    subst this; rfl
theorem top_mk : (Mem.mk b n l).top = n + l.length := rfl
end

end Go.Lm
