/- Long runs of operations on written-out values: by the kernel. And a contract handed to the shell of a statement. -/
import Derived.Test.YtfgcnehjdaiipaaL21
import Derived.Below
import Derived.ChangeSame
namespace Go.Lm

/-- operations that look at no memory -/
def plainO : Op → Bool
  | .build _ _ => true | .move _ => true | .assign _ => true
  | _ => false

theorem lop_plain {P : Program} {env : Env} {M M' : Nat → Ob} {k k' : Nat} {o : Op} (h : plainO o = true) : lop P env M k o = lop P env M' k' o := by
  cases o <;> first | rfl | simp [plainO] at h

def runO (P : Program) (N : Nat) : List Oper → Env → Option (Env × List Oper)
  | [], env => some (env, [])
  | o :: r, env =>
    if plainO o.op && o.guard.isNone then
      match lop P env (fun _ => .free) 0 o.op with
      | some ⟨v, none, []⟩ => match o.dst with
        | some d => if d < N then runO P N r ((d, v) :: env) else none
        | none => none
      | _ => none
    else some (env, o :: r)

theorem goCall_plain {env : Env} {o : Op} (h : plainO o = true) : goCall env o = none := by
  cases o <;> first | rfl | simp [plainO] at h

/-- where the operations of a list write -/
def dstsO (l : List Oper) : List Nat := l.filterMap (·.dst)

theorem wpo_run {P : Program} {N : Nat} {ops : List Oper} {K : Env → Mem → Prop} : ∀ (l : List Oper) (env : Env) (m : Mem) (env' : Env) (r : List Oper), runO P N l env = some (env', r) →
    wpo P N ops K r env' m → wpo P N ops K l env m
  | [], env, m, env', r, h, hk => by simp only [runO, Option.some.injEq, Prod.mk.injEq] at h; obtain ⟨rfl, rfl⟩ := h; exact hk
  | o :: l, env, m, env', r, h, hk => by
    unfold runO at h
    by_cases hp : (plainO o.op && o.guard.isNone) = true
    · rw [if_pos hp] at h
      rw [Bool.and_eq_true] at hp
      obtain ⟨h1, h2⟩ := hp
      have hg : o.guard = none := by cases hh : o.guard with | none => rfl | some _ => rw [hh] at h2; cases h2
      cases he : lop P env (fun _ => .free) 0 o.op with
      | none => rw [he] at h; cases h
      | some e =>
        rw [he] at h
        obtain ⟨v, nw, ms⟩ := e
        cases nw with
        | some _ => cases h
        | none =>
          cases ms with
          | cons _ _ => cases h
          | nil =>
            simp only at h
            cases hd : o.dst with
            | none => rw [hd] at h; cases h
            | some d =>
              rw [hd] at h
              simp only at h
              by_cases hN : d < N
              · rw [if_pos hN] at h
                unfold wpo
                simp only [guardQ, hg, goCall_plain h1, lop_plain (M' := fun _ => .free) (k' := 0) h1, he, hd, putEnv, if_pos hN]
                exact wpo_run l _ m env' r h hk
              · rw [if_neg hN] at h; cases h
    · rw [if_neg hp] at h
      simp only [Option.some.injEq, Prod.mk.injEq] at h
      obtain ⟨rfl, rfl⟩ := h
      exact hk

theorem elook_run {P : Program} {N : Nat} (t : Nat) : ∀ (l : List Oper) (env : Env) (env' : Env) (r : List Oper), runO P N l env = some (env', r) → (dstsO l).contains t = false → elook env' t = elook env t
  | [], env, env', r, h, _ => by simp only [runO, Option.some.injEq, Prod.mk.injEq] at h; obtain ⟨rfl, rfl⟩ := h; rfl
  | o :: l, env, env', r, h, hd => by
    unfold runO at h
    by_cases hp : (plainO o.op && o.guard.isNone) = true
    · rw [if_pos hp] at h
      cases he : lop P env (fun _ => .free) 0 o.op with
      | none => rw [he] at h; cases h
      | some e =>
        rw [he] at h
        obtain ⟨v, nw, ms⟩ := e
        cases nw with
        | some _ => cases h
        | none =>
          cases ms with
          | cons _ _ => cases h
          | nil =>
            simp only at h
            cases hdd : o.dst with
            | none => rw [hdd] at h; cases h
            | some d =>
              rw [hdd] at h
              simp only at h
              by_cases hN : d < N
              · rw [if_pos hN] at h
                simp only [dstsO, List.filterMap_cons, hdd, List.contains_cons, Bool.or_eq_false_iff] at hd
                rw [elook_run t l _ env' r h hd.2, elook, if_neg (by intro e; subst e; simp at hd)]
              · rw [if_neg hN] at h; cases h
    · rw [if_neg hp] at h
      simp only [Option.some.injEq, Prod.mk.injEq] at h
      obtain ⟨rfl, rfl⟩ := h
      rfl

/-- A run of plain operations: what stands behind it knows the value of one variable; the variables not written are as they were. -/
theorem wpo_table {P : Program} {N : Nat} {ops : List Oper} {K : Env → Mem → Prop} {l : List Oper} {env : Env} {m : Mem} (d : Nat) (V : Value) (r : List Oper)
    (h : (runO P N l env).map (fun p => (p.2, elook p.1 d)) = some (r, some V))
    (hk : ∀ env', elook env' d = some V → (∀ t, (dstsO l).contains t = false → elook env' t = elook env t) → wpo P N ops K r env' m) : wpo P N ops K l env m := by
  cases hr : runO P N l env with
  | none => rw [hr] at h; cases h
  | some p =>
    rw [hr] at h
    simp only [Option.map_some, Option.some.injEq, Prod.mk.injEq] at h
    obtain ⟨h1, h2⟩ := h
    refine wpo_run l env m p.1 p.2 hr ?_
    rw [h1]
    exact hk p.1 h2 fun t ht => elook_run t l env p.1 p.2 hr ht

theorem wpc_seq {P : Program} {N : Nat} {a b : Code} {env : Env} {m : Mem} {Q : Ex → Env → Mem → Prop} (h : wpc P N a env m (seqK (fun env' m' => wpc P N b env' m' Q) Q)) : wpc P N (.seq a b) env m Q := h
theorem wpc_region {P : Program} {N : Nat} {id : Nat} {ops : Array Oper} {env : Env} {m : Mem} {Q : Ex → Env → Mem → Prop} (l : List Oper) (hl : ops.toList = l) (h : wpo P N l (Q .normal) l env m) : wpc P N (.region id ops false) env m Q := by
  subst hl; exact h

/-- ... and its last operation writes the value away. -/
theorem wpo_table_store {P : Program} {N : Nat} {ops : List Oper} {K : Env → Mem → Prop} {l : List Oper} {env : Env} {m : Mem} (d a : Nat) (t : TypeId) (V pa : Value) (e : Eff)
    (h : (runO P N l env).map (fun p => (p.2.map (fun o => (o.dst, o.op, o.guard)), elook p.1 d)) = some ([(none, .store t (.tmp a) (.tmp d), none)], some V))
    (ha : elook env a = some pa) (hd : (dstsO l).contains a = false) (hs : lstore P m.get t pa V = some e)
    (hk : ∀ env', elook env' d = some V → (∀ t, (dstsO l).contains t = false → elook env' t = elook env t) → K env' (m.app m.top e)) : wpo P N ops K l env m := by
  cases hr : runO P N l env with
  | none => rw [hr] at h; cases h
  | some p =>
    rw [hr] at h
    simp only [Option.map_some, Option.some.injEq, Prod.mk.injEq] at h
    obtain ⟨h1, h2⟩ := h
    refine wpo_run l env m p.1 p.2 hr ?_
    obtain ⟨env', r⟩ := p
    cases r with
    | nil => simp at h1
    | cons o r =>
      cases r with
      | cons _ _ => simp at h1
      | nil =>
        simp only [List.map_cons, List.map_nil, List.cons.injEq, Prod.mk.injEq, and_true] at h1
        have e1 := h1.1; have e2 := h1.2.1; have e3 := h1.2.2
        have h3 := elook_run a l env env' _ hr hd
        simp only at h2
        simp only [wpo, guardQ, goCall, lop, ev, h3, ha, h2, hs, putEnv, e1, e2, e3]
        exact hk env' h2 fun t ht => elook_run t l env env' _ hr ht

theorem flat_extract {α : Type} (f : α → List Value) (n : Nat) (hf : ∀ a, (f a).length = n) : ∀ (l : List α) (k : Nat) (hk : k < l.length), (l.flatMap f).toArray.extract (k * n) (k * n + n) = (f l[k]).toArray
  | [], k, hk => by cases hk
  | a :: l, 0, _ => by
    rw [List.extract_toArray, List.flatMap_cons]
    simp [hf]
  | a :: l, k + 1, hk => by
    have := flat_extract f n hf l k (by simpa using hk)
    rw [List.extract_toArray] at this ⊢
    rw [List.flatMap_cons, List.getElem_cons_succ, ← this]
    have e1 : (k + 1) * n = (f a).length + k * n := by rw [hf, Nat.succ_mul]; omega
    rw [e1, List.extract_eq_take_drop, List.extract_eq_take_drop, List.drop_append, show (f a).length + k * n + n - ((f a).length + k * n) = k * n + n - k * n by omega, List.drop_eq_nil_of_le (by omega)]
    simp

theorem flat_size {α : Type} (f : α → List Value) (n : Nat) (hf : ∀ a, (f a).length = n) (l : List α) : (l.flatMap f).toArray.size = l.length * n := by
  induction l with
  | nil => simp
  | cons a l ih => simp only [List.size_toArray] at ih; simp only [List.flatMap_cons, List.size_toArray, List.length_append, hf, ih, List.length_cons, Nat.succ_mul]; omega

/-- a pattern of cells, over and over -/
def zrep (n : Nat) (l : List Value) : Array Value := (List.replicate n l).flatten.toArray
@[simp] theorem zrep_size (n : Nat) (l : List Value) : (zrep n l).size = n * l.length := by simp [zrep]

theorem wpc_step {P : Program} {N : Nat} {id : Nat} {ops : Array Oper} {b : Code} {env : Env} {m : Mem} {Q : Ex → Env → Mem → Prop} (l : List Oper) (hl : ops.toList = l)
    (h : ∀ K : Env → Mem → Prop, (∀ env' m', wpc P N b env' m' Q → K env' m') → wpo P N l K l env m) : wpc P N (.seq (.region id ops false) b) env m Q := by
  subst hl; exact h _ fun _ _ x => x

/-! ### from a contract to the shell of a statement -/

/-- A world looked at from outside: one object that nobody may turn for each place named. -/
theorem calls_of_TC {P : Program} {g : FuncId} {vs : List Value} {rs : Array Value} {m : Mem} {σ : Sg} {w : World}
    (hR : Rep σ m.get w) (ha : argsRel σ vs rs) (hno : ∀ k, (m.get k).rw = false)
    (hcode : (callFunc g rs).run P w = .ok (.enter g rs) w)
    {Q : Value → Mem → Prop} (h : TC P g vs m Q) :
    Calls P g rs w fun e w' => ∃ v rv m' σ', e = .returned rv ∧ Q v m' ∧ vRel σ' v rv ∧ Rep σ' m'.get w' ∧ Go.RowKit.Below w.heap.size w w' := by
  have fin : ∀ {e w'}, PostC σ m w Q e w' → ∃ v rv m' σ', e = .returned rv ∧ Q v m' ∧ vRel σ' v rv ∧ Rep σ' m'.get w' ∧ Go.RowKit.Below w.heap.size w w' := by
    rintro e w' ⟨v, rv, m', σ', h1, h2, h3, h4, h5⟩
    refine ⟨v, rv, m', σ', h1, h2, h4, h3, ?_⟩
    have hos := h5.os
    simp only [Prod.mk.injEq] at hos
    refine ⟨hos.1, hos.2, h5.out, h5.size, fun k hk => h5.keep k hk ?_⟩
    rintro ⟨j, p, _, _, hrw⟩
    rw [hno j] at hrw
    cases hrw
  rcases h σ w rs hR ha with ⟨_, h2⟩ | ⟨rv, w', h1, _⟩
  · exact h2.mono fun e w' hp => fin hp
  · rw [hcode] at h1; cases h1

/-- the memory of a law's call that is handed numbers alone -/
def mem0 : Mem := { base := fun _ => .free, n := 0, loc := [] }
def sg0 : Sg := fun _ => none
theorem mem0_get (k : Nat) : mem0.get k = .free := by unfold mem0 Mem.get; rw [if_neg (by simp)]; rfl
theorem rep0 (w : World) : Rep sg0 mem0.get w where
  fr _ _ := rfl
  cel k ro e c h := by rw [mem0_get] at h; cases h
  own k e c h := by rw [mem0_get] at h; cases h
  mp k es h := by rw [mem0_get] at h; cases h
  sep k k' _ h := by rw [mem0_get] at h; cases h
  bnd k p h := by cases h

theorem code_of {P : Program} {g : FuncId} {fn : Func} {c : Code} (hf : P.funcs[g]? = some fn) (hb : fn.body = some c) (hname : (fn.name == "runtime.NumGoroutine") = false) (rs : Array Value) (w : World) :
    (callFunc g rs).run P w = .ok (.enter g rs) w := by
  simp only [callFunc, Sem.run_bind, run_program, Result.andThen_ok, hf]
  rw [if_neg (by rw [hname]; simp), if_neg (by rw [hb]; simp)]
  rfl

/-- A law over numbers: its contract is its walk. -/
theorem law_calls {P : Program} {g : FuncId} {fn : Func} {c : Code} (hf : P.funcs[g]? = some fn) (hb : fn.body = some c) (hname : (fn.name == "runtime.NumGoroutine") = false) {vs : List Value} {w : World}
    (hv : ∀ v ∈ vs, vRel sg0 v v) (h : TC P g vs mem0 fun v _ => v = .bool true) :
    Calls P g vs.toArray w fun e w' => e = .returned (.bool true) ∧ Go.RowKit.Below w.heap.size w w' := by
  refine (calls_of_TC (rep0 w) (rs := vs.toArray) ⟨by simp, fun i x y hx hy => ?_⟩ (fun k => by rw [mem0_get]; rfl) (code_of hf hb hname _ w) h).mono ?_
  · rw [List.getElem?_toArray, hx] at hy
    cases hy
    exact hv x (List.mem_of_getElem? hx)
  · rintro e w' ⟨v, rv, m', σ', rfl, rfl, hr, _, hb⟩
    exact ⟨congrArg _ hr, hb⟩
end Go.Lm
