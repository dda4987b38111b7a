/- Contracts of calls over the local memory model, and how they are handed to the shell of a statement. -/
import Derived.Test.YtfgcnehjdaiipaaMA
import Derived.Below
import Derived.ChangeSame
/- Words and rules by which simp runs a Go function's code. -/
namespace Go.Lm

/-- The post of a function's body. -/
def Fin (P : Program) (m : Mem) (rs : List ResultVar) (Q : Value → Mem → Prop) (e : Ex) (env' : Env) (m' : Mem) : Prop :=
  (e = .normal ∨ e = .ret) ∧ ∃ v, resV P env' m' rs = some v ∧ ∃ m0 v0, Nonempty (Leave m m' v m0 v0) ∧ Q v0 m0

theorem TC_fn {P : Program} (hmix : P.follows .mixedOrders = true) {g : FuncId} {fn : Func} {c : Code} {N : Nat} {rs : List ResultVar} (hf : P.funcs[g]? = some fn) (hb : fn.body = some c) (hN : fn.ntmps = N) (hrs : fn.results.toList = rs)
    (hname : (fn.name == "runtime.NumGoroutine") = false) {vs : List Value} (hn : vs.length ≤ N) {m : Mem} {Q : Value → Mem → Prop}
    (h : wpc P N c (params 0 vs) m.enter (Fin P m rs Q)) : TC P g vs m Q := by
  subst hN; subst hrs
  exact TC_of_body hmix hf hb hname hn h

theorem fin_ret {P : Program} {m m' : Mem} {rs : List ResultVar} {Q : Value → Mem → Prop} {env' : Env} {v : Value} (hv : resV P env' m' rs = some v) (h : ∃ m0 v0, Nonempty (Leave m m' v m0 v0) ∧ Q v0 m0) : Fin P m rs Q .ret env' m' :=
  ⟨.inr rfl, v, hv, h⟩
theorem fin_end {P : Program} {m m' : Mem} {rs : List ResultVar} {Q : Value → Mem → Prop} {env' : Env} {v : Value} (hv : resV P env' m' rs = some v) (h : ∃ m0 v0, Nonempty (Leave m m' v m0 v0) ∧ Q v0 m0) : Fin P m rs Q .normal env' m' :=
  ⟨.inl rfl, v, hv, h⟩

theorem rnB_id (v : Value) : rnB id v = v := by
  cases v with
  | pointer a => cases a <;> rfl
  | slice a l c => cases a <;> rfl
  | map a => cases a <;> rfl
  | _ => rfl
theorem rnS_id (v : Value) : rnS id v = v := by
  have h : rnB id = id := funext rnB_id
  cases v with
  | func f fi ca => simp [rnS, h]
  | _ => simp only [rnS]; exact rnB_id _
theorem rnT_id (v : Value) : rnT id v = v := by
  have h : rnS id = id := funext rnS_id
  cases v with
  | agg c => simp [rnT, h]
  | _ => simp only [rnT]; exact rnS_id _
theorem rnV_id (v : Value) : rnV id v = v := by
  have h : rnT id = id := funext rnT_id
  cases v with
  | tuple c => simp [rnV, h]
  | _ => simp only [rnV]; exact rnT_id _

/-- Nothing of the caller's has turned; what is handed back names nothing new. -/
theorem leave_pure {m : Mem} {loc : List Ob} {v : Value} {Q : Value → Mem → Prop} (hv : okV (fun k => m.get k ≠ .free) v) (h : Q v m) :
    ∃ m0 v0, Nonempty (Leave m { base := m.get, n := m.top, loc := loc } v m0 v0) ∧ Q v0 m0 := by
  refine ⟨m, v, ⟨⟨id, (rnV_id v).symm, hv, fun k hk => ⟨rfl, hk⟩, fun k hk => .inl ?_, fun k k' hne _ _ => hne⟩⟩, h⟩
  have hnf : m.get k ≠ .free := fun e => by rw [e] at hk; cases hk
  refine ⟨hnf, rfl, ?_⟩
  have hlt : k < m.top := by
    rcases Nat.lt_or_ge k m.top with h' | h'
    · exact h'
    · refine absurd ?_ hnf
      simp only [Mem.top] at h'
      unfold Mem.get
      rw [if_neg (by omega), List.getElem?_eq_none (by omega)]
      rfl
  show (if k < m.top then m.get k else _) = _
  rw [if_pos hlt]

/-! simp does not look into code, environments and what comes later -/
attribute [local irreducible] TC
@[congr] theorem wpc_congr (P : Program) (N : Nat) (c : Code) (env : Env) (m : Mem) (Q : Ex → Env → Mem → Prop) : wpc P N c env m Q = wpc P N c env m Q := rfl
@[congr] theorem wpo_congr (P : Program) (N : Nat) (ops : List Oper) (K : Env → Mem → Prop) (l : List Oper) (env : Env) (m : Mem) : wpo P N ops K l env m = wpo P N ops K l env m := rfl
@[congr] theorem TC_congr (P : Program) (g : FuncId) (vs : List Value) (m : Mem) (Q : Value → Mem → Prop) : TC P g vs m Q = TC P g vs m Q := rfl
@[congr] theorem LoopW_congr (W : Env → Mem → (Ex → Env → Mem → Prop) → Prop) (env : Env) (m : Mem) (Q : Ex → Env → Mem → Prop) : LoopW W env m Q = LoopW W env m Q := rfl
@[congr] theorem DrawW_congr (P : Program) (N : Nat) (ops : Array Oper) (env : Env) (m : Mem) (K : Env → Mem → Prop) : DrawW P N ops env m K = DrawW P N ops env m K := rfl
@[congr] theorem Fin_congr (P : Program) (m : Mem) (rs : List ResultVar) (Q : Value → Mem → Prop) (e : Ex) (env' : Env) (m' : Mem) : Fin P m rs Q e env' m' = Fin P m rs Q e env' m' := rfl

section
variable (b : Nat → Ob) (n k : Nat) (l : List Ob) (o : Ob)
theorem get_loc : (Mem.mk b n l).get (n + k) = (l[k]?).getD .free := by
  unfold Mem.get
  simp only
  rw [if_neg (by omega), Nat.add_sub_cancel_left]
theorem get_loc0 : (Mem.mk b n l).get n = (l[0]?).getD .free := get_loc b n 0 l
theorem get_base {i : Nat} (h : i < n) : (Mem.mk b n l).get i = b i := by
  unfold Mem.get; simp only; rw [if_pos h]
theorem put_base {i : Nat} (h : i < n) : (Mem.mk b n l).put i o = Mem.mk (Mset b i o) n l := by
  unfold Mem.put; simp only; rw [if_pos h]
theorem put_loc : (Mem.mk b n l).put (n + k) o = if k < l.length then Mem.mk b n (l.set k o) else Mem.mk b n (l ++ List.replicate (k - l.length) .free ++ [o]) := by
  unfold Mem.put Mem.top
  simp only
  rw [if_neg (by omega)]
  split
  · rw [if_pos (by omega), Nat.add_sub_cancel_left]
  · rw [if_neg (by omega), show n + k - (n + l.length) = k - l.length by omega]
theorem put_loc0 : (Mem.mk b n l).put n o = if 0 < l.length then Mem.mk b n (l.set 0 o) else Mem.mk b n [o] := by
  have := put_loc b n 0 l o
  simp only [Nat.add_zero] at this
  rw [this]
  split
  · rfl
  · rename_i h
    have : l = [] := by cases l with | nil => rfl | cons a b => simp at h
    subst this; rfl
theorem top_mk : (Mem.mk b n l).top = n + l.length := rfl
end

end Go.Lm
/- An operation does the same over a greater environment and memory. -/
set_option linter.unusedSimpArgs false
set_option linter.unusedVariables false
namespace Go.Lm

/-- M' holds all that M holds. -/
def Mle (M M' : Nat → Ob) : Prop := ∀ k, M k ≠ .free → M' k = M k

theorem Mle.cells {M M' : Nat → Ob} (h : Mle M M') {k : Nat} {ro : Bool} {e : Nat} {c : Array Value} (hk : M k = .cells ro e c) : M' k = .cells ro e c := by
  rw [h k (by rw [hk]; simp), hk]
theorem Mle.map {M M' : Nat → Ob} (h : Mle M M') {k : Nat} {es : List (Value × Value)} (hk : M k = .map es) : M' k = .map es := by
  rw [h k (by rw [hk]; simp), hk]

section
variable {P : Program} {M M' : Nat → Ob}

theorem lload_mono (h : Mle M M') {t : TypeId} {v x : Value} (hl : lload P M t v = some x) : lload P M' t v = some x := by
  unfold lload at hl ⊢
  split at hl
  case h_2 => cases hl
  split at hl
  case h_2 => cases hl
  rename_i hM
  simp only [h.cells hM]
  exact hl

theorem lfirst_mono (h : Mle M M') {s n : Nat} {v : Value} {c : Array Value} (hl : lfirst M s n v = some c) : lfirst M' s n v = some c := by
  unfold lfirst at hl ⊢
  split at hl
  · split at hl
    case h_2 => cases hl
    rename_i hM
    simp only [h.cells hM]
    exact hl
  · exact hl
  · exact hl
  · cases hl

theorem lconv_mono (h : Mle M M') {k : Nat} {src dst : TypeId} {x : Value} {e : Eff} (hl : lconv P M k src dst x = some e) : lconv P M' k src dst x = some e := by
  unfold lconv at hl ⊢
  split at hl
  · exact hl
  · exact hl
  · exact hl
  · rename_i a len c
    split at hl
    · rename_i el s h1 h2
      (try simp only [h1, h2])
      split at hl
      · rename_i h3
        (try simp only [h3])
        split at hl
        case h_2 => cases hl
        rename_i hM
        simp only [h.cells hM]
        exact hl
      · cases hl
    · cases hl
  · cases hl

theorem lslice_mono (h : Mle M M') {t : TypeId} {x v : Value} {lo hi mx : Option Int} (hl : lslice P M t x lo hi mx = some v) : lslice P M' t x lo hi mx = some v := by
  unfold lslice at hl ⊢
  split at hl
  · rename_i hq; (try simp only [hq]); exact hl
  · rename_i hq; (try simp only [hq]); exact hl
  · rename_i hq
    (try simp only [hq])
    split at hl
    case h_2 => cases hl
    rename_i hb hM
    simp only [hb, h.cells hM]
    exact hl
  · rename_i hq; (try simp only [hq]); exact hl
  · cases hl

theorem llookup_mono (h : Mle M M') {t : TypeId} {x ix v : Value} {ok : Bool} (hl : llookup P M t x ix ok = some v) : llookup P M' t x ix ok = some v := by
  unfold llookup at hl ⊢
  split at hl
  case h_2 => cases hl
  rename_i hq
  (try simp only [hq])
  split at hl
  case h_2 => cases hl
  rename_i h1 h2
  (try simp only [h1, h2])
  cases x with
  | map b =>
    cases b with
    | none => exact hl
    | some i =>
      simp only at hl ⊢
      cases hM : M i with
      | map es => rw [hM] at hl; rw [h.map hM]; exact hl
      | _ => rw [hM] at hl; cases hl
  | _ => cases hl

theorem llenOf_mono (h : Mle M M') {t : TypeId} {x v : Value} (hl : llenOf P M t x = some v) : llenOf P M' t x = some v := by
  unfold llenOf at hl ⊢
  split at hl
  · rename_i hq; (try simp only [hq]); exact hl
  · rename_i hq; (try simp only [hq]); exact hl
  · rename_i hq; (try simp only [hq]); exact hl
  · rename_i hq; (try simp only [hq]); exact hl
  · rename_i hq
    (try simp only [hq])
    split at hl
    case h_2 => cases hl
    rename_i hM
    simp only [h.map hM]
    exact hl
  · cases hl

theorem lappend_mono (h : Mle M M') {k : Nat} {ts : Array TypeId} {args : List Value} {e : Eff} (hl : lappend P M k ts args = some e) : lappend P M' k ts args = some e := by
  unfold lappend at hl ⊢
  split at hl
  case h_2 => cases hl
  rename_i t tx base len cap x h1 h2
  (try simp only [h1, h2])
  split at hl
  case h_2 => cases hl
  rename_i el s n h3 h4
  (try simp only [h3, h4])
  split at hl
  case isTrue => cases hl
  rename_i h5
  rw [if_neg h5]
  split at hl
  case h_2 => cases hl
  rename_i z b new h6 h7 h8
  simp only [h6, h7, lfirst_mono h h8]
  split at hl
  case isTrue => cases hl
  rename_i h9
  rw [if_neg h9]
  cases base with
  | none => exact hl
  | some a =>
    simp only at hl ⊢
    split at hl
    · rename_i h10; rw [if_pos h10]; exact hl
    · rename_i h10
      rw [if_neg h10]
      split at hl
      case h_2 => cases hl
      rename_i hM
      simp only [h.cells hM]
      exact hl

/-- An operation without turned objects over more. -/
theorem lop_mono (h : Mle M M') {env env' : Env} {k : Nat} {op : Op} {e : Eff} (hE : ∀ x ∈ op.operands, ev env' x = ev env x) (hm : e.mods = []) (hl : lop P env M k op = some e) : lop P env' M' k op = some e := by
  have hevs : ∀ l : List Operand, (∀ x ∈ l, ev env' x = ev env x) → evs env' l = evs env l := by
    intro l
    induction l with
    | nil => intro _; rfl
    | cons x r ih => intro hx; simp only [evs]; rw [hx x (by simp), ih (fun y hy => hx y (by simp [hy]))]
  have hevp : ∀ l : List (Nat × Operand), (∀ x ∈ l, ev env' x.2 = ev env x.2) → evp env' l = evp env l := by
    intro l
    induction l with
    | nil => intro _; rfl
    | cons x r ih => intro hx; obtain ⟨i, x⟩ := x; simp only [evp]; rw [hx (i, x) (by simp), ih (fun y hy => hx y (by simp [hy]))]
  have hevo : ∀ o : Option Operand, (∀ x, o = some x → ev env' x = ev env x) → evo env' o = evo env o := by
    intro o ho
    cases o with
    | none => rfl
    | some x => simp only [evo]; rw [ho x rfl]
  cases op <;> simp only [lop] at hl ⊢ <;> try (cases hl; done)
  case move x => rw [hE x (by simp [Op.operands])]; exact hl
  case assign x => rw [hE x (by simp [Op.operands])]; exact hl
  case pick c a b =>
    rw [hE c (by simp [Op.operands])]
    split at hl
    case h_2 => cases hl
    rename_i t hc
    rw [show ev env' (if t = true then a else b) = ev env (if t = true then a else b) by cases t <;> simp <;> exact hE _ (by simp [Op.operands])]
    exact hl
  case alloc t => exact hl
  case box t x => rw [hE x (by simp [Op.operands])]; exact hl
  case build t parts => rw [hevp _ (fun x hx => hE x.2 (by simp only [Op.operands, List.mem_toArray, List.mem_map]; exact ⟨x, hx, rfl⟩))]; exact hl
  case buildSlice t len parts => rw [hevp _ (fun x hx => hE x.2 (by simp only [Op.operands, List.mem_toArray, List.mem_map]; exact ⟨x, hx, rfl⟩))]; exact hl
  case load t x =>
    rw [hE x (by simp [Op.operands])]
    split at hl
    case h_2 => cases hl
    rename_i p hp
    split at hl <;> cases hl
    rename_i v hv
    simp only [lload_mono h hv]
  case store t x y =>
    split at hl
    case h_2 => cases hl
    rename_i p v hp hv
    unfold lstore at hl
    split at hl
    case h_2 => cases hl
    split at hl
    case h_2 => cases hl
    split at hl
    case h_2 => cases hl
    split at hl
    case isFalse => cases hl
    cases hl; cases hm
  case nilCheck x => rw [hE x (by simp [Op.operands])]; exact hl
  case binOp o t x y t' => rw [hE x (by simp [Op.operands]), hE y (by simp [Op.operands])]; exact hl
  case unOp o t x => rw [hE x (by simp [Op.operands])]; exact hl
  case convert s d x =>
    rw [hE x (by simp [Op.operands])]
    split at hl
    case h_2 => cases hl
    exact lconv_mono h hl
  case makeFunc fn first captured =>
    rw [hevs _ (fun x hx => hE x (by simp [Op.operands] at hx ⊢; exact .inl hx)), hevs _ (fun x hx => hE x (by simp [Op.operands] at hx ⊢; exact .inr hx))]
    exact hl
  case makeMap t r => cases r <;> exact hl
  case makeSlice t a b => rw [hE a (by simp [Op.operands]), hE b (by simp [Op.operands])]; exact hl
  case slice t x lo hi mx =>
    rw [hE x (by simp [Op.operands]), hevo lo (fun y hy => hE y (by simp [Op.operands, hy])), hevo hi (fun y hy => hE y (by simp [Op.operands, hy])), hevo mx (fun y hy => hE y (by simp [Op.operands, hy]))]
    split at hl
    case h_2 => cases hl
    split at hl <;> cases hl
    rename_i v hv
    simp only [lslice_mono h hv]
  case fieldAddr t x f => rw [hE x (by simp [Op.operands])]; exact hl
  case field t x f => rw [hE x (by simp [Op.operands])]; exact hl
  case indexAddr t x i => rw [hE x (by simp [Op.operands]), hE i (by simp [Op.operands])]; exact hl
  case index t x i => rw [hE x (by simp [Op.operands]), hE i (by simp [Op.operands])]; exact hl
  case lookup t x i ok =>
    rw [hE x (by simp [Op.operands]), hE i (by simp [Op.operands])]
    split at hl
    case h_2 => cases hl
    split at hl <;> cases hl
    rename_i v hv
    simp only [llookup_mono h hv]
  case mapUpdate t a b c =>
    split at hl
    case h_2 => cases hl
    unfold lmapUpdate at hl
    split at hl
    case h_2 => cases hl
    split at hl
    case h_2 => cases hl
    split at hl
    case h_2 => cases hl
    split at hl
    case isFalse => cases hl
    cases hl; cases hm
  case extract x i => rw [hE x (by simp [Op.operands])]; exact hl
  case call c =>
    have hargs : evs env' c.args.toList = evs env c.args.toList := hevs _ fun x hx => hE x (by simp only [Op.operands, Call.operands]; rw [Array.mem_append]; exact .inr (Array.mem_toList_iff.1 hx))
    unfold lblt at hl ⊢
    rw [hargs]
    split at hl
    · rename_i h1 h2; (try simp only [h1, h2]); exact lappend_mono h hl
    · rename_i vs h1 h2
      (try simp only [h1, h2])
      unfold lcopy at hl ⊢
      split at hl
      case h_2 => cases hl
      rename_i t base len cp x h3
      (try simp only [h3])
      split at hl
      case h_2 => cases hl
      rename_i el s n h4 h5
      (try simp only [h4, h5])
      split at hl
      case h_2 => cases hl
      rename_i new h6
      simp only [lfirst_mono h h6]
      cases base with
      | none => exact hl
      | some a =>
        simp only at hl
        split at hl
        case h_2 => cases hl
        split at hl
        case isFalse => cases hl
        cases hl; cases hm
    · rename_i vs h1 h2
      unfold ldelete at hl
      split at hl
      case h_2 => cases hl
      split at hl
      case h_2 => cases hl
      split at hl
      case h_2 => cases hl
      split at hl
      case h_2 => cases hl
      cases hl; cases hm
    · rename_i x r h1 h2
      (try simp only [h1, h2])
      split at hl
      case h_2 => cases hl
      rename_i t h3
      (try simp only [h3])
      split at hl <;> cases hl
      rename_i v hv
      simp only [llenOf_mono h hv]
    · rename_i h1 h2; (try simp only [h1, h2]); exact hl
    · rename_i h1 h2; (try simp only [h1, h2]); exact hl
    · cases hl
end

theorem goCall_same {env env' : Env} {op : Op} (hE : ∀ x ∈ op.operands, ev env' x = ev env x) {r : FuncId × List Value} (h : goCall env op = some r) : goCall env' op = some r := by
  have hevs : ∀ l : List Operand, (∀ x ∈ l, ev env' x = ev env x) → evs env' l = evs env l := by
    intro l
    induction l with
    | nil => intro _; rfl
    | cons x r ih => intro hx; simp only [evs]; rw [hx x (by simp), ih (fun y hy => hx y (by simp [hy]))]
  unfold goCall at h ⊢
  split at h
  case h_2 => cases h
  rename_i c
  split at h
  case h_2 => cases h
  rename_i f hc
  have hargs : evs env' c.args.toList = evs env c.args.toList := hevs _ fun x hx => hE x (by simp only [Op.operands, Call.operands]; rw [Array.mem_append]; exact .inr (Array.mem_toList_iff.1 hx))
  have hf : ev env' f = ev env f := hE f (by simp [Op.operands, Call.operands, hc])
  (try simp only [hc, hf, hargs])
  exact h

end Go.Lm
/- A region that draws its order: operations that turn no object in any order, then the others in the text's order. -/
namespace Go.Lm

/-- what an operation of the region has come to -/
structure DRes where
  dst : Option Nat
  val : Value
  new : Option Ob
  kid : Nat

/-- one operation's mark on the environment, on the memory, if it has run -/
def sE (b : Bool) (d : DRes) (env : Env) : Env :=
  match b, d.dst with
  | true, some t => (t, d.val) :: env
  | _, _ => env

def sM (b : Bool) (d : DRes) (m : Mem) : Mem :=
  match b, d.new with
  | true, some o => m.put d.kid o
  | _, _ => m

/-- the environment and memory where those operations have run that 'on' names; the first is number i -/
def senv (on : Nat → Bool) : Nat → List DRes → Env → Env
  | _, [], env => env
  | i, d :: r, env => senv on (i + 1) r (sE (on i) d env)

def smem (on : Nat → Bool) : Nat → List DRes → Mem → Mem
  | _, [], m => m
  | i, d :: r, m => smem on (i + 1) r (sM (on i) d m)

def bit (b : Nat) (i : Nat) : Bool := b.testBit i

/-- A call that turns nothing. -/
def PureC (P : Program) (g : FuncId) (vs : List Value) (m : Mem) (v : Value) : Prop :=
  ∀ m' : Mem, Mle m.get m'.get → TC P g vs m' fun u m'' => u = v ∧ m'' = m'

/-- A call that hands back a new object, as number k. -/
def NewC (P : Program) (g : FuncId) (vs : List Value) (m : Mem) (k : Nat) (v : Value) (o : Ob) : Prop :=
  ∀ m' : Mem, Mle m.get m'.get → m'.get k = .free → TC P g vs m' fun u m'' => u = v ∧ m'' = m'.put k o

def okDst (N : Nat) (o : Oper) : Bool :=
  match o.dst with
  | some d => decide (d < N)
  | none => true

/-- The first s operations, each over what must have gone ahead. -/
def drw (P : Program) (N : Nat) (ops : Array Oper) (s : Nat) (b : Nat → Nat) (env : Env) (m : Mem) (K : List DRes → Prop) : List Oper → Nat → Nat → List DRes → Prop
  | [], _, _, D => K D
  | o :: r, i, kid, D =>
    if s ≤ i then K D else
    okDst N o = true ∧
    match guardQ ops.toList (senv (bit (b i)) 0 D env) o with
    | none => False
    | some false => drw P N ops s b env m K r (i + 1) kid (D ++ [⟨o.dst, undef, none, 0⟩])
    | some true =>
      match goCall (senv (bit (b i)) 0 D env) o.op with
      | some (g, vs) =>
        (∃ v, PureC P g vs (smem (bit (b i)) 0 D m) v ∧ drw P N ops s b env m K r (i + 1) kid (D ++ [⟨o.dst, v, none, 0⟩])) ∨
        (∃ v ob, NewC P g vs (smem (bit (b i)) 0 D m) kid v ob ∧ drw P N ops s b env m K r (i + 1) (kid + 1) (D ++ [⟨o.dst, v, some ob, kid⟩]))
      | none =>
        match lop P (senv (bit (b i)) 0 D env) (smem (bit (b i)) 0 D m).get kid o.op with
        | some e => e.mods = [] ∧ drw P N ops s b env m K r (i + 1) (match e.new with | some _ => kid + 1 | none => kid) (D ++ [⟨o.dst, e.val, e.new, kid⟩])
        | none => False

/-- What is asked of the region's text. -/
def drawOk (ops : Array Oper) (s : Nat) : Bool :=
  let b := Region.before ops
  let n := ops.size
  -- what goes ahead stands ahead
  (List.range n).all (fun i => ((ops[i]?).map fun o => o.after.all fun e => !Region.binds .any e || decide (e.on < i)).getD false) &&
  -- the first s: what is not ordered does not write what the other looks at, or writes
  (List.range s).all (fun i => (List.range s).all fun j => j == i || (b.getD i 0).testBit j || (b.getD j 0).testBit i ||
    (match (ops[j]?).bind (·.dst), ops[i]? with
     | some d, some o => !((o.looksAt ops).contains d) && o.dst != some d
     | _, _ => true)) &&
  -- the others: all before them go ahead
  (List.range n).all (fun i => decide (i < s) || (List.range i).all fun j => (b.getD i 0).testBit j)

section
variable {P : Program} {N : Nat} {ops : Array Oper}

theorem before_size (ops : Array Oper) : (Region.before ops).size = ops.size := by
  unfold Region.before
  rw [← Array.foldl_toList]
  have : ∀ (l : List Oper) (acc : Array Nat), (l.foldl (fun acc o => acc.push (o.after.foldl (fun s e => if Region.binds .any e then s ||| 2 ^ e.on ||| acc.getD e.on 0 else s) 0)) acc).size = acc.size + l.length := by
    intro l
    induction l with
    | nil => intro acc; rfl
    | cons o r ih => intro acc; rw [List.foldl_cons, ih]; simp; omega
  rw [this]; simp

/-- the i-th of 'before', by those ahead of it -/
theorem before_get (ops : Array Oper) (i : Nat) (o : Oper) (ho : ops[i]? = some o) (hlow : ∀ e ∈ o.after, Region.binds .any e = true → e.on < i) :
    (Region.before ops).getD i 0 = o.after.foldl (fun s e => if Region.binds .any e then s ||| 2 ^ e.on ||| (Region.before ops).getD e.on 0 else s) 0 := by
  unfold Region.before
  rw [← Array.foldl_toList]
  have key : ∀ (l : List Oper) (acc : Array Nat), (∀ j, j < acc.size → (l.foldl (fun acc o => acc.push (o.after.foldl (fun s e => if Region.binds .any e then s ||| 2 ^ e.on ||| acc.getD e.on 0 else s) 0)) acc)[j]? = acc[j]?) ∧
      (∀ k o, l[k]? = some o → (∀ e ∈ o.after, Region.binds .any e = true → e.on < acc.size + k) →
        (l.foldl (fun acc o => acc.push (o.after.foldl (fun s e => if Region.binds .any e then s ||| 2 ^ e.on ||| acc.getD e.on 0 else s) 0)) acc).getD (acc.size + k) 0 =
          o.after.foldl (fun s e => if Region.binds .any e then s ||| 2 ^ e.on ||| (l.foldl (fun acc o => acc.push (o.after.foldl (fun s e => if Region.binds .any e then s ||| 2 ^ e.on ||| acc.getD e.on 0 else s) 0)) acc).getD e.on 0 else s) 0) := by
    intro l
    induction l with
    | nil => intro acc; exact ⟨fun j _ => rfl, fun k o h => by simp at h⟩
    | cons o r ih =>
      intro acc
      obtain ⟨h1, h2⟩ := ih (acc.push (o.after.foldl (fun s e => if Region.binds .any e then s ||| 2 ^ e.on ||| acc.getD e.on 0 else s) 0))
      refine ⟨fun j hj => ?_, fun k o' hk hl => ?_⟩
      · rw [List.foldl_cons, h1 j (by simp; omega), Array.getElem?_push_lt hj, Array.getElem?_eq_getElem hj]
      · rw [List.foldl_cons]
        cases k with
        | zero =>
          simp only [List.getElem?_cons_zero, Option.some.injEq] at hk
          subst hk
          have hx := h1 acc.size (by simp)
          rw [Nat.add_zero, Array.getD_eq_getD_getElem?, hx]
          simp only [Array.getElem?_push_size, Option.getD_some]
          have : ∀ (es : List Edge) (s0 : Nat), (∀ e ∈ es, Region.binds .any e = true → e.on < acc.size) →
              es.foldl (fun s e => if Region.binds .any e then s ||| 2 ^ e.on ||| acc.getD e.on 0 else s) s0 =
              es.foldl (fun s e => if Region.binds .any e then s ||| 2 ^ e.on ||| (r.foldl (fun acc o => acc.push (o.after.foldl (fun s e => if Region.binds .any e then s ||| 2 ^ e.on ||| acc.getD e.on 0 else s) 0)) (acc.push (o.after.foldl (fun s e => if Region.binds .any e then s ||| 2 ^ e.on ||| acc.getD e.on 0 else s) 0))).getD e.on 0 else s) s0 := by
            intro es
            induction es with
            | nil => intro s0 _; rfl
            | cons e es ihe =>
              intro s0 hes
              rw [List.foldl_cons, List.foldl_cons]
              by_cases hb : Region.binds .any e = true
              · rw [if_pos hb, if_pos hb]
                have hlt := hes e (by simp) hb
                have hg := h1 e.on (by simp; omega)
                rw [Array.getD_eq_getD_getElem?, Array.getD_eq_getD_getElem?, hg, Array.getElem?_push_lt hlt, Array.getElem?_eq_getElem hlt]
                exact ihe _ fun e' he' hb' => hes e' (by simp [he']) hb'
              · rw [if_neg hb, if_neg hb]
                exact ihe _ fun e' he' hb' => hes e' (by simp [he']) hb'
          have := this o.after.toList 0 fun e he hb => by have := hl e (by simpa using he) hb; omega
          rw [Array.foldl_toList, Array.foldl_toList] at this
          exact this
        | succ k =>
          have := h2 k o' (by simpa using hk) (fun e he hb => by have := hl e he hb; simp; omega)
          rw [Array.size_push, show acc.size + 1 + k = acc.size + (k + 1) by omega] at this
          exact this
  have := (key ops.toList #[]).2 i o (by simpa using ho) (fun e he hb => by simpa using hlow e he hb)
  simpa using this


theorem foldl_bits (f : Nat → Nat) : ∀ (es : List Edge) (s j : Nat), (es.foldl (fun s e => if Region.binds .any e then s ||| 2 ^ e.on ||| f e.on else s) s).testBit j = true →
    s.testBit j = true ∨ ∃ e ∈ es, Region.binds .any e = true ∧ (e.on = j ∨ (f e.on).testBit j = true)
  | [], s, j, h => .inl h
  | e :: es, s, j, h => by
    rw [List.foldl_cons] at h
    rcases foldl_bits f es _ j h with h1 | ⟨e', h1, h2, h3⟩
    · split at h1
      · rename_i hb
        rw [Nat.testBit_or, Nat.testBit_or, Bool.or_eq_true, Bool.or_eq_true] at h1
        rcases h1 with (h1 | h1) | h1
        · exact .inl h1
        · refine .inr ⟨e, by simp, hb, .inl ?_⟩
          rw [Nat.testBit_two_pow] at h1
          simpa using h1
        · exact .inr ⟨e, by simp, hb, .inr h1⟩
      · exact .inl h1
    · exact .inr ⟨e', by simp [h1], h2, h3⟩

def onL (listed : Array Bool) (i : Nat) : Bool := listed.getD i false

def Lower (ops : Array Oper) : Prop := ∀ i o, ops[i]? = some o → ∀ e ∈ o.after, Region.binds .any e = true → e.on < i

/-- listed with what goes ahead -/
def Closed (ops : Array Oper) (listed : Array Bool) : Prop := ∀ i o, ops[i]? = some o → onL listed i = true → ∀ e ∈ o.after, Region.binds .any e = true → onL listed e.on = true

/-- all that must have gone ahead of an operation is listed, if what its edges name is -/
theorem ahead_listed (hlow : Lower ops) {listed : Array Bool} (hc : Closed ops listed) : ∀ (i : Nat) (o : Oper), ops[i]? = some o → (∀ e ∈ o.after, Region.binds .any e = true → onL listed e.on = true) →
    ∀ j, ((Region.before ops).getD i 0).testBit j = true → onL listed j = true ∧ j < i := by
  intro i
  induction i using Nat.strongRecOn with
  | _ i ih =>
    intro o ho he j hj
    rw [before_get ops i o ho (hlow i o ho)] at hj
    rw [← Array.foldl_toList] at hj
    rcases foldl_bits (fun k => (Region.before ops).getD k 0) o.after.toList 0 j hj with h0 | ⟨e, h1, h2, h3⟩
    · simp at h0
    · have hlt := hlow i o ho e (by simpa using h1) h2
      have hon := he e (by simpa using h1) h2
      rcases h3 with rfl | h3
      · exact ⟨hon, hlt⟩
      · have hsz : e.on < ops.size := by
          have : i < ops.size := by
            rcases Nat.lt_or_ge i ops.size with h' | h'
            · exact h'
            · rw [Array.getElem?_eq_none h'] at ho; cases ho
          omega
        obtain ⟨g1, g2⟩ := ih e.on hlt ops[e.on] (Array.getElem?_eq_getElem hsz) (fun e' he' hb' => hc e.on ops[e.on] (Array.getElem?_eq_getElem hsz) hon e' he' hb') j h3
        exact ⟨g1, by omega⟩

theorem ready_spec {listed : Array Bool} (hsz : listed.size = ops.size) {i : Nat} (h : i ∈ Region.ready .any ops listed) : ∃ o, ops[i]? = some o ∧ onL listed i = false ∧ ∀ e ∈ o.after, Region.binds .any e = true → onL listed e.on = true := by
  unfold Region.ready at h
  simp only [List.mem_filter, List.mem_range, Bool.and_eq_true] at h
  obtain ⟨hi, h1, h2⟩ := h
  have ho : ops[i]? = some ops[i] := Array.getElem?_eq_getElem hi
  rw [ho] at h2
  simp only [Option.map_some, Option.getD_some] at h2
  refine ⟨ops[i], ho, ?_, fun e he hb => ?_⟩
  · simp only [onL]
    rw [Array.getD_eq_getD_getElem?, Array.getElem?_eq_getElem (by omega)] at h1 ⊢
    simpa using h1
  · rw [Array.all_eq_true_iff_forall_mem] at h2
    have := h2 e he
    rw [hb] at this
    simpa [onL] using this

theorem ready_of {listed : Array Bool} (hsz : listed.size = ops.size) {i : Nat} {o : Oper} (ho : ops[i]? = some o) (h1 : onL listed i = false) (h2 : ∀ e ∈ o.after, Region.binds .any e = true → onL listed e.on = true) : i ∈ Region.ready .any ops listed := by
  have hi : i < ops.size := by
    rcases Nat.lt_or_ge i ops.size with h' | h'
    · exact h'
    · rw [Array.getElem?_eq_none h'] at ho; cases ho
  unfold Region.ready
  simp only [List.mem_filter, List.mem_range, Bool.and_eq_true]
  refine ⟨hi, ?_, ?_⟩
  · simp only [onL] at h1
    rw [Array.getD_eq_getD_getElem?, Array.getElem?_eq_getElem (by omega)] at h1 ⊢
    simpa using h1
  · rw [ho]
    simp only [Option.map_some, Option.getD_some]
    rw [Array.all_eq_true_iff_forall_mem]
    intro e he
    by_cases hb : Region.binds .any e = true
    · have := h2 e he hb
      simp [onL] at this
      simp [hb, this]
    · simp [hb]

theorem ready_nil (hlow : Lower ops) {listed : Array Bool} (hsz : listed.size = ops.size) (h : Region.ready .any ops listed = []) : ∀ i, i < ops.size → onL listed i = true := by
  intro i
  induction i using Nat.strongRecOn with
  | _ i ih =>
    intro hi
    cases hon : onL listed i with
    | true => rfl
    | false =>
      have ho : ops[i]? = some ops[i] := Array.getElem?_eq_getElem hi
      have := ready_of hsz ho hon (fun e he hb => ih e.on (hlow i _ ho e he hb) (by have := hlow i _ ho e he hb; omega))
      rw [h] at this
      cases this

theorem onL_set {listed : Array Bool} {i : Nat} (hi : i < listed.size) (j : Nat) : onL (listed.setIfInBounds i true) j = (decide (j = i) || onL listed j) := by
  simp only [onL, Array.getD_eq_getD_getElem?]
  by_cases hj : j = i
  · subst hj; rw [Array.getElem?_setIfInBounds_self_of_lt hi]; simp
  · rw [Array.getElem?_setIfInBounds_ne (Ne.symm hj)]; simp [hj]

def cnt (listed : Array Bool) : Nat := listed.toList.countP (!·)

theorem cnt_set {listed : Array Bool} {i : Nat} (hi : i < listed.size) (h : onL listed i = false) : cnt listed = cnt (listed.setIfInBounds i true) + 1 := by
  unfold cnt
  rw [Array.toList_setIfInBounds]
  have key : ∀ (l : List Bool) (i : Nat), l[i]? = some false → l.countP (!·) = (l.set i true).countP (!·) + 1 := by
    intro l
    induction l with
    | nil => intro i h; simp at h
    | cons b r ih =>
      intro i h
      cases i with
      | zero => simp at h; subst h; simp
      | succ i =>
        have := ih i (by simpa using h)
        simp only [List.set_cons_succ, List.countP_cons]
        omega
  refine key _ i ?_
  simp only [onL, Array.getD_eq_getD_getElem?, Array.getElem?_eq_getElem hi, Option.getD_some] at h
  rw [Array.getElem?_toList, Array.getElem?_eq_getElem hi, h]

theorem cnt_all {listed : Array Bool} (h : ∀ i, i < listed.size → onL listed i = true) : cnt listed = 0 := by
  unfold cnt
  rw [List.countP_eq_zero]
  intro b hb
  obtain ⟨i, hi, e⟩ := List.mem_iff_getElem.1 hb
  have hi' : i < listed.size := by simpa using hi
  have := h i hi'
  simp only [onL, Array.getD_eq_getD_getElem?, Array.getElem?_eq_getElem hi', Option.getD_some] at this
  have e2 : listed[i] = b := by rw [← e]; simp
  rw [← e2, this]
  simp

/-- Where each that is left must wait for all before it, the order is the text's. -/
theorem tail_any {Q : Exit → Act → World → Prop} (hlow : Lower ops) : ∀ (l : List Oper) (k : Nat) (listed : Array Bool) (a : Act) (w : World), l = ops.toList.drop k → listed.size = ops.size → Closed ops listed → (∀ j, j < ops.size → (onL listed j = true ↔ j < k)) →
    (∀ i, k ≤ i → i < ops.size → ∀ j, j < i → ((Region.before ops).getD i 0).testBit j = true) → wpList P ops Q l a w → wpAny P .any ops Q l.length listed a w
  | [], k, listed, a, w, hl, hsz, hc, hon, hall, h => by
    have hk : ops.size ≤ k := by
      have : (ops.toList.drop k).length = 0 := by rw [← hl]; rfl
      simp at this; omega
    refine ⟨?_, h⟩
    cases hr : Region.ready .any ops listed with
    | nil => rfl
    | cons i r =>
      obtain ⟨o, ho, h1, _⟩ := ready_spec hsz (i := i) (by rw [hr]; simp)
      have hi : i < ops.size := by
        rcases Nat.lt_or_ge i ops.size with h' | h'
        · exact h'
        · rw [Array.getElem?_eq_none h'] at ho; cases ho
      rw [(hon i hi).2 (by omega)] at h1
      cases h1
  | o :: r, k, listed, a, w, hl, hsz, hc, hon, hall, h => by
    have hk : k < ops.size := by
      have : (ops.toList.drop k).length = r.length + 1 := by rw [← hl]; rfl
      simp at this; omega
    have hok : ops[k]? = some o := by
      have : (ops.toList.drop k)[0]? = some o := by rw [← hl]; rfl
      simpa using this
    have hr : r = ops.toList.drop (k + 1) := by
      have : (ops.toList.drop k).drop 1 = r := by rw [← hl]; rfl
      rw [← this, List.drop_drop]
    have hkr : k ∈ Region.ready .any ops listed := ready_of hsz hok (by
        cases hx : onL listed k with
        | false => rfl
        | true => have := (hon k hk).1 hx; omega) (fun e he hb => (hon e.on (by have := hlow k o hok e he hb; omega)).2 (hlow k o hok e he hb))
    refine ⟨fun h0 => (by rw [h0] at hkr; cases hkr), fun i hi => ?_⟩
    obtain ⟨oi, hoi, h1, h2⟩ := ready_spec hsz hi
    have hilt : i < ops.size := by
      rcases Nat.lt_or_ge i ops.size with h' | h'
      · exact h'
      · rw [Array.getElem?_eq_none h'] at hoi; cases hoi
    have hik : i = k := by
      rcases Nat.lt_trichotomy i k with h' | h' | h'
      · rw [(hon i hilt).2 h'] at h1; cases h1
      · exact h'
      · have := (ahead_listed hlow hc i oi hoi h2 k (hall i (by omega) hilt k h')).1
        have := (hon k hk).1 this
        omega
    subst hik
    have hstep : wpOp P ops Q i (wpList P ops Q r) a w := by
      unfold wpOp
      rw [hok]
      exact h
    refine wpOp_mono (fun a' w' h' => tail_any hlow r (i + 1) _ a' w' hr (by simpa using hsz) ?_ ?_ (fun i' hi' => hall i' (by omega)) h') hstep
    · intro j oj hoj hj e he hb
      rw [onL_set (by omega)] at hj ⊢
      rw [Bool.or_eq_true, decide_eq_true_iff] at hj ⊢
      right
      rcases hj with rfl | hj
      · rw [hoj] at hoi; cases hoi; exact h2 e he hb
      · exact hc j oj hoj hj e he hb
    · intro j hj
      rw [onL_set (by omega), Bool.or_eq_true, decide_eq_true_iff, hon j hj]
      omega
end
end Go.Lm
/- The rule of a region that draws its order. -/
namespace Go.Lm

section

theorem sE_other {b : Bool} {d : DRes} {e : Env} {t : Nat} (h : d.dst ≠ some t) : elook (sE b d e) t = elook e t := by
  unfold sE
  split
  · rename_i s hs
    simp only [elook]
    rw [if_neg (fun e => h (by rw [hs, e]))]
  · rfl

theorem sE_same {d : DRes} {e : Env} {t : Nat} (h : d.dst = some t) : elook (sE true d e) t = some d.val := by
  simp only [sE, h, elook, if_true]

theorem sE_false (d : DRes) (e : Env) : sE false d e = e := rfl
theorem sM_false (d : DRes) (m : Mem) : sM false d m = m := rfl

theorem sE_congr {b : Bool} {d : DRes} {e e' : Env} {t : Nat} (h : elook e t = elook e' t) : elook (sE b d e) t = elook (sE b d e') t := by
  by_cases ht : d.dst = some t
  · cases b
    · exact h
    · rw [sE_same ht, sE_same ht]
  · rw [sE_other ht, sE_other ht, h]

theorem sM_get (b : Bool) (d : DRes) (m : Mem) : (sM b d m).get = match b, d.new with
    | true, some o => Mset m.get d.kid o
    | _, _ => m.get := by
  unfold sM
  cases b with
  | false => rfl
  | true =>
    cases d.new with
    | none => rfl
    | some o => exact Mem.get_put _ _ _

theorem sM_none {d : DRes} (h : d.new = none) (b : Bool) (m : Mem) : sM b d m = m := by
  unfold sM; rw [h]; cases b <;> rfl

/-- Two stages look alike at a slot that what parts them does not write. -/
theorem senv_agree (on on' : Nat → Bool) (t : Nat) : ∀ (D : List DRes) (i : Nat) (env env' : Env), elook env t = elook env' t →
    (∀ (j : Nat) (d : DRes), D[j]? = some d → on (i + j) ≠ on' (i + j) → d.dst ≠ some t) → elook (senv on i D env) t = elook (senv on' i D env') t
  | [], i, env, env', h, _ => h
  | d :: r, i, env, env', h, hd => by
    simp only [senv]
    refine senv_agree on on' t r (i + 1) _ _ ?_ (fun j d' hj hne => hd (j + 1) d' (by simpa using hj) (by rwa [show i + (j + 1) = i + 1 + j by omega]))
    have h0 := hd 0 d (by simp)
    rw [Nat.add_zero] at h0
    by_cases hon : on i = on' i
    · rw [hon]; exact sE_congr h
    · rw [sE_other (h0 hon), sE_other (h0 hon), h]

theorem senv_none : ∀ (D : List DRes) (i : Nat) (e : Env), senv (fun _ => false) i D e = e
  | [], _, _ => rfl
  | d :: r, i, e => by simp only [senv, sE_false]; exact senv_none r (i + 1) e

theorem senv_set (on : Nat → Bool) (t : Nat) : ∀ (D : List DRes) (i k : Nat) (d : DRes) (env : Env), D[k]? = some d → on (i + k) = false →
    (∀ (j : Nat) (d' : DRes), k < j → D[j]? = some d' → on (i + j) = true → d'.dst = some t → d.dst ≠ some t) →
    elook (senv (fun j => decide (j = i + k) || on j) i D env) t = if d.dst = some t then some d.val else elook (senv on i D env) t
  | [], i, k, d, env, h, _, _ => by simp at h
  | d0 :: r, i, 0, d, env, h, hon, hl => by
    simp only [List.getElem?_cons_zero, Option.some.injEq] at h
    subst h
    rw [Nat.add_zero] at hon
    simp only [senv, Nat.add_zero, decide_true, Bool.true_or, hon, sE_false]
    by_cases ht : d0.dst = some t
    · rw [if_pos ht]
      have := senv_agree (fun j => decide (j = i) || on j) (fun _ => false) t r (i + 1) (sE true d0 env) (sE true d0 env) rfl (fun j d' hj hne => by
        intro hdt
        have hlt : on (i + (j + 1)) = true := by
          have e : (decide (i + 1 + j = i)) = false := by simp; omega
          simp only [e, Bool.false_or] at hne
          rw [show i + (j + 1) = i + 1 + j by omega]
          simpa using hne
        exact hl (j + 1) d' (by omega) (by simpa using hj) hlt hdt ht)
      rw [this, senv_none]
      exact sE_same ht
    · rw [if_neg ht]
      refine senv_agree _ _ t r (i + 1) _ _ (sE_other ht) (fun j d' hj hne => ?_)
      exfalso
      apply hne
      have e : (decide (i + 1 + j = i)) = false := by simp; omega
      simp [e]
  | d0 :: r, i, k + 1, d, env, h, hon, hl => by
    simp only [senv]
    have e : (decide (i = i + (k + 1)) || on i) = on i := by
      have : decide (i = i + (k + 1)) = false := by simp
      rw [this, Bool.false_or]
    rw [e]
    have := senv_set on t r (i + 1) k d (sE (on i) d0 env) (by simpa using h) (by rwa [show i + 1 + k = i + (k + 1) by omega]) (fun j d' hj hd ho => hl (j + 1) d' (by omega) (by simpa using hd) (by rwa [show i + (j + 1) = i + 1 + j by omega]))
    rw [show i + 1 + k = i + (k + 1) by omega] at this
    exact this

/-- the new objects' numbers are free, and no two are one -/
def KidsOk (M : Nat → Ob) (D : List DRes) : Prop :=
  (∀ (j : Nat) (d : DRes) (o : Ob), D[j]? = some d → d.new = some o → M d.kid = .free) ∧
  (∀ (j j' : Nat) (d d' : DRes) (o o' : Ob), D[j]? = some d → D[j']? = some d' → d.new = some o → d'.new = some o' → j ≠ j' → d.kid ≠ d'.kid)

theorem KidsOk.tail {M : Nat → Ob} {d : DRes} {r : List DRes} (h : KidsOk M (d :: r)) : KidsOk M r :=
  ⟨fun j d' o hj hn => h.1 (j + 1) d' o (by simpa using hj) hn, fun j j' d1 d2 o o' h1 h2 h3 h4 hne => h.2 (j + 1) (j' + 1) d1 d2 o o' (by simpa using h1) (by simpa using h2) h3 h4 (by omega)⟩

theorem KidsOk.put {M : Nat → Ob} {d : DRes} {r : List DRes} {o : Ob} (h : KidsOk M (d :: r)) (hn : d.new = some o) (ob : Ob) : KidsOk (Mset M d.kid ob) r := by
  refine ⟨fun j d' o' hj hn' => ?_, h.tail.2⟩
  have hne := h.2 0 (j + 1) d d' o o' (by simp) (by simpa using hj) hn hn' (by omega)
  rw [Mset_ne M _ (Ne.symm hne)]
  exact h.tail.1 j d' o' hj hn'

theorem KidsOk.sM {m : Mem} {d : DRes} {r : List DRes} (h : KidsOk m.get (d :: r)) (b : Bool) : KidsOk (sM b d m).get r := by
  rw [sM_get]
  split
  · rename_i o hn; exact h.put hn o
  · exact h.tail

theorem smem_le (on on' : Nat → Bool) : ∀ (D : List DRes) (i : Nat) (m m' : Mem), (∀ j, on j = true → on' j = true) → Mle m.get m'.get → KidsOk m.get D → Mle (smem on i D m).get (smem on' i D m').get
  | [], _, _, _, _, h, _ => h
  | d :: r, i, m, m', hon, h, hk => by
    simp only [smem]
    refine smem_le on on' r (i + 1) _ _ hon ?_ (hk.sM _)
    rw [sM_get, sM_get]
    cases hn : d.new with
    | none => cases on i <;> cases on' i <;> exact h
    | some o =>
      have hfree := hk.1 0 d o (by simp) hn
      cases h1 : on i with
      | true =>
        rw [hon i h1]
        intro k hk'
        simp only at hk' ⊢
        by_cases e : k = d.kid
        · subst e; rw [Mset_same, Mset_same]
        · rw [Mset_ne _ _ e] at hk' ⊢; rw [Mset_ne _ _ e]; exact h k hk'
      | false =>
        cases h2 : on' i with
        | false => exact h
        | true =>
          intro k hk'
          simp only at hk' ⊢
          by_cases e : k = d.kid
          · subst e; exact absurd hfree hk'
          · rw [Mset_ne _ _ e]; exact h k hk'

theorem smem_keep (on : Nat → Bool) (k : Nat) : ∀ (r : List DRes) (i : Nat) (m : Mem), (∀ (j : Nat) (d' : DRes) (o' : Ob), r[j]? = some d' → d'.new = some o' → k ≠ d'.kid) → (smem on i r m).get k = m.get k
  | [], _, _, _ => rfl
  | d1 :: r, i, m, hne => by
    simp only [smem]
    rw [smem_keep on k r (i + 1) _ (fun j d' o' hj hn' => hne (j + 1) d' o' (by simpa using hj) hn'), sM_get]
    cases hn1 : d1.new with
    | none => cases on i <;> rfl
    | some o1 =>
      cases on i with
      | false => rfl
      | true => exact Mset_ne _ _ (hne 0 d1 o1 (by simp) hn1)

theorem smem_free (on : Nat → Bool) : ∀ (D : List DRes) (i j : Nat) (m : Mem) (d : DRes) (o : Ob), KidsOk m.get D → D[j]? = some d → d.new = some o → on (i + j) = false → (smem on i D m).get d.kid = .free
  | [], _, _, _, _, _, _, h, _, _ => by simp at h
  | d0 :: r, i, 0, m, d, o, hk, h, hn, hon => by
    simp only [List.getElem?_cons_zero, Option.some.injEq] at h
    subst h
    rw [Nat.add_zero] at hon
    simp only [smem, hon, sM_false]
    rw [smem_keep on d0.kid r (i + 1) m fun j d' o' hj hn' => hk.2 0 (j + 1) d0 d' o o' (by simp) (by simpa using hj) hn hn' (by omega)]
    exact hk.1 0 d0 o (by simp) hn
  | d0 :: r, i, j + 1, m, d, o, hk, h, hn, hon => by
    simp only [smem]
    exact smem_free on r (i + 1) j _ d o (hk.sM _) (by simpa using h) hn (by rwa [show i + 1 + j = i + (j + 1) by omega])

theorem smem_congr (on on' : Nat → Bool) : ∀ (D : List DRes) (i : Nat) (m m' : Mem), m.get = m'.get → (∀ (j : Nat) (d : DRes) (o : Ob), D[j]? = some d → d.new = some o → on (i + j) = on' (i + j)) → (smem on i D m).get = (smem on' i D m').get
  | [], _, _, _, h, _ => h
  | d :: r, i, m, m', h, hon => by
    simp only [smem]
    refine smem_congr on on' r (i + 1) _ _ ?_ (fun j d' o hj hn => by have := hon (j + 1) d' o (by simpa using hj) hn; rwa [show i + (j + 1) = i + 1 + j by omega] at this)
    rw [sM_get, sM_get, h]
    cases hn : d.new with
    | none => cases on i <;> cases on' i <;> rfl
    | some o =>
      have := hon 0 d o (by simp) hn
      rw [Nat.add_zero] at this
      rw [this]

theorem Mset_comm (M : Nat → Ob) {k k' : Nat} (o o' : Ob) (h : k ≠ k') : Mset (Mset M k o) k' o' = Mset (Mset M k' o') k o := by
  funext j
  simp only [Mset]
  by_cases h1 : j = k
  · by_cases h2 : j = k'
    · omega
    · simp [h1]; intro e; omega
  · simp [h1]

theorem smem_put (on : Nat → Bool) (k : Nat) (o : Ob) : ∀ (r : List DRes) (i : Nat) (m : Mem), (∀ (j : Nat) (d' : DRes) (o' : Ob), r[j]? = some d' → d'.new = some o' → k ≠ d'.kid) → (smem on i r (m.put k o)).get = Mset (smem on i r m).get k o
  | [], _, m, _ => Mem.get_put _ _ _
  | d1 :: r, i, m, hne => by
    simp only [smem]
    rw [← smem_put on k o r (i + 1) _ (fun j d' o' hj hn' => hne (j + 1) d' o' (by simpa using hj) hn')]
    refine smem_congr on on r (i + 1) _ _ ?_ (fun _ _ _ _ _ => rfl)
    rw [sM_get, Mem.get_put, Mem.get_put, sM_get]
    cases hn1 : d1.new with
    | none => cases on i <;> rfl
    | some o1 =>
      cases on i with
      | false => rfl
      | true => exact Mset_comm _ _ _ (hne 0 d1 o1 (by simp) hn1)

theorem smem_set (on : Nat → Bool) : ∀ (D : List DRes) (i k : Nat) (m : Mem) (d : DRes), KidsOk m.get D → D[k]? = some d → on (i + k) = false →
    (smem (fun j => decide (j = i + k) || on j) i D m).get = match d.new with | some o => Mset (smem on i D m).get d.kid o | none => (smem on i D m).get
  | [], _, _, _, _, _, h, _ => by simp at h
  | d0 :: r, i, 0, m, d, hk, h, hon => by
    simp only [List.getElem?_cons_zero, Option.some.injEq] at h
    subst h
    rw [Nat.add_zero] at hon
    simp only [smem, Nat.add_zero, decide_true, Bool.true_or, hon, sM_false]
    have hc := fun m' : Mem => smem_congr (fun j => decide (j = i) || on j) on r (i + 1) m' m' rfl fun j d' o hj _ => by
      have e : (decide (i + 1 + j = i)) = false := by simp; omega
      simp [e]
    rw [hc]
    cases hn : d0.new with
    | none => simp only; rw [sM_none hn]
    | some o =>
      simp only
      have : sM true d0 m = m.put d0.kid o := by simp only [sM, hn]
      rw [this]
      exact smem_put on d0.kid o r (i + 1) m fun j d' o' hj hn' => hk.2 0 (j + 1) d0 d' o o' (by simp) (by simpa using hj) hn hn' (by omega)
  | d0 :: r, i, k + 1, m, d, hk, h, hon => by
    simp only [smem]
    have e : (decide (i = i + (k + 1)) || on i) = on i := by
      have : decide (i = i + (k + 1)) = false := by simp
      rw [this, Bool.false_or]
    rw [e]
    have := smem_set on r (i + 1) k (sM (on i) d0 m) d (hk.sM _) (by simpa using h) (by rwa [show i + 1 + k = i + (k + 1) by omega])
    rw [show i + 1 + k = i + (k + 1) by omega] at this
    exact this
end

/-- What the walk over the first s has found of operation number i. -/
def OpFact (P : Program) (N : Nat) (ops : Array Oper) (env : Env) (m : Mem) (D : List DRes) (i : Nat) (o : Oper) (d : DRes) : Prop :=
  d.dst = o.dst ∧ okDst N o = true ∧
  ((guardQ ops.toList (senv (bit ((Region.before ops).getD i 0)) 0 D env) o = some false ∧ d.val = undef ∧ d.new = none) ∨
   (guardQ ops.toList (senv (bit ((Region.before ops).getD i 0)) 0 D env) o = some true ∧
    ((∃ g vs, goCall (senv (bit ((Region.before ops).getD i 0)) 0 D env) o.op = some (g, vs) ∧
        ((d.new = none ∧ PureC P g vs (smem (bit ((Region.before ops).getD i 0)) 0 D m) d.val) ∨ (∃ ob, d.new = some ob ∧ NewC P g vs (smem (bit ((Region.before ops).getD i 0)) 0 D m) d.kid d.val ob))) ∨
     (goCall (senv (bit ((Region.before ops).getD i 0)) 0 D env) o.op = none ∧ lop P (senv (bit ((Region.before ops).getD i 0)) 0 D env) (smem (bit ((Region.before ops).getD i 0)) 0 D m).get d.kid o.op = some { val := d.val, new := d.new, mods := [] }))))

theorem senv_take (on : Nat → Bool) : ∀ (D : List DRes) (E : List DRes) (i : Nat) (env : Env), (∀ j, i + D.length ≤ j → on j = false) → senv on i (D ++ E) env = senv on i D env
  | [], [], _, _, _ => rfl
  | [], e :: E, i, env, h => by
    simp only [List.nil_append, senv, h i (by simp), sE_false]
    exact senv_take on [] E (i + 1) env fun j hj => h j (by simp at hj ⊢; omega)
  | d :: D, E, i, env, h => by
    simp only [List.cons_append, senv]
    exact senv_take on D E (i + 1) _ fun j hj => h j (by simp at hj ⊢; omega)

theorem smem_take (on : Nat → Bool) : ∀ (D : List DRes) (E : List DRes) (i : Nat) (m : Mem), (∀ j, i + D.length ≤ j → on j = false) → smem on i (D ++ E) m = smem on i D m
  | [], [], _, _, _ => rfl
  | [], e :: E, i, m, h => by
    simp only [List.nil_append, smem, h i (by simp), sM_false]
    exact smem_take on [] E (i + 1) m fun j hj => h j (by simp at hj ⊢; omega)
  | d :: D, E, i, m, h => by
    simp only [List.cons_append, smem]
    exact smem_take on D E (i + 1) _ fun j hj => h j (by simp at hj ⊢; omega)

end Go.Lm
/- The rule of a region that draws its order: its soundness. -/
namespace Go.Lm

section
variable {P : Program} {N : Nat} {ops : Array Oper} {s : Nat} {env : Env} {m : Mem} {K : List DRes → Prop}

/-- the numbers of new objects: above the memory's, rising -/
def KidsUp (top kid : Nat) (D : List DRes) : Prop :=
  (∀ (j : Nat) (d : DRes) (o : Ob), D[j]? = some d → d.new = some o → top ≤ d.kid ∧ d.kid < kid) ∧
  (∀ (j j' : Nat) (d d' : DRes) (o o' : Ob), D[j]? = some d → D[j']? = some d' → d.new = some o → d'.new = some o' → j ≠ j' → d.kid ≠ d'.kid)

theorem KidsUp.snoc {top kid : Nat} {D : List DRes} (h : KidsUp top kid D) (d : DRes) (hd : ∀ o, d.new = some o → d.kid = kid ∧ top ≤ kid) : KidsUp top (match d.new with | some _ => kid + 1 | none => kid) (D ++ [d]) := by
  have hle : kid ≤ (match d.new with | some _ => kid + 1 | none => kid) := by split <;> omega
  have get : ∀ (j : Nat) (x : DRes), (D ++ [d])[j]? = some x → D[j]? = some x ∨ (j = D.length ∧ x = d) := fun j x hj => by
    rcases Nat.lt_or_ge j D.length with h' | h'
    · rw [List.getElem?_append_left h'] at hj; exact .inl hj
    · rw [List.getElem?_append_right h'] at hj
      have : j - D.length = 0 := by
        rcases Nat.eq_zero_or_pos (j - D.length) with h0 | h0
        · exact h0
        · rw [List.getElem?_eq_none (by simp; omega)] at hj; cases hj
      rw [this] at hj
      simp at hj
      exact .inr ⟨by omega, hj.symm⟩
  refine ⟨fun j x o hj hn => ?_, fun j j' x x' o o' hj hj' hn hn' hne => ?_⟩
  · rcases get j x hj with h1 | ⟨h1, rfl⟩
    · have := h.1 j x o h1 hn; omega
    · obtain ⟨h2, h3⟩ := hd o hn
      rw [hn]
      simp only
      omega
  · rcases get j x hj with h1 | ⟨h1, e1⟩
    · rcases get j' x' hj' with h2 | ⟨h2, e2⟩
      · exact h.2 j j' x x' o o' h1 h2 hn hn' hne
      · subst e2
        have h3 := h.1 j x o h1 hn
        have h4 := (hd o' hn').1
        omega
    · rcases get j' x' hj' with h2 | ⟨h2, e2⟩
      · subst e1
        have h3 := h.1 j' x' o' h2 hn'
        have h4 := (hd o hn).1
        omega
      · omega

theorem drw_facts : ∀ (l : List Oper) (i kid : Nat) (D0 : List DRes), drw P N ops s (fun i => (Region.before ops).getD i 0) env m K l i kid D0 → l = ops.toList.drop i → D0.length = i → i ≤ s → i ≤ ops.size → m.top ≤ kid → KidsUp m.top kid D0 →
    (∀ (j : Nat) (o : Oper) (d : DRes), ops[j]? = some o → D0[j]? = some d → OpFact P N ops env m (D0.take j) j o d) →
    ∃ D kid', K D ∧ KidsUp m.top kid' D ∧ (D.length = s ∨ D.length = ops.size) ∧ D.length ≤ s ∧ D.length ≤ ops.size ∧ ∀ (j : Nat) (o : Oper) (d : DRes), ops[j]? = some o → D[j]? = some d → OpFact P N ops env m (D.take j) j o d
  | [], i, kid, D0, h, hl, hD, hs, hsz, hk, hku, hf => by
    refine ⟨D0, kid, h, hku, ?_, by omega, by omega, hf⟩
    have : (ops.toList.drop i).length = 0 := by rw [← hl]; rfl
    right; simp at this; omega
  | o :: r, i, kid, D0, h, hl, hD, hs, hsz, hk, hku, hf => by
    have hi : i < ops.size := by
      have : (ops.toList.drop i).length = r.length + 1 := by rw [← hl]; rfl
      simp at this; omega
    have hoi : ops[i]? = some o := by
      have : (ops.toList.drop i)[0]? = some o := by rw [← hl]; rfl
      simpa using this
    have hr : r = ops.toList.drop (i + 1) := by
      have : (ops.toList.drop i).drop 1 = r := by rw [← hl]; rfl
      rw [← this, List.drop_drop]
    unfold drw at h
    split at h
    · exact ⟨D0, kid, h, hku, .inl (by omega), by omega, by omega, hf⟩
    · rename_i hsi
      obtain ⟨hdst, h⟩ := h
      have hf' : ∀ d : DRes, OpFact P N ops env m D0 i o d → ∀ (j : Nat) (o : Oper) (d' : DRes), ops[j]? = some o → (D0 ++ [d])[j]? = some d' → OpFact P N ops env m ((D0 ++ [d]).take j) j o d' := by
        intro d hd j o' d' hj hd'
        rcases Nat.lt_or_ge j D0.length with h' | h'
        · rw [List.getElem?_append_left h'] at hd'
          rw [List.take_append_of_le_length (by omega)]
          exact hf j o' d' hj hd'
        · rw [List.getElem?_append_right h'] at hd'
          have h0 : j - D0.length = 0 := by
            rcases Nat.eq_zero_or_pos (j - D0.length) with h0 | h0
            · exact h0
            · rw [List.getElem?_eq_none (by simp; omega)] at hd'; cases hd'
          rw [h0] at hd'
          simp at hd'
          subst hd'
          have hji : j = i := by omega
          subst hji
          rw [hoi] at hj
          cases hj
          rw [List.take_append_of_le_length (by omega), List.take_of_length_le (by omega)]
          exact hd
      split at h
      · exact h.elim
      · rename_i hg
        have hfact : OpFact P N ops env m D0 i o ⟨o.dst, undef, none, 0⟩ := ⟨rfl, hdst, .inl ⟨hg, rfl, rfl⟩⟩
        exact drw_facts r (i + 1) kid (D0 ++ [⟨o.dst, undef, none, 0⟩]) h hr (by simp [hD]) (by omega) (by omega) hk (hku.snoc ⟨o.dst, undef, none, 0⟩ (fun o ho => by cases ho)) (hf' _ hfact)
      · rename_i hg
        split at h
        · rename_i g vs hc
          rcases h with ⟨v, hp, h⟩ | ⟨v, ob, hp, h⟩
          · have hfact : OpFact P N ops env m D0 i o ⟨o.dst, v, none, 0⟩ := ⟨rfl, hdst, .inr ⟨hg, .inl ⟨g, vs, hc, .inl ⟨rfl, hp⟩⟩⟩⟩
            exact drw_facts r (i + 1) kid (D0 ++ [⟨o.dst, v, none, 0⟩]) h hr (by simp [hD]) (by omega) (by omega) hk (hku.snoc ⟨o.dst, v, none, 0⟩ (fun o ho => by cases ho)) (hf' _ hfact)
          · have hfact : OpFact P N ops env m D0 i o ⟨o.dst, v, some ob, kid⟩ := ⟨rfl, hdst, .inr ⟨hg, .inl ⟨g, vs, hc, .inr ⟨ob, rfl, hp⟩⟩⟩⟩
            exact drw_facts r (i + 1) (kid + 1) (D0 ++ [⟨o.dst, v, some ob, kid⟩]) h hr (by simp [hD]) (by omega) (by omega) (by omega) (hku.snoc ⟨o.dst, v, some ob, kid⟩ (fun o _ => ⟨rfl, hk⟩)) (hf' _ hfact)
        · rename_i hc
          split at h
          case h_2 => exact h.elim
          rename_i e he
          obtain ⟨hm, h⟩ := h
          have hfact : OpFact P N ops env m D0 i o ⟨o.dst, e.val, e.new, kid⟩ := ⟨rfl, hdst, .inr ⟨hg, .inr ⟨hc, by rw [he]; cases e; simp at hm; simp [hm]⟩⟩⟩
          refine drw_facts r (i + 1) _ (D0 ++ [⟨o.dst, e.val, e.new, kid⟩]) h hr (by simp [hD]) (by omega) (by omega) (by split <;> omega) (hku.snoc ⟨o.dst, e.val, e.new, kid⟩ (fun o _ => ⟨rfl, hk⟩)) (hf' _ hfact)

theorem Mem.get_ge (m : Mem) {k : Nat} (h : m.top ≤ k) : m.get k = .free := by
  unfold Mem.top at h
  unfold Mem.get
  rw [if_neg (by omega), List.getElem?_eq_none (by omega)]
  rfl

theorem KidsUp.ok {kid : Nat} {D : List DRes} (h : KidsUp m.top kid D) : KidsOk m.get D :=
  ⟨fun j d o hj hn => m.get_ge (h.1 j d o hj hn).1, h.2⟩

/-- where nothing new is made its number plays no part -/
theorem lop_nokid {M : Nat → Ob} {k : Nat} {op : Op} {e : Eff} (h : lop P env M k op = some e) (hn : e.new = none) (k' : Nat) : lop P env M k' op = some e := by
  have app : ∀ (ts : Array TypeId) (args : List Value), lappend P M k ts args = some e → lappend P M k' ts args = some e := by
    intro ts args h
    unfold lappend at h ⊢
    split at h
    case h_2 => cases h
    rename_i t tx base len cap x h1 h2
    (try simp only [h1, h2])
    split at h
    case h_2 => cases h
    rename_i el s n h3 h4
    (try simp only [h3, h4])
    split at h
    case isTrue => cases h
    rename_i h5
    rw [if_neg h5]
    split at h
    case h_2 => cases h
    rename_i z b new h6 h7 h8
    (try simp only [h6, h7, h8])
    split at h
    case isTrue => cases h
    rename_i h9
    rw [if_neg h9]
    cases base with
    | none =>
      simp only at h ⊢
      split at h
      case isFalse => cases h
      rename_i h10
      rw [if_pos h10]
      split at h
      · rename_i h11; rw [if_pos h11]; exact h
      · cases h; cases hn
    | some a =>
      simp only at h ⊢
      split at h
      · rename_i h10; rw [if_pos h10]; exact h
      · rename_i h10
        rw [if_neg h10]
        split at h
        case h_2 => cases h
        rename_i ro ee c hM
        (try simp only [hM])
        split at h
        · rename_i h11; rw [if_pos h11]; exact h
        · split at h
          · cases h; cases hn
          · split at h
            · cases h; cases hn
            · cases h
  cases op <;> simp only [lop] at h ⊢ <;> try (exact h)
  case alloc t => split at h <;> cases h; cases hn
  case box t x =>
    split at h
    case h_2 => cases h
    split at h <;> cases h; cases hn
  case buildSlice t len parts =>
    split at h
    case h_2 => cases h
    unfold lbuildSlice at h
    split at h
    case h_2 => cases h
    split at h
    case h_2 => cases h
    split at h
    case isFalse => cases h
    split at h <;> cases h; cases hn
  case convert src dst x =>
    split at h
    case h_2 => cases h
    rename_i v hv
    (try simp only [hv])
    unfold lconv at h ⊢
    split at h
    · exact h
    · split at h
      · exact h
      · split at h
        · split at h <;> cases h; cases hn
        · cases h
      · cases h
    · exact h
    · exact h
    · cases h
  case makeMap t r => cases r <;> cases h; cases hn
  case makeSlice t a b =>
    split at h
    case h_2 => cases h
    unfold lmakeSlice at h
    split at h
    case h_2 => cases h
    split at h
    case h_2 => cases h
    split at h <;> cases h; cases hn
  case call c =>
    unfold lblt at h ⊢
    split at h
    · rename_i h1 h2; (try simp only [h1, h2]); exact app _ _ h
    · rename_i h1 h2; (try simp only [h1, h2]); exact h
    · rename_i h1 h2; (try simp only [h1, h2]); exact h
    · rename_i h1 h2; (try simp only [h1, h2]); exact h
    · rename_i h1 h2; (try simp only [h1, h2]); exact h
    · rename_i h1 h2; (try simp only [h1, h2]); exact h
    · cases h

theorem guardQ_same {o : Oper} {env env' : Env} (h : ∀ t ∈ o.looksAt ops, elook env t = elook env' t) : guardQ ops.toList env o = guardQ ops.toList env' o := by
  unfold guardQ
  cases hg : o.guard with
  | none => rfl
  | some x =>
    obtain ⟨j, want⟩ := x
    simp only [Array.getElem?_toList]
    cases hj : ops[j]? with
    | none => rfl
    | some oj =>
      simp only
      cases hd : oj.dst with
      | none => rfl
      | some d =>
        simp only
        rw [h d (by simp [Oper.looksAt, hg, hj, hd])]

theorem ev_same {o : Oper} {env env' : Env} (h : ∀ t ∈ o.looksAt ops, elook env t = elook env' t) : ∀ x ∈ o.op.operands, ev env x = ev env' x := by
  intro x hx
  cases x with
  | tmp t =>
    refine h t ?_
    unfold Oper.looksAt
    rw [List.mem_append]
    left
    rw [List.mem_filterMap]
    exact ⟨.tmp t, Array.mem_toList_iff.2 hx, rfl⟩
  | _ => rfl

theorem cnt_prefix : ∀ (l : List Bool) (k : Nat), (∀ (j : Nat) (b : Bool), l[j]? = some b → (b = true ↔ j < k)) → l.countP (!·) = l.length - k
  | [], k, _ => by simp
  | b :: r, 0, h => by
    have hb : b = false := by
      cases b with
      | false => rfl
      | true => have := (h 0 true (by simp)).1 rfl; omega
    have := cnt_prefix r 0 fun j b' hj => by have := h (j + 1) b' (by simpa using hj); constructor
                                             · intro e; have := this.1 e; omega
                                             · intro e; omega
    simp [hb, this]
  | b :: r, k + 1, h => by
    have hb : b = true := (h 0 b (by simp)).2 (by omega)
    have := cnt_prefix r k fun j b' hj => by have := h (j + 1) b' (by simpa using hj); constructor
                                             · intro e; have := this.1 e; omega
                                             · intro e; exact this.2 (by omega)
    simp [hb, this]
end
end Go.Lm
/- The rule of a region that draws its order. -/
namespace Go.Lm

section
variable {P : Program} {N : Nat} {ops : Array Oper} {s : Nat} {env : Env} {m : Mem} {K : Env → Mem → Prop}

structure DrawOk (ops : Array Oper) (s : Nat) : Prop where
  low : Lower ops
  apart : ∀ i j, i < s → j < s → j ≠ i → ((Region.before ops).getD i 0).testBit j = false → ((Region.before ops).getD j 0).testBit i = false → ∀ oi oj d, ops[i]? = some oi → ops[j]? = some oj → oj.dst = some d → d ∉ oi.looksAt ops ∧ oi.dst ≠ some d
  tail : ∀ i, s ≤ i → i < ops.size → ∀ j, j < i → ((Region.before ops).getD i 0).testBit j = true

theorem drawOk_spec (h : drawOk ops s = true) : DrawOk ops s := by
  unfold drawOk at h
  simp only [Bool.and_eq_true, List.all_eq_true, List.mem_range] at h
  obtain ⟨⟨h1, h2⟩, h3⟩ := h
  refine ⟨fun i o ho e he hb => ?_, fun i j hi hj hne hb hb' oi oj d hoi hoj hd => ?_, fun i hs hi j hj => ?_⟩
  · have hi : i < ops.size := by
      rcases Nat.lt_or_ge i ops.size with h' | h'
      · exact h'
      · rw [Array.getElem?_eq_none h'] at ho; cases ho
    have := h1 i hi
    rw [ho] at this
    simp only [Option.map_some, Option.getD_some, Array.all_eq_true_iff_forall_mem] at this
    have := this e he
    rw [hb] at this
    simpa using this
  · have := h2 i hi j hj
    rw [hb, hb', hoi, hoj] at this
    simp only [Option.bind_some, hd, Bool.or_false, Bool.or_eq_true, beq_iff_eq] at this
    rcases this with h' | h'
    · exact absurd h' hne
    · simp only [Bool.and_eq_true, Bool.not_eq_true', bne_iff_ne] at h'
      exact ⟨by simpa using h'.1, h'.2⟩
  · have := h3 i hi
    simp only [Bool.or_eq_true, decide_eq_true_iff] at this
    rcases this with h' | h'
    · omega
    · rw [List.all_eq_true] at h'
      exact h' j (List.mem_range.2 hj)

/-- One operation of the first s, wherever its turn comes. -/
theorem stable_step (hD : DrawOk ops s) {D : List DRes} {kid' : Nat} (hku : KidsUp m.top kid' D) (hDs : D.length ≤ s)
    (hf : ∀ (j : Nat) (o : Oper) (d : DRes), ops[j]? = some o → D[j]? = some d → OpFact P N ops env m (D.take j) j o d)
    {listed : Array Bool} (hsz : listed.size = ops.size) (hc : Closed ops listed) {i : Nat} {o : Oper} {d : DRes} (ho : ops[i]? = some o) (hd : D[i]? = some d)
    (hun : onL listed i = false) (hedge : ∀ e ∈ o.after, Region.binds .any e = true → onL listed e.on = true)
    {σ : Sg} {a : Act} {w : World} (hR : Rep σ (smem (onL listed) 0 D m).get w) (hE : EnvRel σ (senv (onL listed) 0 D env) a.tmps) (hN : a.tmps.size = N)
    {Q : Exit → Act → World → Prop} {Kn : Act → World → Prop}
    (hK : ∀ σ' a' w', Rep σ' (smem (onL (listed.setIfInBounds i true)) 0 D m).get w' → EnvRel σ' (senv (onL (listed.setIfInBounds i true)) 0 D env) a'.tmps → a'.tmps.size = N → a'.defers = a.defers →
      Fr σ (smem (onL listed) 0 D m).get w σ' (smem (onL (listed.setIfInBounds i true)) 0 D m).get w' → Kn a' w') :
    wpOp P ops Q i Kn a w := by
  have hi : i < ops.size := by
    rcases Nat.lt_or_ge i ops.size with h' | h'
    · exact h'
    · rw [Array.getElem?_eq_none h'] at ho; cases ho
  have hiD : i < D.length := by
    rcases Nat.lt_or_ge i D.length with h' | h'
    · exact h'
    · rw [List.getElem?_eq_none h'] at hd; cases hd
  have hon' : onL (listed.setIfInBounds i true) = fun j => decide (j = 0 + i) || onL listed j := by
    funext j; rw [onL_set (by omega), Nat.zero_add]
  have hbits : ∀ j, bit ((Region.before ops).getD i 0) j = true → onL listed j = true ∧ j < i := fun j hj => ahead_listed hD.low hc i o ho hedge j hj
  -- the fact, over the whole list
  have hfact := hf i o d ho hd
  have htk : ∀ j, 0 + (D.take i).length ≤ j → bit ((Region.before ops).getD i 0) j = false := fun j hj => by
    cases hb : bit ((Region.before ops).getD i 0) j with
    | false => rfl
    | true => have := (hbits j hb).2; rw [List.length_take] at hj; omega
  have e1 : senv (bit ((Region.before ops).getD i 0)) 0 D env = senv (bit ((Region.before ops).getD i 0)) 0 (D.take i) env := by
    conv => lhs; rw [← List.take_append_drop i D]
    exact senv_take _ _ _ 0 env htk
  have e2 : smem (bit ((Region.before ops).getD i 0)) 0 D m = smem (bit ((Region.before ops).getD i 0)) 0 (D.take i) m := by
    conv => lhs; rw [← List.take_append_drop i D]
    exact smem_take _ _ _ 0 m htk
  unfold OpFact at hfact
  rw [← e1, ← e2] at hfact
  -- what is listed and what is ahead look alike to it
  have hother : ∀ j d', D[j]? = some d' → onL listed j = true → bit ((Region.before ops).getD i 0) j = false → ∀ oj t, ops[j]? = some oj → oj.dst = some t → t ∉ o.looksAt ops ∧ o.dst ≠ some t := by
    intro j d' hj hon hb oj t hoj ht
    have hjD : j < D.length := by
      rcases Nat.lt_or_ge j D.length with h' | h'
      · exact h'
      · rw [List.getElem?_eq_none h'] at hj; cases hj
    refine hD.apart i j (by omega) (by omega) (fun e => by rw [e, hun] at hon; cases hon) hb ?_ o oj t ho hoj ht
    cases hbj : ((Region.before ops).getD j 0).testBit i with
    | false => rfl
    | true =>
      have := (ahead_listed hD.low hc j oj hoj (fun e he hb => hc j oj hoj hon e he hb) i hbj).1
      rw [hun] at this
      cases this
  have dstOf : ∀ j d' , D[j]? = some d' → onL listed j = true → ∃ oj, ops[j]? = some oj ∧ d'.dst = oj.dst := by
    intro j d' hj hon
    have hjs : j < ops.size := by
      rcases Nat.lt_or_ge j ops.size with h' | h'
      · exact h'
      · simp only [onL, Array.getD_eq_getD_getElem?] at hon
        rw [Array.getElem?_eq_none (by omega)] at hon
        cases hon
    exact ⟨ops[j], Array.getElem?_eq_getElem hjs, (hf j _ d' (Array.getElem?_eq_getElem hjs) hj).1⟩
  have hlook : ∀ t ∈ o.looksAt ops, elook (senv (onL listed) 0 D env) t = elook (senv (bit ((Region.before ops).getD i 0)) 0 D env) t := by
    intro t ht
    refine senv_agree _ _ t D 0 env env rfl fun j d' hj hne hdt => ?_
    rw [Nat.zero_add] at hne
    have hon : onL listed j = true := by
      cases h1 : onL listed j with
      | true => rfl
      | false =>
        cases h2 : bit ((Region.before ops).getD i 0) j with
        | false => rw [h1, h2] at hne; exact absurd rfl hne
        | true => have := (hbits j h2).1; rw [h1] at this; cases this
    have hb : bit ((Region.before ops).getD i 0) j = false := by
      cases h2 : bit ((Region.before ops).getD i 0) j with
      | false => rfl
      | true => rw [hon, h2] at hne; exact absurd rfl hne
    obtain ⟨oj, hoj, hdst⟩ := dstOf j d' hj hon
    exact (hother j d' hj hon hb oj t hoj (by rw [← hdst]; exact hdt)).1 ht
  have hkids := hku.ok
  have hle : Mle (smem (bit ((Region.before ops).getD i 0)) 0 D m).get (smem (onL listed) 0 D m).get := smem_le _ _ D 0 m m (fun j hj => (hbits j hj).1) (fun _ _ => rfl) hkids
  -- what its end leaves
  have hput : ∀ (σ' : Sg) (rv : Value), σ.le σ' → vRel σ' d.val rv → EnvRel σ' (senv (onL (listed.setIfInBounds i true)) 0 D env) (a.put o.dst rv).tmps ∧ (a.put o.dst rv).tmps.size = N ∧ (a.put o.dst rv).defers = a.defers := by
    intro σ' rv hσ hv
    obtain ⟨hdo, hdst, _⟩ := hfact
    have hset := fun t => senv_set (onL listed) t D 0 i d env hd (by rw [Nat.zero_add]; exact hun) (fun j d' hij hj hon hdt => by
      rw [Nat.zero_add] at hon
      obtain ⟨oj, hoj, hdst'⟩ := dstOf j d' hj hon
      have hb : bit ((Region.before ops).getD i 0) j = false := by
        cases h2 : bit ((Region.before ops).getD i 0) j with
        | false => rfl
        | true => have := (hbits j h2).2; omega
      rw [hdo]
      exact (hother j d' hj hon hb oj t hoj (by rw [← hdst']; exact hdt)).2)
    rw [hon']
    cases hod : o.dst with
    | none =>
      refine ⟨fun t v ht => ?_, hN, rfl⟩
      rw [hset t, hdo, hod, if_neg (by simp)] at ht
      exact (hE.mono hσ) t v ht
    | some q =>
      have hq : q < N := by simpa [okDst, hod] using hdst
      refine ⟨fun t v ht => ?_, by simp [Act.put, hN], rfl⟩
      rw [hset t, hdo, hod] at ht
      by_cases e : q = t
      · subst e
        rw [if_pos rfl] at ht
        cases ht
        exact ⟨rv, by simp only [Act.put]; rw [Array.getElem?_setIfInBounds_self_of_lt (by rw [hN]; exact hq)], hv⟩
      · rw [if_neg (by simpa using e)] at ht
        obtain ⟨ru, h1, h2⟩ := (hE.mono hσ) t v ht
        exact ⟨ru, by simp only [Act.put]; rw [Array.getElem?_setIfInBounds_ne e]; exact h1, h2⟩
  have hmem : (smem (onL (listed.setIfInBounds i true)) 0 D m).get = match d.new with | some ob => Mset (smem (onL listed) 0 D m).get d.kid ob | none => (smem (onL listed) 0 D m).get := by
    rw [hon']
    exact smem_set (onL listed) D 0 i m d hkids hd (by rw [Nat.zero_add]; exact hun)
  unfold wpOp
  rw [ho]
  simp only
  obtain ⟨hdo, hdst, ⟨hg, hval, hnew⟩ | ⟨hg, hrest⟩⟩ := hfact
  · -- its guard says no
    have hg' : guardQ ops.toList (senv (onL listed) 0 D env) o = some false := by rw [guardQ_same hlook]; exact hg
    have hw := guardQ_sound hg' hE
    rw [Array.toArray_toList] at hw
    rw [hw]
    simp only [Bool.false_eq_true, if_false]
    have hu : vRel σ d.val undef := by rw [hval]; exact ⟨#[], rfl, aaRel.nil _⟩
    obtain ⟨g1, g2, g3⟩ := hput σ undef (.refl _) hu
    rw [hnew] at hmem
    exact hK σ _ w (by rw [hmem]; exact hR) g1 g2 g3 (by rw [hmem]; exact .refl _ _ _)
  · have hg' : guardQ ops.toList (senv (onL listed) 0 D env) o = some true := by rw [guardQ_same hlook]; exact hg
    have hw := guardQ_sound hg' hE
    rw [Array.toArray_toList] at hw
    rw [hw]
    simp only [if_true]
    refine .inl ?_
    have hev := ev_same hlook
    rcases hrest with ⟨g, vs, hcall, hcase⟩ | ⟨hcall, hl⟩
    · -- a call
      have hcall' := goCall_same hev hcall
      obtain ⟨c, rs, hop, ha, hrun⟩ := goCall_sound (P := P) hcall' hE
      have htc : TC P g vs (smem (onL listed) 0 D m) fun u m'' => u = d.val ∧ m''.get = (smem (onL (listed.setIfInBounds i true)) 0 D m).get := by
        rcases hcase with ⟨hnew, hp⟩ | ⟨ob, hnew, hp⟩
        · refine (hp _ hle).mono fun u m'' ⟨h1, h2⟩ => ⟨h1, ?_⟩
          rw [hmem, hnew, h2]
        · refine (hp _ hle (smem_free (onL listed) D 0 i m d ob hkids hd hnew (by rw [Nat.zero_add]; exact hun))).mono fun u m'' ⟨h1, h2⟩ => ⟨h1, ?_⟩
          rw [hmem, hnew, h2, Mem.get_put]
      unfold Oper.wp execOp
      rw [hop]
      simp only
      rw [hrun]
      rcases htc σ w rs hR ha with ⟨h1, h2⟩ | ⟨rv, w', h1, v, rv', m', σ', e3, ⟨rfl, e4⟩, hR', hv, hF⟩
      · rw [h1]
        simp only [Oper.upon]
        refine h2.mono ?_
        rintro e w' ⟨v, rv, m', σ', rfl, ⟨rfl, e4⟩, hR', hv, hF⟩
        obtain ⟨g1, g2, g3⟩ := hput σ' rv hF.ext hv
        rw [e4] at hR' hF
        exact hK σ' _ w' hR' g1 g2 g3 hF
      · rw [h1]
        simp only [Oper.upon]
        cases e3
        obtain ⟨g1, g2, g3⟩ := hput σ' rv hF.ext hv
        rw [e4] at hR' hF
        exact hK σ' _ w' hR' g1 g2 g3 hF
    · -- another operation
      have hl' : lop P (senv (onL listed) 0 D env) (smem (onL listed) 0 D m).get d.kid o.op = some { val := d.val, new := d.new, mods := [] } := lop_mono hle hev rfl hl
      have hran : Ran σ (smem (onL listed) 0 D m).get w (match d.new with | some _ => d.kid | none => (smem (onL listed) 0 D m).top) ((execOp a.eval o).run P w) { val := d.val, new := d.new, mods := [] } := by
        cases hn : d.new with
        | some ob =>
          rw [hn] at hl'
          exact lop_sound hR hE (smem_free (onL listed) D 0 i m d ob hkids hd hn (by rw [Nat.zero_add]; exact hun)) o hl'
        | none =>
          rw [hn] at hl'
          exact lop_sound hR hE (Mem.get_top _) o (lop_nokid hl' rfl _)
      obtain ⟨σ', w', hR', hF, hres⟩ := hran
      have hap : appE (smem (onL listed) 0 D m).get (match d.new with | some _ => d.kid | none => (smem (onL listed) 0 D m).top) { val := d.val, new := d.new, mods := [] } = (smem (onL (listed.setIfInBounds i true)) 0 D m).get := by
        rw [hmem]
        cases d.new <;> rfl
      rw [hap] at hR' hF
      unfold Oper.wp
      rcases hres with ⟨rv, hr, hv⟩ | ⟨hr, hv⟩
      · rw [hr]
        simp only [Oper.upon]
        obtain ⟨g1, g2, g3⟩ := hput σ' rv hF.ext hv
        exact hK σ' _ w' hR' g1 g2 g3 hF
      · rw [hr]
        simp only [Oper.upon]
        simp only at hv
        have hu : vRel σ' d.val undef := by rw [hv]; exact ⟨#[], rfl, aaRel.nil _⟩
        obtain ⟨g1, g2, g3⟩ := hput σ' undef hF.ext hu
        exact hK σ' _ w' hR' g1 g2 g3 hF

theorem draw_rule (s : Nat) (hok : drawOk ops s = true)
    (h : drw P N ops s (fun i => (Region.before ops).getD i 0) env m (fun D => wpo P N ops.toList K (ops.toList.drop s) (senv (fun _ => true) 0 D env) (smem (fun _ => true) 0 D m)) ops.toList 0 m.top []) : DrawW P N ops env m K := by
  have hD := drawOk_spec hok
  obtain ⟨D, kid', hK, hku, hlen, hDs, hDle, hf⟩ := drw_facts ops.toList 0 m.top [] h (by simp) rfl (Nat.zero_le _) (Nat.zero_le _) (Nat.le_refl _) ⟨fun j d o h => by simp at h, fun j j' d d' o o' h => by simp at h⟩ (fun j o d _ h => by simp at h)
  intro σ a w hR hE hN Q hQ
  -- what stands when the first s have all run
  have full : ∀ (listed : Array Bool) (σ' : Sg) (a' : Act) (w' : World), (∀ j, j < D.length → onL listed j = true) → Rep σ' (smem (onL listed) 0 D m).get w' → EnvRel σ' (senv (onL listed) 0 D env) a'.tmps → Fr σ m.get w σ' (smem (onL listed) 0 D m).get w' →
      Rep σ' (smem (fun _ => true) 0 D m).get w' ∧ EnvRel σ' (senv (fun _ => true) 0 D env) a'.tmps ∧ Fr σ m.get w σ' (smem (fun _ => true) 0 D m).get w' := by
    intro listed σ' a' w' hall hR' hE' hF'
    have inD : ∀ (j : Nat) (d : DRes), D[j]? = some d → onL listed (0 + j) = true := fun j d hj => by
      rw [Nat.zero_add]
      refine hall j ?_
      rcases Nat.lt_or_ge j D.length with h' | h'
      · exact h'
      · rw [List.getElem?_eq_none h'] at hj; cases hj
    have e1 : (smem (fun _ => true) 0 D m).get = (smem (onL listed) 0 D m).get := smem_congr _ _ D 0 m m rfl fun j d o hj _ => (inD j d hj).symm
    rw [e1]
    refine ⟨hR', fun t v ht => hE' t v ?_, hF'⟩
    rw [← ht]
    exact senv_agree _ _ t D 0 env env rfl fun j d hj hne => absurd (inD j d hj) hne
  have main : ∀ (fuel : Nat) (listed : Array Bool) (σ' : Sg) (a' : Act) (w' : World), cnt listed = fuel → listed.size = ops.size → Closed ops listed → (∀ j, D.length ≤ j → onL listed j = false) →
      Rep σ' (smem (onL listed) 0 D m).get w' → EnvRel σ' (senv (onL listed) 0 D env) a'.tmps → a'.tmps.size = N → a'.defers = a.defers → Fr σ m.get w σ' (smem (onL listed) 0 D m).get w' → wpAny P .any ops Q fuel listed a' w' := by
    intro fuel
    induction fuel with
    | zero =>
      intro listed σ' a' w' hcnt hsz hc hno hR' hE' hN' hd' hF'
      have hall : ∀ i, i < ops.size → onL listed i = true := by
        intro i hi
        cases hx : onL listed i with
        | true => rfl
        | false =>
          have := cnt_set (by omega) hx
          omega
      have hDge : ops.size ≤ D.length := by
        rcases Nat.lt_or_ge D.length ops.size with h' | h'
        · have := hall _ h'; rw [hno _ (Nat.le_refl _)] at this; cases this
        · exact h'
      refine ⟨?_, ?_⟩
      · cases hr : Region.ready .any ops listed with
        | nil => rfl
        | cons i r =>
          obtain ⟨o, ho, h1, _⟩ := ready_spec hsz (i := i) (by rw [hr]; simp)
          have hi : i < ops.size := by
            rcases Nat.lt_or_ge i ops.size with h' | h'
            · exact h'
            · rw [Array.getElem?_eq_none h'] at ho; cases ho
          rw [hall i hi] at h1; cases h1
      · have hdrop : ops.toList.drop s = [] := List.drop_eq_nil_of_le (by simp; omega)
        rw [hdrop] at hK
        obtain ⟨g1, g2, g3⟩ := full listed σ' a' w' (fun j hj => hall j (by omega)) hR' hE' hF'
        exact hQ _ _ σ' a' w' hK g1 g2 hN' hd' g3
    | succ fuel ih =>
      intro listed σ' a' w' hcnt hsz hc hno hR' hE' hN' hd' hF'
      refine ⟨fun h0 => ?_, fun i hi => ?_⟩
      · have hall := ready_nil hD.low hsz h0
        rw [cnt_all (fun i hi => hall i (by omega))] at hcnt
        omega
      · obtain ⟨o, ho, hun, hedge⟩ := ready_spec hsz hi
        have hilt : i < ops.size := by
          rcases Nat.lt_or_ge i ops.size with h' | h'
          · exact h'
          · rw [Array.getElem?_eq_none h'] at ho; cases ho
        rcases Nat.lt_or_ge i D.length with hiD | hiD
        · have hd : D[i]? = some D[i] := List.getElem?_eq_getElem hiD
          refine stable_step hD hku hDs hf hsz hc ho hd hun hedge hR' hE' hN' (fun σ'' a'' w'' r1 r2 r3 r4 r5 => ?_)
          refine ih _ σ'' a'' w'' ?_ (by simpa using hsz) ?_ ?_ r1 r2 r3 (r4.trans hd') (hF'.trans r5)
          · have := cnt_set (i := i) (by omega) hun; omega
          · intro j oj hoj hj e he hb
            rw [onL_set (by omega)] at hj ⊢
            rw [Bool.or_eq_true, decide_eq_true_iff] at hj ⊢
            right
            rcases hj with rfl | hj
            · rw [hoj] at ho; cases ho; exact hedge e he hb
            · exact hc j oj hoj hj e he hb
          · intro j hj
            rw [onL_set (by omega), Bool.or_eq_false_iff]
            exact ⟨by simp; omega, hno j hj⟩
        · -- the others have their turn
          have hsD : D.length = s := by
            rcases hlen with h' | h'
            · exact h'
            · omega
          have hlt : ∀ j, j < i → onL listed j = true := fun j hj => (ahead_listed hD.low hc i o ho hedge j (hD.tail i (by omega) hilt j hj)).1
          have his : i = s := by
            rcases Nat.lt_or_ge s i with h' | h'
            · have := hlt s h'; rw [hno s (by omega)] at this; cases this
            · omega
          obtain ⟨g1, g2, g3⟩ := full listed σ' a' w' (fun j hj => hlt j (by omega)) hR' hE' hF'
          have hwl := wpo_sound (P := P) (N := N) ops.toList K Q (ops.toList.drop s) _ _ hK σ' a' w' g1 g2 hN' (fun env' m' σ'' a'' w'' h1 h2 h3 h4 h5 h6 => hQ env' m' σ'' a'' w'' h1 h2 h3 h4 (h5.trans hd') (g3.trans h6))
          rw [Array.toArray_toList] at hwl
          have honiff : ∀ j, j < ops.size → (onL listed j = true ↔ j < s) := fun j hj => by
            constructor
            · intro hx
              rcases Nat.lt_or_ge j s with h' | h'
              · exact h'
              · rw [hno j (by omega)] at hx; cases hx
            · intro hx; exact hlt j (by omega)
          have htail := tail_any hD.low (ops.toList.drop s) s listed a' w' rfl hsz hc honiff (fun i' h1 h2 j h3 => hD.tail i' h1 h2 j h3) hwl
          have hfl : (ops.toList.drop s).length = fuel + 1 := by
            rw [← hcnt]
            unfold cnt
            rw [cnt_prefix listed.toList s]
            · simp [hsz]
            · intro j b hj
              have hjl : j < listed.size := by
                rcases Nat.lt_or_ge j listed.size with h' | h'
                · exact h'
                · rw [List.getElem?_eq_none (by simpa using h')] at hj; cases hj
              have := honiff j (by omega)
              simp only [onL, Array.getD_eq_getD_getElem?, ← Array.getElem?_toList, hj, Option.getD_some] at this
              exact this
          rw [hfl] at htail
          exact htail.2 i hi
  have hrep : ∀ j, onL (Array.replicate ops.size false) j = false := fun j => by
    simp only [onL, Array.getD_eq_getD_getElem?, Array.getElem?_replicate]
    split <;> rfl
  have hon0 : onL (Array.replicate ops.size false) = fun _ => false := funext hrep
  have hsm : smem (fun _ => false) 0 D m = m := by
    have : ∀ (D : List DRes) (i : Nat) (m : Mem), smem (fun _ => false) i D m = m := by
      intro D
      induction D with
      | nil => intro i m; rfl
      | cons d r ih => intro i m; simp only [smem, sM_false]; exact ih _ _
    exact this D 0 m
  have hcnt : cnt (Array.replicate ops.size false) = ops.size := by
    unfold cnt
    rw [cnt_prefix _ 0]
    · simp
    · intro j b hj
      have := List.mem_of_getElem? hj
      simp at this
      rw [this.2]
      simp
  have := main ops.size (Array.replicate ops.size false) σ a w hcnt (by simp) (fun i o _ h => by rw [hrep] at h; cases h) (fun j _ => hrep j) (by rw [hon0, hsm]; exact hR) (by rw [hon0, senv_none]; exact hE) hN rfl (by rw [hon0, hsm]; exact .refl _ _ _)
  exact this

/-- The same, what goes ahead of each being told. -/
theorem draw_by (s : Nat) (bs : List Nat) (hb : Region.before ops = bs.toArray) (hok : drawOk ops s = true)
    (h : drw P N ops s (fun i => bs.getD i 0) env m (fun D => wpo P N ops.toList K (ops.toList.drop s) (senv (fun _ => true) 0 D env) (smem (fun _ => true) 0 D m)) ops.toList 0 m.top []) : DrawW P N ops env m K := by
  refine draw_rule s hok ?_
  have e : (fun i => (Region.before ops).getD i 0) = fun i => bs.getD i 0 := by
    funext i
    rw [hb]
    simp
  rw [e]
  exact h
end
end Go.Lm
/- What simp knows of all this. -/
namespace Go.Lm
attribute [simp] guardQ putEnv goCall lop lblt ev evs evp evo elook gnd gnd0 vcells isCell isBasic lload lstore lbuild lfill lstr lun lfieldAddr lindexAddr lindex lfield lpart lconv lmakeSlice
  optInt lbounds lslice lfirst llen lappend lcopy lfind lput ldel llookup lmapUpdate ldelete llenOf lmin lbuildSlice TQ.isAgg TQ.isSrc
  Mem.enter Mem.app Mem.puts get_loc get_loc0 put_loc put_loc0 top_mk params ptr0 wr setL Value.cells Mset_same senv smem sE sM okDst resV resL notTuple zeros
  okV okT okS okB bytesQ

/-! ### where simp stops: what stands behind a call, a loop, a draw is shut to it by a mark whose type tells of it -/
def Tg {α : Sort _} (_ : α) : Type := Unit
def TCd (P : Program) (g : FuncId) (vs : List Value) (m : Mem) (Q : Value → Mem → Prop) (_ : Tg Q) : Prop := TC P g vs m Q
def LoopD (P : Program) (N : Nat) (c : Code) (env : Env) (m : Mem) (Q : Ex → Env → Mem → Prop) (_ : Tg Q) (_ : Tg c) : Prop := LoopW (wpc P N c) env m Q
def DrawD (P : Program) (N : Nat) (ops : Array Oper) (env : Env) (m : Mem) (K : Env → Mem → Prop) (_ : Tg K) (_ : Tg ops) : Prop := DrawW P N ops env m K
def DrwD (P : Program) (N : Nat) (ops : Array Oper) (s : Nat) (b : Nat → Nat) (env : Env) (m : Mem) (K : List DRes → Prop) (l : List Oper) (i kid : Nat) (D : List DRes) (_ : Tg K) (_ : Tg ops) (_ : Tg l) (_ : Tg b) : Prop :=
  drw P N ops s b env m K l i kid D

section
variable (P : Program) (N : Nat) (ops : List Oper) (K : Env → Mem → Prop) (env : Env) (m : Mem) (Q : Ex → Env → Mem → Prop)
@[simp ↓] theorem wpo_nil : wpo P N ops K [] env m = K env m := rfl
/-- which variable an operation of the region writes -/
def dstOf : List Oper → Nat → Option Nat
  | [], _ => none
  | o :: _, 0 => o.dst
  | _ :: r, n + 1 => dstOf r n
@[simp ↓] theorem dstOf_0 (d : Option Nat) (op : Op) (ty : TypeId) (pos : String) (af : Array Edge) (g : Option (Nat × Bool)) (r : List Oper) : dstOf (⟨d, op, ty, pos, af, g⟩ :: r) 0 = d := rfl
@[simp ↓] theorem dstOf_s (o : Oper) (r : List Oper) (n : Nat) : dstOf (o :: r) (n + 1) = dstOf r n := rfl
theorem dstOf_eq : ∀ (l : List Oper) (j : Nat), dstOf l j = match l[j]? with | some o => o.dst | none => none
  | [], _ => rfl
  | _ :: _, 0 => rfl
  | _ :: r, n + 1 => by rw [dstOf, dstOf_eq r n]; rfl

/-- One operation that is not skipped. -/
def wpo1 (d : Option Nat) (op : Op) (r : List Oper) : Prop :=
  match goCall env op with
  | some (g, vs) => TCd P g vs m (fun v m' => match putEnv N env d v with
    | some env' => wpo P N ops K r env' m'
    | none => False) ()
  | none => match lop P env m.get m.top op with
    | some ⟨v, none, []⟩ => match putEnv N env d v with
      | some env' => wpo P N ops K r env' m
      | none => False
    | some ⟨v, nw, ms⟩ => match putEnv N env d v with
      | some env' => wpo P N ops K r env' (m.app m.top ⟨v, nw, ms⟩)
      | none => False
    | none => False
@[simp ↓] theorem wpo1_eq (d : Option Nat) (op : Op) (r : List Oper) : wpo1 P N ops K env m d op r =
  match goCall env op with
  | some (g, vs) => TCd P g vs m (fun v m' => match putEnv N env d v with
    | some env' => wpo P N ops K r env' m'
    | none => False) ()
  | none => match lop P env m.get m.top op with
    | some ⟨v, none, []⟩ => match putEnv N env d v with
      | some env' => wpo P N ops K r env' m
      | none => False
    | some ⟨v, nw, ms⟩ => match putEnv N env d v with
      | some env' => wpo P N ops K r env' (m.app m.top ⟨v, nw, ms⟩)
      | none => False
    | none => False := rfl

theorem wpo_run1 (d : Option Nat) (op : Op) (ty : TypeId) (pos : String) (af : Array Edge) (g : Option (Nat × Bool)) (r : List Oper) (hg : guardQ ops env ⟨d, op, ty, pos, af, g⟩ = some true) :
    wpo P N ops K (⟨d, op, ty, pos, af, g⟩ :: r) env m = wpo1 P N ops K env m d op r := by
  unfold wpo wpo1
  rw [hg]
  simp only
  cases goCall env op with
  | some x => rfl
  | none =>
    simp only
    cases lop P env m.get m.top op with
    | none => rfl
    | some e =>
      obtain ⟨v, nw, ms⟩ := e
      cases nw with
      | some _ => rfl
      | none => cases ms <;> rfl

@[simp ↓] theorem wpo_cons (d : Option Nat) (op : Op) (ty : TypeId) (pos : String) (af : Array Edge) (r : List Oper) :
    wpo P N ops K (⟨d, op, ty, pos, af, none⟩ :: r) env m = wpo1 P N ops K env m d op r := wpo_run1 P N ops K env m d op ty pos af none r rfl
@[simp ↓] theorem wpo_cons_g (d : Option Nat) (op : Op) (ty : TypeId) (pos : String) (af : Array Edge) (j : Nat) (want : Bool) (r : List Oper) :
    wpo P N ops K (⟨d, op, ty, pos, af, some (j, want)⟩ :: r) env m =
    match dstOf ops j with
    | some t => match elook env t with
      | some (.bool b) => if b = want then wpo1 P N ops K env m d op r else match putEnv N env d undef with
        | some env' => wpo P N ops K r env' m
        | none => False
      | some (.tuple _) => match putEnv N env d undef with
        | some env' => wpo P N ops K r env' m
        | none => False
      | _ => False
    | none => False := by
  rw [dstOf_eq]
  cases hj : ops[j]? with
  | none => simp only [wpo, guardQ, hj]
  | some oj =>
    cases hd : oj.dst with
    | none => simp only [wpo, guardQ, hj, hd]
    | some t =>
      cases he : elook env t with
      | none => simp only [wpo, guardQ, hj, hd, he]
      | some v =>
        cases v with
        | bool b =>
          simp only [hd, he]
          by_cases hb : b = want
          · rw [if_pos hb]
            exact wpo_run1 P N ops K env m d op ty pos af (some (j, want)) r (by simp only [guardQ, hj, hd, he, hb, beq_self_eq_true])
          · rw [if_neg hb]
            have : (b == want) = false := by simp [hb]
            simp only [wpo, guardQ, hj, hd, he, this]
            rfl
        | tuple _ => simp only [wpo, guardQ, hj, hd, he]; rfl
        | _ => simp only [wpo, guardQ, hj, hd, he]
@[simp ↓] theorem wpc_skip : wpc P N .skip env m Q = Q .normal env m := rfl
@[simp ↓] theorem wpc_seq_eq (a b : Code) : wpc P N (.seq a b) env m Q = wpc P N a env m (seqK (fun env' m' => wpc P N b env' m' Q) Q) := rfl
@[simp ↓] theorem wpc_cond (c : Operand) (a b : Code) : wpc P N (.cond c a b) env m Q = match ev env c with
    | some (.bool t) => if t = true then wpc P N a env m Q else wpc P N b env m Q
    | _ => False := rfl
@[simp ↓] theorem wpc_block (id : Nat) (a : Code) : wpc P N (.block id a) env m Q = wpc P N a env m (blockK id Q) := rfl
@[simp ↓] theorem wpc_loop (a : Code) : wpc P N (.loop a) env m Q = LoopD P N a env m Q () () := rfl
@[simp ↓] theorem wpc_region_eq (i : Nat) (l : List Oper) : wpc P N (.region i (List.toArray l) false) env m Q = wpo P N l (Q .normal) l env m := rfl
@[simp ↓] theorem wpc_draw (i : Nat) (o : Array Oper) : wpc P N (.region i o true) env m Q = DrawD P N o env m (Q .normal) () () := rfl
@[simp ↓] theorem wpc_exit (id : Nat) : wpc P N (.exit id) env m Q = Q (.exit id) env m := rfl
@[simp ↓] theorem wpc_ret : wpc P N .ret env m Q = Q .ret env m := rfl
@[simp ↓] theorem wpc_label (id : Nat) : wpc P N (.label id) env m Q = Q .normal env m := rfl
@[simp ↓] theorem seqK_normal : seqK K Q .normal env m = K env m := rfl
@[simp ↓] theorem seqK_exit (id : Nat) : seqK K Q (.exit id) env m = Q (.exit id) env m := rfl
@[simp ↓] theorem seqK_ret : seqK K Q .ret env m = Q .ret env m := rfl
@[simp ↓] theorem blockK_normal (id : Nat) : blockK id Q .normal env m = Q .normal env m := rfl
@[simp ↓] theorem blockK_exit (id id' : Nat) : blockK id Q (.exit id') env m = if id' = id then Q .normal env m else Q (.exit id') env m := rfl
@[simp ↓] theorem blockK_ret (id : Nat) : blockK id Q .ret env m = Q .ret env m := rfl
variable (oa : Array Oper) (s : Nat) (b : Nat → Nat) (KD : List DRes → Prop) (i kid : Nat) (D : List DRes)
@[simp ↓] theorem drw_nil : drw P N oa s b env m KD [] i kid D = KD D := rfl
@[simp ↓] theorem drw_cons (o : Oper) (r : List Oper) : drw P N oa s b env m KD (o :: r) i kid D =
    if s ≤ i then KD D else
    okDst N o = true ∧
    match guardQ oa.toList (senv (bit (b i)) 0 D env) o with
    | none => False
    | some false => drw P N oa s b env m KD r (i + 1) kid (D ++ [⟨o.dst, undef, none, 0⟩])
    | some true =>
      match goCall (senv (bit (b i)) 0 D env) o.op with
      | some (g, vs) =>
        (∃ v, PureC P g vs (smem (bit (b i)) 0 D m) v ∧ DrwD P N oa s b env m KD r (i + 1) kid (D ++ [⟨o.dst, v, none, 0⟩]) () () () ()) ∨
        (∃ v ob, NewC P g vs (smem (bit (b i)) 0 D m) kid v ob ∧ DrwD P N oa s b env m KD r (i + 1) (kid + 1) (D ++ [⟨o.dst, v, some ob, kid⟩]) () () () ())
      | none =>
        match lop P (senv (bit (b i)) 0 D env) (smem (bit (b i)) 0 D m).get kid o.op with
        | some e => e.mods = [] ∧ drw P N oa s b env m KD r (i + 1) (match e.new with | some _ => kid + 1 | none => kid) (D ++ [⟨o.dst, e.val, e.new, kid⟩])
        | none => False := rfl
theorem drwD_eq (l : List Oper) : DrwD P N oa s b env m KD l i kid D () () () () = drw P N oa s b env m KD l i kid D := rfl
end

/-- A loop: an invariant with a number that falls. -/
theorem loop_by {P : Program} {N : Nat} {c : Code} {env : Env} {m : Mem} {Q : Ex → Env → Mem → Prop} (I : Nat → Env → Mem → Prop) (n : Nat) (h0 : I n env m)
    (h : ∀ n env m, I n env m → wpc P N c env m (seqK (fun env' m' => ∃ n', n' < n ∧ I n' env' m') Q)) : LoopD P N c env m Q () () := ⟨I, ⟨n, h0⟩, h⟩

@[simp] theorem bit_eq (b i : Nat) : bit b i = decide (b / 2 ^ i % 2 = 1) := Nat.testBit_eq_decide_div_mod_eq

/-! whole numbers -/
theorem wI64 {x : Int} (h1 : -9223372036854775808 ≤ x) (h2 : x ≤ 9223372036854775807) : IntKind.i64.wrap x = x := by
  simp [IntKind.wrap, IntKind.bits, IntKind.signed]; omega
theorem wU32 {x : Int} (h1 : 0 ≤ x) (h2 : x ≤ 4294967295) : IntKind.u32.wrap x = x := by
  simp [IntKind.wrap, IntKind.bits, IntKind.signed]; omega
theorem wU64 {x : Int} (h1 : 0 ≤ x) (h2 : x ≤ 18446744073709551615) : IntKind.u64.wrap x = x := by
  simp [IntKind.wrap, IntKind.bits, IntKind.signed]; omega
theorem wU8 {x : Int} (h1 : 0 ≤ x) (h2 : x ≤ 255) : IntKind.u8.wrap x = x := by
  simp [IntKind.wrap, IntKind.bits, IntKind.signed]; omega

/-! numbers written out -/
section
variable (n : Nat)
theorem ofNat_cast : (OfNat.ofNat n : Int) = (n : Int) := rfl
@[simp] theorem wI64_lit (h : n ≤ 9223372036854775807) : IntKind.i64.wrap (no_index (OfNat.ofNat n : Int)) = (OfNat.ofNat n : Int) := by rw [ofNat_cast]; exact wI64 (by omega) (by omega)
@[simp] theorem wU64_lit (h : n ≤ 18446744073709551615) : IntKind.u64.wrap (no_index (OfNat.ofNat n : Int)) = (OfNat.ofNat n : Int) := by rw [ofNat_cast]; exact wU64 (by omega) (by omega)
@[simp] theorem wU32_lit (h : n ≤ 4294967295) : IntKind.u32.wrap (no_index (OfNat.ofNat n : Int)) = (OfNat.ofNat n : Int) := by rw [ofNat_cast]; exact wU32 (by omega) (by omega)
@[simp] theorem wU8_lit (h : n ≤ 255) : IntKind.u8.wrap (no_index (OfNat.ofNat n : Int)) = (OfNat.ofNat n : Int) := by rw [ofNat_cast]; exact wU8 (by omega) (by omega)
@[simp] theorem wI64_neg (h : n ≤ 9223372036854775808) : IntKind.i64.wrap (-(no_index (OfNat.ofNat n : Int))) = -(OfNat.ofNat n : Int) := by rw [ofNat_cast]; exact wI64 (by omega) (by omega)
end
@[simp] theorem w_0 (k : IntKind) : k.wrap 0 = 0 := by cases k <;> rfl
@[simp] theorem w_1 (k : IntKind) : k.wrap 1 = 1 := by cases k <;> rfl
@[simp] theorem wI64_m1 : IntKind.i64.wrap (-1) = -1 := by rfl
@[simp] theorem bits_i64 : IntKind.i64.bits = 64 := rfl
@[simp] theorem bits_u64 : IntKind.u64.bits = 64 := rfl
@[simp] theorem bits_u32 : IntKind.u32.bits = 32 := rfl
@[simp] theorem bits_i32 : IntKind.i32.bits = 32 := rfl
@[simp] theorem bits_u8 : IntKind.u8.bits = 8 := rfl

end Go.Lm
/- Bits and shifts: names for what simp shall not open, and their laws at numbers that are not below 0. -/
namespace Go.Lm

def iand (k : IntKind) (x y : Int) : Int := k.wrap (BitVec.ofInt k.bits x &&& BitVec.ofInt k.bits y).toNat
def ior (k : IntKind) (x y : Int) : Int := k.wrap (BitVec.ofInt k.bits x ||| BitVec.ofInt k.bits y).toNat
def ixor (k : IntKind) (x y : Int) : Int := k.wrap (BitVec.ofInt k.bits x ^^^ BitVec.ofInt k.bits y).toNat
def iandn (k : IntKind) (x y : Int) : Int := k.wrap (BitVec.ofInt k.bits x &&& ~~~(BitVec.ofInt k.bits y)).toNat
def ishl (k : IntKind) (a b : Int) : Int := k.wrap (a * 2 ^ (min b.toNat k.bits))
def ishr (k : IntKind) (a b : Int) : Int := a.fdiv (2 ^ (min b.toNat k.bits))

section
variable (P : Program) (t : TypeId) (k : IntKind) (a b : Int)
@[simp] theorem lbin_add : lbin P .add t (.int k a) (.int k b) = some (.int k (k.wrap (a + b))) := by show (if k = k then lint .add k a b else none) = _; rw [if_pos rfl]; rfl
@[simp] theorem lbin_sub : lbin P .sub t (.int k a) (.int k b) = some (.int k (k.wrap (a - b))) := by show (if k = k then lint .sub k a b else none) = _; rw [if_pos rfl]; rfl
@[simp] theorem lbin_mul : lbin P .mul t (.int k a) (.int k b) = some (.int k (k.wrap (a * b))) := by show (if k = k then lint .mul k a b else none) = _; rw [if_pos rfl]; rfl
@[simp] theorem lbin_and : lbin P .and t (.int k a) (.int k b) = some (.int k (iand k a b)) := by show (if k = k then lint .and k a b else none) = _; rw [if_pos rfl]; rfl
@[simp] theorem lbin_or : lbin P .or t (.int k a) (.int k b) = some (.int k (ior k a b)) := by show (if k = k then lint .or k a b else none) = _; rw [if_pos rfl]; rfl
@[simp] theorem lbin_xor : lbin P .xor t (.int k a) (.int k b) = some (.int k (ixor k a b)) := by show (if k = k then lint .xor k a b else none) = _; rw [if_pos rfl]; rfl
@[simp] theorem lbin_andNot : lbin P .andNot t (.int k a) (.int k b) = some (.int k (iandn k a b)) := by show (if k = k then lint .andNot k a b else none) = _; rw [if_pos rfl]; rfl
@[simp] theorem lbin_eql : lbin P .eql t (.int k a) (.int k b) = some (.bool (a == b)) := by show (if k = k then lint .eql k a b else none) = _; rw [if_pos rfl]; rfl
@[simp] theorem lbin_neq : lbin P .neq t (.int k a) (.int k b) = some (.bool (a != b)) := by show (if k = k then lint .neq k a b else none) = _; rw [if_pos rfl]; rfl
@[simp] theorem lbin_lss : lbin P .lss t (.int k a) (.int k b) = some (.bool (a < b)) := by show (if k = k then lint .lss k a b else none) = _; rw [if_pos rfl]; rfl
@[simp] theorem lbin_leq : lbin P .leq t (.int k a) (.int k b) = some (.bool (a ≤ b)) := by show (if k = k then lint .leq k a b else none) = _; rw [if_pos rfl]; rfl
@[simp] theorem lbin_gtr : lbin P .gtr t (.int k a) (.int k b) = some (.bool (a > b)) := by show (if k = k then lint .gtr k a b else none) = _; rw [if_pos rfl]; rfl
@[simp] theorem lbin_geq : lbin P .geq t (.int k a) (.int k b) = some (.bool (a ≥ b)) := by show (if k = k then lint .geq k a b else none) = _; rw [if_pos rfl]; rfl
@[simp] theorem lbin_quo : lbin P .quo t (.int k a) (.int k b) = if b = 0 then none else some (.int k (k.wrap (a.tdiv b))) := by show (if k = k then lint .quo k a b else none) = _; rw [if_pos rfl]; rfl
@[simp] theorem lbin_rem : lbin P .rem t (.int k a) (.int k b) = if b = 0 then none else some (.int k (a.tmod b)) := by show (if k = k then lint .rem k a b else none) = _; rw [if_pos rfl]; rfl
@[simp] theorem lbin_shl (k' : IntKind) : lbin P .shl t (.int k a) (.int k' b) = if 0 ≤ b then some (.int k (ishl k a b)) else none := rfl
@[simp] theorem lbin_shr (k' : IntKind) : lbin P .shr t (.int k a) (.int k' b) = if 0 ≤ b then some (.int k (ishr k a b)) else none := rfl
@[simp] theorem lbin_string (op : BinOp) (x y : ByteArray) : lbin P op t (.string x) (.string y) = lstr op x y := rfl
@[simp] theorem lbin_beq (x y : Bool) : lbin P .eql t (.bool x) (.bool y) = match tyQ P t with | .bool => some (.bool (x == y)) | _ => none := by cases h : tyQ P t <;> simp [lbin, h]
@[simp] theorem lbin_bne (x y : Bool) : lbin P .neq t (.bool x) (.bool y) = match tyQ P t with | .bool => some (.bool (!(x == y))) | _ => none := by cases h : tyQ P t <;> simp [lbin, h]
@[simp] theorem lbin_peq (x : Option Addr) : lbin P .eql t (.pointer x) (.pointer none) = match tyQ P t with | .ptr _ => some (.bool x.isNone) | _ => none := by cases h : tyQ P t <;> simp [lbin, h]
@[simp] theorem lbin_pne (x : Option Addr) : lbin P .neq t (.pointer x) (.pointer none) = match tyQ P t with | .ptr _ => some (.bool (!x.isNone)) | _ => none := by cases h : tyQ P t <;> simp [lbin, h]
@[simp] theorem lbin_seq (x : Option Addr) (l c l' c' : Nat) : lbin P .eql t (.slice x l c) (.slice none l' c') = match tyQ P t with | .sl _ _ => some (.bool x.isNone) | _ => none := by cases h : tyQ P t <;> simp [lbin, h]
@[simp] theorem lbin_sne (x : Option Addr) (l c l' c' : Nat) : lbin P .neq t (.slice x l c) (.slice none l' c') = match tyQ P t with | .sl _ _ => some (.bool (!x.isNone)) | _ => none := by cases h : tyQ P t <;> simp [lbin, h]
@[simp] theorem lbin_aeq (xs ys : Array Value) : lbin P .eql t (.agg xs) (.agg ys) = if P.eqGuardType P.depth t then none else (leq P 8 t (.agg xs) (.agg ys)).map .bool := rfl
@[simp] theorem lbin_ane (xs ys : Array Value) : lbin P .neq t (.agg xs) (.agg ys) = if P.eqGuardType P.depth t then none else (leq P 8 t (.agg xs) (.agg ys)).map fun b => .bool (!b) := rfl
end

/-- how many bits a number that is not below 0 may have -/
def nb : IntKind → Nat
  | .i8 => 7 | .i16 => 15 | .i32 => 31 | .i64 => 63 | .u8 => 8 | .u16 => 16 | .u32 => 32 | .u64 => 64

theorem nb_le (k : IntKind) : nb k ≤ k.bits := by cases k <;> decide

theorem wrap_nb (k : IntKind) {n : Nat} (h : n < 2 ^ nb k) : k.wrap (n : Int) = n := by
  cases k <;> simp only [nb] at h <;> simp [IntKind.wrap, IntKind.bits, IntKind.signed] <;> omega

theorem ofInt_nb (k : IntKind) {n : Nat} (h : n < 2 ^ nb k) : (BitVec.ofInt k.bits (n : Int)).toNat = n := by
  rw [BitVec.ofInt_natCast, BitVec.toNat_ofNat]
  exact Nat.mod_eq_of_lt (Nat.lt_of_lt_of_le h (Nat.pow_le_pow_right (by omega) (nb_le k)))

theorem iand_nat (k : IntKind) {a b : Nat} (ha : a < 2 ^ nb k) (hb : b < 2 ^ nb k) : iand k a b = ((a &&& b : Nat) : Int) := by
  unfold iand
  rw [BitVec.toNat_and, ofInt_nb k ha, ofInt_nb k hb, wrap_nb k (Nat.and_lt_two_pow _ hb)]
theorem ior_nat (k : IntKind) {a b : Nat} (ha : a < 2 ^ nb k) (hb : b < 2 ^ nb k) : ior k a b = ((a ||| b : Nat) : Int) := by
  unfold ior
  rw [BitVec.toNat_or, ofInt_nb k ha, ofInt_nb k hb, wrap_nb k (Nat.or_lt_two_pow ha hb)]
theorem ixor_nat (k : IntKind) {a b : Nat} (ha : a < 2 ^ nb k) (hb : b < 2 ^ nb k) : ixor k a b = ((a ^^^ b : Nat) : Int) := by
  unfold ixor
  rw [BitVec.toNat_xor, ofInt_nb k ha, ofInt_nb k hb, wrap_nb k (Nat.xor_lt_two_pow ha hb)]

/-- with a mask of the lowest n bits -/
theorem iand_mask (k : IntKind) (n : Nat) {a c : Nat} (ha : a < 2 ^ nb k) (hc : c = 2 ^ n - 1) (hn : n ≤ nb k) : iand k a c = ((a % 2 ^ n : Nat) : Int) := by
  subst hc
  have : 0 < 2 ^ n := Nat.two_pow_pos n
  have : 2 ^ n ≤ 2 ^ nb k := Nat.pow_le_pow_right (by omega) hn
  rw [iand_nat k ha (by omega), Nat.and_two_pow_sub_one_eq_mod]

theorem ishl_nat (k : IntKind) {a n : Nat} (hn : n ≤ k.bits) : ishl k a n = k.wrap ((a * 2 ^ n : Nat) : Int) := by
  unfold ishl
  rw [show min (n : Int).toNat k.bits = n by rw [Int.toNat_natCast]; exact Nat.min_eq_left hn]
  simp
theorem ishr_nat (k : IntKind) {a n : Nat} (hn : n ≤ k.bits) : ishr k a n = ((a / 2 ^ n : Nat) : Int) := by
  unfold ishr
  rw [show min (n : Int).toNat k.bits = n by rw [Int.toNat_natCast]; exact Nat.min_eq_left hn, Int.fdiv_eq_ediv_of_nonneg _ (by exact Int.pow_nonneg (by decide))]
  simp

theorem wrap_u32_nat (n : Nat) : IntKind.u32.wrap (n : Int) = ((n % 4294967296 : Nat) : Int) := by
  simp [IntKind.wrap, IntKind.bits, IntKind.signed]
theorem wrap_u64_nat (n : Nat) : IntKind.u64.wrap (n : Int) = ((n % 18446744073709551616 : Nat) : Int) := by
  simp [IntKind.wrap, IntKind.bits, IntKind.signed]
end Go.Lm
/- Long runs of operations on written-out values: by the kernel. And a contract handed to the shell of a statement. -/
namespace Go.Lm

/-- operations that look at no memory -/
def plainO : Op → Bool
  | .build _ _ => true | .move _ => true | .assign _ => true
  | _ => false

theorem lop_plain {P : Program} {env : Env} {M M' : Nat → Ob} {k k' : Nat} {o : Op} (h : plainO o = true) : lop P env M k o = lop P env M' k' o := by
  cases o <;> first | rfl | simp [plainO] at h

def runO (P : Program) (N : Nat) : List Oper → Env → Option (Env × List Oper)
  | [], env => some (env, [])
  | o :: r, env =>
    if plainO o.op && o.guard.isNone then
      match lop P env (fun _ => .free) 0 o.op with
      | some ⟨v, none, []⟩ => match o.dst with
        | some d => if d < N then runO P N r ((d, v) :: env) else none
        | none => none
      | _ => none
    else some (env, o :: r)

theorem goCall_plain {env : Env} {o : Op} (h : plainO o = true) : goCall env o = none := by
  cases o <;> first | rfl | simp [plainO] at h

/-- where the operations of a list write -/
def dstsO (l : List Oper) : List Nat := l.filterMap (·.dst)

theorem wpo_run {P : Program} {N : Nat} {ops : List Oper} {K : Env → Mem → Prop} : ∀ (l : List Oper) (env : Env) (m : Mem) (env' : Env) (r : List Oper), runO P N l env = some (env', r) →
    wpo P N ops K r env' m → wpo P N ops K l env m
  | [], env, m, env', r, h, hk => by simp only [runO, Option.some.injEq, Prod.mk.injEq] at h; obtain ⟨rfl, rfl⟩ := h; exact hk
  | o :: l, env, m, env', r, h, hk => by
    unfold runO at h
    by_cases hp : (plainO o.op && o.guard.isNone) = true
    · rw [if_pos hp] at h
      rw [Bool.and_eq_true] at hp
      obtain ⟨h1, h2⟩ := hp
      have hg : o.guard = none := by cases hh : o.guard with | none => rfl | some _ => rw [hh] at h2; cases h2
      cases he : lop P env (fun _ => .free) 0 o.op with
      | none => rw [he] at h; cases h
      | some e =>
        rw [he] at h
        obtain ⟨v, nw, ms⟩ := e
        cases nw with
        | some _ => cases h
        | none =>
          cases ms with
          | cons _ _ => cases h
          | nil =>
            simp only at h
            cases hd : o.dst with
            | none => rw [hd] at h; cases h
            | some d =>
              rw [hd] at h
              simp only at h
              by_cases hN : d < N
              · rw [if_pos hN] at h
                unfold wpo
                simp only [guardQ, hg, goCall_plain h1, lop_plain (M' := fun _ => .free) (k' := 0) h1, he, hd, putEnv, if_pos hN]
                exact wpo_run l _ m env' r h hk
              · rw [if_neg hN] at h; cases h
    · rw [if_neg hp] at h
      simp only [Option.some.injEq, Prod.mk.injEq] at h
      obtain ⟨rfl, rfl⟩ := h
      exact hk

theorem elook_run {P : Program} {N : Nat} (t : Nat) : ∀ (l : List Oper) (env : Env) (env' : Env) (r : List Oper), runO P N l env = some (env', r) → (dstsO l).contains t = false → elook env' t = elook env t
  | [], env, env', r, h, _ => by simp only [runO, Option.some.injEq, Prod.mk.injEq] at h; obtain ⟨rfl, rfl⟩ := h; rfl
  | o :: l, env, env', r, h, hd => by
    unfold runO at h
    by_cases hp : (plainO o.op && o.guard.isNone) = true
    · rw [if_pos hp] at h
      cases he : lop P env (fun _ => .free) 0 o.op with
      | none => rw [he] at h; cases h
      | some e =>
        rw [he] at h
        obtain ⟨v, nw, ms⟩ := e
        cases nw with
        | some _ => cases h
        | none =>
          cases ms with
          | cons _ _ => cases h
          | nil =>
            simp only at h
            cases hdd : o.dst with
            | none => rw [hdd] at h; cases h
            | some d =>
              rw [hdd] at h
              simp only at h
              by_cases hN : d < N
              · rw [if_pos hN] at h
                simp only [dstsO, List.filterMap_cons, hdd, List.contains_cons, Bool.or_eq_false_iff] at hd
                rw [elook_run t l _ env' r h hd.2, elook, if_neg (by intro e; subst e; simp at hd)]
              · rw [if_neg hN] at h; cases h
    · rw [if_neg hp] at h
      simp only [Option.some.injEq, Prod.mk.injEq] at h
      obtain ⟨rfl, rfl⟩ := h
      rfl

/-- A run of plain operations: what stands behind it knows the value of one variable; the variables not written are as they were. -/
theorem wpo_table {P : Program} {N : Nat} {ops : List Oper} {K : Env → Mem → Prop} {l : List Oper} {env : Env} {m : Mem} (d : Nat) (V : Value) (r : List Oper)
    (h : (runO P N l env).map (fun p => (p.2, elook p.1 d)) = some (r, some V))
    (hk : ∀ env', elook env' d = some V → (∀ t, (dstsO l).contains t = false → elook env' t = elook env t) → wpo P N ops K r env' m) : wpo P N ops K l env m := by
  cases hr : runO P N l env with
  | none => rw [hr] at h; cases h
  | some p =>
    rw [hr] at h
    simp only [Option.map_some, Option.some.injEq, Prod.mk.injEq] at h
    obtain ⟨h1, h2⟩ := h
    refine wpo_run l env m p.1 p.2 hr ?_
    rw [h1]
    exact hk p.1 h2 fun t ht => elook_run t l env p.1 p.2 hr ht

theorem wpc_seq {P : Program} {N : Nat} {a b : Code} {env : Env} {m : Mem} {Q : Ex → Env → Mem → Prop} (h : wpc P N a env m (seqK (fun env' m' => wpc P N b env' m' Q) Q)) : wpc P N (.seq a b) env m Q := h
theorem wpc_region {P : Program} {N : Nat} {id : Nat} {ops : Array Oper} {env : Env} {m : Mem} {Q : Ex → Env → Mem → Prop} (l : List Oper) (hl : ops.toList = l) (h : wpo P N l (Q .normal) l env m) : wpc P N (.region id ops false) env m Q := by
  subst hl; exact h

/-- ... and its last operation writes the value away. -/
theorem wpo_table_store {P : Program} {N : Nat} {ops : List Oper} {K : Env → Mem → Prop} {l : List Oper} {env : Env} {m : Mem} (d a : Nat) (t : TypeId) (V pa : Value) (e : Eff)
    (h : (runO P N l env).map (fun p => (p.2.map (fun o => (o.dst, o.op, o.guard)), elook p.1 d)) = some ([(none, .store t (.tmp a) (.tmp d), none)], some V))
    (ha : elook env a = some pa) (hd : (dstsO l).contains a = false) (hs : lstore P m.get t pa V = some e)
    (hk : ∀ env', elook env' d = some V → (∀ t, (dstsO l).contains t = false → elook env' t = elook env t) → K env' (m.app m.top e)) : wpo P N ops K l env m := by
  cases hr : runO P N l env with
  | none => rw [hr] at h; cases h
  | some p =>
    rw [hr] at h
    simp only [Option.map_some, Option.some.injEq, Prod.mk.injEq] at h
    obtain ⟨h1, h2⟩ := h
    refine wpo_run l env m p.1 p.2 hr ?_
    obtain ⟨env', r⟩ := p
    cases r with
    | nil => simp at h1
    | cons o r =>
      cases r with
      | cons _ _ => simp at h1
      | nil =>
        simp only [List.map_cons, List.map_nil, List.cons.injEq, Prod.mk.injEq, and_true] at h1
        have e1 := h1.1; have e2 := h1.2.1; have e3 := h1.2.2
        have h3 := elook_run a l env env' _ hr hd
        simp only at h2
        simp only [wpo, guardQ, goCall, lop, ev, h3, ha, h2, hs, putEnv, e1, e2, e3]
        exact hk env' h2 fun t ht => elook_run t l env env' _ hr ht

theorem flat_extract {α : Type} (f : α → List Value) (n : Nat) (hf : ∀ a, (f a).length = n) : ∀ (l : List α) (k : Nat) (hk : k < l.length), (l.flatMap f).toArray.extract (k * n) (k * n + n) = (f l[k]).toArray
  | [], k, hk => by cases hk
  | a :: l, 0, _ => by
    rw [List.extract_toArray, List.flatMap_cons]
    simp [hf]
  | a :: l, k + 1, hk => by
    have := flat_extract f n hf l k (by simpa using hk)
    rw [List.extract_toArray] at this ⊢
    rw [List.flatMap_cons, List.getElem_cons_succ, ← this]
    have e1 : (k + 1) * n = (f a).length + k * n := by rw [hf, Nat.succ_mul]; omega
    rw [e1, List.extract_eq_take_drop, List.extract_eq_take_drop, List.drop_append, show (f a).length + k * n + n - ((f a).length + k * n) = k * n + n - k * n by omega, List.drop_eq_nil_of_le (by omega)]
    simp

theorem flat_size {α : Type} (f : α → List Value) (n : Nat) (hf : ∀ a, (f a).length = n) (l : List α) : (l.flatMap f).toArray.size = l.length * n := by
  induction l with
  | nil => simp
  | cons a l ih => simp only [List.size_toArray] at ih; simp only [List.flatMap_cons, List.size_toArray, List.length_append, hf, ih, List.length_cons, Nat.succ_mul]; omega

/-- a pattern of cells, over and over -/
def zrep (n : Nat) (l : List Value) : Array Value := (List.replicate n l).flatten.toArray
@[simp] theorem zrep_size (n : Nat) (l : List Value) : (zrep n l).size = n * l.length := by simp [zrep]

theorem wpc_step {P : Program} {N : Nat} {id : Nat} {ops : Array Oper} {b : Code} {env : Env} {m : Mem} {Q : Ex → Env → Mem → Prop} (l : List Oper) (hl : ops.toList = l)
    (h : ∀ K : Env → Mem → Prop, (∀ env' m', wpc P N b env' m' Q → K env' m') → wpo P N l K l env m) : wpc P N (.seq (.region id ops false) b) env m Q := by
  subst hl; exact h _ fun _ _ x => x

/-! ### from a contract to the shell of a statement -/

/-- A world looked at from outside: one object that nobody may turn for each place named. -/
theorem calls_of_TC {P : Program} {g : FuncId} {vs : List Value} {rs : Array Value} {m : Mem} {σ : Sg} {w : World}
    (hR : Rep σ m.get w) (ha : argsRel σ vs rs) (hno : ∀ k, (m.get k).rw = false)
    (hcode : (callFunc g rs).run P w = .ok (.enter g rs) w)
    {Q : Value → Mem → Prop} (h : TC P g vs m Q) :
    Calls P g rs w fun e w' => ∃ v rv m' σ', e = .returned rv ∧ Q v m' ∧ vRel σ' v rv ∧ Rep σ' m'.get w' ∧ Go.RowKit.Below w.heap.size w w' := by
  have fin : ∀ {e w'}, PostC σ m w Q e w' → ∃ v rv m' σ', e = .returned rv ∧ Q v m' ∧ vRel σ' v rv ∧ Rep σ' m'.get w' ∧ Go.RowKit.Below w.heap.size w w' := by
    rintro e w' ⟨v, rv, m', σ', h1, h2, h3, h4, h5⟩
    refine ⟨v, rv, m', σ', h1, h2, h4, h3, ?_⟩
    have hos := h5.os
    simp only [Prod.mk.injEq] at hos
    refine ⟨hos.1, hos.2, h5.out, h5.size, fun k hk => h5.keep k hk ?_⟩
    rintro ⟨j, p, _, _, hrw⟩
    rw [hno j] at hrw
    cases hrw
  rcases h σ w rs hR ha with ⟨_, h2⟩ | ⟨rv, w', h1, _⟩
  · exact h2.mono fun e w' hp => fin hp
  · rw [hcode] at h1; cases h1

/-- the memory of a law's call that is handed numbers alone -/
def mem0 : Mem := { base := fun _ => .free, n := 0, loc := [] }
def sg0 : Sg := fun _ => none
theorem mem0_get (k : Nat) : mem0.get k = .free := by unfold mem0 Mem.get; rw [if_neg (by simp)]; rfl
theorem rep0 (w : World) : Rep sg0 mem0.get w where
  fr _ _ := rfl
  cel k ro e c h := by rw [mem0_get] at h; cases h
  own k e c h := by rw [mem0_get] at h; cases h
  mp k es h := by rw [mem0_get] at h; cases h
  sep k k' _ h := by rw [mem0_get] at h; cases h
  bnd k p h := by cases h

theorem code_of {P : Program} {g : FuncId} {fn : Func} {c : Code} (hf : P.funcs[g]? = some fn) (hb : fn.body = some c) (hname : (fn.name == "runtime.NumGoroutine") = false) (rs : Array Value) (w : World) :
    (callFunc g rs).run P w = .ok (.enter g rs) w := by
  simp only [callFunc, Sem.run_bind, run_program, Result.andThen_ok, hf]
  rw [if_neg (by rw [hname]; simp), if_neg (by rw [hb]; simp)]
  rfl

/-- A law over numbers: its contract is its walk. -/
theorem law_calls {P : Program} {g : FuncId} {fn : Func} {c : Code} (hf : P.funcs[g]? = some fn) (hb : fn.body = some c) (hname : (fn.name == "runtime.NumGoroutine") = false) {vs : List Value} {w : World}
    (hv : ∀ v ∈ vs, vRel sg0 v v) (h : TC P g vs mem0 fun v _ => v = .bool true) :
    Calls P g vs.toArray w fun e w' => e = .returned (.bool true) ∧ Go.RowKit.Below w.heap.size w w' := by
  refine (calls_of_TC (rep0 w) (rs := vs.toArray) ⟨by simp, fun i x y hx hy => ?_⟩ (fun k => by rw [mem0_get]; rfl) (code_of hf hb hname _ w) h).mono ?_
  · rw [List.getElem?_toArray, hx] at hy
    cases hy
    exact hv x (List.mem_of_getElem? hx)
  · rintro e w' ⟨v, rv, m', σ', rfl, rfl, hr, _, hb⟩
    exact ⟨congrArg _ hr, hb⟩
end Go.Lm
/- Small things for contracts. -/
namespace Go.Lm

/-! ### equality of aggregates -/
def leqL (P : Program) (d : Nat) (xs ys : Array Value) : List (Nat × Nat) → Option Bool
  | [] => some true
  | f :: r => match lpart P f.2 xs f.1, lpart P f.2 ys f.1 with
    | some a, some b => match leq P d f.2 a b, leqL P d xs ys r with
      | some p, some q => some (p && q)
      | _, _ => none
    | _, _ => none
def lrng (el s : Nat) : Nat → Nat → List (Nat × Nat)
  | 0, _ => []
  | n + 1, off => (off, el) :: lrng el s n (off + s)

theorem leqL_foldr (P : Program) (d : Nat) (xs ys : Array Value) : ∀ l : List (Nat × Nat), leqL P d xs ys l = l.foldr (fun f r =>
        match lpart P f.2 xs f.1, lpart P f.2 ys f.1 with
        | some a, some b => match leq P d f.2 a b, r with
          | some p, some q => some (p && q)
          | _, _ => none
        | _, _ => none) (some true)
  | [] => rfl
  | f :: r => by rw [leqL, leqL_foldr P d xs ys r]; rfl

theorem lrng_map (el s : Nat) : ∀ (n k : Nat), lrng el s n (k * s) = (List.range' k n).map fun i => (i * s, el)
  | 0, _ => rfl
  | n + 1, k => by rw [lrng, show k * s + s = (k + 1) * s by rw [Nat.succ_mul], lrng_map el s n (k + 1), List.range'_succ, List.map_cons]

section
variable (P : Program) (d : Nat) (t : TypeId)
@[simp ↓] theorem leqL_nil (xs ys : Array Value) : leqL P d xs ys [] = some true := rfl
@[simp ↓] theorem leqL_cons (xs ys : Array Value) (o u : Nat) (r : List (Nat × Nat)) : leqL P d xs ys ((o, u) :: r) = match lpart P u xs o, lpart P u ys o with
    | some a, some b => match leq P d u a b, leqL P d xs ys r with
      | some p, some q => some (p && q)
      | _, _ => none
    | _, _ => none := rfl
@[simp ↓] theorem leqL_rng0 (xs ys : Array Value) (el s o : Nat) : leqL P d xs ys (lrng el s 0 o) = some true := rfl
@[simp ↓] theorem leqL_rng (xs ys : Array Value) (el s n o : Nat) : leqL P d xs ys (lrng el s (n + 1) o) = match lpart P el xs o, lpart P el ys o with
    | some a, some b => match leq P d el a b, leqL P d xs ys (lrng el s n (o + s)) with
      | some p, some q => some (p && q)
      | _, _ => none
    | _, _ => none := rfl
@[simp ↓] theorem leq_int (k : IntKind) (a b : Int) : leq P (d + 1) t (.int k a) (.int k b) = match tyQ P t with | .int _ => some (a == b) | _ => none := by
  cases h : tyQ P t <;> simp [leq, h]
@[simp ↓] theorem leq_boo (a b : Bool) : leq P (d + 1) t (.bool a) (.bool b) = match tyQ P t with | .bool => some (a == b) | _ => none := by
  cases h : tyQ P t <;> simp [leq, h]
@[simp ↓] theorem leq_str (a b : ByteArray) : leq P (d + 1) t (.string a) (.string b) = match tyQ P t with | .str => some (a == b) | _ => none := by
  cases h : tyQ P t <;> simp [leq, h]
@[simp ↓] theorem leq_agg (xs ys : Array Value) : leq P (d + 1) t (.agg xs) (.agg ys) = match tyQ P t with
    | .struct _ => match eqFsQ P t with
      | some fs => leqL P d xs ys fs
      | none => none
    | .arr n el s => leqL P d xs ys (lrng el s n 0)
    | _ => none := by
  cases h : tyQ P t with
  | struct fs =>
    simp only [leq, h]
    cases eqFsQ P t with
    | none => rfl
    | some fs => simp only; rw [leqL_foldr]; rfl
  | arr n el s =>
    simp only [leq, h]
    have := lrng_map el s n 0
    rw [Nat.zero_mul] at this
    rw [leqL_foldr, this, List.foldr_map, List.range_eq_range']; rfl
  | _ => simp [leq, h]
end

theorem okS_gnd0 {D : Nat → Prop} {v : Value} (h : gnd0 v = true) : okS D v := by
  unfold gnd0 at h
  split at h <;> first | trivial | cases h
theorem okT_gnd0 {D : Nat → Prop} {v : Value} (h : gnd0 v = true) : okT D v := by
  unfold gnd0 at h
  split at h <;> first | trivial | cases h
theorem okV_gnd0 {D : Nat → Prop} {v : Value} (h : gnd0 v = true) : okV D v := by
  unfold gnd0 at h
  split at h <;> first | trivial | cases h
theorem okV_gnd {D : Nat → Prop} {v : Value} (h : gnd v = true) : okV D v := by
  unfold gnd at h
  split at h
  · intro x hx
    simp only [Array.all_eq_true_iff_forall_mem] at h
    exact okS_gnd0 (h x hx)
  · exact okV_gnd0 h
theorem okT_gnd {D : Nat → Prop} {v : Value} (h : gnd v = true) : okT D v := by
  unfold gnd at h
  split at h
  · intro x hx
    simp only [Array.all_eq_true_iff_forall_mem] at h
    exact okS_gnd0 (h x hx)
  · exact okT_gnd0 h

theorem wpo_mono {P : Program} {N : Nat} {ops : List Oper} {K K' : Env → Mem → Prop} (hk : ∀ env m, K env m → K' env m) : ∀ (l : List Oper) (env : Env) (m : Mem), wpo P N ops K l env m → wpo P N ops K' l env m
  | [], env, m, h => hk _ _ h
  | o :: r, env, m, h => by
    unfold wpo at h ⊢
    split at h
    · exact h.elim
    · split at h
      · exact wpo_mono hk r _ _ h
      · exact h.elim
    · split at h
      · refine h.mono fun v m' hv => ?_
        split at hv
        · exact wpo_mono hk r _ _ hv
        · exact hv.elim
      · split at h
        · split at h
          · exact wpo_mono hk r _ _ h
          · exact h.elim
        · exact h.elim

theorem seqK_mono {K K' : Env → Mem → Prop} {Q Q' : Ex → Env → Mem → Prop} (hk : ∀ env m, K env m → K' env m) (hq : ∀ e env m, Q e env m → Q' e env m) : ∀ e env m, seqK K Q e env m → seqK K' Q' e env m
  | .normal, _, _, h => hk _ _ h
  | .exit _, _, _, h => hq _ _ _ h
  | .ret, _, _, h => hq _ _ _ h

theorem blockK_mono {id : Nat} {Q Q' : Ex → Env → Mem → Prop} (hq : ∀ e env m, Q e env m → Q' e env m) : ∀ e env m, blockK id Q e env m → blockK id Q' e env m
  | .normal, _, _, h => hq _ _ _ h
  | .exit id', env, m, h => by
    rw [blockK_exit] at h ⊢
    by_cases e : id' = id
    · rw [if_pos e] at h ⊢; exact hq _ _ _ h
    · rw [if_neg e] at h ⊢; exact hq _ _ _ h
  | .ret, _, _, h => hq _ _ _ h

theorem wpc_mono {P : Program} {N : Nat} : ∀ (c : Code) (env : Env) (m : Mem) (Q Q' : Ex → Env → Mem → Prop), (∀ e env m, Q e env m → Q' e env m) → wpc P N c env m Q → wpc P N c env m Q' := by
  intro c
  induction c with
  | seq a b iha ihb => exact fun env m Q Q' hq h => iha env m _ _ (seqK_mono (fun env m h => ihb env m _ _ hq h) hq) h
  | cond x a b iha ihb =>
    intro env m Q Q' hq h
    unfold wpc at h ⊢
    split at h
    · next t ht =>
      by_cases hb : t = true
      · rw [if_pos hb] at h ⊢; exact iha _ _ _ _ hq h
      · rw [if_neg hb] at h ⊢; exact ihb _ _ _ _ hq h
    · exact h.elim
  | block id a iha => exact fun env m Q Q' hq h => iha env m _ _ (blockK_mono hq) h
  | loop a iha => exact fun env m Q Q' hq ⟨I, h0, h⟩ => ⟨I, h0, fun n env m hi => iha env m _ _ (seqK_mono (fun _ _ x => x) hq) (h n env m hi)⟩
  | region id ops d =>
    intro env m Q Q' hq h
    cases d with
    | false => exact wpo_mono (hq .normal) _ _ _ h
    | true => exact fun σ a w hR hE hN Q1 hQ => h σ a w hR hE hN Q1 fun env' m' σ' a' w' hk => hQ env' m' σ' a' w' (hq _ _ _ hk)
  | _ => first | exact fun env m Q Q' hq h => hq _ _ _ h | exact fun env m Q Q' hq h => h.elim

/-- One statement that is a region; what stands behind it is shut away. -/
theorem wpc_st {P : Program} {N : Nat} {id : Nat} {l : List Oper} {b : Code} {env : Env} {m : Mem} {Q : Ex → Env → Mem → Prop}
    (h : ∀ K : Env → Mem → Prop, (∀ env' m', wpc P N b env' m' Q → K env' m') → wpo P N l K l env m) : wpc P N (.seq (.region id (List.toArray l) false) b) env m Q := h _ fun _ _ x => x

@[simp ↓] theorem wpo_drop (P : Program) (N : Nat) (ops : List Oper) (K : Env → Mem → Prop) (n : Nat) (o : Oper) (r : List Oper) (env : Env) (m : Mem) : wpo P N ops K (List.drop (n + 1) (o :: r)) env m = wpo P N ops K (List.drop n r) env m := rfl
@[simp ↓] theorem wpo_drop0 (P : Program) (N : Nat) (ops : List Oper) (K : Env → Mem → Prop) (r : List Oper) (env : Env) (m : Mem) : wpo P N ops K (List.drop 0 r) env m = wpo P N ops K r env m := rfl

/-- A draw, as simp likes it. -/
theorem draw_go {P : Program} {N : Nat} {l : List Oper} {env : Env} {m : Mem} {K : Env → Mem → Prop} (s : Nat) (bs : List Nat) (hb : Region.before l.toArray = bs.toArray) (hok : drawOk l.toArray s = true)
    (h : drw P N l.toArray s (fun i => bs.getD i 0) env m (fun D => wpo P N l K (l.drop s) (senv (fun _ => true) 0 D env) (smem (fun _ => true) 0 D m)) l 0 m.top []) : DrawD P N l.toArray env m K () () :=
  draw_by s bs hb hok h
theorem drw_go {P : Program} {N : Nat} {oa : Array Oper} {s : Nat} {b : Nat → Nat} {env : Env} {m : Mem} {KD : List DRes → Prop} {l : List Oper} {i kid : Nat} {D : List DRes}
    (h : drw P N oa s b env m KD l i kid D) : DrwD P N oa s b env m KD l i kid D () () () () := h

/-- One statement of any kind; what stands behind it is shut away. -/
theorem wpc_sq {P : Program} {N : Nat} {a b : Code} {env : Env} {m : Mem} {Q : Ex → Env → Mem → Prop}
    (h : ∀ K : Env → Mem → Prop, (∀ env' m', wpc P N b env' m' Q → K env' m') → wpc P N a env m (seqK K Q)) : wpc P N (.seq a b) env m Q := h _ fun _ _ x => x

/-- What holds between two statements. -/
theorem wpc_mid {P : Program} {N : Nat} {a b : Code} {env : Env} {m : Mem} {Q : Ex → Env → Mem → Prop} (R : Env → Mem → Prop)
    (ha : wpc P N a env m (seqK R Q)) (hb : ∀ env' m', R env' m' → wpc P N b env' m' Q) : wpc P N (.seq a b) env m Q := by
  exact wpc_mono a env m (seqK R Q) (seqK (fun env' m' => wpc P N b env' m' Q) Q) (seqK_mono hb fun _ _ _ x => x) ha
end Go.Lm
/- How a call is left: an object of the caller's turned; a new object handed back. -/
namespace Go.Lm

/-- The environment, of which only what is asked for will be told. -/
theorem env_cut {P : Program} {N : Nat} {c : Code} {env : Env} {m : Mem} {Q : Ex → Env → Mem → Prop} (h : ∀ env' : Env, (∀ t, elook env' t = elook env t) → wpc P N c env' m Q) : wpc P N c env m Q := h env fun _ => rfl

theorem get_lt {m : Mem} {k : Nat} (h : m.get k ≠ .free) : k < m.top := by
  rcases Nat.lt_or_ge k m.top with h' | h'
  · exact h'
  · refine absurd ?_ h
    simp only [Mem.top] at h'
    unfold Mem.get
    rw [if_neg (by omega), List.getElem?_eq_none (by omega)]
    rfl

theorem get_top_le {m : Mem} {k : Nat} (h : m.top ≤ k) : m.get k = .free := by
  simp only [Mem.top] at h
  unfold Mem.get
  rw [if_neg (by omega), List.getElem?_eq_none (by omega)]
  rfl

theorem lt_cells {m : Mem} {k : Nat} {ro : Bool} {e : Nat} {c : Array Value} (h : m.get k = .cells ro e c) : k < m.top := get_lt (by rw [h]; intro x; cases x)
theorem lt_map {m : Mem} {k : Nat} {es : List (Value × Value)} (h : m.get k = .map es) : k < m.top := get_lt (by rw [h]; intro x; cases x)

theorem rnO_id (o : Ob) : rnO id o = o := by
  have h : rnS id = id := funext rnS_id
  cases o with
  | cells ro e c => simp only [rnO, h, Array.map_id]
  | map es => simp [rnO, h]
  | _ => rfl

/-- What the caller has, is turned. -/
theorem leave_base {m m0 : Mem} {B : Nat → Ob} {loc : List Ob} {v : Value} {Q : Value → Mem → Prop} (hv : okV (fun k => m0.get k ≠ .free) v)
    (hd : ∀ k, m.get k ≠ .free → m0.get k ≠ .free)
    (ho : ∀ k, (m0.get k).alive = true → k < m.top ∧ B k = m0.get k ∧ (m.get k = m0.get k ∨ okO (fun k => m0.get k ≠ .free) (m0.get k)))
    (h : Q v m0) : ∃ m0 v0, Nonempty (Leave m { base := B, n := m.top, loc := loc } v m0 v0) ∧ Q v0 m0 := by
  refine ⟨m0, v, ⟨⟨id, (rnV_id v).symm, hv, fun k hk => ⟨rfl, hd k hk⟩, fun k hk => ?_, fun k k' hne _ _ => hne⟩⟩, h⟩
  obtain ⟨h1, h2, h3⟩ := ho k hk
  have hg : (Mem.mk B m.top loc).get k = B k := get_base _ _ _ h1
  rcases h3 with h3 | h3
  · refine .inl ⟨fun e => ?_, h3.symm, ?_⟩
    · rw [← h3, e] at hk; cases hk
    · rw [hg, h2, h3]
  · refine .inr ⟨?_, h3⟩
    show (Mem.mk B m.top loc).get k = rnO id (m0.get k)
    rw [hg, h2, rnO_id]

/-- One object of the caller's is turned. -/
theorem leave_put {m : Mem} {k : Nat} {o : Ob} {loc : List Ob} {v : Value} {Q : Value → Mem → Prop} (hk : m.get k ≠ .free) (hf : o ≠ .free) (hv : okV (fun k => m.get k ≠ .free) v)
    (ho : okO (fun k => m.get k ≠ .free) o) (h : Q v (m.put k o)) : ∃ m0 v0, Nonempty (Leave m { base := Mset m.get k o, n := m.top, loc := loc } v m0 v0) ∧ Q v0 m0 := by
  have hg : (m.put k o).get = Mset m.get k o := Mem.get_put m k o
  have hd : (fun j => (m.put k o).get j ≠ .free) = fun j => m.get j ≠ .free := by
    funext j
    rw [hg, Mset]
    by_cases hj : j = k
    · subst hj; rw [if_pos rfl]; simp [hf, hk]
    · rw [if_neg hj]
  refine leave_base (m0 := m.put k o) (by rw [hd]; exact hv) (fun j hj => by have := congrFun hd j; rw [this]; exact hj) (fun j hj => ?_) h
  rw [hg] at hj ⊢
  refine ⟨?_, rfl, ?_⟩
  · by_cases e : j = k
    · subst e; exact get_lt hk
    · rw [Mset, if_neg e] at hj
      exact get_lt (by intro x; rw [x] at hj; cases hj)
  · by_cases e : j = k
    · subst e
      right
      rw [Mset, if_pos rfl]
      have := hd
      rw [hg] at this
      rw [this]; exact ho
    · left; rw [Mset, if_neg e]

/-- A new object is handed back: it is the call's number i. -/
theorem leave_new {m : Mem} {loc : List Ob} {v0 : Value} {o : Ob} {i : Nat} {Q : Value → Mem → Prop}
    (hi : (loc[i]?).getD .free = rnO (fun k => if k = m.top then m.top + i else k) o) (hf : o ≠ .free)
    (hv : okV (fun k => m.get k ≠ .free ∨ k = m.top) v0) (ho : okO (fun k => m.get k ≠ .free ∨ k = m.top) o)
    (h : Q v0 (m.put m.top o)) :
    ∃ m0 v1, Nonempty (Leave m { base := m.get, n := m.top, loc := loc } (rnV (fun k => if k = m.top then m.top + i else k) v0) m0 v1) ∧ Q v1 m0 := by
  have hg : (m.put m.top o).get = Mset m.get m.top o := Mem.get_put m m.top o
  have hd : (fun j => (m.put m.top o).get j ≠ .free) = fun j => m.get j ≠ .free ∨ j = m.top := by
    funext j
    rw [hg, Mset]
    by_cases hj : j = m.top
    · subst hj; rw [if_pos rfl]; simp [hf]
    · rw [if_neg hj]; simp [hj]
  refine ⟨m.put m.top o, v0, ⟨⟨_, rfl, by rw [hd]; exact hv, fun k hk => ?_, fun k hk => ?_, fun k k' hne hk hk' => ?_⟩⟩, h⟩
  · have := congrFun hd k
    refine ⟨if_neg ?_, by rw [this]; exact .inl hk⟩
    intro e; subst e; exact hk (get_top_le (Nat.le_refl _))
  · by_cases e : k = m.top
    · subst e
      right
      rw [hd, hg, Mset, if_pos rfl, if_pos rfl]
      exact ⟨(get_loc _ _ _ _).trans hi, ho⟩
    · left
      rw [hg, Mset, if_neg e] at hk ⊢
      have hnf : m.get k ≠ .free := by intro x; rw [x] at hk; cases hk
      exact ⟨hnf, rfl, get_base _ _ _ (get_lt hnf)⟩
  · rw [hg] at hk hk'
    have hlt : ∀ j, (Mset m.get m.top o j).alive = true → j ≠ m.top → j < m.top := by
      intro j hj hne'
      rw [Mset, if_neg hne'] at hj
      exact get_lt (by intro x; rw [x] at hj; cases hj)
    by_cases e : k = m.top
    · by_cases e' : k' = m.top
      · exact absurd (e.trans e'.symm) hne
      · rw [if_pos e, if_neg e']; have := hlt k' hk' e'; omega
    · by_cases e' : k' = m.top
      · rw [if_neg e, if_pos e']; have := hlt k hk e; omega
      · rw [if_neg e, if_neg e']; exact hne
end Go.Lm
/- The row's last step, where of the world no more is known than that it is as it was below a number. (The recipe of the kit's page on small things.) -/
namespace Go.Lm
open Go.RowKit Go.WideShapes Go.ChangeShapes
section
variable {H : Type} {enc : TypeId × Value → H} {P : Program}
theorem post_of_below {f : Func} {s : ChangeSpec} {apart fresh handsOn again : Bool} {W W' : World} {args : Array Value} {v : Value} {ds gs : List (DataW H)} {before pa pv : List MemPlace}
    (hW : DataW.Whole enc P f.params.toList s.vars apart W args.toList ds gs before)
    (hres : ∀ (b : Nat) (sp : Nat → Bool) (hd : Bool), DataW.TrodAll enc P W' b sp hd f.resultTypes.toList (v.resultList f.resultTypes.size) (s.fn H (ds ++ gs)).results [])
    (hargs : ∀ sp : Nat → Bool, (∀ p ∈ before, sp p.block = true) → DataW.TrodAll enc P W' 0 sp true f.params.toList args.toList (s.fn H (ds ++ gs)).args pa)
    (hvars : ∀ sp : Nat → Bool, (∀ p ∈ before, sp p.block = true) → DataW.TrodVars enc P W' sp s.vars (s.fn H (ds ++ gs)).vars pv)
    (hps : before = pa ++ pv) (hb : Below W.heap.size W W')
    (hok : ∀ (j : Nat) (t : TypeId) (r : Value), f.resultTypes[j]? = some t → (v.resultList f.resultTypes.size)[j]? = some r → Value.okWide P W' .any 0 t r) :
    s.post enc P f apart fresh handsOn again W args v W' := by
  have hlt : ∀ p ∈ before, p.block < W.heap.size := fun p hp => hW.lt p hp
  have hold : ∀ p ∈ before, (fun b => decide (b < W.heap.size)) p.block = true := fun p hp => by simpa using hlt p hp
  refine ⟨ds, gs, before, [], pa, pv, hW, hres _ _ _, hargs _ hold, hvars _ hold, World.keptBut_mono (fun p hp => ⟨hp, ?_⟩) (hb.frame (· ∈ before)), fun _ => ?_⟩
  · rw [hps, List.mem_append] at hp
    exact Or.inr hp
  · obtain ⟨_, _, _, _, _, hz, hn⟩ := hW
    refine ⟨hok, _, _, ([] ++ pa) ++ pv, ⟨[] ++ pa, pv, trodAll_append (hargs _ (fun _ _ => rfl)) (hres _ _ _), hvars _ (fun _ _ => rfl), rfl, ?_, ?_⟩, ?_⟩
    · intro b off hp
      have hin : MemPlace.cell b off ∈ before := by rw [hps]; simpa using hp
      rw [hb.frozen (hlt _ hin)]
      exact hz b off hin
    · intro ha
      have := hn ha
      rw [hps] at this
      simpa using this
    · intro p hp _
      rw [hps]
      simpa using hp
end
end Go.Lm
/- A part of a function's code, by its place: a theorem of its own for it. -/
namespace Go.Lm

/-- the part at a place: 0 the first, 1 the second of two; of a test: 0 then, 1 else; of a block, a loop: its body -/
def cpick : Code → List Nat → Code
  | c, [] => c
  | .seq a _, 0 :: p => cpick a p
  | .seq _ b, _ :: p => cpick b p
  | .cond _ a _, 0 :: p => cpick a p
  | .cond _ _ b, _ :: p => cpick b p
  | .block _ a, 0 :: p => cpick a p
  | .loop a, 0 :: p => cpick a p
  | c, _ => c
def fbody (f : Func) : Code := f.body.getD .skip

section
variable (a b : Code) (x : Operand) (i n : Nat) (p : List Nat)
@[simp ↓] theorem cpick_nil (c : Code) : cpick c [] = c := by unfold cpick; rfl
@[simp ↓] theorem cpick_seq0 : cpick (.seq a b) (0 :: p) = cpick a p := rfl
@[simp ↓] theorem cpick_seq1 : cpick (.seq a b) (1 :: p) = cpick b p := rfl
@[simp ↓] theorem cpick_cond0 : cpick (.cond x a b) (0 :: p) = cpick a p := rfl
@[simp ↓] theorem cpick_cond1 : cpick (.cond x a b) (1 :: p) = cpick b p := rfl
@[simp ↓] theorem cpick_block : cpick (.block i a) (0 :: p) = cpick a p := rfl
@[simp ↓] theorem cpick_loop : cpick (.loop a) (0 :: p) = cpick a p := rfl
end
/-- A part of a function, opened. -/
theorem wpc_part {P : Program} {N : Nat} {f : Func} {p : List Nat} {env : Env} {m : Mem} {Q : Ex → Env → Mem → Prop} {b : Code} (hb : f.body = some b) (h : wpc P N (cpick b p) env m Q) :
    wpc P N (cpick (fbody f) p) env m Q := by
  unfold fbody; rw [hb]; exact h
end Go.Lm
/- How a call is left, in general: objects of the caller's turned, new ones handed back. -/
namespace Go.Lm

/-- new objects behind those that are there -/
def Mem.adds (m : Mem) (os : List Ob) : Mem := { m with loc := m.loc ++ os }

theorem Mem.adds_top (m : Mem) (os : List Ob) : (m.adds os).top = m.top + os.length := by simp [Mem.adds, Mem.top]; omega
theorem Mem.adds_lt (m : Mem) (os : List Ob) {k : Nat} (h : k < m.top) : (m.adds os).get k = m.get k := by
  obtain ⟨B, n, l⟩ := m
  unfold Mem.get Mem.adds
  simp only [Mem.top] at h ⊢
  by_cases hk : k < n
  · rw [if_pos hk, if_pos hk]
  · rw [if_neg hk, if_neg hk, List.getElem?_append_left (by omega)]
theorem Mem.adds_ge (m : Mem) (os : List Ob) (j : Nat) : (m.adds os).get (m.top + j) = (os[j]?).getD .free := by
  obtain ⟨B, n, l⟩ := m
  unfold Mem.get Mem.adds Mem.top
  simp only
  rw [if_neg (by omega), List.getElem?_append_right (by omega)]
  congr 2
  omega
theorem Mem.adds_one (m : Mem) (o : Ob) : m.adds [o] = m.put m.top o := by
  unfold Mem.adds Mem.put Mem.top
  rw [if_neg (by omega), if_neg (by omega)]
  simp
@[simp] theorem Mem.adds_mk (B : Nat → Ob) (n : Nat) (l os : List Ob) : (Mem.mk B n l).adds os = { base := B, n := n, loc := l ++ os } := rfl

def tau (m : Mem) (idx : Nat → Nat) (k : Nat) : Nat := if k < m.top then k else m.top + idx (k - m.top)
theorem tau_lt {m : Mem} {idx : Nat → Nat} {k : Nat} (h : k < m.top) : tau m idx k = k := if_pos h
theorem tau_ge (m : Mem) (idx : Nat → Nat) (j : Nat) : tau m idx (m.top + j) = m.top + idx j := by
  unfold tau; rw [if_neg (by omega)]; congr 2; omega

theorem leave_all {m : Mem} (m1 : Mem) (os : List Ob) (idx : Nat → Nat) {B : Nat → Ob} {loc : List Ob} {v v0 : Value} {Q : Value → Mem → Prop}
    (htop : m1.top = m.top) (hdom : ∀ k, m.get k ≠ .free → m1.get k ≠ .free)
    (hbase : ∀ k, k < m.top → (m1.get k).alive = true → (m1.get k = m.get k ∧ B k = m.get k) ∨ (B k = rnO (tau m idx) (m1.get k) ∧ okO (fun k => (m1.adds os).get k ≠ .free) (m1.get k)))
    (hnew : ∀ j o, os[j]? = some o → o.alive = true → (loc[idx j]?).getD .free = rnO (tau m idx) o ∧ okO (fun k => (m1.adds os).get k ≠ .free) o)
    (hinj : ∀ j j', j ≠ j' → j < os.length → j' < os.length → idx j ≠ idx j')
    (hv : v = rnV (tau m idx) v0) (hok : okV (fun k => (m1.adds os).get k ≠ .free) v0) (h : Q v0 (m1.adds os)) :
    ∃ m0 v1, Nonempty (Leave m { base := B, n := m.top, loc := loc } v m0 v1) ∧ Q v1 m0 := by
  have hlt : ∀ k, k < m.top → (m1.adds os).get k = m1.get k := fun k hk => m1.adds_lt os (by rw [htop]; exact hk)
  have hge : ∀ k, m.top ≤ k → (m1.adds os).get k = (os[k - m.top]?).getD .free := fun k hk => by
    have := m1.adds_ge os (k - m.top)
    rw [htop] at this
    rw [← this]; congr 1; omega
  refine ⟨m1.adds os, v0, ⟨⟨tau m idx, hv, hok, fun k hk => ?_, fun k hk => ?_, fun k k' hne hk hk' => ?_⟩⟩, h⟩
  · have := get_lt hk
    exact ⟨tau_lt this, by rw [hlt k this]; exact hdom k hk⟩
  · by_cases hk' : k < m.top
    · rw [hlt k hk'] at hk ⊢
      rw [tau_lt hk']
      have hg : (Mem.mk B m.top loc).get k = B k := get_base _ _ _ hk'
      rcases hbase k hk' hk with ⟨h1, h2⟩ | ⟨h1, h2⟩
      · refine .inl ⟨fun e => ?_, h1, by rw [hg, h2]⟩
        rw [h1, e] at hk; cases hk
      · exact .inr ⟨by rw [hg, h1], h2⟩
    · obtain ⟨j, rfl⟩ : ∃ j, k = m.top + j := ⟨k - m.top, by omega⟩
      rw [hge _ (by omega), show m.top + j - m.top = j by omega] at hk ⊢
      cases ho : os[j]? with
      | none => rw [ho] at hk; cases hk
      | some o =>
        rw [ho] at hk
        obtain ⟨h1, h2⟩ := hnew j o ho hk
        right
        refine ⟨?_, h2⟩
        rw [tau_ge, get_loc]
        exact h1
  · have cs : ∀ k, ((m1.adds os).get k).alive = true → (k < m.top ∧ tau m idx k = k) ∨ ∃ j, k = m.top + j ∧ j < os.length ∧ tau m idx k = m.top + idx j := fun k hk => by
      by_cases hk' : k < m.top
      · exact .inl ⟨hk', tau_lt hk'⟩
      · refine .inr ⟨k - m.top, by omega, ?_, ?_⟩
        · rw [hge _ (by omega)] at hk
          rcases Nat.lt_or_ge (k - m.top) os.length with h' | h'
          · exact h'
          · rw [List.getElem?_eq_none h'] at hk; cases hk
        · have := tau_ge m idx (k - m.top)
          rw [← this]; congr 1; omega
    rcases cs k hk with ⟨a1, a2⟩ | ⟨j, a1, a2, a3⟩ <;> rcases cs k' hk' with ⟨b1, b2⟩ | ⟨j', b1, b2, b3⟩
    · omega
    · omega
    · omega
    · have := hinj j j' (by omega) a2 b2; omega

theorem rnB_gnd0 {τ : Nat → Nat} {v : Value} (h : gnd0 v = true) : rnB τ v = v := by
  unfold gnd0 at h
  split at h <;> first | rfl | cases h
theorem rnS_gnd0 {τ : Nat → Nat} {v : Value} (h : gnd0 v = true) : rnS τ v = v := by
  unfold gnd0 at h
  split at h <;> first | rfl | cases h
theorem rn_gnds {τ : Nat → Nat} {c : Array Value} (h : ∀ x ∈ c, gnd0 x = true) : c.map (rnS τ) = c := by
  apply Array.ext
  · simp
  · intro i h1 h2
    rw [Array.getElem_map]
    exact rnS_gnd0 (h _ (Array.getElem_mem h2))

/-- A new row of plain cells is handed back as a slice. -/
theorem leave_row {m : Mem} {loc : List Ob} {i e : Nat} {c : Array Value} {l cap : Nat} {Q : Value → Mem → Prop} (hi : loc[i]? = some (.cells false e c)) (hc : ∀ x ∈ c, gnd0 x = true)
    (h : Q (.slice (some ⟨m.top, 0, none⟩) l cap) (m.put m.top (.cells false e c))) :
    ∃ m0 v1, Nonempty (Leave m { base := m.get, n := m.top, loc := loc } (.slice (some ⟨m.top + i, 0, none⟩) l cap) m0 v1) ∧ Q v1 m0 := by
  have ht := tau_ge m (fun _ => i) 0
  rw [Nat.add_zero] at ht
  refine leave_all m [.cells false e c] (fun _ => i) rfl (fun k hk => hk) (fun k hk ha => .inl ⟨rfl, rfl⟩) (fun j o hj ha => ?_) (fun j j' hne h1 h2 => absurd hne (by simp at h1 h2; omega)) (v0 := .slice (some ⟨m.top, 0, none⟩) l cap) ?_ ?_ ?_
  · cases j with
    | succ j => simp at hj
    | zero =>
      simp only [List.getElem?_cons_zero, Option.some.injEq] at hj
      subst hj
      refine ⟨?_, fun x hx => okS_gnd0 (hc x hx)⟩
      simp only [hi, Option.getD_some, rnO, rn_gnds hc]
  · show Value.slice _ _ _ = Value.slice (some (rnA _ _)) _ _
    simp only [rnA, ht]
  · show (m.adds _).get m.top ≠ .free
    have := m.adds_ge [.cells false e c] 0
    rw [Nat.add_zero] at this
    rw [this]
    simp
  · rw [Mem.adds_one]; exact h
end Go.Lm
