/- A Go function's code over a local environment and a local memory, as a proposition; its soundness. -/
import Derived.Test.YtfgcnehjdaiipaaL11
namespace Go.Lm

/-- How a piece of code is left. -/
inductive Ex where
  | normal
  | exit (id : Nat)
  | ret

/-- A local memory: what the caller has (numbers below n), and what this call has made. -/
structure Mem where
  base : Nat → Ob
  n : Nat
  loc : List Ob

def Mem.get (m : Mem) (k : Nat) : Ob := if k < m.n then m.base k else (m.loc[k - m.n]?).getD .free
def Mem.top (m : Mem) : Nat := m.n + m.loc.length
def Mem.put (m : Mem) (k : Nat) (o : Ob) : Mem :=
  if k < m.n then { m with base := Mset m.base k o }
  else if k < m.top then { m with loc := m.loc.set (k - m.n) o }
  else { m with loc := m.loc ++ List.replicate (k - m.top) .free ++ [o] }

def Mem.puts (m : Mem) : List (Nat × Ob) → Mem
  | [] => m
  | (i, o) :: r => (m.put i o).puts r

def Mem.app (m : Mem) (k : Nat) (e : Eff) : Mem :=
  match e.new with
  | some o => (m.puts e.mods).put k o
  | none => m.puts e.mods

theorem Mem.get_put (m : Mem) (k : Nat) (o : Ob) : (m.put k o).get = Mset m.get k o := by
  funext j
  unfold Mem.put
  by_cases hk : k < m.n
  · rw [if_pos hk]
    simp only [Mem.get, Mset]
    by_cases hj : j = k
    · subst hj; rw [if_pos hk, if_pos rfl, if_pos rfl]
    · rw [if_neg hj, if_neg hj]
  · rw [if_neg hk]
    by_cases hk2 : k < m.top
    · rw [if_pos hk2]
      simp only [Mem.top] at hk2
      simp only [Mem.get, Mset]
      by_cases hj : j < m.n
      · rw [if_pos hj, if_neg (by omega), if_pos hj]
      · rw [if_neg hj, if_neg hj]
        by_cases he : j = k
        · subst he; rw [if_pos rfl, List.getElem?_set_self (by omega)]; rfl
        · rw [if_neg he, List.getElem?_set_ne (by omega)]
    · rw [if_neg hk2]
      simp only [Mem.top] at hk2
      simp only [Mem.get, Mset, Mem.top]
      by_cases hj : j < m.n
      · rw [if_pos hj, if_neg (by omega), if_pos hj]
      · rw [if_neg hj, if_neg hj, List.append_assoc]
        by_cases h1 : j - m.n < m.loc.length
        · rw [List.getElem?_append_left h1, if_neg (by omega)]
        · rw [List.getElem?_append_right (by omega), List.getElem?_eq_none (l := m.loc) (by omega)]
          by_cases h2 : j - m.n - m.loc.length < k - (m.n + m.loc.length)
          · rw [List.getElem?_append_left (by rw [List.length_replicate]; exact h2), if_neg (by omega), List.getElem?_replicate, if_pos h2]
            rfl
          · rw [List.getElem?_append_right (by rw [List.length_replicate]; omega), List.length_replicate]
            by_cases he : j = k
            · subst he
              rw [if_pos rfl, show j - m.n - m.loc.length - (j - (m.n + m.loc.length)) = 0 by omega]
              rfl
            · rw [if_neg he, List.getElem?_eq_none (by simp; omega)]

theorem Mem.get_puts : ∀ (l : List (Nat × Ob)) (m : Mem), (m.puts l).get = appM m.get l
  | [], _ => rfl
  | (i, o) :: r, m => by simp only [Mem.puts, appM]; rw [Mem.get_puts r, Mem.get_put]

theorem Mem.get_app (m : Mem) (k : Nat) (e : Eff) : (m.app k e).get = appE m.get k e := by
  unfold Mem.app appE
  cases e.new with
  | some o => simp only; rw [Mem.get_put, Mem.get_puts]
  | none => simp only; rw [Mem.get_puts]

theorem Mem.get_top (m : Mem) : m.get m.top = .free := by
  unfold Mem.get Mem.top
  rw [if_neg (by omega), List.getElem?_eq_none (by omega)]
  rfl

def argsRel (σ : Sg) (vs : List Value) (rs : Array Value) : Prop :=
  vs.length = rs.size ∧ ∀ (i : Nat) (x y : Value), vs[i]? = some x → rs[i]? = some y → vRel σ x y

/-- What a call has come to. -/
def PostC (σ : Sg) (m : Mem) (w : World) (Q : Value → Mem → Prop) (e : Ending) (w' : World) : Prop :=
  ∃ v rv m' σ', e = .returned rv ∧ Q v m' ∧ Rep σ' m'.get w' ∧ vRel σ' v rv ∧ Fr σ m.get w σ' m'.get w'

/-- The contract of a call. -/
def TC (P : Program) (g : FuncId) (vs : List Value) (m : Mem) (Q : Value → Mem → Prop) : Prop :=
  ∀ (σ : Sg) (w : World) (rs : Array Value), Rep σ m.get w → argsRel σ vs rs →
    ((callFunc g rs).run P w = .ok (.enter g rs) w ∧ Calls P g rs w (PostC σ m w Q)) ∨
    (∃ rv w', (callFunc g rs).run P w = .ok (.value rv) w' ∧ PostC σ m w Q (.returned rv) w')

theorem TC.mono {P : Program} {g : FuncId} {vs : List Value} {m : Mem} {Q Q' : Value → Mem → Prop} (h : TC P g vs m Q) (hq : ∀ v m', Q v m' → Q' v m') : TC P g vs m Q' := by
  intro σ w rs hR ha
  rcases h σ w rs hR ha with ⟨h1, h2⟩ | ⟨rv, w', h1, v, rv', m', σ', h2, h3, h4⟩
  · exact .inl ⟨h1, h2.mono fun e w' ⟨v, rv, m', σ', h3, h4, h5⟩ => ⟨v, rv, m', σ', h3, hq _ _ h4, h5⟩⟩
  · exact .inr ⟨rv, w', h1, v, rv', m', σ', h2, hq _ _ h3, h4⟩

def guardQ (ops : List Oper) (env : Env) (o : Oper) : Option Bool :=
  match o.guard with
  | none => some true
  | some (j, want) =>
    match ops[j]? with
    | some oj => match oj.dst with
      | some d => match elook env d with
        | some (.bool b) => some (b == want)
        | some (.tuple _) => some false
        | _ => none
      | none => none
    | none => none

def putEnv (N : Nat) (env : Env) (dst : Option Nat) (v : Value) : Option Env :=
  match dst with
  | none => some env
  | some d => if d < N then some ((d, v) :: env) else none

/-- a call of a Go function: which, and its arguments -/
def goCall (env : Env) : Op → Option (FuncId × List Value)
  | .call c => match c.callee with
    | .value f => match ev env f, evs env c.args.toList with
      | some (.func (.func g) fi ca), some vs => some (g, fi.toList ++ vs ++ ca.toList)
      | _, _ => none
    | _ => none
  | _ => none

def wpo (P : Program) (N : Nat) (ops : List Oper) (K : Env → Mem → Prop) : List Oper → Env → Mem → Prop
  | [], env, m => K env m
  | o :: r, env, m =>
    match guardQ ops env o with
    | none => False
    | some false => match putEnv N env o.dst undef with
      | some env' => wpo P N ops K r env' m
      | none => False
    | some true =>
      match goCall env o.op with
      | some (g, vs) => TC P g vs m fun v m' => match putEnv N env o.dst v with
        | some env' => wpo P N ops K r env' m'
        | none => False
      | none => match lop P env m.get m.top o.op with
        | some e => match putEnv N env o.dst e.val with
          | some env' => wpo P N ops K r env' (m.app m.top e)
          | none => False
        | none => False

def seqK (K : Env → Mem → Prop) (Q : Ex → Env → Mem → Prop) : Ex → Env → Mem → Prop
  | .normal, env, m => K env m
  | e, env, m => Q e env m

def blockK (id : Nat) (Q : Ex → Env → Mem → Prop) : Ex → Env → Mem → Prop
  | .exit id', env, m => if id' = id then Q .normal env m else Q (.exit id') env m
  | e, env, m => Q e env m

/-- A loop: an invariant with a number that falls. -/
def LoopW (W : Env → Mem → (Ex → Env → Mem → Prop) → Prop) (env : Env) (m : Mem) (Q : Ex → Env → Mem → Prop) : Prop :=
  ∃ I : Nat → Env → Mem → Prop, (∃ n, I n env m) ∧ ∀ n env m, I n env m → W env m (seqK (fun env' m' => ∃ n', n' < n ∧ I n' env' m') Q)

/-- A region that draws its order: told elsewhere. -/
def DrawW (P : Program) (N : Nat) (ops : Array Oper) (env : Env) (m : Mem) (K : Env → Mem → Prop) : Prop :=
  ∀ (σ : Sg) (a : Act) (w : World), Rep σ m.get w → EnvRel σ env a.tmps → a.tmps.size = N → ∀ (Q : Exit → Act → World → Prop),
    (∀ env' m' σ' a' w', K env' m' → Rep σ' m'.get w' → EnvRel σ' env' a'.tmps → a'.tmps.size = N → a'.defers = a.defers → Fr σ m.get w σ' m'.get w' → Q .normal a' w') →
    wpAny P .any ops Q ops.size (Array.replicate ops.size false) a w

def wpc (P : Program) (N : Nat) : Code → Env → Mem → (Ex → Env → Mem → Prop) → Prop
  | .skip, env, m, Q => Q .normal env m
  | .seq a b, env, m, Q => wpc P N a env m (seqK (fun env' m' => wpc P N b env' m' Q) Q)
  | .cond c a b, env, m, Q => match ev env c with
    | some (.bool t) => if t = true then wpc P N a env m Q else wpc P N b env m Q
    | _ => False
  | .block id a, env, m, Q => wpc P N a env m (blockK id Q)
  | .loop a, env, m, Q => LoopW (wpc P N a) env m Q
  | .region _ ops false, env, m, Q => wpo P N ops.toList (Q .normal) ops.toList env m
  | .region _ ops true, env, m, Q => DrawW P N ops env m (Q .normal)
  | .exit id, env, m, Q => Q (.exit id) env m
  | .ret, env, m, Q => Q .ret env m
  | .label _, env, m, Q => Q .normal env m
  | _, _, _, _ => False

/-! ### soundness -/

def exR : Exit → Ex → Prop
  | .normal, e => e = .normal
  | .exit id, e => e = .exit id
  | .ret, e => e = .ret
  | _, _ => False

def PostQ (N : Nat) (σ : Sg) (m : Mem) (w : World) (ds : List Deferred) (Q : Ex → Env → Mem → Prop) (e : Exit) (a' : Act) (w' : World) : Prop :=
  ∃ e' env' m' σ', exR e e' ∧ Q e' env' m' ∧ Rep σ' m'.get w' ∧ EnvRel σ' env' a'.tmps ∧ a'.tmps.size = N ∧ a'.defers = ds ∧ Fr σ m.get w σ' m'.get w'

theorem PostQ.from {N : Nat} {σ σ₁ : Sg} {m m₁ : Mem} {w w₁ : World} {ds : List Deferred} {Q : Ex → Env → Mem → Prop} (h : Fr σ m.get w σ₁ m₁.get w₁) {e : Exit} {a' : Act} {w' : World} (hp : PostQ N σ₁ m₁ w₁ ds Q e a' w') : PostQ N σ m w ds Q e a' w' := by
  obtain ⟨e', env', m', σ', h1, h2, h3, h4, h5, h6, h7⟩ := hp
  exact ⟨e', env', m', σ', h1, h2, h3, h4, h5, h6, h.trans h7⟩

section
variable {P : Program} {N : Nat}

theorem guardQ_sound {ops : List Oper} {env : Env} {o : Oper} {b : Bool} (h : guardQ ops env o = some b) {σ : Sg} {tmps : Array Value} (hE : EnvRel σ env tmps) :
    Region.wanted o (yielded ops.toArray tmps) = b := by
  unfold guardQ at h
  unfold Region.wanted
  cases hg : o.guard with
  | none => rw [hg] at h; cases h; rfl
  | some x =>
    obtain ⟨j, want⟩ := x
    rw [hg] at h
    simp only at h
    split at h
    case h_2 => cases h
    rename_i oj hj
    split at h
    case h_2 => cases h
    rename_i d hd
    have hb : (ops.toArray[j]?).bind (·.dst) = some d := by simp [hj, hd]
    split at h
    · rename_i b' he
      cases h
      obtain ⟨rv, h1, h2⟩ := hE d _ he
      cases vRel_bool h2
      simp only [yielded, hb, Option.bind_some, h1]
      cases b' <;> cases want <;> rfl
    · rename_i vs he
      cases h
      obtain ⟨rv, h1, c', rfl, _⟩ := hE d _ he
      simp only [yielded, hb, Option.bind_some, h1]
      rfl
    · cases h

theorem putEnv_sound {env env' : Env} {dst : Option Nat} {v rv : Value} (h : putEnv N env dst v = some env') {σ σ' : Sg} (hle : σ.le σ') {a : Act} (hE : EnvRel σ env a.tmps) (hN : a.tmps.size = N) (hv : vRel σ' v rv) :
    EnvRel σ' env' (a.put dst rv).tmps ∧ (a.put dst rv).tmps.size = N ∧ (a.put dst rv).defers = a.defers := by
  unfold putEnv at h
  split at h
  · cases h; exact ⟨hE.mono hle, hN, rfl⟩
  · split at h
    · rename_i hd
      cases h
      exact ⟨(hE.mono hle).put (by rw [hN]; exact hd) hv, by simp [Act.put, hN], rfl⟩
    · cases h

theorem goCall_sound {env : Env} {op : Op} {g : FuncId} {vs : List Value} (h : goCall env op = some (g, vs)) {σ : Sg} {a : Act} (hE : EnvRel σ env a.tmps) :
    ∃ c rs, op = .call c ∧ argsRel σ vs rs ∧ ∀ (ty : TypeId) (w : World), (do let d ← resolve a.eval c ty; invoke d.target d.args : Sem Next).run P w = (callFunc g rs).run P w := by
  unfold goCall at h
  split at h
  case h_2 => cases h
  rename_i c
  split at h
  case h_2 => cases h
  rename_i f hc
  split at h
  case h_2 => cases h
  rename_i g' fi ca us hf hus
  cases h
  obtain ⟨fi', ca', e1, e2, e3⟩ : ∃ fi' ca', a.eval f = .func (.func g) fi' ca' ∧ aaRel (bRel σ) fi fi' ∧ aaRel (bRel σ) ca ca' := ev_sound hE hf
  obtain ⟨e4, e5⟩ := evs_rel hE hus
  refine ⟨c, fi' ++ c.args.map a.eval ++ ca', rfl, ?_, fun ty w => ?_⟩
  · have b1 : ∀ x y, bRel σ x y → vRel σ x y := fun x y h => by cases x <;> first | exact h | exact h.elim
    have r1 : aaRel (vRel σ) fi fi' := e2.mono b1
    have r3 : aaRel (vRel σ) ca ca' := e3.mono b1
    have r2 : aaRel (vRel σ) us.toArray (c.args.map a.eval) := ⟨by simpa using e4, fun i x y hx hy => e5 i x y (by simpa using hx) hy⟩
    have r := (r1.append r2).append r3
    refine ⟨by have := r.1; simp at this ⊢; omega, fun i x y hx hy => r.2 i x y ?_ hy⟩
    rw [← Array.getElem?_toList]
    simpa using hx
  · simp only [resolve, hc, e1, Deferred.ofValue, pure_bind]
    rfl

theorem wpo_sound (ops : List Oper) (K : Env → Mem → Prop) (Q : Exit → Act → World → Prop) : ∀ (l : List Oper) (env : Env) (m : Mem), wpo P N ops K l env m → ∀ (σ : Sg) (a : Act) (w : World), Rep σ m.get w → EnvRel σ env a.tmps → a.tmps.size = N →
    (∀ env' m' σ' a' w', K env' m' → Rep σ' m'.get w' → EnvRel σ' env' a'.tmps → a'.tmps.size = N → a'.defers = a.defers → Fr σ m.get w σ' m'.get w' → Q .normal a' w') → wpList P ops.toArray Q l a w
  | [], env, m, h, σ, a, w, hR, hE, hN, hK => hK env m σ a w h hR hE hN rfl (.refl _ _ _)
  | o :: r, env, m, h, σ, a, w, hR, hE, hN, hK => by
    simp only [wpo] at h
    split at h
    · exact h.elim
    · rename_i hg
      have hw := guardQ_sound hg hE
      split at h
      case h_2 => exact h.elim
      rename_i env' he
      have hu : vRel σ undef undef := ⟨#[], rfl, aaRel.nil _⟩
      obtain ⟨g1, g2, g3⟩ := putEnv_sound he (.refl σ) hE hN hu
      unfold wpList
      rw [hw]
      simp only [Bool.false_eq_true, if_false]
      exact wpo_sound ops K Q r env' m h σ _ w hR g1 g2 (fun env' m' σ' a' w' h1 h2 h3 h4 h5 h6 => hK env' m' σ' a' w' h1 h2 h3 h4 (h5.trans g3) h6)
    · rename_i hg
      have hw := guardQ_sound hg hE
      unfold wpList
      rw [hw]
      simp only [if_true]
      refine .inl ?_
      split at h
      · rename_i g vs hc
        obtain ⟨c, rs, ho, ha, hrun⟩ := goCall_sound (P := P) hc hE
        unfold Oper.wp execOp
        rw [ho]
        simp only
        rw [hrun]
        have fin : ∀ (e : Ending) (w' : World), PostC σ m w (fun v m' => match putEnv N env o.dst v with | some env' => wpo P N ops K r env' m' | none => False) e w' →
            ∃ rv, e = .returned rv ∧ wpList P ops.toArray Q r (a.put o.dst rv) w' := by
          rintro e w' ⟨v, rv, m', σ', rfl, hq, hR', hv, hF⟩
          refine ⟨rv, rfl, ?_⟩
          split at hq
          case h_2 => exact hq.elim
          rename_i env' he
          obtain ⟨g1, g2, g3⟩ := putEnv_sound he hF.ext hE hN hv
          exact wpo_sound ops K Q r env' m' hq σ' _ w' hR' g1 g2 (fun env'' m'' σ'' a' w'' h1 h2 h3 h4 h5 h6 => hK env'' m'' σ'' a' w'' h1 h2 h3 h4 (h5.trans g3) (hF.trans h6))
        rcases h σ w rs hR ha with ⟨h1, h2⟩ | ⟨rv, w', h1, h2⟩
        · rw [h1]
          simp only [Oper.upon]
          refine h2.mono fun e w' hp => ?_
          obtain ⟨rv, rfl, hfin⟩ := fin e w' hp
          exact hfin
        · rw [h1]
          simp only [Oper.upon]
          obtain ⟨rv', e1, hfin⟩ := fin _ w' h2
          cases e1
          exact hfin
      · split at h
        case h_2 => exact h.elim
        rename_i e he
        split at h
        case h_2 => exact h.elim
        rename_i env' hp
        obtain ⟨σ', w', hR', hF, hcase⟩ := lop_sound hR hE (Mem.get_top m) o he
        rw [← Mem.get_app] at hR' hF
        unfold Oper.wp
        rcases hcase with ⟨rv, hr, hv⟩ | ⟨hr, hv⟩
        · rw [hr]
          simp only [Oper.upon]
          obtain ⟨g1, g2, g3⟩ := putEnv_sound hp hF.ext hE hN hv
          exact wpo_sound ops K Q r env' _ h σ' _ w' hR' g1 g2 (fun env'' m'' σ'' a' w'' h1 h2 h3 h4 h5 h6 => hK env'' m'' σ'' a' w'' h1 h2 h3 h4 (h5.trans g3) (hF.trans h6))
        · rw [hr]
          simp only [Oper.upon]
          rw [hv] at hp
          have hu : vRel σ' undef undef := ⟨#[], rfl, aaRel.nil _⟩
          obtain ⟨g1, g2, g3⟩ := putEnv_sound hp hF.ext hE hN hu
          exact wpo_sound ops K Q r env' _ h σ' _ w' hR' g1 g2 (fun env'' m'' σ'' a' w'' h1 h2 h3 h4 h5 h6 => hK env'' m'' σ'' a' w'' h1 h2 h3 h4 (h5.trans g3) (hF.trans h6))

theorem wpc_sound (hmix : P.follows .mixedOrders = true) : ∀ (c : Code) (env : Env) (m : Mem) (Q : Ex → Env → Mem → Prop), wpc P N c env m Q → ∀ (σ : Sg) (a : Act) (w : World), Rep σ m.get w → EnvRel σ env a.tmps → a.tmps.size = N →
    c.wp P (PostQ N σ m w a.defers Q) a w := by
  intro c
  induction c with
  | skip => intro env m Q h σ a w hR hE hN; exact wp_skip ⟨.normal, env, m, σ, rfl, h, hR, hE, hN, rfl, .refl _ _ _⟩
  | label l => intro env m Q h σ a w hR hE hN; exact wp_label ⟨.normal, env, m, σ, rfl, h, hR, hE, hN, rfl, .refl _ _ _⟩
  | exit id => intro env m Q h σ a w hR hE hN; exact wp_exit ⟨.exit id, env, m, σ, rfl, h, hR, hE, hN, rfl, .refl _ _ _⟩
  | ret => intro env m Q h σ a w hR hE hN; exact wp_ret ⟨.ret, env, m, σ, rfl, h, hR, hE, hN, rfl, .refl _ _ _⟩
  | seq x y ihx ihy =>
    intro env m Q h σ a w hR hE hN
    refine wp_seq (wp_mono (ihx env m _ h σ a w hR hE hN) ?_)
    rintro e a' w' ⟨e', env', m', σ', h1, h2, h3, h4, h5, h6, h7⟩
    cases e with
    | normal =>
      cases h1
      simp only [Exit.then]
      have := ihy env' m' Q h2 σ' a' w' h3 h4 h5
      rw [h6] at this
      exact wp_mono this fun e a w hp => hp.from h7
    | exit id => cases h1; exact ⟨_, env', m', σ', rfl, h2, h3, h4, h5, h6, h7⟩
    | ret => cases h1; exact ⟨_, env', m', σ', rfl, h2, h3, h4, h5, h6, h7⟩
    | _ => exact h1.elim
  | cond c x y ihx ihy =>
    intro env m Q h σ a w hR hE hN
    simp only [wpc] at h
    split at h
    case h_2 => exact h.elim
    rename_i t ht
    refine wp_cond (vRel_bool (ev_sound hE ht)) ?_
    cases t
    · simp only [Bool.false_eq_true, if_false] at h ⊢; exact ihy env m Q h σ a w hR hE hN
    · simp only [if_true] at h ⊢; exact ihx env m Q h σ a w hR hE hN
  | block id x ih =>
    intro env m Q h σ a w hR hE hN
    refine wp_block (wp_mono (ih env m _ h σ a w hR hE hN) ?_)
    rintro e a' w' ⟨e', env', m', σ', h1, h2, h3, h4, h5, h6, h7⟩
    cases e with
    | normal => cases h1; exact ⟨_, env', m', σ', rfl, h2, h3, h4, h5, h6, h7⟩
    | exit id' =>
      cases h1
      simp only [Exit.inBlock, blockK] at h2 ⊢
      split
      · rename_i hid; rw [if_pos hid] at h2; exact ⟨.normal, env', m', σ', rfl, h2, h3, h4, h5, h6, h7⟩
      · rename_i hid; rw [if_neg hid] at h2; exact ⟨.exit id', env', m', σ', rfl, h2, h3, h4, h5, h6, h7⟩
    | ret => cases h1; exact ⟨_, env', m', σ', rfl, h2, h3, h4, h5, h6, h7⟩
    | _ => exact h1.elim
  | loop x ih =>
    intro env m Q h σ a w hR hE hN
    obtain ⟨I, ⟨n, hI⟩, hround⟩ := h
    intro b k cs
    have key : ∀ n env' m' σ' a' w', I n env' m' → Rep σ' m'.get w' → EnvRel σ' env' a'.tmps → a'.tmps.size = N → a'.defers = a.defers → Fr σ m.get w σ' m'.get w' →
        ∃ e a'' w'', PostQ N σ m w a.defers Q e a'' w'' ∧ Arrives P (lone (b.at a' (.code x :: .inLoop x :: k)) cs w') b k cs e a'' w'' := by
      intro n
      induction n using Nat.strongRecOn with
      | _ n ihn =>
        intro env' m' σ' a' w' hI' hR' hE' hN' hD' hF'
        obtain ⟨e, a₁, w₁, ⟨e', env₁, m₁, σ₁, h1, h2, h3, h4, h5, h6, h7⟩, harr⟩ := ih env' m' _ (hround n env' m' hI') σ' a' w' hR' hE' hN' b (.inLoop x :: k) cs
        cases e with
        | normal =>
          cases h1
          obtain ⟨n', hlt, hI₁⟩ := h2
          obtain ⟨e₂, a₂, w₂, hq₂, harr₂⟩ := ihn n' hlt env₁ m₁ σ₁ a₁ w₁ hI₁ h3 h4 h5 (h6.trans hD') (hF'.trans h7)
          exact ⟨e₂, a₂, w₂, hq₂, .of_steps (Steps.trans harr (.one step_inLoop)) harr₂⟩
        | exit id => cases h1; exact ⟨.exit id, a₁, w₁, ⟨.exit id, env₁, m₁, σ₁, rfl, h2, h3, h4, h5, h6.trans hD', hF'.trans h7⟩, .pass (x := .inLoop x) rfl (fun _ _ => .inl (by simp)) harr⟩
        | ret => cases h1; exact ⟨.ret, a₁, w₁, ⟨.ret, env₁, m₁, σ₁, rfl, h2, h3, h4, h5, h6.trans hD', hF'.trans h7⟩, .pass (x := .inLoop x) rfl (fun _ _ => .inl (by simp)) harr⟩
        | _ => exact h1.elim
    obtain ⟨e, a', w', hq, harr⟩ := key n env m σ a w hI hR hE hN rfl (.refl _ _ _)
    exact ⟨e, a', w', hq, .of_steps (.one step_loop) harr⟩
  | region id ops d =>
    intro env m Q h σ a w hR hE hN
    cases d with
    | false =>
      refine wp_region_list ?_
      have := wpo_sound (P := P) (N := N) ops.toList (Q .normal) (PostQ N σ m w a.defers Q) ops.toList env m h σ a w hR hE hN (fun env' m' σ' a' w' h1 h2 h3 h4 h5 h6 => ⟨.normal, env', m', σ', rfl, h1, h2, h3, h4, h5, h6⟩)
      simpa using this
    | true =>
      refine wp_region_any hmix (h σ a w.drew hR.drew hE hN _ ?_)
      intro env' m' σ' a' w' h1 h2 h3 h4 h5 h6
      exact ⟨.normal, env', m', σ', rfl, h1, h2, h3, h4, h5, ⟨h6.ext, h6.size, h6.keep, h6.less, h6.os, h6.out⟩⟩
  | _ => intro env m Q h; exact h.elim
end
end Go.Lm
