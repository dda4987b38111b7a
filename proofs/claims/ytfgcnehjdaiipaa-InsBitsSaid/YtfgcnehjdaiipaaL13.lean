/- From a function's body to the contract of its call. -/
import Derived.Test.YtfgcnehjdaiipaaL12
namespace Go.Lm

/-! ### renaming of objects -/

def rnA (τ : Nat → Nat) (a : Addr) : Addr := { a with block := τ a.block }

def rnB (τ : Nat → Nat) : Value → Value
  | .pointer (some a) => .pointer (some (rnA τ a))
  | .slice (some a) l c => .slice (some (rnA τ a)) l c
  | .map (some i) => .map (some (τ i))
  | v => v

def rnS (τ : Nat → Nat) : Value → Value
  | .func f fi ca => .func f (fi.map (rnB τ)) (ca.map (rnB τ))
  | v => rnB τ v

def rnT (τ : Nat → Nat) : Value → Value
  | .agg c => .agg (c.map (rnS τ))
  | v => rnS τ v

def rnV (τ : Nat → Nat) : Value → Value
  | .tuple c => .tuple (c.map (rnT τ))
  | v => rnT τ v

def rnO (τ : Nat → Nat) : Ob → Ob
  | .cells ro e c => .cells ro e (c.map (rnS τ))
  | .map es => .map (es.map fun x => (x.1, rnS τ x.2))
  | o => o

/-- which objects a value names -/
def okB (D : Nat → Prop) : Value → Prop
  | .pointer (some a) => D a.block
  | .slice (some a) _ _ => D a.block
  | .map (some i) => D i
  | _ => True

def okS (D : Nat → Prop) : Value → Prop
  | .func _ fi ca => (∀ x ∈ fi, okB D x) ∧ (∀ x ∈ ca, okB D x)
  | v => okB D v

def okT (D : Nat → Prop) : Value → Prop
  | .agg c => ∀ x ∈ c, okS D x
  | v => okS D v

def okV (D : Nat → Prop) : Value → Prop
  | .tuple c => ∀ x ∈ c, okT D x
  | v => okT D v

def okO (D : Nat → Prop) : Ob → Prop
  | .cells _ _ c => ∀ x ∈ c, okS D x
  | .map es => ∀ x ∈ es, okS D x.2
  | _ => True

section
variable {σ σ' : Sg} {τ : Nat → Nat} {D : Nat → Prop}

theorem back_a (hσ : ∀ k, D k → σ k = σ' (τ k)) {a a' : Addr} {p : Pl} (hd : D a.block) (h : aRel σ' (rnA τ a) a' p) : aRel σ a a' p :=
  ⟨h.1, h.2.1, by rw [hσ _ hd]; exact h.2.2.1, h.2.2.2⟩

theorem back_b (hσ : ∀ k, D k → σ k = σ' (τ k)) {x v : Value} (hd : okB D x) (h : bRel σ' (rnB τ x) v) : bRel σ x v := by
  cases x with
  | pointer a =>
    cases a with
    | none => exact h
    | some a => obtain ⟨a', p, e, r⟩ := h; exact ⟨a', p, e, back_a hσ hd r⟩
  | slice a l c =>
    cases a with
    | none => exact h
    | some a => obtain ⟨a', c', p, e, r, rc⟩ := h; exact ⟨a', c', p, e, back_a hσ hd r, rc⟩
  | map a =>
    cases a with
    | none => exact h
    | some a => obtain ⟨p, e, r⟩ := h; exact ⟨p, by rw [hσ _ hd]; exact e, r⟩
  | _ => exact h

theorem back_aa {R S : Value → Value → Prop} {f : Value → Value} {xs ys : Array Value} (hf : ∀ x ∈ xs, ∀ v, R (f x) v → S x v) (h : aaRel R (xs.map f) ys) : aaRel S xs ys := by
  refine ⟨by simpa using h.1, fun i x y hx hy => hf x (Array.mem_of_getElem? hx) y (h.2 i (f x) y (by simp [hx]) hy)⟩

theorem back_s (hσ : ∀ k, D k → σ k = σ' (τ k)) {x v : Value} (hd : okS D x) (h : sRel σ' (rnS τ x) v) : sRel σ x v := by
  cases x with
  | func f fi ca =>
    obtain ⟨fi', ca', e, r1, r2⟩ := h
    exact ⟨fi', ca', e, back_aa (fun x hx v => back_b hσ (hd.1 x hx)) r1, back_aa (fun x hx v => back_b hσ (hd.2 x hx)) r2⟩
  | pointer a => exact back_b (x := .pointer a) hσ hd (by cases a <;> exact h)
  | slice a l c => exact back_b (x := .slice a l c) hσ hd (by cases a <;> exact h)
  | map a => exact back_b (x := .map a) hσ hd (by cases a <;> exact h)
  | _ => exact h

theorem back_t (hσ : ∀ k, D k → σ k = σ' (τ k)) {x v : Value} (hd : okT D x) (h : tRel σ' (rnT τ x) v) : tRel σ x v := by
  cases x with
  | agg c => obtain ⟨c', e, r⟩ := h; exact ⟨c', e, back_aa (fun x hx v => back_s hσ (hd x hx)) r⟩
  | pointer a => exact back_s (x := .pointer a) hσ hd (by cases a <;> exact h)
  | slice a l c => exact back_s (x := .slice a l c) hσ hd (by cases a <;> exact h)
  | map a => exact back_s (x := .map a) hσ hd (by cases a <;> exact h)
  | func f fi ca => exact back_s (x := .func f fi ca) hσ hd h
  | _ => exact h

theorem back_v (hσ : ∀ k, D k → σ k = σ' (τ k)) {x v : Value} (hd : okV D x) (h : vRel σ' (rnV τ x) v) : vRel σ x v := by
  cases x with
  | tuple c => obtain ⟨c', e, r⟩ := h; exact ⟨c', e, back_aa (fun x hx v => back_t hσ (hd x hx)) r⟩
  | agg c => exact back_t (x := .agg c) hσ hd h
  | pointer a => exact back_t (x := .pointer a) hσ hd (by cases a <;> exact h)
  | slice a l c => exact back_t (x := .slice a l c) hσ hd (by cases a <;> exact h)
  | map a => exact back_t (x := .map a) hσ hd (by cases a <;> exact h)
  | func f fi ca => exact back_t (x := .func f fi ca) hσ hd h
  | _ => exact h

/-- what a related value names is placed -/
theorem rel_okB {x v : Value} (h : bRel σ x v) (hD : ∀ k p, σ k = some p → D k) : okB D x := by
  cases x with
  | pointer a =>
    cases a with
    | none => trivial
    | some a => obtain ⟨a', p, _, r⟩ := h; exact hD _ _ r.2.2.1
  | slice a l c =>
    cases a with
    | none => trivial
    | some a => obtain ⟨a', c', p, _, r, _⟩ := h; exact hD _ _ r.2.2.1
  | map a =>
    cases a with
    | none => trivial
    | some a => obtain ⟨p, e, _⟩ := h; exact hD _ _ e
  | _ => trivial

theorem rel_okS {x v : Value} (h : sRel σ x v) (hD : ∀ k p, σ k = some p → D k) : okS D x := by
  cases x with
  | func f fi ca =>
    obtain ⟨fi', ca', _, r1, r2⟩ := h
    refine ⟨fun x hx => ?_, fun x hx => ?_⟩
    · obtain ⟨i, hi, e⟩ := Array.mem_iff_getElem.1 hx
      obtain ⟨y, _, hr⟩ := r1.get (Array.getElem?_eq_some_iff.2 ⟨hi, e⟩)
      exact rel_okB hr hD
    · obtain ⟨i, hi, e⟩ := Array.mem_iff_getElem.1 hx
      obtain ⟨y, _, hr⟩ := r2.get (Array.getElem?_eq_some_iff.2 ⟨hi, e⟩)
      exact rel_okB hr hD
  | pointer a => exact rel_okB (x := .pointer a) h hD
  | slice a l c => exact rel_okB (x := .slice a l c) h hD
  | map a => exact rel_okB (x := .map a) h hD
  | _ => trivial

/-- a value that names only what is placed as before keeps its relation -/
theorem same_b {σ'' : Sg} (hσ : ∀ k, D k → σ'' k = σ k) {x v : Value} (hd : okB D x) (h : bRel σ x v) : bRel σ'' x v := by
  cases x with
  | pointer a =>
    cases a with
    | none => exact h
    | some a => obtain ⟨a', p, e, r⟩ := h; exact ⟨a', p, e, r.1, r.2.1, by rw [hσ _ hd]; exact r.2.2.1, r.2.2.2⟩
  | slice a l c =>
    cases a with
    | none => exact h
    | some a => obtain ⟨a', c', p, e, r, rc⟩ := h; exact ⟨a', c', p, e, ⟨r.1, r.2.1, by rw [hσ _ hd]; exact r.2.2.1, r.2.2.2⟩, rc⟩
  | map a =>
    cases a with
    | none => exact h
    | some a => obtain ⟨p, e, r⟩ := h; exact ⟨p, by rw [hσ _ hd]; exact e, r⟩
  | _ => exact h

theorem same_s {σ'' : Sg} (hσ : ∀ k, D k → σ'' k = σ k) {x v : Value} (hd : okS D x) (h : sRel σ x v) : sRel σ'' x v := by
  cases x with
  | func f fi ca =>
    obtain ⟨fi', ca', e, r1, r2⟩ := h
    exact ⟨fi', ca', e, ⟨r1.1, fun i x y hx hy => same_b hσ (hd.1 x (Array.mem_of_getElem? hx)) (r1.2 i x y hx hy)⟩, ⟨r2.1, fun i x y hx hy => same_b hσ (hd.2 x (Array.mem_of_getElem? hx)) (r2.2 i x y hx hy)⟩⟩
  | pointer a => exact same_b (x := .pointer a) hσ hd h
  | slice a l c => exact same_b (x := .slice a l c) hσ hd h
  | map a => exact same_b (x := .map a) hσ hd h
  | _ => exact h

end

/-- How a call's last memory (m') and value (v) are told to the caller (m0, v0): 'τ' says which of the call's objects each of the caller's is. -/
structure Leave (m m' : Mem) (v : Value) (m0 : Mem) (v0 : Value) where
  τ : Nat → Nat
  val : v = rnV τ v0
  okv : okV (fun k => m0.get k ≠ .free) v0
  old : ∀ k, m.get k ≠ .free → τ k = k ∧ m0.get k ≠ .free
  obj : ∀ k, (m0.get k).alive = true → (m.get k ≠ .free ∧ m0.get k = m.get k ∧ m'.get k = m.get k) ∨ (m'.get (τ k) = rnO τ (m0.get k) ∧ okO (fun k => m0.get k ≠ .free) (m0.get k))
  inj : ∀ k k', k ≠ k' → (m0.get k).alive = true → (m0.get k').alive = true → τ k ≠ τ k'

theorem rnO_rw (τ : Nat → Nat) (o : Ob) : (rnO τ o).rw = o.rw ∧ (rnO τ o).alive = o.alive := by
  cases o with
  | cells ro e c => cases ro <;> exact ⟨rfl, rfl⟩
  | _ => exact ⟨rfl, rfl⟩

theorem Leave.sound {m m' m0 : Mem} {v v0 rv : Value} (L : Leave m m' v m0 v0) {σ σ' : Sg} {w w' : World} (hR : Rep σ m.get w) (hR' : Rep σ' m'.get w') (hv : vRel σ' v rv) (hF : Fr σ m.get w σ' m'.get w') :
    ∃ σ0, Rep σ0 m0.get w' ∧ vRel σ0 v0 rv ∧ Fr σ m.get w σ0 m0.get w' := by
  classical
  let σ0 : Sg := fun k => if m0.get k = .free then none else σ' (L.τ k)
  have h0 : ∀ k, m0.get k ≠ .free → σ0 k = σ' (L.τ k) := fun k hk => by simp only [σ0]; rw [if_neg hk]
  have hsome : ∀ k p, σ0 k = some p → σ' (L.τ k) = some p := fun k p h => by
    simp only [σ0] at h; split at h
    · cases h
    · exact h
  have hnf : ∀ k, (m0.get k).alive = true → m0.get k ≠ .free := fun k h e => by rw [e] at h; cases h
  have hD : ∀ k p, σ k = some p → m.get k ≠ .free := fun k p h e => by rw [hR.fr k e] at h; cases h
  have hold : ∀ k p, σ k = some p → σ0 k = some p := fun k p h => by
    obtain ⟨h1, h2⟩ := L.old k (hD k p h)
    rw [h0 k h2, h1]; exact hF.ext k p h
  have hal : ∀ k, (m0.get k).alive = true → (m'.get (L.τ k)).alive = true ∧ (m'.get (L.τ k)).rw = (m0.get k).rw := fun k hk => by
    rcases L.obj k hk with ⟨h1, h2, h3⟩ | ⟨h1, _⟩
    · rw [(L.old k h1).1, h3, ← h2]; exact ⟨hk, rfl⟩
    · rw [h1, (rnO_rw _ _).1, (rnO_rw _ _).2]; exact ⟨hk, rfl⟩
  refine ⟨σ0, Rep.mk' (fun k hk => ?_) (fun k hk => ?_) (fun k k' hne hr ha p p' hp hp' => ?_) (fun k p hp => hR'.bnd _ p (hsome k p hp)), ?_, ⟨hold, hF.size, hF.keep, ?_, hF.os, hF.out⟩⟩
  · simp only [σ0]; rw [if_pos hk]
  · obtain ⟨hk1, _⟩ := hal k hk
    obtain ⟨p, hp⟩ := hR'.place hk1
    refine ⟨p, by rw [h0 k (hnf k hk)]; exact hp, ?_⟩
    have ho := hR'.ok hp
    rcases L.obj k hk with ⟨h1, h2, h3⟩ | ⟨h1, h2⟩
    · -- as it was: what it holds was placed at the call's begin
      have hτ := (L.old k h1).1
      rw [hτ, h3] at ho
      rw [h2]
      have hkm : (m.get k).alive = true := by rw [← h2]; exact hk
      obtain ⟨q, hq⟩ := hR.place hkm
      have ho0 := hR.ok hq
      have hsame : ∀ j, m.get j ≠ .free → σ0 j = σ' j := fun j hj => by
        obtain ⟨g1, g2⟩ := L.old j hj
        rw [h0 j g2, g1]
      refine ⟨fun ro e c hc => ?_, ho.own, fun es hc => ?_⟩
      · obtain ⟨g1, g2⟩ := ho.cel ro e c hc
        refine ⟨g1, fun j x hx => ?_⟩
        obtain ⟨y, hy, hs⟩ := g2 j x hx
        obtain ⟨y0, _, hs0⟩ := (ho0.cel ro e c hc).2 j x hx
        exact ⟨y, hy, same_s hsame (rel_okS hs0 hD) hs⟩
      · obtain ⟨ents, clk, g1, g2, g3⟩ := ho.mp es hc
        obtain ⟨ents0, clk0, _, e2, e3⟩ := ho0.mp es hc
        refine ⟨ents, clk, g1, g2, fun i x en hx he => ?_⟩
        obtain ⟨a1, a2, a3⟩ := g3 i x en hx he
        have hi : i < es.length := by
          rcases Nat.lt_or_ge i es.length with h' | h'
          · exact h'
          · rw [List.getElem?_eq_none h'] at hx; cases hx
        obtain ⟨_, _, b3⟩ := e3 i x (ents0[i]'(by omega)) hx (Array.getElem?_eq_getElem _)
        exact ⟨a1, a2, same_s hsame (rel_okS b3 hD) a3⟩
    · rw [h1] at ho
      refine ⟨fun ro e c hc => ?_, fun e c hc => ?_, fun es hc => ?_⟩
      · rw [hc] at ho h2
        obtain ⟨g1, g2⟩ := ho.cel ro e (c.map (rnS L.τ)) rfl
        refine ⟨g1, fun j x hx => ?_⟩
        obtain ⟨y, hy, hs⟩ := g2 j (rnS L.τ x) (by simp [hx])
        exact ⟨y, hy, back_s h0 (h2 x (Array.mem_of_getElem? hx)) hs⟩
      · rw [hc] at ho
        have := ho.own e (c.map (rnS L.τ)) rfl
        simpa using this
      · rw [hc] at ho h2
        obtain ⟨ents, clk, g1, g2, g3⟩ := ho.mp (es.map fun x => (x.1, rnS L.τ x.2)) rfl
        refine ⟨ents, clk, g1, by simpa using g2, fun i x en hx he => ?_⟩
        obtain ⟨a1, a2, a3⟩ := g3 i (x.1, rnS L.τ x.2) en (by simp [hx]) he
        exact ⟨a1, a2, back_s h0 (h2 x (List.mem_of_getElem? hx)) a3⟩
  · have hka := rw_alive hr
    obtain ⟨g1, g2⟩ := hal k hka
    obtain ⟨g3, g4⟩ := hal k' ha
    exact hR'.sep _ _ (L.inj k k' hne hka ha) (by rw [g2]; exact hr) g3 p p' (hsome k p hp) (hsome k' p' hp')
  · exact back_v h0 L.okv (by rw [← L.val]; exact hv)
  · rintro b hb ⟨k, p, hp, hpb, hr⟩
    have hka := rw_alive hr
    obtain ⟨g1, g2⟩ := hal k hka
    exact hF.less b hb ⟨L.τ k, p, hsome k p hp, hpb, by rw [g2]; exact hr⟩

/-! ### a function -/

def Mem.enter (m : Mem) : Mem := { base := m.get, n := m.top, loc := [] }

theorem Mem.get_enter (m : Mem) : m.enter.get = m.get := by
  funext k
  unfold Mem.enter Mem.get
  simp only [List.getElem?_nil, Option.getD_none]
  split
  · rfl
  · rename_i h
    simp only [Mem.top] at h
    rw [if_neg (by omega), List.getElem?_eq_none (by omega)]
    rfl

def resL (P : Program) (env : Env) (m : Mem) : List ResultVar → Option (List Value)
  | [] => some []
  | .tmp t :: r => match elook env t, resL P env m r with
    | some v, some vs => some (v :: vs)
    | _, _ => none
  | .cell a t :: r => match elook env a with
    | some p => match lload P m.get t p, resL P env m r with
      | some v, some vs => some (v :: vs)
      | _, _ => none
    | none => none

def notTuple : Value → Bool
  | .tuple _ => false
  | _ => true

def resV (P : Program) (env : Env) (m : Mem) (rs : List ResultVar) : Option Value :=
  match resL P env m rs with
  | some [v] => some v
  | some vs => if vs.all notTuple then some (.tuple vs.toArray) else none
  | none => none

def params (i : Nat) : List Value → Env
  | [] => []
  | v :: r => (i, v) :: params (i + 1) r

theorem params_sound {σ : Sg} : ∀ (vs : List Value) (i : Nat) (tmps : Array Value), (∀ (j : Nat) (v : Value), vs[j]? = some v → ∃ rv, tmps[i + j]? = some rv ∧ vRel σ v rv) → EnvRel σ (params i vs) tmps
  | [], i, tmps, h => fun t v e => by simp [params, elook] at e
  | v :: r, i, tmps, h => fun t u e => by
    simp only [params, elook] at e
    split at e
    · rename_i ht
      subst ht
      cases e
      simpa using h 0 v (by simp)
    · exact params_sound r (i + 1) tmps (fun j v hv => by have := h (j + 1) v (by simpa using hv); rwa [show i + (j + 1) = i + 1 + j by omega] at this) t u e

section
variable {P : Program} {σ : Sg} {m : Mem} {w : World}

def resOne (tmps : Array Value) : ResultVar → Sem Value
  | .tmp t => pure (tmps.getD t undef)
  | .cell a t => do loadVar t (← asAddr (tmps.getD a undef))

theorem resL_sound {env : Env} {tmps : Array Value} (hR : Rep σ m.get w) (hE : EnvRel σ env tmps) : ∀ (rs : List ResultVar) (vs : List Value), resL P env m rs = some vs →
    ∃ rvs, (rs.mapM (resOne tmps)).run P w = .ok rvs w ∧ rvs.length = rs.length ∧ vs.length = rvs.length ∧ ∀ (i : Nat) (x y : Value), vs[i]? = some x → rvs[i]? = some y → vRel σ x y
  | [], vs, h => by cases h; exact ⟨[], rfl, rfl, rfl, fun i x y h => by simp at h⟩
  | .tmp t :: r, vs, h => by
    simp only [resL] at h
    split at h
    · rename_i v vs' h1 h2
      cases h
      obtain ⟨rvs, e1, e0, e2, e3⟩ := resL_sound hR hE r vs' h2
      obtain ⟨rv, g1, g2⟩ := hE t v h1
      refine ⟨rv :: rvs, ?_, by simp [e0], by simp [e2], fun i x y hx hy => ?_⟩
      · simp only [List.mapM_cons, resOne, Array.getD_eq_getD_getElem?, g1, Option.getD_some, pure_bind, Sem.run_bind, e1, Result.andThen_ok, Sem.run_pure]
      · cases i with
        | zero => simp at hx hy; subst hx; subst hy; exact g2
        | succ i => exact e3 i x y (by simpa using hx) (by simpa using hy)
    · cases h
  | .cell a t :: r, vs, h => by
    simp only [resL] at h
    split at h
    case h_2 => cases h
    rename_i p hp
    split at h
    case h_2 => cases h
    rename_i v vs' h1 h2
    cases h
    obtain ⟨rvs, e1, e0, e2, e3⟩ := resL_sound hR hE r vs' h2
    obtain ⟨rp, g1, g2⟩ := hE a p hp
    obtain ⟨rv, l1, l2⟩ := load_sound hR g2 h1
    have hl : (do loadVar t (← asAddr rp) : Sem Value).run P w = .ok rv w := by
      unfold lload at h1
      split at h1
      case h_2 => cases h1
      obtain ⟨a', q, rfl, _⟩ := vRel_ptr g2
      exact l1
    refine ⟨rv :: rvs, ?_, by simp [e0], by simp [e2], fun i x y hx hy => ?_⟩
    · simp only [List.mapM_cons, resOne, Array.getD_eq_getD_getElem?, g1, Option.getD_some]
      rw [Sem.run_bind, hl]
      simp only [Result.andThen_ok, Sem.run_bind, e1, Sem.run_pure]
    · cases i with
      | zero => simp at hx hy; subst hx; subst hy; exact l2
      | succ i => exact e3 i x y (by simpa using hx) (by simpa using hy)

theorem results_eq (fn : Func) (tmps : Array Value) : results fn tmps = (do
    let vs ← List.toArray <$> fn.results.toList.mapM (resOne tmps)
    pure (if h : vs.size = 1 then vs[0] else .tuple vs)) := by
  unfold results
  rw [← Array.mapM_eq_mapM_toList]
  congr 1

theorem resV_sound {env : Env} {tmps : Array Value} (hR : Rep σ m.get w) (hE : EnvRel σ env tmps) {fn : Func} {v : Value} (h : resV P env m fn.results.toList = some v) :
    ∃ rv, (results fn tmps).run P w = .ok rv w ∧ vRel σ v rv := by
  unfold resV at h
  cases hl : resL P env m fn.results.toList with
  | none => rw [hl] at h; cases h
  | some vs =>
    obtain ⟨rvs, e1, e0, e2, e3⟩ := resL_sound hR hE _ vs hl
    rw [hl] at h
    rw [results_eq]
    simp only [Sem.run_bind, Sem.run_map, e1, Result.andThen_ok]
    cases vs with
    | nil =>
      simp only at h
      have : rvs = [] := by cases rvs with | nil => rfl | cons a b => simp at e2
      subst this
      simp only [List.all_nil, if_true] at h
      cases h
      exact ⟨.tuple #[], rfl, _, rfl, aaRel.nil _⟩
    | cons x r =>
      cases r with
      | nil =>
        cases h
        obtain ⟨y, rfl⟩ : ∃ y, rvs = [y] := by
          cases rvs with
          | nil => simp at e2
          | cons a b => cases b with
            | nil => exact ⟨a, rfl⟩
            | cons c d => simp at e2
        exact ⟨y, rfl, e3 0 v y (by simp) (by simp)⟩
      | cons z r =>
        simp only at h
        split at h
        case isFalse => cases h
        rename_i hall
        cases h
        have hsz : ¬ rvs.toArray.size = 1 := by simp at e2 ⊢; omega
        refine ⟨.tuple rvs.toArray, by simp only [hsz, dite_false, Sem.run_pure], rvs.toArray, rfl, by simpa using e2, fun i a b ha hb => ?_⟩
        rw [List.getElem?_toArray] at ha hb
        have := e3 i a b ha hb
        have hn := List.all_eq_true.1 hall a (List.mem_of_getElem? ha)
        cases a <;> first | exact this | cases hn
end

/-- A function's contract, out of its body. -/
theorem TC_of_body {P : Program} (hmix : P.follows .mixedOrders = true) {g : FuncId} {fn : Func} {c : Code} (hf : P.funcs[g]? = some fn) (hb : fn.body = some c) (hname : (fn.name == "runtime.NumGoroutine") = false)
    {vs : List Value} (hn : vs.length ≤ fn.ntmps) {m : Mem} {Q : Value → Mem → Prop}
    (h : wpc P fn.ntmps c (params 0 vs) m.enter fun e env' m' => (e = .normal ∨ e = .ret) ∧ ∃ v, resV P env' m' fn.results.toList = some v ∧ ∃ m0 v0, Nonempty (Leave m m' v m0 v0) ∧ Q v0 m0) : TC P g vs m Q := by
  intro σ w rs hR ha
  have hcall : (callFunc g rs).run P w = .ok (.enter g rs) w := by
    simp only [callFunc, Sem.run_bind, run_program, Result.andThen_ok, hf]
    rw [if_neg (by rw [hname]; simp), if_neg (by rw [hb]; simp)]
    rfl
  refine .inl ⟨hcall, calls_of_wp hf hb ?_⟩
  have hsz : rs.size ≤ fn.ntmps := by rw [← ha.1]; exact hn
  have hE : EnvRel σ (params 0 vs) (rs ++ Array.replicate (fn.ntmps - rs.size) undef) := params_sound vs 0 _ fun j v hv => by
    have hj : j < rs.size := by
      rw [← ha.1]
      rcases Nat.lt_or_ge j vs.length with h' | h'
      · exact h'
      · rw [List.getElem?_eq_none h'] at hv; cases hv
    refine ⟨rs[j], ?_, ha.2 j v _ hv (Array.getElem?_eq_getElem hj)⟩
    rw [Nat.zero_add, Array.getElem?_append_left hj, Array.getElem?_eq_getElem hj]
  have := wpc_sound hmix c _ m.enter _ h σ { tmps := rs ++ Array.replicate (fn.ntmps - rs.size) undef, defers := [] } w (by rw [Mem.get_enter]; exact hR) hE (by simp; omega)
  refine wp_mono this ?_
  rintro e a' w' ⟨e', env', m', σ', h1, ⟨h2, v, hv, m0, v0, ⟨L⟩, hQ⟩, h3, h4, h5, h6, h7⟩
  rw [Mem.get_enter] at h7
  obtain ⟨rv, r1, r2⟩ := resV_sound h3 h4 hv
  obtain ⟨σ0, g1, g2, g3⟩ := L.sound hR h3 r2 h7
  have fin : a'.defers = [] ∧ ∃ v, (results fn a'.tmps).run P w' = .ok v w' ∧ PostC σ m w Q (.returned v) w' := ⟨h6, rv, r1, v0, rv, m0, σ0, rfl, hQ, g1, g2, g3⟩
  cases e with
  | normal => exact fin
  | ret => exact fin
  | exit id => cases h1; rcases h2 with h | h <;> cases h
  | _ => exact h1.elim

end Go.Lm
