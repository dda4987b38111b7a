/- How turning one object, or moving it, lies in the world. -/
import Derived.Test.YtfgcnehjdaiipaaL3
namespace Go.Lm

theorem rw_alive {o : Ob} (h : o.rw = true) : o.alive = true := by
  cases o with
  | cells ro e c => rfl
  | map es => rfl
  | _ => simp [Ob.rw] at h

theorem cell?_congr {w w' : World} {a : Addr} (h : w'.heap[a.block]? = w.heap[a.block]?) : w'.cell? a = w.cell? a := by
  simp only [World.cell?, h]
theorem frozen?_congr {w w' : World} {a : Addr} (h : w'.heap[a.block]? = w.heap[a.block]?) : w'.frozen? a = w.frozen? a := by
  simp only [World.frozen?, h]

/-- What an object asks of the world, at its place. -/
structure ObOk (σ : Sg) (o : Ob) (p : Pl) (w : World) : Prop where
  cel : ∀ ro e c, o = .cells ro e c → p.e = e ∧ ∀ (j : Nat) (x : Value), c[j]? = some x → ∃ v, w.cell? ⟨p.b, p.o + j, none⟩ = some v ∧ sRel σ x v
  own : ∀ e c, o = .cells false e c → p.o + c.size ≤ p.lim ∧ ∃ C T f, w.heap[p.b]? = some (.cells C T f) ∧ p.lim ≤ C.size ∧ ∀ j, j < p.lim → w.frozen? ⟨p.b, j, none⟩ = false
  mp : ∀ es, o = .map es → ∃ ents clk, w.heap[p.b]? = some (.map ents clk) ∧ es.length = ents.size ∧
    ∀ (i : Nat) (x : Value × Value) (en : MapEntry), es[i]? = some x → ents[i]? = some en → x.1 = en.key ∧ (∃ k n, x.1 = .int k n) ∧ sRel σ x.2 en.val

theorem ObOk.mono {σ τ : Sg} (h : σ.le τ) {o : Ob} {p : Pl} {w : World} (r : ObOk σ o p w) : ObOk τ o p w where
  cel ro e c ho := ⟨(r.cel ro e c ho).1, fun j x hx => let ⟨v, h1, h2⟩ := (r.cel ro e c ho).2 j x hx; ⟨v, h1, h2.mono h⟩⟩
  own := r.own
  mp es ho := let ⟨ents, clk, h1, h2, h3⟩ := r.mp es ho; ⟨ents, clk, h1, h2, fun i x en hx he => ⟨(h3 i x en hx he).1, (h3 i x en hx he).2.1, (h3 i x en hx he).2.2.mono h⟩⟩

theorem ObOk.world {σ : Sg} {o : Ob} {p : Pl} {w w' : World} (h : w'.heap[p.b]? = w.heap[p.b]?) (r : ObOk σ o p w) : ObOk σ o p w' where
  cel ro e c ho := ⟨(r.cel ro e c ho).1, fun j x hx => let ⟨v, h1, h2⟩ := (r.cel ro e c ho).2 j x hx; ⟨v, by rw [cell?_congr (a := ⟨p.b, p.o + j, none⟩) h]; exact h1, h2⟩⟩
  own e c ho := by
    obtain ⟨h1, C, T, f, h2, h3, h4⟩ := r.own e c ho
    exact ⟨h1, C, T, f, h.trans h2, h3, fun j hj => by rw [frozen?_congr (a := ⟨p.b, j, none⟩) h]; exact h4 j hj⟩
  mp es ho := by
    obtain ⟨ents, clk, h1, h2⟩ := r.mp es ho
    exact ⟨ents, clk, h.trans h1, h2⟩

theorem Rep.ok {σ : Sg} {M : Nat → Ob} {w : World} (h : Rep σ M w) {k : Nat} {p : Pl} (hp : σ k = some p) : ObOk σ (M k) p w where
  cel ro e c ho := by
    obtain ⟨q, hq, h1, h2⟩ := h.cel k ro e c ho
    rw [hp] at hq; cases hq
    exact ⟨h1, h2⟩
  own e c ho := h.own k e c ho p hp
  mp es ho := by
    obtain ⟨q, ents, clk, hq, h1, h2⟩ := h.mp k es ho
    rw [hp] at hq; cases hq
    exact ⟨ents, clk, h1, h2⟩

theorem Rep.place {σ : Sg} {M : Nat → Ob} {w : World} (h : Rep σ M w) {k : Nat} (ha : (M k).alive = true) : ∃ p, σ k = some p := by
  cases hk : M k with
  | cells ro e c => obtain ⟨p, hp, _⟩ := h.cel k ro e c hk; exact ⟨p, hp⟩
  | map es => obtain ⟨p, _, _, hp, _⟩ := h.mp k es hk; exact ⟨p, hp⟩
  | _ => rw [hk] at ha; cases ha

theorem Rep.mk' {σ : Sg} {M : Nat → Ob} {w : World} (fr : ∀ k, M k = .free → σ k = none) (pl : ∀ k, (M k).alive = true → ∃ p, σ k = some p ∧ ObOk σ (M k) p w)
    (sep : ∀ k k', k ≠ k' → (M k).rw = true → (M k').alive = true → ∀ p p', σ k = some p → σ k' = some p' → p.b ≠ p'.b)
    (bnd : ∀ k p, σ k = some p → p.b < w.heap.size) : Rep σ M w where
  fr := fr
  sep := sep
  bnd := bnd
  cel k ro e c hk := by
    obtain ⟨p, hp, r⟩ := pl k (by rw [hk]; rfl)
    exact ⟨p, hp, (r.cel ro e c hk).1, (r.cel ro e c hk).2⟩
  own k e c hk p hp := by
    obtain ⟨q, hq, r⟩ := pl k (by rw [hk]; rfl)
    rw [hp] at hq; cases hq
    exact r.own e c hk
  mp k es hk := by
    obtain ⟨p, hp, r⟩ := pl k (by rw [hk]; rfl)
    obtain ⟨ents, clk, h⟩ := r.mp es hk
    exact ⟨p, ents, clk, hp, h⟩

/-- One owned object turns in its block. -/
theorem Rep.turn {σ : Sg} {M : Nat → Ob} {w w' : World} (h : Rep σ M w) {k : Nat} {p : Pl} (hp : σ k = some p) (hrw : (M k).rw = true) {o : Ob}
    (ho : ObOk σ o p w') (hfree : o ≠ .free) (hsame : ∀ b, b ≠ p.b → w'.heap[b]? = w.heap[b]?) (hsize : w'.heap.size = w.heap.size) (hos : (w'.os, w'.tape) = (w.os, w.tape)) (hout : w'.output = w.output) :
    Rep σ (Mset M k o) w' ∧ Fr σ M w σ (Mset M k o) w' := by
  have hne : ∀ j q, j ≠ k → (M j).alive = true → σ j = some q → q.b ≠ p.b := fun j q hj ha hq e => h.sep k j (Ne.symm hj) hrw ha p q hp hq e.symm
  refine ⟨Rep.mk' ?_ ?_ ?_ ?_, ⟨.refl _, by omega, ?_, ?_, hos, hout⟩⟩
  · intro j hj
    by_cases e : j = k
    · subst e; rw [Mset_same] at hj; exact absurd hj hfree
    · rw [Mset_ne M _ e] at hj; exact h.fr j hj
  · intro j hj
    by_cases e : j = k
    · subst e; rw [Mset_same]; exact ⟨p, hp, ho⟩
    · rw [Mset_ne M _ e] at hj ⊢
      obtain ⟨q, hq⟩ := h.place hj
      exact ⟨q, hq, (h.ok hq).world (hsame _ (hne j q e hj hq))⟩
  · intro j j' hjj hrj haj q q' hq hq'
    by_cases e : j = k
    · subst e
      have e' : j' ≠ j := Ne.symm hjj
      rw [Mset_ne M _ e'] at haj
      exact h.sep j j' hjj hrw haj q q' hq hq'
    · rw [Mset_ne M _ e] at hrj
      by_cases e' : j' = k
      · subst e'; exact h.sep j j' hjj hrj (rw_alive hrw) q q' hq hq'
      · rw [Mset_ne M _ e'] at haj; exact h.sep j j' hjj hrj haj q q' hq hq'
  · intro j q hq; rw [hsize]; exact h.bnd j q hq
  · intro b _ hb; exact hsame b fun e => hb ⟨k, p, hp, e.symm, hrw⟩
  · rintro b _ ⟨j, q, hq, hqb, hr⟩
    by_cases e : j = k
    · subst e; exact ⟨j, q, hq, hqb, hrw⟩
    · rw [Mset_ne M _ e] at hr; exact ⟨j, q, hq, hqb, hr⟩

/-- One owned object is left, and another takes its block. -/
theorem Rep.move {σ : Sg} {M : Nat → Ob} {w w' : World} (h : Rep σ M w) {k k' : Nat} {p p' : Pl} (hp : σ k = some p) (hrw : (M k).rw = true) (hk' : M k' = .free) (hb : p'.b = p.b) {o : Ob}
    (ho : ObOk σ o p' w') (hfree : o ≠ .free) (hsame : ∀ b, b ≠ p.b → w'.heap[b]? = w.heap[b]?) (hsize : w'.heap.size = w.heap.size) (hos : (w'.os, w'.tape) = (w.os, w.tape)) (hout : w'.output = w.output) :
    Rep (Sset σ k' p') (Mset (Mset M k .dead) k' o) w' ∧ Fr σ M w (Sset σ k' p') (Mset (Mset M k .dead) k' o) w' := by
  have hσ := h.fr k' hk'
  have hle : σ.le (Sset σ k' p') := Sset_le hσ
  have hkk : k' ≠ k := fun e => by subst e; rw [hk'] at hrw; cases hrw
  have hne : ∀ j q, j ≠ k → (M j).alive = true → σ j = some q → q.b ≠ p.b := fun j q hj ha hq e => h.sep k j (Ne.symm hj) hrw ha p q hp hq e.symm
  have old : ∀ j, j ≠ k' → (Mset (Mset M k .dead) k' o j).alive = true → j ≠ k ∧ Mset (Mset M k .dead) k' o j = M j := fun j e ha => by
    rw [Mset_ne _ _ e] at ha ⊢
    by_cases e1 : j = k
    · subst e1; simp [Mset, Ob.alive] at ha
    · exact ⟨e1, Mset_ne M _ e1⟩
  have olds : ∀ j q, j ≠ k' → Sset σ k' p' j = some q → σ j = some q := fun j q e hq => by simpa [Sset, e] using hq
  refine ⟨Rep.mk' ?_ ?_ ?_ ?_, ⟨hle, by omega, ?_, ?_, hos, hout⟩⟩
  · intro j hj
    by_cases e : j = k'
    · subst e; rw [Mset_same] at hj; exact absurd hj hfree
    · rw [Mset_ne _ _ e] at hj
      by_cases e1 : j = k
      · subst e1; simp [Mset] at hj
      · rw [Mset_ne M _ e1] at hj; simp [Sset, e, h.fr j hj]
  · intro j hj
    by_cases e : j = k'
    · subst e; rw [Mset_same]; exact ⟨p', by simp [Sset], ho.mono hle⟩
    · obtain ⟨e1, e2⟩ := old j e hj
      rw [e2] at hj ⊢
      obtain ⟨q, hq⟩ := h.place hj
      exact ⟨q, hle _ _ hq, ((h.ok hq).world (hsame _ (hne j q e1 hj hq))).mono hle⟩
  · intro j j' hjj hrj haj q q' hq hq'
    by_cases e : j = k'
    · subst e
      obtain ⟨e1, e2⟩ := old j' (Ne.symm hjj) haj
      rw [e2] at haj
      have := olds j' q' (Ne.symm hjj) hq'
      simp only [Sset, if_true] at hq
      cases hq
      rw [hb]
      exact fun e => hne j' q' e1 haj this e.symm
    · obtain ⟨e1, e2⟩ := old j e (rw_alive hrj)
      rw [e2] at hrj
      have hq0 := olds j q e hq
      by_cases e' : j' = k'
      · subst e'
        simp only [Sset, if_true] at hq'
        cases hq'
        rw [hb]
        exact hne j q e1 (rw_alive hrj) hq0
      · obtain ⟨e3, e4⟩ := old j' e' haj
        rw [e4] at haj
        exact h.sep j j' hjj hrj haj q q' hq0 (olds j' q' e' hq')
  · intro j q hq
    by_cases e : j = k'
    · subst e; simp only [Sset, if_true] at hq; cases hq; rw [hb, hsize]; exact h.bnd k p hp
    · rw [hsize]; exact h.bnd j q (olds j q e hq)
  · intro b _ hbo; exact hsame b fun e => hbo ⟨k, p, hp, e.symm, hrw⟩
  · rintro b _ ⟨j, q, hq, hqb, hr⟩
    by_cases e : j = k'
    · subst e; simp only [Sset, if_true] at hq; cases hq; exact ⟨k, p, hp, hb.symm.trans hqb, hrw⟩
    · obtain ⟨e1, e2⟩ := old j e (rw_alive hr)
      rw [e2] at hr
      exact ⟨j, q, olds j q e hq, hqb, hr⟩

/-- Nothing turned but a new place for a dead object (garbage of the machine's own). -/
theorem Rep.grown {σ : Sg} {M : Nat → Ob} {w w' : World} (h : Rep σ M w) (hsame : ∀ b, b < w.heap.size → w'.heap[b]? = w.heap[b]?) (hsize : w.heap.size ≤ w'.heap.size) (hos : (w'.os, w'.tape) = (w.os, w.tape)) (hout : w'.output = w.output) :
    Rep σ M w' ∧ Fr σ M w σ M w' := by
  refine ⟨Rep.mk' h.fr (fun j hj => ?_) h.sep (fun j q hq => Nat.lt_of_lt_of_le (h.bnd j q hq) hsize), ⟨.refl _, hsize, fun b hb _ => hsame b hb, fun _ _ hb => hb, hos, hout⟩⟩
  obtain ⟨q, hq⟩ := h.place hj
  exact ⟨q, hq, (h.ok hq).world (hsame _ (h.bnd j q hq))⟩

theorem setL_size : ∀ (vs : List Value) (c : Array Value) (i : Nat), (setL c i vs).size = c.size
  | [], _, _ => rfl
  | v :: r, c, i => by simp [setL, setL_size r]

theorem setL_get : ∀ (vs : List Value) (c : Array Value) (i j : Nat), i + vs.length ≤ c.size →
    (setL c i vs)[j]? = if i ≤ j ∧ j < i + vs.length then vs[j - i]? else c[j]?
  | [], c, i, j, _ => by simp [setL]; intro h1 h2; omega
  | v :: r, c, i, j, h => by
    simp only [List.length_cons] at h
    rw [setL, setL_get r _ (i + 1) j (by simp; omega)]
    by_cases e : i = j
    · subst e
      rw [if_neg (by omega), if_pos (by simp)]
      simp only [Nat.sub_self, List.getElem?_cons_zero]
      exact Array.getElem?_setIfInBounds_self_of_lt (by omega)
    · by_cases h1 : i + 1 ≤ j ∧ j < i + 1 + r.length
      · rw [if_pos h1, if_pos (by simp; omega)]
        rw [show j - i = (j - (i + 1)) + 1 by omega, List.getElem?_cons_succ]
      · rw [if_neg h1, if_neg (by simp; omega), Array.getElem?_setIfInBounds_ne e]

theorem setCells_heap_other : ∀ (vs : List Value) (b o : Nat) (w : World) (k : Nat), k ≠ b → (w.setCells b o vs).heap[k]? = w.heap[k]?
  | [], _, _, _, _, _ => rfl
  | v :: r, b, o, w, k, h => by
    simp only [World.setCells]
    rw [setCells_heap_other r b (o + 1) _ k h, heap_setCell_other w _ k v h]

theorem setCells_size : ∀ (vs : List Value) (b o : Nat) (w : World), (w.setCells b o vs).heap.size = w.heap.size
  | [], _, _, _ => rfl
  | v :: r, b, o, w => by simp only [World.setCells]; rw [setCells_size r]; simp

theorem setCells_os : ∀ (vs : List Value) (b o : Nat) (w : World), ((w.setCells b o vs).os, (w.setCells b o vs).tape) = (w.os, w.tape)
  | [], _, _, _ => rfl
  | v :: r, b, o, w => by simp only [World.setCells]; rw [setCells_os r]; rfl

theorem setCells_out : ∀ (vs : List Value) (b o : Nat) (w : World), (w.setCells b o vs).output = w.output
  | [], _, _, _ => rfl
  | v :: r, b, o, w => by simp only [World.setCells]; rw [setCells_out r]; rfl

/-- The block behind a row of stores. -/
theorem setCells_heap : ∀ (vs : List Value) (b o : Nat) (w : World) (C : Array Value) (T : TypeId) (f : Nat × Nat), w.heap[b]? = some (.cells C T f) →
    (w.setCells b o vs).heap[b]? = some (.cells (setL C o vs) T f)
  | [], _, _, _, _, _, _, h => h
  | v :: r, b, o, w, C, T, f, h => by
    simp only [World.setCells, setL]
    refine setCells_heap r b (o + 1) _ _ T f ?_
    simp [World.setCell, Array.getElem?_modify, h]

end Go.Lm
