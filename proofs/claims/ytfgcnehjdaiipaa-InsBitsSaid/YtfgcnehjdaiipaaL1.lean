/- The local memory model: objects, places, relations of values, and how they lie in a world. -/
import Derived.Calls
import Derived.Orders
import Derived.Tactics
import Derived.Laws.Sem
import Derived.Laws.World
import Derived.Laws.Cells
import Derived.Laws.Rows
namespace Go.Lm

/-- A local object. 'free': never used; 'dead': nothing is known; cells: read only or owned, size of an element, the cells. -/
inductive Ob where
  | free
  | dead
  | cells (ro : Bool) (e : Nat) (c : Array Value)
  | map (es : List (Value × Value))
  deriving Inhabited

def Ob.rw : Ob → Bool
  | .cells false _ _ => true
  | .map _ => true
  | _ => false

def Ob.alive : Ob → Bool
  | .cells _ _ _ => true
  | .map _ => true
  | _ => false

/-- Where a local object lies: the block, the first cell, the size of an element, the cells' limit. -/
structure Pl where
  b : Nat
  o : Nat
  e : Nat
  lim : Nat

abbrev Sg := Nat → Option Pl

def aRel (σ : Sg) (a a' : Addr) (p : Pl) : Prop :=
  a.spot = none ∧ a'.spot = none ∧ σ a.block = some p ∧ a'.block = p.b ∧ a'.off = p.o + a.off

def cRel (p : Pl) (off' c c' : Nat) : Prop := c' = c ∨ (0 < p.e ∧ 0 < c ∧ c ≤ c' ∧ off' + c' * p.e ≤ p.lim)

/-- basic values -/
def bRel (σ : Sg) : Value → Value → Prop
  | .bool b, v => v = .bool b
  | .int k n, v => v = .int k n
  | .string s, v => v = .string s
  | .nilFunc, v => v = .nilFunc
  | .nilIface, v => v = .nilIface
  | .pointer none, v => v = .pointer none
  | .pointer (some a), v => ∃ a' p, v = .pointer (some a') ∧ aRel σ a a' p
  | .slice none l c, v => v = .slice none l c
  | .slice (some a) l c, v => ∃ a' c' p, v = .slice (some a') l c' ∧ aRel σ a a' p ∧ cRel p a'.off c c'
  | .map none, v => v = .map none
  | .map (some i), v => ∃ p, σ i = some p ∧ v = .map (some p.b)
  | _, _ => False

def aaRel (R : Value → Value → Prop) (xs ys : Array Value) : Prop :=
  xs.size = ys.size ∧ ∀ (i : Nat) (x y : Value), xs[i]? = some x → ys[i]? = some y → R x y

/-- values of one cell -/
def sRel (σ : Sg) : Value → Value → Prop
  | .func f fi ca, v => ∃ fi' ca', v = .func f fi' ca' ∧ aaRel (bRel σ) fi fi' ∧ aaRel (bRel σ) ca ca'
  | x, v => bRel σ x v

def tRel (σ : Sg) : Value → Value → Prop
  | .agg c, v => ∃ c', v = .agg c' ∧ aaRel (sRel σ) c c'
  | x, v => sRel σ x v

def vRel (σ : Sg) : Value → Value → Prop
  | .tuple c, v => ∃ c', v = .tuple c' ∧ aaRel (tRel σ) c c'
  | x, v => tRel σ x v

def Sg.le (σ τ : Sg) : Prop := ∀ k p, σ k = some p → τ k = some p
theorem Sg.le.refl (σ : Sg) : σ.le σ := fun _ _ h => h
theorem Sg.le.trans {σ τ υ : Sg} (h : σ.le τ) (h' : τ.le υ) : σ.le υ := fun k p e => h' k p (h k p e)

theorem aRel.mono {σ τ : Sg} (h : σ.le τ) {a a' : Addr} {p : Pl} (r : aRel σ a a' p) : aRel τ a a' p :=
  ⟨r.1, r.2.1, h _ _ r.2.2.1, r.2.2.2⟩

theorem bRel.mono {σ τ : Sg} (h : σ.le τ) {x v : Value} (r : bRel σ x v) : bRel τ x v := by
  cases x with
  | pointer a =>
    cases a with
    | none => exact r
    | some a => obtain ⟨a', p, e, r⟩ := r; exact ⟨a', p, e, r.mono h⟩
  | slice a l c =>
    cases a with
    | none => exact r
    | some a => obtain ⟨a', c', p, e, r, rc⟩ := r; exact ⟨a', c', p, e, r.mono h, rc⟩
  | map a =>
    cases a with
    | none => exact r
    | some a => obtain ⟨p, e, r⟩ := r; exact ⟨p, h _ _ e, r⟩
  | _ => exact r

theorem aaRel.mono {R S : Value → Value → Prop} (h : ∀ x y, R x y → S x y) {xs ys : Array Value} (r : aaRel R xs ys) : aaRel S xs ys :=
  ⟨r.1, fun i x y hx hy => h _ _ (r.2 i x y hx hy)⟩

theorem sRel.mono {σ τ : Sg} (h : σ.le τ) {x v : Value} (r : sRel σ x v) : sRel τ x v := by
  cases x with
  | func f fi ca =>
    obtain ⟨fi', ca', e, r1, r2⟩ := r
    exact ⟨fi', ca', e, r1.mono fun _ _ => bRel.mono h, r2.mono fun _ _ => bRel.mono h⟩
  | _ => simp only [sRel] at r ⊢; exact bRel.mono h r

theorem tRel.mono {σ τ : Sg} (h : σ.le τ) {x v : Value} (r : tRel σ x v) : tRel τ x v := by
  cases x with
  | agg c => obtain ⟨c', e, r1⟩ := r; exact ⟨c', e, r1.mono fun _ _ => sRel.mono h⟩
  | _ => simp only [tRel] at r ⊢; exact sRel.mono h r

theorem vRel.mono {σ τ : Sg} (h : σ.le τ) {x v : Value} (r : vRel σ x v) : vRel τ x v := by
  cases x with
  | tuple c => obtain ⟨c', e, r1⟩ := r; exact ⟨c', e, r1.mono fun _ _ => tRel.mono h⟩
  | _ => simp only [vRel] at r ⊢; exact tRel.mono h r

theorem vRel.of_s {σ : Sg} {x v : Value} (r : sRel σ x v) : vRel σ x v := by
  cases x <;> first | exact r | exact r.elim

theorem aaRel.get {R : Value → Value → Prop} {xs ys : Array Value} (r : aaRel R xs ys) {i : Nat} {x : Value} (h : xs[i]? = some x) : ∃ y, ys[i]? = some y ∧ R x y := by
  have hi : i < xs.size := by
    rcases Nat.lt_or_ge i xs.size with h' | h'
    · exact h'
    · simp [Array.getElem?_eq_none h'] at h
  have hy : ys[i]? = some (ys[i]'(r.1 ▸ hi)) := Array.getElem?_eq_getElem _
  exact ⟨_, hy, r.2 i _ _ h hy⟩

theorem aaRel.nil (R : Value → Value → Prop) : aaRel R #[] #[] := ⟨rfl, fun i x y h => by simp at h⟩
theorem aaRel.push {R : Value → Value → Prop} {xs ys : Array Value} {x y : Value} (r : aaRel R xs ys) (h : R x y) : aaRel R (xs.push x) (ys.push y) := by
  refine ⟨by simp [r.1], fun i a b ha hb => ?_⟩
  rw [Array.getElem?_push] at ha hb
  by_cases e : i = xs.size
  · rw [if_pos e] at ha; rw [if_pos (r.1 ▸ e)] at hb; cases ha; cases hb; exact h
  · rw [if_neg e] at ha; rw [if_neg (r.1 ▸ e)] at hb; exact r.2 i a b ha hb
theorem aaRel.one {R : Value → Value → Prop} {x y : Value} (h : R x y) : aaRel R #[x] #[y] := (aaRel.nil R).push h

theorem aaRel.append {R : Value → Value → Prop} {xs ys xs' ys' : Array Value} (r : aaRel R xs ys) (r' : aaRel R xs' ys') : aaRel R (xs ++ xs') (ys ++ ys') := by
  refine ⟨by simp [r.1, r'.1], fun i a b ha hb => ?_⟩
  by_cases e : i < xs.size
  · rw [Array.getElem?_append_left e] at ha; rw [Array.getElem?_append_left (r.1 ▸ e)] at hb; exact r.2 i a b ha hb
  · rw [Array.getElem?_append_right (by omega)] at ha; rw [Array.getElem?_append_right (by have := r.1; omega)] at hb; rw [← r.1] at hb; exact r'.2 _ a b ha hb

theorem aaRel.extract {R : Value → Value → Prop} {xs ys : Array Value} (r : aaRel R xs ys) (i j : Nat) : aaRel R (xs.extract i j) (ys.extract i j) := by
  refine ⟨by simp [r.1], fun k a b ha hb => ?_⟩
  rw [Array.getElem?_extract] at ha hb
  split at ha
  · split at hb
    · exact r.2 _ a b ha hb
    · cases hb
  · cases ha

theorem aaRel.set {R : Value → Value → Prop} {xs ys : Array Value} (r : aaRel R xs ys) (i : Nat) {x y : Value} (h : R x y) : aaRel R (xs.setIfInBounds i x) (ys.setIfInBounds i y) := by
  refine ⟨by simp [r.1], fun k a b ha hb => ?_⟩
  rw [Array.getElem?_setIfInBounds] at ha hb
  by_cases e : i = k
  · rw [if_pos e] at ha hb
    split at ha
    · split at hb
      · cases ha; cases hb; exact h
      · cases hb
    · cases ha
  · rw [if_neg e] at ha hb; exact r.2 k a b ha hb

/-- How a local memory lies in a world. -/
structure Rep (σ : Sg) (M : Nat → Ob) (w : World) : Prop where
  fr : ∀ k, M k = .free → σ k = none
  cel : ∀ k ro e c, M k = .cells ro e c → ∃ p, σ k = some p ∧ p.e = e ∧ ∀ (j : Nat) (x : Value), c[j]? = some x → ∃ v, w.cell? ⟨p.b, p.o + j, none⟩ = some v ∧ sRel σ x v
  own : ∀ k e c, M k = .cells false e c → ∀ p, σ k = some p → p.o + c.size ≤ p.lim ∧ ∃ C T f, w.heap[p.b]? = some (.cells C T f) ∧ p.lim ≤ C.size ∧ ∀ j, j < p.lim → w.frozen? ⟨p.b, j, none⟩ = false
  mp : ∀ k es, M k = .map es → ∃ p ents clk, σ k = some p ∧ w.heap[p.b]? = some (.map ents clk) ∧ es.length = ents.size ∧
    ∀ (i : Nat) (x : Value × Value) (en : MapEntry), es[i]? = some x → ents[i]? = some en → x.1 = en.key ∧ (∃ k n, x.1 = .int k n) ∧ sRel σ x.2 en.val
  sep : ∀ k k', k ≠ k' → (M k).rw = true → (M k').alive = true → ∀ p p', σ k = some p → σ k' = some p' → p.b ≠ p'.b
  bnd : ∀ k p, σ k = some p → p.b < w.heap.size

def own (σ : Sg) (M : Nat → Ob) (b : Nat) : Prop := ∃ k p, σ k = some p ∧ p.b = b ∧ (M k).rw = true

/-- What a piece of a run may have done. -/
structure Fr (σ : Sg) (M : Nat → Ob) (w : World) (σ' : Sg) (M' : Nat → Ob) (w' : World) : Prop where
  ext : σ.le σ'
  size : w.heap.size ≤ w'.heap.size
  keep : ∀ b, b < w.heap.size → ¬ own σ M b → w'.heap[b]? = w.heap[b]?
  less : ∀ b, b < w.heap.size → own σ' M' b → own σ M b
  os : (w'.os, w'.tape) = (w.os, w.tape)
  out : w'.output = w.output

theorem Fr.refl (σ : Sg) (M : Nat → Ob) (w : World) : Fr σ M w σ M w :=
  ⟨.refl _, Nat.le_refl _, fun _ _ _ => rfl, fun _ _ h => h, rfl, rfl⟩

theorem Fr.trans {σ σ' σ'' : Sg} {M M' M'' : Nat → Ob} {w w' w'' : World} (h : Fr σ M w σ' M' w') (h' : Fr σ' M' w' σ'' M'' w'') : Fr σ M w σ'' M'' w'' where
  ext := h.ext.trans h'.ext
  size := Nat.le_trans h.size h'.size
  keep b hb ho := (h'.keep b (Nat.lt_of_lt_of_le hb h.size) (fun x => ho (h.less b hb x))).trans (h.keep b hb ho)
  less b hb ho := h.less b hb (h'.less b (Nat.lt_of_lt_of_le hb h.size) ho)
  os := h'.os.trans h.os
  out := h'.out.trans h.out

theorem Rep.drew {σ : Sg} {M : Nat → Ob} {w : World} (h : Rep σ M w) : Rep σ M w.drew :=
  ⟨h.fr, h.cel, h.own, h.mp, h.sep, h.bnd⟩

theorem Fr.drew {σ σ' : Sg} {M M' : Nat → Ob} {w w' : World} (h : Fr σ M w σ' M' w') : Fr σ M w σ' M' w'.drew :=
  ⟨h.ext, h.size, h.keep, h.less, h.os, h.out⟩

def Mset (M : Nat → Ob) (k : Nat) (o : Ob) : Nat → Ob := fun j => if j = k then o else M j
def Sset (σ : Sg) (k : Nat) (p : Pl) : Sg := fun j => if j = k then some p else σ j

@[simp] theorem Mset_same (M : Nat → Ob) (k : Nat) (o : Ob) : Mset M k o k = o := by simp [Mset]
theorem Mset_ne (M : Nat → Ob) {k j : Nat} (o : Ob) (h : j ≠ k) : Mset M k o j = M j := by simp [Mset, h]

theorem Sset_le {σ : Sg} {k : Nat} {p : Pl} (h : σ k = none) : σ.le (Sset σ k p) := fun j q e => by
  by_cases hj : j = k
  · subst hj; rw [h] at e; cases e
  · simp [Sset, hj, e]

theorem cell?_lt {w : World} {a : Addr} {v : Value} (h : w.cell? a = some v) : a.block < w.heap.size := World.block_lt_of_cell? w a h

/-- A new row. -/
theorem Rep.alloc {σ : Sg} {M : Nat → Ob} {w : World} (h : Rep σ M w) {k : Nat} (hk : M k = .free) (T : TypeId) (e : Nat) (c C : Array Value)
    (hC : c.size ≤ C.size) (hR : ∀ (j : Nat) (x : Value), c[j]? = some x → ∃ v, C[j]? = some v ∧ sRel σ x v) :
    Rep (Sset σ k ⟨w.heap.size, 0, e, C.size⟩) (Mset M k (.cells false e c)) (w.alloc (.cells C T)) ∧
    Fr σ M w (Sset σ k ⟨w.heap.size, 0, e, C.size⟩) (Mset M k (.cells false e c)) (w.alloc (.cells C T)) := by
  have hσ := h.fr k hk
  have hle : σ.le (Sset σ k ⟨w.heap.size, 0, e, C.size⟩) := Sset_le hσ
  have hnew : (w.alloc (.cells C T)).heap[w.heap.size]? = some (.cells C T) := heap_alloc_new w _
  have hold : ∀ b, b < w.heap.size → (w.alloc (.cells C T)).heap[b]? = w.heap[b]? := fun b hb => heap_alloc_old w _ b hb
  have hs : ∀ j q, Sset σ k ⟨w.heap.size, 0, e, C.size⟩ j = some q → (j = k ∧ q = ⟨w.heap.size, 0, e, C.size⟩) ∨ (j ≠ k ∧ σ j = some q) := fun j q hq => by
    by_cases hj : j = k
    · simp [Sset, hj] at hq; exact .inl ⟨hj, hq.symm⟩
    · simp [Sset, hj] at hq; exact .inr ⟨hj, hq⟩
  refine ⟨⟨?_, ?_, ?_, ?_, ?_, ?_⟩, ⟨hle, ?_, ?_, ?_, rfl, rfl⟩⟩
  · intro j hj
    by_cases e1 : j = k
    · simp [Mset, e1] at hj
    · simp only [Mset, e1, if_false] at hj; simp [Sset, e1, h.fr j hj]
  · intro j ro e' c' hj
    by_cases e1 : j = k
    · subst e1
      simp only [Mset_same] at hj
      cases hj
      refine ⟨⟨w.heap.size, 0, e, C.size⟩, by simp [Sset], rfl, fun i x hx => ?_⟩
      obtain ⟨v, hv, hr⟩ := hR i x hx
      exact ⟨v, by rw [Nat.zero_add, cell_of_row _ _ _ _ _ _ hnew]; exact hv, hr.mono hle⟩
    · rw [Mset_ne M _ e1] at hj
      obtain ⟨p, hp, he, hc⟩ := h.cel j ro e' c' hj
      refine ⟨p, hle _ _ hp, he, fun i x hx => ?_⟩
      obtain ⟨v, hv, hr⟩ := hc i x hx
      exact ⟨v, by rw [World.cell?_alloc_lt]; exact hv; exact h.bnd j p hp, hr.mono hle⟩
  · intro j e' c' hj p hp
    by_cases e1 : j = k
    · subst e1
      simp only [Mset_same] at hj
      cases hj
      simp only [Sset, if_true] at hp
      cases hp
      refine ⟨by simpa using hC, C, T, (0, 0), hnew, Nat.le_refl _, fun i _ => ?_⟩
      simp only [World.frozen?, hnew]
      simp
    · rw [Mset_ne M _ e1] at hj
      have hp' : σ j = some p := by simpa [Sset, e1] using hp
      obtain ⟨h1, C', T', f, h2, h3, h4⟩ := h.own j e' c' hj p hp'
      have hb := h.bnd j p hp'
      refine ⟨h1, C', T', f, by rw [hold _ hb]; exact h2, h3, fun i hi => ?_⟩
      have := h4 i hi
      simp only [World.frozen?] at this ⊢
      rw [hold _ hb]
      exact this
  · intro j es hj
    by_cases e1 : j = k
    · simp [Mset, e1] at hj
    · rw [Mset_ne M _ e1] at hj
      obtain ⟨p, ents, clk, hp, hb, hl, hr⟩ := h.mp j es hj
      refine ⟨p, ents, clk, hle _ _ hp, by rw [hold _ (h.bnd j p hp)]; exact hb, hl, fun i x en hx he => ?_⟩
      obtain ⟨r1, r2, r3⟩ := hr i x en hx he
      exact ⟨r1, r2, r3.mono hle⟩
  · intro j j' hne hrw hal p p' hp hp'
    rcases hs j p hp with ⟨e1, e2⟩ | ⟨e1, e2⟩
    · rcases hs j' p' hp' with ⟨e3, e4⟩ | ⟨e3, e4⟩
      · exact absurd (e1.trans e3.symm) hne
      · have := h.bnd j' p' e4; rw [e2]; show w.heap.size ≠ p'.b; omega
    · rcases hs j' p' hp' with ⟨e3, e4⟩ | ⟨e3, e4⟩
      · have := h.bnd j p e2; rw [e4]; show p.b ≠ w.heap.size; omega
      · rw [Mset_ne M _ e1] at hrw; rw [Mset_ne M _ e3] at hal; exact h.sep j j' hne hrw hal p p' e2 e4
  · intro j p hp
    rcases hs j p hp with ⟨e1, e2⟩ | ⟨e1, e2⟩
    · rw [e2]; simp
    · have := h.bnd j p e2; simp; omega
  · simp
  · intro b hb _; exact hold b hb
  · rintro b hb ⟨j, p, hp, hpb, hrw⟩
    rcases hs j p hp with ⟨e1, e2⟩ | ⟨e1, e2⟩
    · rw [e2] at hpb; simp at hpb; omega
    · rw [Mset_ne M _ e1] at hrw; exact ⟨j, p, e2, hpb, hrw⟩

end Go.Lm
