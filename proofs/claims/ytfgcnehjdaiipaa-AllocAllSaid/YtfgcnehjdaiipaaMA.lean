/- A local memory model: each operation of the machine does what a plain function says. -/
import Derived.Calls
import Derived.Orders
import Derived.Tactics
import Derived.Laws.Sem
import Derived.Laws.World
import Derived.Laws.Cells
import Derived.Laws.Rows
import Derived.Laws.StructEq
import Derived.Laws.IdiomCopy
import GoSem.Dispatch
/- The local memory model: objects, places, relations of values, and how they lie in a world. -/
namespace Go.Lm

/-- A local object. 'free': never used; 'dead': nothing is known; cells: read only or owned, size of an element, the cells. -/
inductive Ob where
  | free
  | dead
  | cells (ro : Bool) (e : Nat) (c : Array Value)
  | map (es : List (Value × Value))
  deriving Inhabited

def Ob.rw : Ob → Bool
  | .cells false _ _ => true
  | .map _ => true
  | _ => false

def Ob.alive : Ob → Bool
  | .cells _ _ _ => true
  | .map _ => true
  | _ => false

/-- Where a local object lies: the block, the first cell, the size of an element, the cells' limit. -/
structure Pl where
  b : Nat
  o : Nat
  e : Nat
  lim : Nat

abbrev Sg := Nat → Option Pl

def aRel (σ : Sg) (a a' : Addr) (p : Pl) : Prop :=
  a.spot = none ∧ a'.spot = none ∧ σ a.block = some p ∧ a'.block = p.b ∧ a'.off = p.o + a.off

def cRel (p : Pl) (off' c c' : Nat) : Prop := c' = c ∨ (0 < p.e ∧ 0 < c ∧ c ≤ c' ∧ off' + c' * p.e ≤ p.lim)

/-- basic values -/
def bRel (σ : Sg) : Value → Value → Prop
  | .bool b, v => v = .bool b
  | .int k n, v => v = .int k n
  | .string s, v => v = .string s
  | .nilFunc, v => v = .nilFunc
  | .nilIface, v => v = .nilIface
  | .pointer none, v => v = .pointer none
  | .pointer (some a), v => ∃ a' p, v = .pointer (some a') ∧ aRel σ a a' p
  | .slice none l c, v => v = .slice none l c
  | .slice (some a) l c, v => ∃ a' c' p, v = .slice (some a') l c' ∧ aRel σ a a' p ∧ cRel p a'.off c c'
  | .map none, v => v = .map none
  | .map (some i), v => ∃ p, σ i = some p ∧ v = .map (some p.b)
  | _, _ => False

def aaRel (R : Value → Value → Prop) (xs ys : Array Value) : Prop :=
  xs.size = ys.size ∧ ∀ (i : Nat) (x y : Value), xs[i]? = some x → ys[i]? = some y → R x y

/-- values of one cell -/
def sRel (σ : Sg) : Value → Value → Prop
  | .func f fi ca, v => ∃ fi' ca', v = .func f fi' ca' ∧ aaRel (bRel σ) fi fi' ∧ aaRel (bRel σ) ca ca'
  | x, v => bRel σ x v

def tRel (σ : Sg) : Value → Value → Prop
  | .agg c, v => ∃ c', v = .agg c' ∧ aaRel (sRel σ) c c'
  | x, v => sRel σ x v

def vRel (σ : Sg) : Value → Value → Prop
  | .tuple c, v => ∃ c', v = .tuple c' ∧ aaRel (tRel σ) c c'
  | x, v => tRel σ x v

def Sg.le (σ τ : Sg) : Prop := ∀ k p, σ k = some p → τ k = some p
theorem Sg.le.refl (σ : Sg) : σ.le σ := fun _ _ h => h
theorem Sg.le.trans {σ τ υ : Sg} (h : σ.le τ) (h' : τ.le υ) : σ.le υ := fun k p e => h' k p (h k p e)

theorem aRel.mono {σ τ : Sg} (h : σ.le τ) {a a' : Addr} {p : Pl} (r : aRel σ a a' p) : aRel τ a a' p :=
  ⟨r.1, r.2.1, h _ _ r.2.2.1, r.2.2.2⟩

theorem bRel.mono {σ τ : Sg} (h : σ.le τ) {x v : Value} (r : bRel σ x v) : bRel τ x v := by
  cases x with
  | pointer a =>
    cases a with
    | none => exact r
    | some a => obtain ⟨a', p, e, r⟩ := r; exact ⟨a', p, e, r.mono h⟩
  | slice a l c =>
    cases a with
    | none => exact r
    | some a => obtain ⟨a', c', p, e, r, rc⟩ := r; exact ⟨a', c', p, e, r.mono h, rc⟩
  | map a =>
    cases a with
    | none => exact r
    | some a => obtain ⟨p, e, r⟩ := r; exact ⟨p, h _ _ e, r⟩
  | _ => exact r

theorem aaRel.mono {R S : Value → Value → Prop} (h : ∀ x y, R x y → S x y) {xs ys : Array Value} (r : aaRel R xs ys) : aaRel S xs ys :=
  ⟨r.1, fun i x y hx hy => h _ _ (r.2 i x y hx hy)⟩

theorem sRel.mono {σ τ : Sg} (h : σ.le τ) {x v : Value} (r : sRel σ x v) : sRel τ x v := by
  cases x with
  | func f fi ca =>
    obtain ⟨fi', ca', e, r1, r2⟩ := r
    exact ⟨fi', ca', e, r1.mono fun _ _ => bRel.mono h, r2.mono fun _ _ => bRel.mono h⟩
  | _ => simp only [sRel] at r ⊢; exact bRel.mono h r

theorem tRel.mono {σ τ : Sg} (h : σ.le τ) {x v : Value} (r : tRel σ x v) : tRel τ x v := by
  cases x with
  | agg c => obtain ⟨c', e, r1⟩ := r; exact ⟨c', e, r1.mono fun _ _ => sRel.mono h⟩
  | _ => simp only [tRel] at r ⊢; exact sRel.mono h r

theorem vRel.mono {σ τ : Sg} (h : σ.le τ) {x v : Value} (r : vRel σ x v) : vRel τ x v := by
  cases x with
  | tuple c => obtain ⟨c', e, r1⟩ := r; exact ⟨c', e, r1.mono fun _ _ => tRel.mono h⟩
  | _ => simp only [vRel] at r ⊢; exact tRel.mono h r

theorem vRel.of_s {σ : Sg} {x v : Value} (r : sRel σ x v) : vRel σ x v := by
  cases x <;> first | exact r | exact r.elim

theorem aaRel.get {R : Value → Value → Prop} {xs ys : Array Value} (r : aaRel R xs ys) {i : Nat} {x : Value} (h : xs[i]? = some x) : ∃ y, ys[i]? = some y ∧ R x y := by
  have hi : i < xs.size := by
    rcases Nat.lt_or_ge i xs.size with h' | h'
    · exact h'
    · simp [Array.getElem?_eq_none h'] at h
  have hy : ys[i]? = some (ys[i]'(r.1 ▸ hi)) := Array.getElem?_eq_getElem _
  exact ⟨_, hy, r.2 i _ _ h hy⟩

theorem aaRel.nil (R : Value → Value → Prop) : aaRel R #[] #[] := ⟨rfl, fun i x y h => by simp at h⟩
theorem aaRel.push {R : Value → Value → Prop} {xs ys : Array Value} {x y : Value} (r : aaRel R xs ys) (h : R x y) : aaRel R (xs.push x) (ys.push y) := by
  refine ⟨by simp [r.1], fun i a b ha hb => ?_⟩
  rw [Array.getElem?_push] at ha hb
  by_cases e : i = xs.size
  · rw [if_pos e] at ha; rw [if_pos (r.1 ▸ e)] at hb; cases ha; cases hb; exact h
  · rw [if_neg e] at ha; rw [if_neg (r.1 ▸ e)] at hb; exact r.2 i a b ha hb
theorem aaRel.one {R : Value → Value → Prop} {x y : Value} (h : R x y) : aaRel R #[x] #[y] := (aaRel.nil R).push h

theorem aaRel.append {R : Value → Value → Prop} {xs ys xs' ys' : Array Value} (r : aaRel R xs ys) (r' : aaRel R xs' ys') : aaRel R (xs ++ xs') (ys ++ ys') := by
  refine ⟨by simp [r.1, r'.1], fun i a b ha hb => ?_⟩
  by_cases e : i < xs.size
  · rw [Array.getElem?_append_left e] at ha; rw [Array.getElem?_append_left (r.1 ▸ e)] at hb; exact r.2 i a b ha hb
  · rw [Array.getElem?_append_right (by omega)] at ha; rw [Array.getElem?_append_right (by have := r.1; omega)] at hb; rw [← r.1] at hb; exact r'.2 _ a b ha hb

theorem aaRel.extract {R : Value → Value → Prop} {xs ys : Array Value} (r : aaRel R xs ys) (i j : Nat) : aaRel R (xs.extract i j) (ys.extract i j) := by
  refine ⟨by simp [r.1], fun k a b ha hb => ?_⟩
  rw [Array.getElem?_extract] at ha hb
  split at ha
  · split at hb
    · exact r.2 _ a b ha hb
    · cases hb
  · cases ha

theorem aaRel.set {R : Value → Value → Prop} {xs ys : Array Value} (r : aaRel R xs ys) (i : Nat) {x y : Value} (h : R x y) : aaRel R (xs.setIfInBounds i x) (ys.setIfInBounds i y) := by
  refine ⟨by simp [r.1], fun k a b ha hb => ?_⟩
  rw [Array.getElem?_setIfInBounds] at ha hb
  by_cases e : i = k
  · rw [if_pos e] at ha hb
    split at ha
    · split at hb
      · cases ha; cases hb; exact h
      · cases hb
    · cases ha
  · rw [if_neg e] at ha hb; exact r.2 k a b ha hb

/-- How a local memory lies in a world. -/
structure Rep (σ : Sg) (M : Nat → Ob) (w : World) : Prop where
  fr : ∀ k, M k = .free → σ k = none
  cel : ∀ k ro e c, M k = .cells ro e c → ∃ p, σ k = some p ∧ p.e = e ∧ ∀ (j : Nat) (x : Value), c[j]? = some x → ∃ v, w.cell? ⟨p.b, p.o + j, none⟩ = some v ∧ sRel σ x v
  own : ∀ k e c, M k = .cells false e c → ∀ p, σ k = some p → p.o + c.size ≤ p.lim ∧ ∃ C T f, w.heap[p.b]? = some (.cells C T f) ∧ p.lim ≤ C.size ∧ ∀ j, j < p.lim → w.frozen? ⟨p.b, j, none⟩ = false
  mp : ∀ k es, M k = .map es → ∃ p ents clk, σ k = some p ∧ w.heap[p.b]? = some (.map ents clk) ∧ es.length = ents.size ∧
    ∀ (i : Nat) (x : Value × Value) (en : MapEntry), es[i]? = some x → ents[i]? = some en → x.1 = en.key ∧ (∃ k n, x.1 = .int k n) ∧ sRel σ x.2 en.val
  sep : ∀ k k', k ≠ k' → (M k).rw = true → (M k').alive = true → ∀ p p', σ k = some p → σ k' = some p' → p.b ≠ p'.b
  bnd : ∀ k p, σ k = some p → p.b < w.heap.size

def own (σ : Sg) (M : Nat → Ob) (b : Nat) : Prop := ∃ k p, σ k = some p ∧ p.b = b ∧ (M k).rw = true

/-- What a piece of a run may have done. -/
structure Fr (σ : Sg) (M : Nat → Ob) (w : World) (σ' : Sg) (M' : Nat → Ob) (w' : World) : Prop where
  ext : σ.le σ'
  size : w.heap.size ≤ w'.heap.size
  keep : ∀ b, b < w.heap.size → ¬ own σ M b → w'.heap[b]? = w.heap[b]?
  less : ∀ b, b < w.heap.size → own σ' M' b → own σ M b
  os : (w'.os, w'.tape) = (w.os, w.tape)
  out : w'.output = w.output
  dr : w.drawn ≤ w'.drawn

theorem Fr.refl (σ : Sg) (M : Nat → Ob) (w : World) : Fr σ M w σ M w :=
  ⟨.refl _, Nat.le_refl _, fun _ _ _ => rfl, fun _ _ h => h, rfl, rfl, Nat.le_refl _⟩

theorem Fr.trans {σ σ' σ'' : Sg} {M M' M'' : Nat → Ob} {w w' w'' : World} (h : Fr σ M w σ' M' w') (h' : Fr σ' M' w' σ'' M'' w'') : Fr σ M w σ'' M'' w'' where
  ext := h.ext.trans h'.ext
  size := Nat.le_trans h.size h'.size
  keep b hb ho := (h'.keep b (Nat.lt_of_lt_of_le hb h.size) (fun x => ho (h.less b hb x))).trans (h.keep b hb ho)
  less b hb ho := h.less b hb (h'.less b (Nat.lt_of_lt_of_le hb h.size) ho)
  os := h'.os.trans h.os
  out := h'.out.trans h.out
  dr := Nat.le_trans h.dr h'.dr

theorem Rep.drew {σ : Sg} {M : Nat → Ob} {w : World} (h : Rep σ M w) : Rep σ M w.drew :=
  ⟨h.fr, h.cel, h.own, h.mp, h.sep, h.bnd⟩

theorem Fr.drew {σ σ' : Sg} {M M' : Nat → Ob} {w w' : World} (h : Fr σ M w σ' M' w') : Fr σ M w σ' M' w'.drew :=
  ⟨h.ext, h.size, h.keep, h.less, h.os, h.out, Nat.le_succ_of_le h.dr⟩

def Mset (M : Nat → Ob) (k : Nat) (o : Ob) : Nat → Ob := fun j => if j = k then o else M j
def Sset (σ : Sg) (k : Nat) (p : Pl) : Sg := fun j => if j = k then some p else σ j

@[simp] theorem Mset_same (M : Nat → Ob) (k : Nat) (o : Ob) : Mset M k o k = o := by simp [Mset]
theorem Mset_ne (M : Nat → Ob) {k j : Nat} (o : Ob) (h : j ≠ k) : Mset M k o j = M j := by simp [Mset, h]

theorem Sset_le {σ : Sg} {k : Nat} {p : Pl} (h : σ k = none) : σ.le (Sset σ k p) := fun j q e => by
  by_cases hj : j = k
  · subst hj; rw [h] at e; cases e
  · simp [Sset, hj, e]

theorem cell?_lt {w : World} {a : Addr} {v : Value} (h : w.cell? a = some v) : a.block < w.heap.size := World.block_lt_of_cell? w a h

/-- A new row. -/
theorem Rep.alloc {σ : Sg} {M : Nat → Ob} {w : World} (h : Rep σ M w) {k : Nat} (hk : M k = .free) (T : TypeId) (e : Nat) (c C : Array Value)
    (hC : c.size ≤ C.size) (hR : ∀ (j : Nat) (x : Value), c[j]? = some x → ∃ v, C[j]? = some v ∧ sRel σ x v) :
    Rep (Sset σ k ⟨w.heap.size, 0, e, C.size⟩) (Mset M k (.cells false e c)) (w.alloc (.cells C T)) ∧
    Fr σ M w (Sset σ k ⟨w.heap.size, 0, e, C.size⟩) (Mset M k (.cells false e c)) (w.alloc (.cells C T)) := by
  have hσ := h.fr k hk
  have hle : σ.le (Sset σ k ⟨w.heap.size, 0, e, C.size⟩) := Sset_le hσ
  have hnew : (w.alloc (.cells C T)).heap[w.heap.size]? = some (.cells C T) := heap_alloc_new w _
  have hold : ∀ b, b < w.heap.size → (w.alloc (.cells C T)).heap[b]? = w.heap[b]? := fun b hb => heap_alloc_old w _ b hb
  have hs : ∀ j q, Sset σ k ⟨w.heap.size, 0, e, C.size⟩ j = some q → (j = k ∧ q = ⟨w.heap.size, 0, e, C.size⟩) ∨ (j ≠ k ∧ σ j = some q) := fun j q hq => by
    by_cases hj : j = k
    · simp [Sset, hj] at hq; exact .inl ⟨hj, hq.symm⟩
    · simp [Sset, hj] at hq; exact .inr ⟨hj, hq⟩
  refine ⟨⟨?_, ?_, ?_, ?_, ?_, ?_⟩, ⟨hle, ?_, ?_, ?_, rfl, rfl, Nat.le_refl _⟩⟩
  · intro j hj
    by_cases e1 : j = k
    · simp [Mset, e1] at hj
    · simp only [Mset, e1, if_false] at hj; simp [Sset, e1, h.fr j hj]
  · intro j ro e' c' hj
    by_cases e1 : j = k
    · subst e1
      simp only [Mset_same] at hj
      cases hj
      refine ⟨⟨w.heap.size, 0, e, C.size⟩, by simp [Sset], rfl, fun i x hx => ?_⟩
      obtain ⟨v, hv, hr⟩ := hR i x hx
      exact ⟨v, by rw [Nat.zero_add, cell_of_row _ _ _ _ _ _ hnew]; exact hv, hr.mono hle⟩
    · rw [Mset_ne M _ e1] at hj
      obtain ⟨p, hp, he, hc⟩ := h.cel j ro e' c' hj
      refine ⟨p, hle _ _ hp, he, fun i x hx => ?_⟩
      obtain ⟨v, hv, hr⟩ := hc i x hx
      exact ⟨v, by rw [World.cell?_alloc_lt]; exact hv; exact h.bnd j p hp, hr.mono hle⟩
  · intro j e' c' hj p hp
    by_cases e1 : j = k
    · subst e1
      simp only [Mset_same] at hj
      cases hj
      simp only [Sset, if_true] at hp
      cases hp
      refine ⟨by simpa using hC, C, T, (0, 0), hnew, Nat.le_refl _, fun i _ => ?_⟩
      simp only [World.frozen?, hnew]
      simp
    · rw [Mset_ne M _ e1] at hj
      have hp' : σ j = some p := by simpa [Sset, e1] using hp
      obtain ⟨h1, C', T', f, h2, h3, h4⟩ := h.own j e' c' hj p hp'
      have hb := h.bnd j p hp'
      refine ⟨h1, C', T', f, by rw [hold _ hb]; exact h2, h3, fun i hi => ?_⟩
      have := h4 i hi
      simp only [World.frozen?] at this ⊢
      rw [hold _ hb]
      exact this
  · intro j es hj
    by_cases e1 : j = k
    · simp [Mset, e1] at hj
    · rw [Mset_ne M _ e1] at hj
      obtain ⟨p, ents, clk, hp, hb, hl, hr⟩ := h.mp j es hj
      refine ⟨p, ents, clk, hle _ _ hp, by rw [hold _ (h.bnd j p hp)]; exact hb, hl, fun i x en hx he => ?_⟩
      obtain ⟨r1, r2, r3⟩ := hr i x en hx he
      exact ⟨r1, r2, r3.mono hle⟩
  · intro j j' hne hrw hal p p' hp hp'
    rcases hs j p hp with ⟨e1, e2⟩ | ⟨e1, e2⟩
    · rcases hs j' p' hp' with ⟨e3, e4⟩ | ⟨e3, e4⟩
      · exact absurd (e1.trans e3.symm) hne
      · have := h.bnd j' p' e4; rw [e2]; show w.heap.size ≠ p'.b; omega
    · rcases hs j' p' hp' with ⟨e3, e4⟩ | ⟨e3, e4⟩
      · have := h.bnd j p e2; rw [e4]; show p.b ≠ w.heap.size; omega
      · rw [Mset_ne M _ e1] at hrw; rw [Mset_ne M _ e3] at hal; exact h.sep j j' hne hrw hal p p' e2 e4
  · intro j p hp
    rcases hs j p hp with ⟨e1, e2⟩ | ⟨e1, e2⟩
    · rw [e2]; simp
    · have := h.bnd j p e2; simp; omega
  · simp
  · intro b hb _; exact hold b hb
  · rintro b hb ⟨j, p, hp, hpb, hrw⟩
    rcases hs j p hp with ⟨e1, e2⟩ | ⟨e1, e2⟩
    · rw [e2] at hpb; simp at hpb; omega
    · rw [Mset_ne M _ e1] at hrw; exact ⟨j, p, e2, hpb, hrw⟩

end Go.Lm
/- What one operation does over local values and a local memory, as a plain function. -/
namespace Go.Lm

/-- What is asked of a type. -/
inductive TQ where
  | bool
  | int (k : IntKind)
  | str
  | ptr (el : TypeId)
  | sl (el sz : Nat)
  | arr (len el sz : Nat)
  | struct (fs : List (Nat × Nat × Nat))
  | map (k e : TypeId)
  | func
  | other
  deriving DecidableEq

def sizeQ (P : Program) (t : TypeId) : Option Nat := (P.info? t).map (·.size)

def tyQ (P : Program) (t : TypeId) : TQ :=
  match P.underlying t with
  | some .bool => .bool
  | some (.int k) => .int k
  | some .string => .str
  | some (.pointer el) => .ptr el
  | some (.slice el) => match sizeQ P el with | some s => .sl el s | none => .other
  | some (.array n el) => match sizeQ P el with | some s => .arr n el s | none => .other
  | some (.struct fs) => if fs.toList.all (fun f => (sizeQ P f.type).isSome) then .struct (fs.toList.map fun f => (f.offset, f.type, (sizeQ P f.type).getD 0)) else .other
  | some (.map k e) => .map k e
  | some (.func _ _ _) => .func
  | _ => .other

def TQ.isAgg : TQ → Option Bool
  | .arr _ _ _ | .struct _ => some true
  | .other => none
  | _ => some false

def TQ.isSrc : TQ → Bool
  | .sl _ _ | .str => true
  | _ => false

/-- values without an address -/
def gnd0 : Value → Bool
  | .bool _ | .int _ _ | .string _ | .nilFunc | .nilIface | .pointer none | .slice none _ _ | .map none => true
  | _ => false

def gnd : Value → Bool
  | .agg c => c.all gnd0
  | v => gnd0 v

def zeroQ (P : Program) (t : TypeId) : Option Value :=
  match (P.info? t).bind (·.zero) with
  | some z => if gnd z then some z else none
  | none => none

abbrev Env := List (Nat × Value)

def elook : Env → Nat → Option Value
  | [], _ => none
  | (s, v) :: r, t => if s = t then some v else elook r t

def ev (env : Env) : Operand → Option Value
  | .tmp t => elook env t
  | .const v => if gnd v then some v else none
  | .global _ => none
  | .func f => some (.func (.func f) #[] #[])

def evs (env : Env) : List Operand → Option (List Value)
  | [] => some []
  | x :: r => match ev env x, evs env r with
    | some v, some vs => some (v :: vs)
    | _, _ => none

def evp (env : Env) : List (Nat × Operand) → Option (List (Nat × Value))
  | [] => some []
  | (i, x) :: r => match ev env x, evp env r with
    | some v, some vs => some ((i, v) :: vs)
    | _, _ => none

def evo (env : Env) : Option Operand → Option (Option Int)
  | none => some none
  | some x => match ev env x with
    | some (.int _ n) => some (some n)
    | _ => none

def isBasic : Value → Bool
  | .agg _ | .tuple _ | .func _ _ _ => false
  | _ => true

/-- What an operation has done: its value, a new object, objects that have turned. -/
structure Eff where
  val : Value
  new : Option Ob := none
  mods : List (Nat × Ob) := []

def ptr0 (k : Nat) : Value := .pointer (some ⟨k, 0, none⟩)

def vcells : Value → Option (Array Value)
  | .agg c => some c
  | .tuple _ => none
  | v => some #[v]

def setL : Array Value → Nat → List Value → Array Value
  | c, _, [] => c
  | c, i, v :: r => setL (c.setIfInBounds i v) (i + 1) r

/-- A write of some cells; of all of them at once. -/
def wr (c : Array Value) (off : Nat) (vs : Array Value) : Array Value :=
  if off = 0 ∧ vs.size = c.size then vs else setL c off vs.toList

def lload (P : Program) (M : Nat → Ob) (t : TypeId) (v : Value) : Option Value :=
  match v with
  | .pointer (some a) =>
    match M a.block with
    | .cells _ _ c =>
      match (tyQ P t).isAgg with
      | some true => match sizeQ P t with
        | some s => if a.off + s ≤ c.size then some (.agg (c.extract a.off (a.off + s))) else none
        | none => none
      | some false => c[a.off]?
      | none => none
    | _ => none
  | _ => none

def lstore (P : Program) (M : Nat → Ob) (t : TypeId) (addr v : Value) : Option Eff :=
  match addr with
  | .pointer (some a) =>
    match M a.block with
    | .cells false e c =>
      match vcells v, sizeQ P t with
      | some vs, some s => if vs.size = s ∧ a.off + s ≤ c.size then some { val := undef, mods := [(a.block, .cells false e (wr c a.off vs))] } else none
      | _, _ => none
    | _ => none
  | _ => none

def lfill (place : Nat → Option (Nat × Nat)) (cells : Array Value) : List (Nat × Value) → Option (Array Value)
  | [] => some cells
  | (i, v) :: rest =>
    match place i, vcells v with
    | some (off, size), some vs => if vs.size = size ∧ off + size ≤ cells.size then lfill place (setL cells off vs.toList) rest else none
    | _, _ => none

def lbuild (P : Program) (t : TypeId) (parts : List (Nat × Value)) : Option Value :=
  match zeroQ P t with
  | some z =>
    match tyQ P t with
    | .struct fs => (lfill (fun i => (fs[i]?).map fun f => (f.1, f.2.2)) z.cells parts).map .agg
    | .arr _ _ s => (lfill (fun i => some (i * s, s)) z.cells parts).map .agg
    | _ => none
  | none => none

/-- n times the cells of a zero -/
def zeros (z : Array Value) (n : Nat) : Array Value := (Array.range n).map (z[· % z.size]!)

def lbuildSlice (P : Program) (k : Nat) (t : TypeId) (len : Nat) (parts : List (Nat × Value)) : Option Eff :=
  match tyQ P t with
  | .sl el s =>
    match zeroQ P el with
    | some z => if 0 < s ∧ z.cells.size = s ∧ len * s ≤ 2 ^ 24 then
        match lfill (fun i => some (i * s, s)) (zeros z.cells (len * s)) parts with
        | some c => some { val := .slice (some ⟨k, 0, none⟩) len len, new := some (.cells false s c) }
        | none => none
      else none
    | none => none
  | _ => none

def lpart (P : Program) (t : TypeId) (c : Array Value) (off : Nat) : Option Value :=
  match (tyQ P t).isAgg with
  | some true => match sizeQ P t with
    | some s => some (.agg (c.extract off (off + s)))
    | none => none
  | some false => c[off]?
  | none => none

/-- the fields that count for equality: first cell, type -/
def eqFsQ (P : Program) (t : TypeId) : Option (List (Nat × Nat)) :=
  match P.underlying t with
  | some (.struct fs) => if P.stoodInHeld t then none else some ((fs.toList.filter fun f => f.name != "_").map fun f => (f.offset, f.type))
  | _ => none

/-- equality -/
def leq (P : Program) : Nat → TypeId → Value → Value → Option Bool
  | 0, _, _, _ => none
  | d + 1, t, x, y =>
    match tyQ P t, x, y with
    | .bool, .bool a, .bool b => some (a == b)
    | .int _, .int k a, .int k' b => if k = k' then some (a == b) else none
    | .str, .string a, .string b => some (a == b)
    | .struct _, .agg xs, .agg ys =>
      match eqFsQ P t with
      | some fs =>
        fs.foldr (fun f r =>
          match lpart P f.2 xs f.1, lpart P f.2 ys f.1 with
          | some a, some b => match leq P d f.2 a b, r with
            | some p, some q => some (p && q)
            | _, _ => none
          | _, _ => none) (some true)
      | none => none
    | .arr n el s, .agg xs, .agg ys =>
      (List.range n).foldr (fun i r =>
        match lpart P el xs (i * s), lpart P el ys (i * s) with
        | some a, some b => match leq P d el a b, r with
          | some p, some q => some (p && q)
          | _, _ => none
        | _, _ => none) (some true)
    | _, _, _ => none

def lint (op : BinOp) (k : IntKind) (x y : Int) : Option Value :=
  match op with
  | .add => some (.int k (k.wrap (x + y)))
  | .sub => some (.int k (k.wrap (x - y)))
  | .mul => some (.int k (k.wrap (x * y)))
  | .quo => if y = 0 then none else some (.int k (k.wrap (x.tdiv y)))
  | .rem => if y = 0 then none else some (.int k (x.tmod y))
  | .and => some (.int k (k.wrap (BitVec.ofInt k.bits x &&& BitVec.ofInt k.bits y).toNat))
  | .or => some (.int k (k.wrap (BitVec.ofInt k.bits x ||| BitVec.ofInt k.bits y).toNat))
  | .xor => some (.int k (k.wrap (BitVec.ofInt k.bits x ^^^ BitVec.ofInt k.bits y).toNat))
  | .andNot => some (.int k (k.wrap (BitVec.ofInt k.bits x &&& ~~~(BitVec.ofInt k.bits y)).toNat))
  | .eql => some (.bool (x == y))
  | .neq => some (.bool (x != y))
  | .lss => some (.bool (x < y))
  | .leq => some (.bool (x ≤ y))
  | .gtr => some (.bool (x > y))
  | .geq => some (.bool (x ≥ y))
  | _ => none

def lstr (op : BinOp) (x y : ByteArray) : Option Value :=
  match op with
  | .add => if ((x.size + y.size : Nat) : Int) > IntKind.i64.max then none else some (.string (x ++ y))
  | .eql => some (.bool (x.toList == y.toList))
  | .neq => some (.bool (!(x.toList == y.toList)))
  | .lss => some (.bool (Op.bytesLess x.toList y.toList))
  | .leq => some (.bool (Op.bytesLess x.toList y.toList || x.toList == y.toList))
  | .gtr => some (.bool (!(Op.bytesLess x.toList y.toList || x.toList == y.toList)))
  | .geq => some (.bool (!(Op.bytesLess x.toList y.toList)))
  | _ => none

def lbin (P : Program) (op : BinOp) (t : TypeId) (x y : Value) : Option Value :=
  match x, y with
  | .int k a, .int k' b =>
    match op with
    | .shl => if 0 ≤ b then some (.int k (k.wrap (a * 2 ^ (min b.toNat k.bits)))) else none
    | .shr => if 0 ≤ b then some (.int k (a.fdiv (2 ^ (min b.toNat k.bits)))) else none
    | _ => if k = k' then lint op k a b else none
  | .string a, .string b => lstr op a b
  | .bool a, .bool b =>
    match op, tyQ P t with
    | .eql, .bool => some (.bool (a == b))
    | .neq, .bool => some (.bool (!(a == b)))
    | _, _ => none
  | .pointer a, .pointer none =>
    match op, tyQ P t with
    | .eql, .ptr _ => some (.bool a.isNone)
    | .neq, .ptr _ => some (.bool (!a.isNone))
    | _, _ => none
  | .slice a _ _, .slice none _ _ =>
    match op, tyQ P t with
    | .eql, .sl _ _ => some (.bool a.isNone)
    | .neq, .sl _ _ => some (.bool (!a.isNone))
    | _, _ => none
  | .agg xs, .agg ys =>
    if P.eqGuardType P.depth t then none else
    match op with
    | .eql => (leq P 8 t (.agg xs) (.agg ys)).map .bool
    | .neq => (leq P 8 t (.agg xs) (.agg ys)).map fun b => .bool (!b)
    | _ => none
  | _, _ => none

def lun (op : UnOp) (x : Value) : Option Value :=
  match op, x with
  | .neg, .int k n => some (.int k (k.wrap (0 - n)))
  | .xor, .int k n => some (.int k (k.wrap (BitVec.ofInt k.bits (if k.signed then -1 else k.max) ^^^ BitVec.ofInt k.bits n).toNat))
  | .not, .bool b => some (.bool !b)
  | _, _ => none

def bytesQ : List Value → Option (List UInt8)
  | [] => some []
  | .int .u8 n :: r => (bytesQ r).map (UInt8.ofNat n.toNat :: ·)
  | _ => none

def byteCells (s : ByteArray) : Array Value := s.data.map fun b => .int .u8 b.toNat

def lconv (P : Program) (M : Nat → Ob) (k : Nat) (src dst : TypeId) (x : Value) : Option Eff :=
  match x with
  | .int _ n => match tyQ P src, tyQ P dst with
    | .int _, .int q => some { val := .int q (q.wrap n) }
    | _, _ => none
  | .string s => match tyQ P src, tyQ P dst with
    | .str, .str => some { val := .string s }
    | .str, .sl el sz => match tyQ P el with
      | .int .u8 => if s.size = 0 ∨ sz ≠ 1 then none else some { val := .slice (some ⟨k, 0, none⟩) s.size s.size, new := some (.cells false 1 (byteCells s)) }
      | _ => none
    | _, _ => none
  | .slice none _ _ => match tyQ P src, tyQ P dst with
    | .sl el _, .str => match tyQ P el with
      | .int .u8 => some { val := .string .empty }
      | _ => none
    | _, _ => none
  | .slice (some a) len _ => match tyQ P src, tyQ P dst with
    | .sl el _, .str => match tyQ P el with
      | .int .u8 => match M a.block with
        | .cells _ _ c => if a.off + len ≤ c.size then (bytesQ (c.extract a.off (a.off + len)).toList).map fun l => { val := .string ⟨l.toArray⟩ } else none
        | _ => none
      | _ => none
    | _, _ => none
  | _ => none

def lmakeSlice (P : Program) (k : Nat) (t : TypeId) (len cap : Value) : Option Eff :=
  match tyQ P t, len, cap with
  | .sl el s, .int _ l, .int _ c =>
    match zeroQ P el, (P.info? el).map (·.bytes) with
    | some z, some by_ => if 0 ≤ l ∧ l ≤ c ∧ c < 2 ^ 48 ∧ (by_ : Int) * c ≤ 2 ^ 47 ∧ 0 < s ∧ z.cells.size = s then
        some { val := .slice (some ⟨k, 0, none⟩) l.toNat c.toNat, new := some (.cells false s (zeros z.cells (c.toNat * s))) }
      else none
    | _, _ => none
  | _, _, _ => none

def optInt : Option Value → Option (Option Int)
  | none => some none
  | some (.int _ n) => some (some n)
  | _ => none

/-- the bounds of a slice expression: low, high, max -/
def lbounds (len cap : Nat) (low high mx : Option Int) : Option (Nat × Nat × Nat) :=
  match mx with
  | some m =>
    match high with
    | some h => if 0 ≤ m ∧ m ≤ cap ∧ 0 ≤ h ∧ h ≤ m ∧ 0 ≤ low.getD 0 ∧ low.getD 0 ≤ h then some ((low.getD 0).toNat, h.toNat, m.toNat) else none
    | none => none
  | none => if 0 ≤ high.getD len ∧ high.getD len ≤ cap ∧ 0 ≤ low.getD 0 ∧ low.getD 0 ≤ high.getD len then some ((low.getD 0).toNat, (high.getD len).toNat, cap) else none

def lslice (P : Program) (M : Nat → Ob) (t : TypeId) (x : Value) (low high mx : Option Int) : Option Value :=
  match tyQ P t, x with
  | .arr n _ s, .pointer (some a) =>
    match lbounds n n low high mx with
    | some (l, h, m) => some (.slice (some (if m = l then a else ⟨a.block, a.off + l * s, none⟩)) (h - l) (m - l))
    | none => none
  | .str, .string b =>
    match mx, lbounds b.size b.size low high none with
    | none, some (l, h, _) => some (.string (b.extract l h))
    | _, _ => none
  | .sl _ s, .slice (some a) len cap =>
    match lbounds len cap low high mx, M a.block with
    | some (l, h, m), .cells _ e _ => if mx = none ∧ (m = l ∨ (e ≠ s ∧ e ≠ 0)) ∧ l ≠ 0 then none else some (.slice (some (if m = l then a else ⟨a.block, a.off + l * s, none⟩)) (h - l) (m - l))
    | _, _ => none
  | .sl _ _, .slice none len cap =>
    match lbounds len cap low high mx with
    | some (l, h, m) => some (.slice none (h - l) (m - l))
    | none => none
  | _, _ => none

def lfieldAddr (P : Program) (t : TypeId) (x : Value) (f : Nat) : Option Value :=
  match tyQ P t, x with
  | .struct fs, .pointer (some a) =>
    match fs[f]? with
    | some (off, _, s) => if s = 0 then none else some (.pointer (some ⟨a.block, a.off + off, none⟩))
    | none => none
  | _, _ => none

def lindexAddr (P : Program) (t : TypeId) (x ix : Value) : Option Value :=
  match tyQ P t, x, ix with
  | .arr n _ s, .pointer (some a), .int _ i => if 0 ≤ i ∧ i < n then some (.pointer (some ⟨a.block, a.off + i.toNat * s, none⟩)) else none
  | .sl _ s, .slice (some a) n _, .int _ i => if 0 ≤ i ∧ i < n then some (.pointer (some ⟨a.block, a.off + i.toNat * s, none⟩)) else none
  | _, _, _ => none

def lindex (P : Program) (t : TypeId) (x ix : Value) : Option Value :=
  match tyQ P t, x, ix with
  | .arr n el s, .agg c, .int _ i => if 0 ≤ i ∧ i < n then lpart P el c (i.toNat * s) else none
  | .str, .string b, .int _ i => if 0 ≤ i then match b[i.toNat]? with
      | some u => some (.int .u8 u.toNat)
      | none => none
    else none
  | _, _, _ => none

def lfield (P : Program) (t : TypeId) (x : Value) (f : Nat) : Option Value :=
  match tyQ P t, x with
  | .struct fs, .agg c =>
    match fs[f]? with
    | some (off, ty, _) => lpart P ty c off
    | none => none
  | _, _ => none

/-- the cells of the first n elements of what is appended or copied -/
def lfirst (M : Nat → Ob) (s n : Nat) : Value → Option (Array Value)
  | .slice (some a) _ _ => match M a.block with
    | .cells _ _ c => if a.off + n * s ≤ c.size then some (c.extract a.off (a.off + n * s)) else none
    | _ => none
  | .slice none _ _ => if n = 0 then some #[] else none
  | .string b => if s = 1 ∧ n ≤ b.size then some ((b.extract 0 n).data.map fun u => .int .u8 u.toNat) else none
  | _ => none

def llen : Value → Option Nat
  | .slice _ n _ => some n
  | .string s => some s.size
  | _ => none

def lappend (P : Program) (M : Nat → Ob) (k : Nat) (ts : Array TypeId) (args : List Value) : Option Eff :=
  match ts[0]?, ts[1]?, args with
  | some t, some tx, [.slice base len cap, x] =>
    match tyQ P t, llen x with
    | .sl el s, some n =>
      if ¬ (tyQ P tx).isSrc then none else
      match zeroQ P el, (P.info? el).map (·.bytes), lfirst M s n x with
      | some z, some by_, some new =>
        if ¬ (0 < s ∧ z.cells.size = s ∧ 0 < by_ ∧ (len + n) * by_ ≤ 2 ^ 44 ∧ len ≤ cap) then none else
        match base with
        | none => if len = 0 ∧ cap = 0 then
            (if n = 0 then some { val := .slice none 0 0 }
             else some { val := .slice (some ⟨k, 0, none⟩) n n, new := some (.cells false s new) })
          else none
        | some a =>
          if n = 0 then some { val := .slice (some a) len cap } else
          match M a.block with
          | .cells ro e c =>
            if len + n ≤ cap then
              (if ro = false ∧ a.off + (len + n) * s ≤ c.size then
                some { val := .slice (some a) (len + n) cap, mods := [(a.block, .cells false e (setL c (a.off + len * s) new.toList))] }
               else none)
            else if cap = 0 then some { val := .slice (some ⟨k, 0, none⟩) n n, new := some (.cells false s new) }
            else if ro = false ∧ e = s ∧ a.off + len * s = c.size then
              some { val := .slice (some ⟨k, 0, none⟩) (len + n) (len + n), new := some (.cells false s (c.extract a.off c.size ++ new)), mods := [(a.block, .dead)] }
            else none
          | _ => none
      | _, _, _ => none
    | _, _ => none
  | _, _, _ => none

def lcopy (P : Program) (M : Nat → Ob) (ts : Array TypeId) (args : List Value) : Option Eff :=
  match ts[0]?, args with
  | some t, [.slice base len _, x] =>
    match tyQ P t, llen x with
    | .sl _ s, some n =>
      match lfirst M s (Nat.min n len) x with
      | some new =>
        match base with
        | none => some { val := .int .i64 (Nat.min n len) }
        | some a => match M a.block with
          | .cells ro e c => if ro = false ∧ a.off + (Nat.min n len) * s ≤ c.size then
              some { val := .int .i64 (Nat.min n len), mods := [(a.block, .cells false e (setL c a.off new.toList))] } else none
          | _ => none
      | none => none
    | _, _ => none
  | _, _ => none

/-! maps with whole numbers as keys -/

/-- none: the keys are of another kind -/
def lfind : List (Value × Value) → IntKind → Int → Option (Option Value)
  | [], _, _ => some none
  | (.int k' m, v) :: r, k, n => if k = k' then (if n = m then some (some v) else lfind r k n) else none
  | _, _, _ => none

def lput : List (Value × Value) → IntKind → Int → Value → List (Value × Value)
  | [], k, n, v => [(.int k n, v)]
  | (key, u) :: r, k, n, v => match key with
    | .int k' m => if k = k' ∧ n = m then (.int k n, v) :: r else (key, u) :: lput r k n v
    | _ => (key, u) :: lput r k n v

def ldel : List (Value × Value) → IntKind → Int → List (Value × Value)
  | [], _, _ => []
  | (key, u) :: r, k, n => match key with
    | .int k' m => if k = k' ∧ n = m then r else (key, u) :: ldel r k n
    | _ => (key, u) :: ldel r k n

def llookup (P : Program) (M : Nat → Ob) (t : TypeId) (x ix : Value) (ok : Bool) : Option Value :=
  match tyQ P t, ix with
  | .map kt et, .int k n =>
    match tyQ P kt, zeroQ P et with
    | .int _, some z =>
      let r := match x with
        | .map none => some none
        | .map (some i) => match M i with
          | .map es => lfind es k n
          | _ => none
        | _ => none
      match r with
      | some (some v) => some (if ok then .tuple #[v, .bool true] else v)
      | some none => if ok then (if gnd0 z then some (.tuple #[z, .bool false]) else none) else some z
      | none => none
    | _, _ => none
  | _, _ => none

def isCell : Value → Bool
  | .agg _ | .tuple _ => false
  | _ => true

def lmapUpdate (P : Program) (M : Nat → Ob) (t : TypeId) (x ix v : Value) : Option Eff :=
  match tyQ P t, x, ix with
  | .map kt _, .map (some i), .int k n =>
    match tyQ P kt, M i with
    | .int _, .map es => match lfind es k n with
      | some _ => if isCell v then some { val := undef, mods := [(i, .map (lput es k n v))] } else none
      | none => none
    | _, _ => none
  | _, _, _ => none

def ldelete (P : Program) (M : Nat → Ob) (ts : Array TypeId) (args : List Value) : Option Eff :=
  match ts[0]?, args with
  | some t, [.map (some i), .int k n] =>
    match tyQ P t with
    | .map kt _ => match tyQ P kt, M i with
      | .int _, .map es => match lfind es k n with
        | some _ => some { val := .tuple #[], mods := [(i, .map (ldel es k n))] }
        | none => none
      | _, _ => none
    | _ => none
  | _, _ => none

def llenOf (P : Program) (M : Nat → Ob) (t : TypeId) (x : Value) : Option Value :=
  match tyQ P t, x with
  | .str, .string s => some (.int .i64 s.size)
  | .arr n _ _, _ => some (.int .i64 n)
  | .sl _ _, .slice _ n _ => some (.int .i64 n)
  | .map _ _, .map none => some (.int .i64 0)
  | .map _ _, .map (some i) => match M i with
    | .map es => some (.int .i64 es.length)
    | _ => none
  | _, _ => none

def lmin (isMax : Bool) : Value → List Value → Option Value
  | .int k x, [] => some (.int k x)
  | .int k x, .int _ y :: r => lmin isMax (.int k (if isMax then (if y > x then y else x) else (if y < x then y else x))) r
  | _, _ => none

/-- A builtin. -/
def lblt (P : Program) (env : Env) (M : Nat → Ob) (k : Nat) (c : Call) : Option Eff :=
  match c.callee, evs env c.args.toList with
  | .builtin .append, some vs => lappend P M k c.argTypes vs
  | .builtin .copy, some vs => lcopy P M c.argTypes vs
  | .builtin .delete, some vs => ldelete P M c.argTypes vs
  | .builtin .len, some (x :: _) => match c.argTypes[0]? with
    | some t => match llenOf P M t x with | some v => some { val := v } | none => none
    | none => none
  | .builtin .min, some (x :: r) => match lmin false x r with | some v => some { val := v } | none => none
  | .builtin .max, some (x :: r) => match lmin true x r with | some v => some { val := v } | none => none
  | _, _ => none

/-- One operation that is no call of a Go function. -/
def lop (P : Program) (env : Env) (M : Nat → Ob) (k : Nat) : Op → Option Eff
  | .move x => match ev env x with | some v => some { val := v } | none => none
  | .assign x => match ev env x with | some v => some { val := v } | none => none
  | .pick c a b => match ev env c with
    | some (.bool t) => match ev env (if t then a else b) with | some v => some { val := v } | none => none
    | _ => none
  | .alloc t => match zeroQ P t with
    | some z => some { val := ptr0 k, new := some (.cells false 0 z.cells) }
    | none => none
  | .box _ x => match ev env x with
    | some v => match vcells v with
      | some c => some { val := ptr0 k, new := some (.cells false 0 c) }
      | none => none
    | none => none
  | .build t parts => match evp env parts.toList with
    | some ps => match lbuild P t ps with | some v => some { val := v } | none => none
    | none => none
  | .buildSlice t len parts => match evp env parts.toList with
    | some ps => lbuildSlice P k t len ps
    | none => none
  | .load t a => match ev env a with
    | some p => match lload P M t p with | some v => some { val := v } | none => none
    | none => none
  | .store t a x => match ev env a, ev env x with
    | some p, some v => lstore P M t p v
    | _, _ => none
  | .nilCheck x => match ev env x with
    | some (.pointer (some a)) => some { val := .pointer (some a) }
    | some (.func (.func g) fi ca) => some { val := .func (.func g) fi ca }
    | _ => none
  | .binOp op t x y _ => match ev env x, ev env y with
    | some a, some b => match lbin P op t a b with | some v => some { val := v } | none => none
    | _, _ => none
  | .unOp op _ x => match ev env x with
    | some a => match lun op a with | some v => some { val := v } | none => none
    | none => none
  | .convert src dst x => match ev env x with
    | some v => lconv P M k src dst v
    | none => none
  | .makeFunc fn first captured => match evs env first.toList, evs env captured.toList with
    | some a, some b => if a.all isBasic && b.all isBasic then some { val := .func fn a.toArray b.toArray } else none
    | _, _ => none
  | .makeMap _ none => some { val := .map (some k), new := some (.map []) }
  | .makeSlice t l c => match ev env l, ev env c with
    | some a, some b => lmakeSlice P k t a b
    | _, _ => none
  | .slice t x lo hi mx => match ev env x, evo env lo, evo env hi, evo env mx with
    | some v, some l, some h, some m => match lslice P M t v l h m with | some u => some { val := u } | none => none
    | _, _, _, _ => none
  | .fieldAddr t x f => match ev env x with
    | some v => match lfieldAddr P t v f with | some u => some { val := u } | none => none
    | none => none
  | .field t x f => match ev env x with
    | some v => match lfield P t v f with | some u => some { val := u } | none => none
    | none => none
  | .indexAddr t x i => match ev env x, ev env i with
    | some v, some j => match lindexAddr P t v j with | some u => some { val := u } | none => none
    | _, _ => none
  | .index t x i => match ev env x, ev env i with
    | some v, some j => match lindex P t v j with | some u => some { val := u } | none => none
    | _, _ => none
  | .lookup t x i ok => match ev env x, ev env i with
    | some v, some j => match llookup P M t v j ok with | some u => some { val := u } | none => none
    | _, _ => none
  | .mapUpdate t m i x => match ev env m, ev env i, ev env x with
    | some v, some j, some u => lmapUpdate P M t v j u
    | _, _, _ => none
  | .extract x i => match ev env x with
    | some (.tuple vs) => match vs[i]? with | some v => some { val := v } | none => none
    | _ => none
  | .call c => lblt P env M k c
  | _ => none

end Go.Lm
/- Each operation, as the machine runs it, does what the plain function says. -/
namespace Go.Lm

section
variable {P : Program} {w : World}

theorem rUnd {t : TypeId} {d : TypeDesc} (h : P.underlying t = some d) : (underlying t).run P w = .ok d w := run_underlying h w

theorem und_info {t : TypeId} {d : TypeDesc} (h : P.underlying t = some d) : ∃ i, P.info? t = some i := by
  unfold Program.underlying at h
  cases hi : P.info? t with
  | some i => exact ⟨i, rfl⟩
  | none => rw [hi] at h; cases h

theorem rInfo {t : TypeId} {i : TypeInfo} (h : P.info? t = some i) : (typeInfo t).run P w = .ok i w := by
  simp [typeInfo, h]

theorem rSize {t : TypeId} {s : Nat} (h : sizeQ P t = some s) : (sizeOf t).run P w = .ok s w := by
  unfold sizeQ at h
  cases hi : P.info? t with
  | none => rw [hi] at h; cases h
  | some i => rw [hi] at h; cases h; simp [sizeOf, rInfo hi]

theorem sizeQ_of_und {t : TypeId} {d : TypeDesc} (h : P.underlying t = some d) : ∃ s, sizeQ P t = some s := by
  obtain ⟨i, hi⟩ := und_info h
  exact ⟨i.size, by simp [sizeQ, hi]⟩

theorem zeroQ_gnd {t : TypeId} {z : Value} (h : zeroQ P t = some z) : gnd z = true := by
  unfold zeroQ at h
  split at h
  · split at h
    · cases h; assumption
    · cases h
  · cases h

theorem rZero {t : TypeId} {z : Value} (h : zeroQ P t = some z) : (zeroValue t).run P w = .ok z w := by
  unfold zeroQ at h
  cases hi : P.info? t with
  | none => rw [hi] at h; cases h
  | some i =>
    rw [hi] at h
    simp only [Option.bind_some] at h
    cases hz : i.zero with
    | none => rw [hz] at h; cases h
    | some z' =>
      rw [hz] at h
      simp only [] at h
      split at h
      · cases h; simp [zeroValue, rInfo hi, hz]
      · cases h

theorem tyQ_sl {t : TypeId} {el s : Nat} (h : tyQ P t = .sl el s) : P.underlying t = some (.slice el) ∧ sizeQ P el = some s := by
  unfold tyQ at h
  split at h <;> first | (cases h; done) | skip
  · rename_i el' hu
    split at h
    · rename_i s' hs; cases h; exact ⟨hu, hs⟩
    · cases h
  · split at h <;> cases h
  · split at h <;> cases h

theorem tyQ_arr {t : TypeId} {n el s : Nat} (h : tyQ P t = .arr n el s) : P.underlying t = some (.array n el) ∧ sizeQ P el = some s := by
  unfold tyQ at h
  split at h <;> first | (cases h; done) | skip
  · split at h <;> cases h
  · rename_i n' el' hu
    split at h
    · rename_i s' hs; cases h; exact ⟨hu, hs⟩
    · cases h
  · split at h <;> cases h

theorem tyQ_struct {t : TypeId} {l : List (Nat × Nat × Nat)} (h : tyQ P t = .struct l) :
    ∃ fs, P.underlying t = some (.struct fs) ∧ (l = fs.toList.map fun f => (f.offset, f.type, (sizeQ P f.type).getD 0)) ∧ ∀ f ∈ fs.toList, ∃ s, sizeQ P f.type = some s := by
  unfold tyQ at h
  split at h <;> first | (cases h; done) | skip
  · split at h <;> cases h
  · split at h <;> cases h
  · rename_i fs hu
    split at h
    · rename_i ha
      cases h
      exact ⟨fs, hu, rfl, fun f hf => Option.isSome_iff_exists.1 (List.all_eq_true.1 ha f hf)⟩
    · cases h

theorem tyQ_int {t : TypeId} {k : IntKind} (h : tyQ P t = .int k) : P.underlying t = some (.int k) := by
  unfold tyQ at h
  split at h <;> first | (cases h; done) | skip
  · rename_i k' hu; cases h; exact hu
  · split at h <;> cases h
  · split at h <;> cases h
  · split at h <;> cases h

theorem tyQ_bool {t : TypeId} (h : tyQ P t = .bool) : P.underlying t = some .bool := by
  unfold tyQ at h
  split at h <;> first | (cases h; done) | skip
  · assumption
  · split at h <;> cases h
  · split at h <;> cases h
  · split at h <;> cases h

theorem tyQ_str {t : TypeId} (h : tyQ P t = .str) : P.underlying t = some .string := by
  unfold tyQ at h
  split at h <;> first | (cases h; done) | skip
  · assumption
  · split at h <;> cases h
  · split at h <;> cases h
  · split at h <;> cases h

theorem tyQ_ptr {t el : TypeId} (h : tyQ P t = .ptr el) : P.underlying t = some (.pointer el) := by
  unfold tyQ at h
  split at h <;> first | (cases h; done) | skip
  · rename_i el' hu; cases h; exact hu
  · split at h <;> cases h
  · split at h <;> cases h
  · split at h <;> cases h

theorem tyQ_map {t k e : TypeId} (h : tyQ P t = .map k e) : P.underlying t = some (.map k e) := by
  unfold tyQ at h
  split at h <;> first | (cases h; done) | skip
  · split at h <;> cases h
  · split at h <;> cases h
  · split at h <;> cases h
  · rename_i k' e' hu; cases h; exact hu

theorem tyQ_agg_true {t : TypeId} (h : (tyQ P t).isAgg = some true) : (isAgg t).run P w = .ok true w ∧ ∃ d, P.underlying t = some d := by
  cases hq : tyQ P t with
  | arr n el s => have := (tyQ_arr hq).1; exact ⟨by simp [isAgg, rUnd this], _, this⟩
  | struct l => obtain ⟨fs, hu, _⟩ := tyQ_struct hq; exact ⟨by simp [isAgg, rUnd hu], _, hu⟩
  | _ => rw [hq] at h; cases h

theorem tyQ_func {t : TypeId} (h : tyQ P t = .func) : ∃ a b c, P.underlying t = some (.func a b c) := by
  unfold tyQ at h
  split at h <;> first | (cases h; done) | skip
  · split at h <;> cases h
  · split at h <;> cases h
  · split at h <;> cases h
  · exact ⟨_, _, _, by assumption⟩

theorem tyQ_agg_false {t : TypeId} (h : (tyQ P t).isAgg = some false) : (isAgg t).run P w = .ok false w ∧ ∃ d, P.underlying t = some d := by
  cases hq : tyQ P t with
  | bool => have := tyQ_bool hq; exact ⟨by simp [isAgg, rUnd this], _, this⟩
  | int k => have := tyQ_int hq; exact ⟨by simp [isAgg, rUnd this], _, this⟩
  | str => have := tyQ_str hq; exact ⟨by simp [isAgg, rUnd this], _, this⟩
  | ptr el => have := tyQ_ptr hq; exact ⟨by simp [isAgg, rUnd this], _, this⟩
  | sl el s => have := (tyQ_sl hq).1; exact ⟨by simp [isAgg, rUnd this], _, this⟩
  | map a b => have := tyQ_map hq; exact ⟨by simp [isAgg, rUnd this], _, this⟩
  | func => obtain ⟨a, b, c, this⟩ := tyQ_func hq; exact ⟨by simp [isAgg, rUnd this], _, this⟩
  | arr n el s => rw [hq] at h; cases h
  | struct l => rw [hq] at h; cases h
  | other => rw [hq] at h; cases h
end

/-! ### values -/

theorem gnd0_bRel {σ : Sg} {v : Value} (h : gnd0 v = true) : bRel σ v v := by
  cases v with
  | pointer a => cases a <;> simp [gnd0] at h; rfl
  | slice a l c => cases a <;> simp [gnd0] at h; rfl
  | map a => cases a <;> simp [gnd0] at h; rfl
  | _ => first | rfl | (simp [gnd0] at h)

theorem gnd0_sRel {σ : Sg} {v : Value} (h : gnd0 v = true) : sRel σ v v := by
  have h' : bRel σ v v := gnd0_bRel h
  cases v <;> first | exact h' | (simp [gnd0] at h)

theorem gnd_tRel {σ : Sg} {v : Value} (h : gnd v = true) : tRel σ v v := by
  cases v with
  | agg c =>
    refine ⟨c, rfl, rfl, fun i x y hx hy => ?_⟩
    rw [hx] at hy; cases hy
    simp only [gnd, Array.all_eq_true_iff_forall_mem] at h
    exact gnd0_sRel (h x (Array.mem_of_getElem? hx))
  | _ => simp only [gnd] at h; simp only [tRel]; exact gnd0_sRel h

theorem gnd_vRel {σ : Sg} {v : Value} (h : gnd v = true) : vRel σ v v := by
  cases v with
  | tuple c => simp [gnd, gnd0] at h
  | _ => simp only [vRel]; exact gnd_tRel h

theorem sRel_oneCell {σ : Sg} {x v : Value} (h : sRel σ x v) : v.oneCell' = true := by
  cases x with
  | func f fi ca => obtain ⟨fi', ca', rfl, _⟩ := h; rfl
  | pointer a =>
    cases a with
    | none => cases h; rfl
    | some a => obtain ⟨a', p, rfl, _⟩ := h; rfl
  | slice a l c =>
    cases a with
    | none => cases h; rfl
    | some a => obtain ⟨a', c', p, rfl, _⟩ := h; rfl
  | map a =>
    cases a with
    | none => cases h; rfl
    | some a => obtain ⟨p, _, rfl⟩ := h; rfl
  | _ => first | (cases h; rfl) | exact h.elim

/-- A value's cells, on both sides. -/
theorem vRel_cells {σ : Sg} {x v : Value} (h : vRel σ x v) {c : Array Value} (hc : vcells x = some c) : aaRel (sRel σ) c v.cells := by
  cases x with
  | agg a => obtain ⟨c', rfl, r⟩ := h; cases hc; exact r
  | tuple a => cases hc
  | func f fi ca =>
    cases hc
    have h1 : sRel σ (.func f fi ca) v := h
    obtain ⟨fi', ca', rfl, _⟩ := h
    exact aaRel.one h1
  | pointer a =>
    cases hc
    have h1 : sRel σ (.pointer a) v := h
    cases a with
    | none => cases h; exact aaRel.one h1
    | some a => obtain ⟨a', p, rfl, _⟩ := h; exact aaRel.one h1
  | slice a l c =>
    cases hc
    have h1 : sRel σ (.slice a l c) v := h
    cases a with
    | none => cases h; exact aaRel.one h1
    | some a => obtain ⟨a', c', p, rfl, _⟩ := h; exact aaRel.one h1
  | map a =>
    cases hc
    have h1 : sRel σ (.map a) v := h
    cases a with
    | none => cases h; exact aaRel.one h1
    | some a => obtain ⟨p, _, rfl⟩ := h; exact aaRel.one h1
  | bool b => cases hc; cases h; exact aaRel.one rfl
  | int k n => cases hc; cases h; exact aaRel.one rfl
  | string s => cases hc; cases h; exact aaRel.one rfl
  | nilFunc => cases hc; cases h; exact aaRel.one rfl
  | nilIface => cases hc; cases h; exact aaRel.one rfl
  | _ => exact h.elim

theorem vRel_bool {σ : Sg} {b : Bool} {v : Value} (h : vRel σ (.bool b) v) : v = .bool b := h
theorem vRel_int {σ : Sg} {k : IntKind} {n : Int} {v : Value} (h : vRel σ (.int k n) v) : v = .int k n := h
theorem vRel_string {σ : Sg} {s : ByteArray} {v : Value} (h : vRel σ (.string s) v) : v = .string s := h
theorem vRel_ptr {σ : Sg} {a : Addr} {v : Value} (h : vRel σ (.pointer (some a)) v) : ∃ a' p, v = .pointer (some a') ∧ aRel σ a a' p := h
theorem vRel_sl {σ : Sg} {a : Addr} {l c : Nat} {v : Value} (h : vRel σ (.slice (some a) l c) v) : ∃ a' c' p, v = .slice (some a') l c' ∧ aRel σ a a' p ∧ cRel p a'.off c c' := h
theorem vRel_sl0 {σ : Sg} {l c : Nat} {v : Value} (h : vRel σ (.slice none l c) v) : v = .slice none l c := h
theorem vRel_agg {σ : Sg} {c : Array Value} {v : Value} (h : vRel σ (.agg c) v) : ∃ c', v = .agg c' ∧ aaRel (sRel σ) c c' := h

/-! ### the environment -/

def EnvRel (σ : Sg) (env : Env) (tmps : Array Value) : Prop :=
  ∀ t v, elook env t = some v → ∃ rv, tmps[t]? = some rv ∧ vRel σ v rv

theorem EnvRel.mono {σ τ : Sg} (h : σ.le τ) {env : Env} {tmps : Array Value} (r : EnvRel σ env tmps) : EnvRel τ env tmps :=
  fun t v e => let ⟨rv, h1, h2⟩ := r t v e; ⟨rv, h1, h2.mono h⟩

theorem EnvRel.put {σ : Sg} {env : Env} {tmps : Array Value} (r : EnvRel σ env tmps) {d : Nat} {v rv : Value} (hd : d < tmps.size) (h : vRel σ v rv) :
    EnvRel σ ((d, v) :: env) (tmps.setIfInBounds d rv) := by
  intro t u e
  simp only [elook] at e
  by_cases ht : d = t
  · subst ht
    simp only [if_true] at e
    cases e
    exact ⟨rv, by rw [Array.getElem?_setIfInBounds_self_of_lt hd], h⟩
  · rw [if_neg ht] at e
    obtain ⟨ru, h1, h2⟩ := r t u e
    exact ⟨ru, by rw [Array.getElem?_setIfInBounds_ne ht]; exact h1, h2⟩

theorem ev_sound {σ : Sg} {env : Env} {a : Act} (r : EnvRel σ env a.tmps) {x : Operand} {v : Value} (h : ev env x = some v) : vRel σ v (a.eval x) := by
  cases x with
  | tmp t =>
    obtain ⟨rv, h1, h2⟩ := r t v h
    simp only [Act.eval, Array.getD_eq_getD_getElem?, h1, Option.getD_some]
    exact h2
  | const c =>
    simp only [ev] at h
    split at h
    · cases h; exact gnd_vRel (by assumption)
    · cases h
  | global g => cases h
  | func f => cases h; exact ⟨#[], #[], rfl, .nil _, .nil _⟩

theorem evs_sound {σ : Sg} {env : Env} {a : Act} (r : EnvRel σ env a.tmps) : ∀ {l : List Operand} {vs : List Value}, evs env l = some vs →
    vs.length = l.length ∧ ∀ (i : Nat) (v : Value) (x : Operand), vs[i]? = some v → l[i]? = some x → vRel σ v (a.eval x)
  | [], vs, h => by cases h; exact ⟨rfl, fun i v x h => by simp at h⟩
  | x :: l, vs, h => by
    simp only [evs] at h
    split at h
    · rename_i v vs' h1 h2
      cases h
      obtain ⟨e1, e2⟩ := evs_sound r h2
      refine ⟨by simp [e1], fun i u y hu hy => ?_⟩
      cases i with
      | zero => simp at hu hy; subst hu; subst hy; exact ev_sound r h1
      | succ i => simp at hu hy; exact e2 i u y hu hy
    · cases h

end Go.Lm
/- How turning one object, or moving it, lies in the world. -/
namespace Go.Lm

theorem rw_alive {o : Ob} (h : o.rw = true) : o.alive = true := by
  cases o with
  | cells ro e c => rfl
  | map es => rfl
  | _ => simp [Ob.rw] at h

theorem cell?_congr {w w' : World} {a : Addr} (h : w'.heap[a.block]? = w.heap[a.block]?) : w'.cell? a = w.cell? a := by
  simp only [World.cell?, h]
theorem frozen?_congr {w w' : World} {a : Addr} (h : w'.heap[a.block]? = w.heap[a.block]?) : w'.frozen? a = w.frozen? a := by
  simp only [World.frozen?, h]

/-- What an object asks of the world, at its place. -/
structure ObOk (σ : Sg) (o : Ob) (p : Pl) (w : World) : Prop where
  cel : ∀ ro e c, o = .cells ro e c → p.e = e ∧ ∀ (j : Nat) (x : Value), c[j]? = some x → ∃ v, w.cell? ⟨p.b, p.o + j, none⟩ = some v ∧ sRel σ x v
  own : ∀ e c, o = .cells false e c → p.o + c.size ≤ p.lim ∧ ∃ C T f, w.heap[p.b]? = some (.cells C T f) ∧ p.lim ≤ C.size ∧ ∀ j, j < p.lim → w.frozen? ⟨p.b, j, none⟩ = false
  mp : ∀ es, o = .map es → ∃ ents clk, w.heap[p.b]? = some (.map ents clk) ∧ es.length = ents.size ∧
    ∀ (i : Nat) (x : Value × Value) (en : MapEntry), es[i]? = some x → ents[i]? = some en → x.1 = en.key ∧ (∃ k n, x.1 = .int k n) ∧ sRel σ x.2 en.val

theorem ObOk.mono {σ τ : Sg} (h : σ.le τ) {o : Ob} {p : Pl} {w : World} (r : ObOk σ o p w) : ObOk τ o p w where
  cel ro e c ho := ⟨(r.cel ro e c ho).1, fun j x hx => let ⟨v, h1, h2⟩ := (r.cel ro e c ho).2 j x hx; ⟨v, h1, h2.mono h⟩⟩
  own := r.own
  mp es ho := let ⟨ents, clk, h1, h2, h3⟩ := r.mp es ho; ⟨ents, clk, h1, h2, fun i x en hx he => ⟨(h3 i x en hx he).1, (h3 i x en hx he).2.1, (h3 i x en hx he).2.2.mono h⟩⟩

theorem ObOk.world {σ : Sg} {o : Ob} {p : Pl} {w w' : World} (h : w'.heap[p.b]? = w.heap[p.b]?) (r : ObOk σ o p w) : ObOk σ o p w' where
  cel ro e c ho := ⟨(r.cel ro e c ho).1, fun j x hx => let ⟨v, h1, h2⟩ := (r.cel ro e c ho).2 j x hx; ⟨v, by rw [cell?_congr (a := ⟨p.b, p.o + j, none⟩) h]; exact h1, h2⟩⟩
  own e c ho := by
    obtain ⟨h1, C, T, f, h2, h3, h4⟩ := r.own e c ho
    exact ⟨h1, C, T, f, h.trans h2, h3, fun j hj => by rw [frozen?_congr (a := ⟨p.b, j, none⟩) h]; exact h4 j hj⟩
  mp es ho := by
    obtain ⟨ents, clk, h1, h2⟩ := r.mp es ho
    exact ⟨ents, clk, h.trans h1, h2⟩

theorem Rep.ok {σ : Sg} {M : Nat → Ob} {w : World} (h : Rep σ M w) {k : Nat} {p : Pl} (hp : σ k = some p) : ObOk σ (M k) p w where
  cel ro e c ho := by
    obtain ⟨q, hq, h1, h2⟩ := h.cel k ro e c ho
    rw [hp] at hq; cases hq
    exact ⟨h1, h2⟩
  own e c ho := h.own k e c ho p hp
  mp es ho := by
    obtain ⟨q, ents, clk, hq, h1, h2⟩ := h.mp k es ho
    rw [hp] at hq; cases hq
    exact ⟨ents, clk, h1, h2⟩

theorem Rep.place {σ : Sg} {M : Nat → Ob} {w : World} (h : Rep σ M w) {k : Nat} (ha : (M k).alive = true) : ∃ p, σ k = some p := by
  cases hk : M k with
  | cells ro e c => obtain ⟨p, hp, _⟩ := h.cel k ro e c hk; exact ⟨p, hp⟩
  | map es => obtain ⟨p, _, _, hp, _⟩ := h.mp k es hk; exact ⟨p, hp⟩
  | _ => rw [hk] at ha; cases ha

theorem Rep.mk' {σ : Sg} {M : Nat → Ob} {w : World} (fr : ∀ k, M k = .free → σ k = none) (pl : ∀ k, (M k).alive = true → ∃ p, σ k = some p ∧ ObOk σ (M k) p w)
    (sep : ∀ k k', k ≠ k' → (M k).rw = true → (M k').alive = true → ∀ p p', σ k = some p → σ k' = some p' → p.b ≠ p'.b)
    (bnd : ∀ k p, σ k = some p → p.b < w.heap.size) : Rep σ M w where
  fr := fr
  sep := sep
  bnd := bnd
  cel k ro e c hk := by
    obtain ⟨p, hp, r⟩ := pl k (by rw [hk]; rfl)
    exact ⟨p, hp, (r.cel ro e c hk).1, (r.cel ro e c hk).2⟩
  own k e c hk p hp := by
    obtain ⟨q, hq, r⟩ := pl k (by rw [hk]; rfl)
    rw [hp] at hq; cases hq
    exact r.own e c hk
  mp k es hk := by
    obtain ⟨p, hp, r⟩ := pl k (by rw [hk]; rfl)
    obtain ⟨ents, clk, h⟩ := r.mp es hk
    exact ⟨p, ents, clk, hp, h⟩

/-- One owned object turns in its block. -/
theorem Rep.turn {σ : Sg} {M : Nat → Ob} {w w' : World} (h : Rep σ M w) {k : Nat} {p : Pl} (hp : σ k = some p) (hrw : (M k).rw = true) {o : Ob}
    (ho : ObOk σ o p w') (hfree : o ≠ .free) (hsame : ∀ b, b ≠ p.b → w'.heap[b]? = w.heap[b]?) (hsize : w'.heap.size = w.heap.size) (hos : (w'.os, w'.tape) = (w.os, w.tape)) (hout : w'.output = w.output) (hdr : w.drawn ≤ w'.drawn := by first | assumption | exact Nat.le_refl _ | simp) :
    Rep σ (Mset M k o) w' ∧ Fr σ M w σ (Mset M k o) w' := by
  have hne : ∀ j q, j ≠ k → (M j).alive = true → σ j = some q → q.b ≠ p.b := fun j q hj ha hq e => h.sep k j (Ne.symm hj) hrw ha p q hp hq e.symm
  refine ⟨Rep.mk' ?_ ?_ ?_ ?_, ⟨.refl _, by omega, ?_, ?_, hos, hout, hdr⟩⟩
  · intro j hj
    by_cases e : j = k
    · subst e; rw [Mset_same] at hj; exact absurd hj hfree
    · rw [Mset_ne M _ e] at hj; exact h.fr j hj
  · intro j hj
    by_cases e : j = k
    · subst e; rw [Mset_same]; exact ⟨p, hp, ho⟩
    · rw [Mset_ne M _ e] at hj ⊢
      obtain ⟨q, hq⟩ := h.place hj
      exact ⟨q, hq, (h.ok hq).world (hsame _ (hne j q e hj hq))⟩
  · intro j j' hjj hrj haj q q' hq hq'
    by_cases e : j = k
    · subst e
      have e' : j' ≠ j := Ne.symm hjj
      rw [Mset_ne M _ e'] at haj
      exact h.sep j j' hjj hrw haj q q' hq hq'
    · rw [Mset_ne M _ e] at hrj
      by_cases e' : j' = k
      · subst e'; exact h.sep j j' hjj hrj (rw_alive hrw) q q' hq hq'
      · rw [Mset_ne M _ e'] at haj; exact h.sep j j' hjj hrj haj q q' hq hq'
  · intro j q hq; rw [hsize]; exact h.bnd j q hq
  · intro b _ hb; exact hsame b fun e => hb ⟨k, p, hp, e.symm, hrw⟩
  · rintro b _ ⟨j, q, hq, hqb, hr⟩
    by_cases e : j = k
    · subst e; exact ⟨j, q, hq, hqb, hrw⟩
    · rw [Mset_ne M _ e] at hr; exact ⟨j, q, hq, hqb, hr⟩

/-- One owned object is left, and another takes its block. -/
theorem Rep.move {σ : Sg} {M : Nat → Ob} {w w' : World} (h : Rep σ M w) {k k' : Nat} {p p' : Pl} (hp : σ k = some p) (hrw : (M k).rw = true) (hk' : M k' = .free) (hb : p'.b = p.b) {o : Ob}
    (ho : ObOk σ o p' w') (hfree : o ≠ .free) (hsame : ∀ b, b ≠ p.b → w'.heap[b]? = w.heap[b]?) (hsize : w'.heap.size = w.heap.size) (hos : (w'.os, w'.tape) = (w.os, w.tape)) (hout : w'.output = w.output) (hdr : w.drawn ≤ w'.drawn := by first | assumption | exact Nat.le_refl _ | simp) :
    Rep (Sset σ k' p') (Mset (Mset M k .dead) k' o) w' ∧ Fr σ M w (Sset σ k' p') (Mset (Mset M k .dead) k' o) w' := by
  have hσ := h.fr k' hk'
  have hle : σ.le (Sset σ k' p') := Sset_le hσ
  have hkk : k' ≠ k := fun e => by subst e; rw [hk'] at hrw; cases hrw
  have hne : ∀ j q, j ≠ k → (M j).alive = true → σ j = some q → q.b ≠ p.b := fun j q hj ha hq e => h.sep k j (Ne.symm hj) hrw ha p q hp hq e.symm
  have old : ∀ j, j ≠ k' → (Mset (Mset M k .dead) k' o j).alive = true → j ≠ k ∧ Mset (Mset M k .dead) k' o j = M j := fun j e ha => by
    rw [Mset_ne _ _ e] at ha ⊢
    by_cases e1 : j = k
    · subst e1; simp [Mset, Ob.alive] at ha
    · exact ⟨e1, Mset_ne M _ e1⟩
  have olds : ∀ j q, j ≠ k' → Sset σ k' p' j = some q → σ j = some q := fun j q e hq => by simpa [Sset, e] using hq
  refine ⟨Rep.mk' ?_ ?_ ?_ ?_, ⟨hle, by omega, ?_, ?_, hos, hout, hdr⟩⟩
  · intro j hj
    by_cases e : j = k'
    · subst e; rw [Mset_same] at hj; exact absurd hj hfree
    · rw [Mset_ne _ _ e] at hj
      by_cases e1 : j = k
      · subst e1; simp [Mset] at hj
      · rw [Mset_ne M _ e1] at hj; simp [Sset, e, h.fr j hj]
  · intro j hj
    by_cases e : j = k'
    · subst e; rw [Mset_same]; exact ⟨p', by simp [Sset], ho.mono hle⟩
    · obtain ⟨e1, e2⟩ := old j e hj
      rw [e2] at hj ⊢
      obtain ⟨q, hq⟩ := h.place hj
      exact ⟨q, hle _ _ hq, ((h.ok hq).world (hsame _ (hne j q e1 hj hq))).mono hle⟩
  · intro j j' hjj hrj haj q q' hq hq'
    by_cases e : j = k'
    · subst e
      obtain ⟨e1, e2⟩ := old j' (Ne.symm hjj) haj
      rw [e2] at haj
      have := olds j' q' (Ne.symm hjj) hq'
      simp only [Sset, if_true] at hq
      cases hq
      rw [hb]
      exact fun e => hne j' q' e1 haj this e.symm
    · obtain ⟨e1, e2⟩ := old j e (rw_alive hrj)
      rw [e2] at hrj
      have hq0 := olds j q e hq
      by_cases e' : j' = k'
      · subst e'
        simp only [Sset, if_true] at hq'
        cases hq'
        rw [hb]
        exact hne j q e1 (rw_alive hrj) hq0
      · obtain ⟨e3, e4⟩ := old j' e' haj
        rw [e4] at haj
        exact h.sep j j' hjj hrj haj q q' hq0 (olds j' q' e' hq')
  · intro j q hq
    by_cases e : j = k'
    · subst e; simp only [Sset, if_true] at hq; cases hq; rw [hb, hsize]; exact h.bnd k p hp
    · rw [hsize]; exact h.bnd j q (olds j q e hq)
  · intro b _ hbo; exact hsame b fun e => hbo ⟨k, p, hp, e.symm, hrw⟩
  · rintro b _ ⟨j, q, hq, hqb, hr⟩
    by_cases e : j = k'
    · subst e; simp only [Sset, if_true] at hq; cases hq; exact ⟨k, p, hp, hb.symm.trans hqb, hrw⟩
    · obtain ⟨e1, e2⟩ := old j e (rw_alive hr)
      rw [e2] at hr
      exact ⟨j, q, olds j q e hq, hqb, hr⟩

/-- Nothing turned but a new place for a dead object (garbage of the machine's own). -/
theorem Rep.grown {σ : Sg} {M : Nat → Ob} {w w' : World} (h : Rep σ M w) (hsame : ∀ b, b < w.heap.size → w'.heap[b]? = w.heap[b]?) (hsize : w.heap.size ≤ w'.heap.size) (hos : (w'.os, w'.tape) = (w.os, w.tape)) (hout : w'.output = w.output) (hdr : w.drawn ≤ w'.drawn := by first | assumption | exact Nat.le_refl _ | simp) :
    Rep σ M w' ∧ Fr σ M w σ M w' := by
  refine ⟨Rep.mk' h.fr (fun j hj => ?_) h.sep (fun j q hq => Nat.lt_of_lt_of_le (h.bnd j q hq) hsize), ⟨.refl _, hsize, fun b hb _ => hsame b hb, fun _ _ hb => hb, hos, hout, hdr⟩⟩
  obtain ⟨q, hq⟩ := h.place hj
  exact ⟨q, hq, (h.ok hq).world (hsame _ (h.bnd j q hq))⟩

theorem setL_size : ∀ (vs : List Value) (c : Array Value) (i : Nat), (setL c i vs).size = c.size
  | [], _, _ => rfl
  | v :: r, c, i => by simp [setL, setL_size r]

theorem setL_get : ∀ (vs : List Value) (c : Array Value) (i j : Nat), i + vs.length ≤ c.size →
    (setL c i vs)[j]? = if i ≤ j ∧ j < i + vs.length then vs[j - i]? else c[j]?
  | [], c, i, j, _ => by simp [setL]; intro h1 h2; omega
  | v :: r, c, i, j, h => by
    simp only [List.length_cons] at h
    rw [setL, setL_get r _ (i + 1) j (by simp; omega)]
    by_cases e : i = j
    · subst e
      rw [if_neg (by omega), if_pos (by simp)]
      simp only [Nat.sub_self, List.getElem?_cons_zero]
      exact Array.getElem?_setIfInBounds_self_of_lt (by omega)
    · by_cases h1 : i + 1 ≤ j ∧ j < i + 1 + r.length
      · rw [if_pos h1, if_pos (by simp; omega)]
        rw [show j - i = (j - (i + 1)) + 1 by omega, List.getElem?_cons_succ]
      · rw [if_neg h1, if_neg (by simp; omega), Array.getElem?_setIfInBounds_ne e]

theorem setCells_heap_other : ∀ (vs : List Value) (b o : Nat) (w : World) (k : Nat), k ≠ b → (w.setCells b o vs).heap[k]? = w.heap[k]?
  | [], _, _, _, _, _ => rfl
  | v :: r, b, o, w, k, h => by
    simp only [World.setCells]
    rw [setCells_heap_other r b (o + 1) _ k h, heap_setCell_other w _ k v h]

theorem setCells_size : ∀ (vs : List Value) (b o : Nat) (w : World), (w.setCells b o vs).heap.size = w.heap.size
  | [], _, _, _ => rfl
  | v :: r, b, o, w => by simp only [World.setCells]; rw [setCells_size r]; simp

theorem setCells_os : ∀ (vs : List Value) (b o : Nat) (w : World), ((w.setCells b o vs).os, (w.setCells b o vs).tape) = (w.os, w.tape)
  | [], _, _, _ => rfl
  | v :: r, b, o, w => by simp only [World.setCells]; rw [setCells_os r]; rfl

theorem setCells_out : ∀ (vs : List Value) (b o : Nat) (w : World), (w.setCells b o vs).output = w.output
  | [], _, _, _ => rfl
  | v :: r, b, o, w => by simp only [World.setCells]; rw [setCells_out r]; rfl
theorem setCells_dr : ∀ (vs : List Value) (b o : Nat) (w : World), w.drawn ≤ (w.setCells b o vs).drawn
  | [], _, _, _ => Nat.le_refl _
  | v :: r, b, o, w => by simp only [World.setCells]; refine Nat.le_trans ?_ (setCells_dr r b (o + 1) _); exact Nat.le_refl _

/-- The block behind a row of stores. -/
theorem setCells_heap : ∀ (vs : List Value) (b o : Nat) (w : World) (C : Array Value) (T : TypeId) (f : Nat × Nat), w.heap[b]? = some (.cells C T f) →
    (w.setCells b o vs).heap[b]? = some (.cells (setL C o vs) T f)
  | [], _, _, _, _, _, _, h => h
  | v :: r, b, o, w, C, T, f, h => by
    simp only [World.setCells, setL]
    refine setCells_heap r b (o + 1) _ _ T f ?_
    simp [World.setCell, Array.getElem?_modify, h]

end Go.Lm
/- The operations' soundness, one by one. -/
namespace Go.Lm

def appM (M : Nat → Ob) : List (Nat × Ob) → Nat → Ob
  | [] => M
  | (i, o) :: r => appM (Mset M i o) r

def appE (M : Nat → Ob) (k : Nat) (e : Eff) : Nat → Ob :=
  match e.new with
  | some o => Mset (appM M e.mods) k o
  | none => appM M e.mods

def RanV (σ : Sg) (M : Nat → Ob) (w : World) (k : Nat) (r : Result Value) (e : Eff) : Prop :=
  ∃ σ' w' rv, r = .ok rv w' ∧ vRel σ' e.val rv ∧ Rep σ' (appE M k e) w' ∧ Fr σ M w σ' (appE M k e) w'

section
variable {P : Program} {σ : Sg} {M : Nat → Ob} {w : World}

theorem ranV_pure (hR : Rep σ M w) {k : Nat} {r : Result Value} {v rv : Value} (h : r = .ok rv w) (hv : vRel σ v rv) : RanV σ M w k r { val := v } :=
  ⟨σ, w, rv, h, hv, hR, .refl _ _ _⟩

theorem add_off (a : Addr) (h : a.spot = none) (n : Nat) : a.add n = ⟨a.block, a.off + n, none⟩ := by
  unfold Addr.add
  split
  · subst_vars; cases a; simp at h; simp [h]
  · rfl

/-- the cells of an object, as the machine has them -/
theorem Rep.at (hR : Rep σ M w) {a a' : Addr} {p : Pl} (ha : aRel σ a a' p) {ro : Bool} {e : Nat} {c : Array Value} (hM : M a.block = .cells ro e c) (i : Nat) (x : Value) (hx : c[a.off + i]? = some x) :
    ∃ v, w.cell? (a'.add i) = some v ∧ sRel σ x v := by
  obtain ⟨q, hq, _, h⟩ := hR.cel _ ro e c hM
  rw [ha.2.2.1] at hq; cases hq
  obtain ⟨v, hv, hs⟩ := h _ _ hx
  refine ⟨v, ?_, hs⟩
  rw [add_off a' ha.2.1, ha.2.2.2.1, ha.2.2.2.2, Nat.add_assoc]
  exact hv

theorem run_load_cell {a : Addr} {v : Value} (h : w.cell? a = some v) : (load a).run P w = .ok v w := by simp [h]

theorem loadCells_sound (hR : Rep σ M w) {a a' : Addr} {p : Pl} (ha : aRel σ a a' p) {ro : Bool} {e : Nat} {c : Array Value} (hM : M a.block = .cells ro e c) (n : Nat) (hn : a.off + n ≤ c.size) :
    ∃ C, (loadCells a' n).run P w = .ok C w ∧ aaRel (sRel σ) (c.extract a.off (a.off + n)) C := by
  have hv : ∀ j, j < n → ∃ v, w.cell? (a'.add j) = some v ∧ sRel σ (c.getD (a.off + j) undef) v := fun j hj => by
    have h1 : c[a.off + j]? = some (c.getD (a.off + j) undef) := by
      rw [Array.getD_eq_getD_getElem?, Array.getElem?_eq_getElem (by omega)]; rfl
    exact hR.at ha hM j _ h1
  refine ⟨((List.range n).map fun j => (w.cell? (a'.add j)).getD undef).toArray, ?_, ?_, ?_⟩
  · exact run_loadCells w a' n _ fun j hj => by obtain ⟨v, h1, _⟩ := hv j hj; simp [h1]
  · simp; omega
  · intro i x y hx hy
    rw [Array.getElem?_extract] at hx
    split at hx
    · rename_i hi
      have hin : i < n := by omega
      obtain ⟨v, h1, h2⟩ := hv i hin
      simp [hin, h1] at hy
      subst hy
      rw [Array.getD_eq_getD_getElem?, hx] at h2
      exact h2
    · cases hx

theorem load_sound (hR : Rep σ M w) {t : TypeId} {v rv x : Value} (hv : vRel σ v rv) (h : lload P M t v = some x) :
    ∃ rx, (Instr.loadAt t rv).run P w = .ok rx w ∧ vRel σ x rx := by
  unfold lload at h
  split at h
  case h_2 => cases h
  rename_i a
  obtain ⟨a', p, rfl, ha⟩ := vRel_ptr hv
  split at h
  case h_2 => cases h
  rename_i ro e c hM
  split at h
  · rename_i hq
    obtain ⟨h1, _⟩ := tyQ_agg_true (w := w) hq
    split at h
    case h_2 => cases h
    rename_i s hs
    split at h
    case isFalse => cases h
    rename_i hsz
    cases h
    obtain ⟨C, h2, h3⟩ := loadCells_sound (P := P) hR ha hM s hsz
    exact ⟨.agg C, by simp [Instr.loadAt, Instr.sureAddr, loadVar, h1, rSize hs, h2], C, rfl, h3⟩
  · rename_i hq
    obtain ⟨h1, _⟩ := tyQ_agg_false (w := w) hq
    obtain ⟨v, h2, h3⟩ := hR.at ha hM 0 x (by simpa using h)
    rw [add_off a' ha.2.1, Nat.add_zero] at h2
    have e1 : (⟨a'.block, a'.off, none⟩ : Addr) = a' := by have := ha.2.1; cases a'; simp at this; simp [this]
    rw [e1] at h2
    exact ⟨v, by simp [Instr.loadAt, Instr.sureAddr, loadVar, h1, h2], vRel.of_s h3⟩
  · cases h

theorem aaRel.mem {R : Value → Value → Prop} {xs ys : Array Value} (r : aaRel R xs ys) {y : Value} (h : y ∈ ys.toList) : ∃ x, R x y := by
  rw [Array.mem_toList_iff] at h
  obtain ⟨i, hi, e⟩ := Array.mem_iff_getElem.1 h
  exact ⟨xs[i]'(r.1 ▸ hi), r.2 i _ _ (Array.getElem?_eq_getElem _) (by rw [← e]; exact Array.getElem?_eq_getElem _)⟩

/-- A row of stores into an owned object. -/
theorem storeCells_sound (hR : Rep σ M w) {a a' : Addr} {p : Pl} (ha : aRel σ a a' p) {e : Nat} {c : Array Value} (hM : M a.block = .cells false e c) (i : Nat) {vs rvs : Array Value} (hv : aaRel (sRel σ) vs rvs)
    (hn : a.off + i + vs.size ≤ c.size) :
    ∃ w', (storeCells (a'.add i) rvs.toList).run P w = .ok () w' ∧ Rep σ (Mset M a.block (.cells false e (setL c (a.off + i) vs.toList))) w' ∧ Fr σ M w σ (Mset M a.block (.cells false e (setL c (a.off + i) vs.toList))) w' := by
  obtain ⟨q, hq, he, hcel⟩ := hR.cel _ _ e c hM
  obtain ⟨hlim, C, T, f, hC, hCs, hfz⟩ := hR.own _ e c hM q hq
  have hqp : q = p := by have := ha.2.2.1; rw [hq] at this; cases this; rfl
  subst hqp
  have hadd : a'.add i = ⟨q.b, q.o + a.off + i, none⟩ := by rw [add_off a' ha.2.1, ha.2.2.2.1, ha.2.2.2.2]
  have hcell : ∀ j x, C[j]? = some x → w.cell? ⟨q.b, j, none⟩ = some x := fun j x hx => by rw [cell_of_row w _ _ _ _ _ hC]; exact hx
  refine ⟨w.setCells q.b (q.o + a.off + i) rvs.toList, ?_, ?_⟩
  · rw [hadd]
    have := run_storeCells_cells (P := P) q.b (q.o + a.off + i) rvs.toList 0 w (fun j hj => ?_) (fun j hj => ?_) (fun v hvm => ?_)
    · simpa using this
    · simp only [Array.length_toList] at hj
      rw [Option.isSome_iff_exists]
      exact ⟨_, hcell _ _ (Array.getElem?_eq_getElem (by have := hv.1; omega))⟩
    · simp only [Array.length_toList] at hj
      exact hfz _ (by have := hv.1; omega)
    · obtain ⟨x, hx⟩ := hv.mem hvm; exact sRel_oneCell hx
  · have hnew := setCells_heap rvs.toList q.b (q.o + a.off + i) w C T f hC
    refine hR.turn hq (by rw [hM]; rfl) ⟨?_, ?_, ?_⟩ (by simp) (fun b hb => setCells_heap_other _ _ _ _ _ hb) (setCells_size _ _ _ _) (setCells_os _ _ _ _) (setCells_out _ _ _ _) (setCells_dr _ _ _ _)
    · intro ro' e' c' ho
      cases ho
      refine ⟨he, fun j x hx => ?_⟩
      rw [setL_get _ _ _ _ (by simpa using hn)] at hx
      simp only [Array.length_toList, Array.getElem?_toList] at hx
      simp only [cell_of_row _ _ _ _ _ _ hnew]
      rw [setL_get _ _ _ _ (by simp; have := hv.1; omega)]
      simp only [Array.length_toList, Array.getElem?_toList]
      by_cases hj : a.off + i ≤ j ∧ j < a.off + i + vs.size
      · rw [if_pos hj] at hx
        obtain ⟨y, hy, hs⟩ := hv.get hx
        exact ⟨y, by rw [if_pos (by have := hv.1; omega), show q.o + j - (q.o + a.off + i) = j - (a.off + i) by omega]; exact hy, hs⟩
      · rw [if_neg hj] at hx
        obtain ⟨y, hy, hs⟩ := hcel j x hx
        rw [cell_of_row _ _ _ _ _ _ hC] at hy
        exact ⟨y, by rw [if_neg (by have := hv.1; omega)]; exact hy, hs⟩
    · intro e' c' ho
      cases ho
      refine ⟨by rw [setL_size]; exact hlim, _, _, _, hnew, by rw [setL_size]; exact hCs, fun j hj => ?_⟩
      have := hfz j hj
      simp only [World.frozen?, hC, hnew] at this ⊢
      exact this
    · intro es ho; cases ho

theorem wr_eq (c : Array Value) (off : Nat) (vs : Array Value) (h : off + vs.size ≤ c.size) : wr c off vs = setL c off vs.toList := by
  unfold wr
  split
  · rename_i hc
    obtain ⟨rfl, hs⟩ := hc
    apply Array.ext_getElem?
    intro i
    rw [setL_get _ _ _ _ (by simpa using h)]
    simp only [Nat.zero_le, Nat.zero_add, true_and, Array.length_toList, Nat.sub_zero, Array.getElem?_toList]
    split
    · rfl
    · rw [Array.getElem?_eq_none (by omega), Array.getElem?_eq_none (by omega)]
  · rfl

theorem store_sound (hR : Rep σ M w) {t : TypeId} {addr ra v rv : Value} {k : Nat} {e : Eff} (hp : vRel σ addr ra) (hv : vRel σ v rv) (h : lstore P M t addr v = some e) :
    ∃ w', (Instr.storeAt t ra rv).run P w = .ok () w' ∧ e.val = undef ∧ Rep σ (appE M k e) w' ∧ Fr σ M w σ (appE M k e) w' := by
  unfold lstore at h
  split at h
  case h_2 => cases h
  rename_i a
  obtain ⟨a', p, rfl, ha⟩ := vRel_ptr hp
  split at h
  case h_2 => cases h
  rename_i ee c hM
  split at h
  case h_2 => cases h
  rename_i vs s hvs hs
  split at h
  case isFalse => cases h
  rename_i hc
  cases h
  rw [wr_eq _ _ _ (by omega)]
  have hr := vRel_cells hv hvs
  obtain ⟨w', h1, h2, h3⟩ := storeCells_sound (P := P) hR ha hM 0 hr (by omega)
  have e1 : a'.add 0 = a' := by simp [Addr.add]
  rw [e1] at h1
  refine ⟨w', ?_, rfl, h2, h3⟩
  have hsz : rv.cells.size = s := by rw [← hr.1]; exact hc.1
  simp [Instr.storeAt, Instr.sureAddr, storeVar, rSize hs, hsz, h1]

theorem fieldAddr_sound {t : TypeId} {v rv x : Value} {f : Nat} (hv : vRel σ v rv) (h : lfieldAddr P t v f = some x) :
    ∃ rx, (Instr.fieldAt t rv f).run P w = .ok rx w ∧ vRel σ x rx := by
  unfold lfieldAddr at h
  split at h
  case h_2 => cases h
  rename_i fs a hq
  obtain ⟨a', p, rfl, ha⟩ := vRel_ptr hv
  obtain ⟨fields, hu, hl, _⟩ := tyQ_struct hq
  split at h
  case h_2 => cases h
  rename_i off ty s hf
  split at h
  case isTrue => cases h
  rename_i hs0
  cases h
  subst hl
  rw [List.getElem?_map] at hf
  cases hfd : fields.toList[f]? with
  | none => rw [hfd] at hf; cases hf
  | some fd =>
    rw [hfd] at hf
    simp only [Option.map_some, Option.some.injEq, Prod.mk.injEq] at hf
    obtain ⟨h1, h2, h3⟩ := hf
    cases hsz : sizeQ P fd.type with
    | none => rw [hsz] at h3; simp at h3; omega
    | some s' =>
      rw [hsz] at h3; simp at h3; subst h3
      rw [Array.getElem?_toList] at hfd
      refine ⟨.pointer (some (a'.add fd.offset)), ?_, a'.add fd.offset, p, rfl, rfl, ?_, ha.2.2.1, ?_, ?_⟩
      · simp [Instr.fieldAt, rUnd hu, hfd, Instr.sureAddr, fieldPlace, rSize hsz, hs0]
      · rw [add_off a' ha.2.1]
      · rw [add_off a' ha.2.1]; exact ha.2.2.2.1
      · rw [add_off a' ha.2.1, ← h1]; simp only []; rw [ha.2.2.2.2]; omega

theorem indexAddr_sound {t : TypeId} {v rv ix rix x : Value} (hv : vRel σ v rv) (hi : vRel σ ix rix) (h : lindexAddr P t v ix = some x) :
    ∃ rx, (Instr.indexAt t rv rix).run P w = .ok rx w ∧ vRel σ x rx := by
  unfold lindexAddr at h
  split at h
  · rename_i n el s a k i hq
    obtain ⟨a', p, rfl, ha⟩ := vRel_ptr hv
    cases vRel_int hi
    obtain ⟨hu, hs⟩ := tyQ_arr hq
    split at h
    case isFalse => cases h
    rename_i hb
    cases h
    refine ⟨.pointer (some (a'.add (i.toNat * s))), ?_, a'.add (i.toNat * s), p, rfl, rfl, ?_, ha.2.2.1, ?_, ?_⟩
    · simp [Instr.indexAt, asIntOf, rUnd hu, Instr.sureAddr, rSize hs, hb]
    · rw [add_off a' ha.2.1]
    · rw [add_off a' ha.2.1]; exact ha.2.2.2.1
    · rw [add_off a' ha.2.1]; simp only []; rw [ha.2.2.2.2]; omega
  · rename_i el s a n c k i hq
    obtain ⟨a', c', p, rfl, ha, _⟩ := vRel_sl hv
    cases vRel_int hi
    obtain ⟨hu, hs⟩ := tyQ_sl hq
    split at h
    case isFalse => cases h
    rename_i hb
    cases h
    refine ⟨.pointer (some (a'.add (i.toNat * s))), ?_, a'.add (i.toNat * s), p, rfl, rfl, ?_, ha.2.2.1, ?_, ?_⟩
    · simp [Instr.indexAt, asIntOf, rUnd hu, rSize hs, hb]
    · rw [add_off a' ha.2.1]
    · rw [add_off a' ha.2.1]; exact ha.2.2.2.1
    · rw [add_off a' ha.2.1]; simp only []; rw [ha.2.2.2.2]; omega
  · cases h

theorem part_sound {t : TypeId} {c C : Array Value} (hc : aaRel (sRel σ) c C) {off : Nat} {x : Value} (h : lpart P t c off = some x) :
    ∃ rx, (part t C off).run P w = .ok rx w ∧ vRel σ x rx ∧ (tyQ P t).isAgg ≠ none := by
  unfold lpart at h
  split at h
  · rename_i hq
    obtain ⟨h1, _⟩ := tyQ_agg_true (w := w) hq
    split at h
    case h_2 => cases h
    rename_i s hs
    cases h
    exact ⟨.agg (C.extract off (off + s)), by simp [part, h1, rSize hs], ⟨_, rfl, hc.extract _ _⟩, by simp [hq]⟩
  · rename_i hq
    obtain ⟨h1, _⟩ := tyQ_agg_false (w := w) hq
    obtain ⟨y, hy, hs⟩ := hc.get h
    exact ⟨y, by simp [part, h1, hy], vRel.of_s hs, by simp [hq]⟩
  · cases h

theorem index_sound {t : TypeId} {v rv ix rix x : Value} (hv : vRel σ v rv) (hi : vRel σ ix rix) (h : lindex P t v ix = some x) :
    ∃ rx, (Instr.index t rv rix).run P w = .ok rx w ∧ vRel σ x rx := by
  unfold lindex at h
  split at h
  · rename_i n el s c k i hq
    obtain ⟨C, rfl, hC⟩ := vRel_agg hv
    cases vRel_int hi
    obtain ⟨hu, hs⟩ := tyQ_arr hq
    split at h
    case isFalse => cases h
    rename_i hb
    obtain ⟨rx, h1, h2, _⟩ := part_sound (w := w) hC h
    exact ⟨rx, by simp [Instr.index, asIntOf, rUnd hu, rSize hs, hb, h1], h2⟩
  · rename_i b k i hq
    cases vRel_string hv
    cases vRel_int hi
    have hu := tyQ_str hq
    split at h
    case isFalse => cases h
    rename_i hb
    split at h
    case h_2 => cases h
    rename_i u hx
    cases h
    exact ⟨.int .u8 u.toNat, by simp [Instr.index, asIntOf, rUnd hu, hb, hx], rfl⟩
  · cases h

theorem field_sound {t : TypeId} {v rv x : Value} {f : Nat} (hv : vRel σ v rv) (h : lfield P t v f = some x) :
    ∃ rx, (Instr.field t rv f).run P w = .ok rx w ∧ vRel σ x rx := by
  unfold lfield at h
  split at h
  case h_2 => cases h
  rename_i fs c hq
  obtain ⟨C, rfl, hC⟩ := vRel_agg hv
  obtain ⟨fields, hu, hl, _⟩ := tyQ_struct hq
  subst hl
  split at h
  case h_2 => cases h
  rename_i off ty s hf
  rw [List.getElem?_map] at hf
  cases hfd : fields.toList[f]? with
  | none => rw [hfd] at hf; cases hf
  | some fd =>
    rw [hfd] at hf
    simp only [Option.map_some, Option.some.injEq, Prod.mk.injEq] at hf
    obtain ⟨h1, h2, h3⟩ := hf
    subst h1; subst h2
    rw [Array.getElem?_toList] at hfd
    obtain ⟨rx, h4, h5, _⟩ := part_sound (w := w) hC h
    exact ⟨rx, by simp [Instr.field, rUnd hu, hfd, asAgg, h4], h5⟩
end

end Go.Lm
/- The operations' soundness: numbers, equality, building. -/
namespace Go.Lm

section
variable {P : Program} {σ : Sg} {M : Nat → Ob} {w : World}

theorem lint_sound {op : BinOp} {k : IntKind} {a b : Int} {x : Value} (h : lint op k a b = some x) (hs : op ≠ .shl) (hs' : op ≠ .shr) (t : TypeId) :
    (binOp op t (.int k a) (.int k b)).run P w = .ok x w ∧ (∃ n, x = .int k n) ∨ (binOp op t (.int k a) (.int k b)).run P w = .ok x w ∧ (∃ n, x = .bool n) := by
  cases op <;> simp only [lint, Option.some.injEq] at h <;> first
    | (cases h; exact .inl ⟨by simp [binOp, Op.intArith, Op.intBits], _, rfl⟩)
    | (cases h; exact .inr ⟨by simp [binOp, Op.intCmp], _, rfl⟩)
    | (split at h
       · cases h
       · rename_i h0; cases h; exact .inl ⟨by simp [binOp, Op.intDiv, h0], _, rfl⟩)
    | exact absurd rfl hs
    | exact absurd rfl hs'
    | cases h

theorem lstr_sound {op : BinOp} {a b : ByteArray} {x : Value} (h : lstr op a b = some x) (t : TypeId) :
    (binOp op t (.string a) (.string b)).run P w = .ok x w ∧ gnd0 x = true := by
  cases op <;> simp only [lstr, Option.some.injEq] at h <;> first
    | (cases h; exact ⟨by simp [binOp, Op.stringOp], rfl⟩)
    | (split at h
       · cases h
       · rename_i h0; cases h; exact ⟨by simp only [binOp, Op.stringOp, h0, if_false, Sem.run_pure], rfl⟩)
    | cases h

/-- a loop that ands -/
theorem leq_sound : ∀ (d : Nat) (t : TypeId) (x y rx ry : Value) (b : Bool), leq P d t x y = some b → vRel σ x rx → vRel σ y ry → ∀ D, d ≤ D → (Op.equalIn D t rx ry).run P w = .ok b w := by
  intro d
  induction d with
  | zero => intro t x y rx ry b h; cases h
  | succ d ih =>
    intro t x y rx ry b h hx hy D hD
    obtain ⟨D, rfl⟩ : ∃ m, D = m + 1 := ⟨D - 1, by omega⟩
    unfold leq at h
    split at h
    · rename_i hq
      cases vRel_bool hx; cases vRel_bool hy; cases h
      exact run_equalIn_bool' w D t _ _ (tyQ_bool hq)
    · rename_i hq
      cases vRel_int hx; cases vRel_int hy
      split at h
      · rename_i hk; subst hk; cases h
        exact run_equalIn_int w D t _ _ _ _ (tyQ_int hq)
      · cases h
    · rename_i hq
      cases vRel_string hx; cases vRel_string hy; cases h
      rw [run_equalIn_string w D t _ _ (tyQ_str hq), beq_toListBytes]
    · rename_i l xs ys hq
      obtain ⟨X, rfl, hX⟩ := vRel_agg hx
      obtain ⟨Y, rfl, hY⟩ := vRel_agg hy
      split at h
      case h_2 => cases h
      rename_i fl hfl
      unfold eqFsQ at hfl
      split at hfl
      case h_2 => cases hfl
      rename_i fs hu
      split at hfl
      case isTrue => cases hfl
      rename_i hst
      cases hfl
      have hst' : P.stoodInHeld t = false := by simpa using hst
      have hf : P.fieldsOf t = fs := by simp [Program.fieldsOf, hu]
      rw [run_equalIn_struct w D t X Y (by rw [hf]; exact hu) hst', hf]
      generalize fs.toList = l at h
      clear hf hu
      induction l generalizing b with
      | nil => simp at h; subst h; rfl
      | cons f r ihl =>
        simp only [Op.eqFields]
        by_cases hn : f.name = "_"
        · have hn' : (f.name != "_") = false := by simp [hn]
          rw [List.filter_cons_of_neg (by rw [hn']; simp)] at h
          simp only [hn, ne_eq, not_true_eq_false, if_false]
          exact ihl b h
        · have hn' : (f.name != "_") = true := by simp [hn]
          rw [List.filter_cons_of_pos (by rw [hn'])] at h
          simp only [List.map_cons, List.foldr_cons] at h
          split at h
          case h_2 => cases h
          rename_i a c ha hc
          split at h
          case h_2 => cases h
          rename_i p q hp hr
          cases h
          obtain ⟨ra, h1, h2, _⟩ := part_sound (w := w) hX ha
          obtain ⟨rc, h3, h4, _⟩ := part_sound (w := w) hY hc
          have h5 := ih _ _ _ _ _ _ hp h2 h4 D (by omega)
          have h6 := ihl q hr
          cases p
          · simp [hn, h1, h3, h5]
          · simp [hn, h1, h3, h5, h6]
    · rename_i n el s xs ys hq
      obtain ⟨X, rfl, hX⟩ := vRel_agg hx
      obtain ⟨Y, rfl, hY⟩ := vRel_agg hy
      obtain ⟨hu, hs⟩ := tyQ_arr hq
      simp only [Op.equalIn, Sem.run_bind, rUnd hu, Result.andThen_ok, rSize hs]
      simp only [Std.Legacy.Range.forIn_eq_forIn_range', Std.Legacy.Range.size, Nat.sub_zero, Nat.add_sub_cancel, Nat.div_one]
      rw [List.range_eq_range'] at h
      generalize List.range' 0 n 1 = l at h ⊢
      induction l generalizing b with
      | nil => simp at h; subst h; simp
      | cons i r ihl =>
        simp only [List.foldr_cons] at h
        split at h
        case h_2 => cases h
        rename_i a c ha hc
        split at h
        case h_2 => cases h
        rename_i p q hp hr
        cases h
        obtain ⟨ra, h1, h2, _⟩ := part_sound (w := w) hX ha
        obtain ⟨rc, h3, h4, _⟩ := part_sound (w := w) hY hc
        have h5 := ih _ _ _ _ _ _ hp h2 h4 D (by omega)
        have h6 := ihl q hr
        cases p
        · simp [h1, h3, h5]
        · simp only [List.forIn_cons, Sem.run_bind, h1, h3, h5, Result.andThen_ok, Bool.not_true, Bool.false_eq_true, if_false, Sem.run_pure, Bool.true_and]
          exact h6
    · cases h

theorem leq_bool {d : Nat} {t : TypeId} {x y : Value} {v : Value} (h : (leq P d t x y).map Value.bool = some v) : ∃ b, leq P d t x y = some b ∧ v = .bool b := by
  cases hq : leq P d t x y with
  | none => rw [hq] at h; cases h
  | some b => rw [hq] at h; cases h; exact ⟨b, rfl, rfl⟩

theorem run_equalIn_ptr_nil (d : Nat) (t el : TypeId) (a : Option Addr) (h : P.underlying t = some (.pointer el)) : (Op.equalIn (d + 1) t (.pointer a) (.pointer none)).run P w = .ok a.isNone w := by
  cases a <;> simp [Op.equalIn, rUnd h]
theorem run_equalIn_sl_nil (d : Nat) (t el : TypeId) (a : Option Addr) (l c l' c' : Nat) (h : P.underlying t = some (.slice el)) : (Op.equalIn (d + 1) t (.slice a l c) (.slice none l' c')).run P w = .ok a.isNone w := by
  cases a <;> simp [Op.equalIn, rUnd h]

theorem lbin_sound {op : BinOp} {t : TypeId} {x y rx ry v : Value} (o1 o2 : Operand) (hx : vRel σ x rx) (hy : vRel σ y ry) (h : lbin P op t x y = some v) :
    ∃ rv, (do eqGuard op t o1 o2 rx ry; binOp op t rx ry).run P w = .ok rv w ∧ vRel σ v rv := by
  unfold lbin at h
  split at h
  · rename_i k a k' b
    cases vRel_int hx; cases vRel_int hy
    have hg : (eqGuard op t o1 o2 (.int k a) (.int k' b)).run P w = .ok () w := by
      unfold eqGuard; split <;> rfl
    split at h
    · split at h
      · rename_i hb
        cases h
        exact ⟨_, by simp [hg, binOp, Op.shift, Int.not_lt.2 hb], rfl⟩
      · cases h
    · split at h
      · rename_i hb
        cases h
        exact ⟨_, by simp [hg, binOp, Op.shift, Int.not_lt.2 hb], rfl⟩
      · cases h
    · rename_i n1 n2
      split at h
      · rename_i hk; subst hk
        rcases lint_sound (P := P) (w := w) h (fun e => n1 (by simp [e])) (fun e => n2 (by simp [e])) t with ⟨h1, n, rfl⟩ | ⟨h1, n, rfl⟩
        · exact ⟨_, by simp [hg, h1], rfl⟩
        · exact ⟨_, by simp [hg, h1], rfl⟩
      · cases h
  · rename_i a b
    cases vRel_string hx; cases vRel_string hy
    have hg : (eqGuard op t o1 o2 (.string a) (.string b)).run P w = .ok () w := by
      unfold eqGuard; split <;> rfl
    obtain ⟨h1, h2⟩ := lstr_sound (P := P) (w := w) h t
    exact ⟨v, by simp [hg, h1], by cases v <;> first | exact gnd_vRel (by exact h2) | cases h2⟩
  · rename_i a b
    cases vRel_bool hx; cases vRel_bool hy
    have hg : (eqGuard op t o1 o2 (.bool a) (.bool b)).run P w = .ok () w := by
      unfold eqGuard; split <;> rfl
    split at h
    · rename_i hq
      cases h
      exact ⟨_, by simp [hg, binOp, Op.equal, Op.maxDepth, run_equalIn_bool' w 9999 t a b (tyQ_bool hq)], rfl⟩
    · rename_i hq
      cases h
      exact ⟨_, by simp [hg, binOp, Op.equal, Op.maxDepth, run_equalIn_bool' w 9999 t a b (tyQ_bool hq)], rfl⟩
    · cases h
  · rename_i a
    cases (show ry = .pointer none from hy)
    obtain ⟨ra, rfl, hn⟩ : ∃ ra, rx = .pointer ra ∧ ra.isNone = a.isNone := by
      cases a with
      | none => exact ⟨none, hx, rfl⟩
      | some a => obtain ⟨a', p, e, _⟩ := vRel_ptr hx; exact ⟨_, e, rfl⟩
    have hg : (eqGuard op t o1 o2 (.pointer ra) (.pointer none)).run P w = .ok () w := by
      unfold eqGuard; split <;> rfl
    split at h
    · rename_i el hq
      cases h
      exact ⟨_, by simp [hg, binOp, Op.equal, Op.maxDepth, run_equalIn_ptr_nil 9999 t el ra (tyQ_ptr hq), hn], rfl⟩
    · rename_i el hq
      cases h
      exact ⟨_, by simp [hg, binOp, Op.equal, Op.maxDepth, run_equalIn_ptr_nil 9999 t el ra (tyQ_ptr hq), hn], rfl⟩
    · cases h
  · rename_i a l c l' c'
    cases (show ry = .slice none l' c' from hy)
    obtain ⟨ra, rl, rc, rfl, hn⟩ : ∃ ra rl rc, rx = .slice ra rl rc ∧ ra.isNone = a.isNone := by
      cases a with
      | none => exact ⟨none, _, _, hx, rfl⟩
      | some a => obtain ⟨a', c', p, e, _⟩ := vRel_sl hx; exact ⟨_, _, _, e, rfl⟩
    have hg : (eqGuard op t o1 o2 (.slice ra rl rc) (.slice none l' c')).run P w = .ok () w := by
      unfold eqGuard; split <;> rfl
    split at h
    · rename_i el s hq
      cases h
      exact ⟨_, by simp [hg, binOp, Op.equal, Op.maxDepth, run_equalIn_sl_nil 9999 t el ra rl rc l' c' (tyQ_sl hq).1, hn], rfl⟩
    · rename_i el s hq
      cases h
      exact ⟨_, by simp [hg, binOp, Op.equal, Op.maxDepth, run_equalIn_sl_nil 9999 t el ra rl rc l' c' (tyQ_sl hq).1, hn], rfl⟩
    · cases h
  · rename_i xs ys
    obtain ⟨X, rfl, hX⟩ := vRel_agg hx
    obtain ⟨Y, rfl, hY⟩ := vRel_agg hy
    split at h
    case isTrue => cases h
    rename_i hgd
    have hg := run_eqGuard_agg (P := P) w op t o1 o2 X Y (by simpa using hgd)
    split at h
    · obtain ⟨b, hb, rfl⟩ := leq_bool h
      have h1 := leq_sound (w := w) 8 t _ _ _ _ b hb hx hy 10000 (by omega)
      exact ⟨.bool b, by simp [hg, binOp, Op.equal, Op.maxDepth, h1], rfl⟩
    · cases hq : leq P 8 t (.agg xs) (.agg ys) with
      | none => rw [hq] at h; cases h
      | some b =>
        rw [hq] at h; cases h
        have h1 := leq_sound (w := w) 8 t _ _ _ _ b hq hx hy 10000 (by omega)
        exact ⟨.bool (!b), by simp [hg, binOp, Op.equal, Op.maxDepth, h1], rfl⟩
    · cases h
  · cases h

theorem lun_sound {op : UnOp} {x rx v : Value} (hx : vRel σ x rx) (h : lun op x = some v) : ∃ rv, (Op.unary op rx).run P w = .ok rv w ∧ vRel σ v rv := by
  unfold lun at h
  split at h
  · cases vRel_int hx; cases h; exact ⟨_, by simp [Op.unary, Op.intArith], rfl⟩
  · cases vRel_int hx; cases h; exact ⟨_, by simp [Op.unary, Op.intBits], rfl⟩
  · cases vRel_bool hx; cases h; exact ⟨_, by simp [Op.unary], rfl⟩
  · cases h

theorem aaRel.setL {R : Value → Value → Prop} : ∀ {vs rvs : List Value} {xs ys : Array Value} (i : Nat), aaRel R xs ys → aaRel R vs.toArray rvs.toArray →
    aaRel R (setL xs i vs) (rvs.zipIdx.foldl (fun cs (c, j) => cs.setIfInBounds (i + j) c) ys)
  | vs, rvs, xs, ys, i, h, h' => by
    have key : ∀ (vs rvs : List Value) (xs ys : Array Value) (n : Nat), vs.length = rvs.length → (∀ (j : Nat) (x y : Value), vs[j]? = some x → rvs[j]? = some y → R x y) → aaRel R xs ys →
        aaRel R (Go.Lm.setL xs (i + n) vs) ((rvs.zipIdx n).foldl (fun cs (c, j) => cs.setIfInBounds (i + j) c) ys) := by
      intro vs
      induction vs with
      | nil => intro rvs xs ys n hl _ h; cases rvs with | nil => exact h | cons a b => simp at hl
      | cons v r ih =>
        intro rvs xs ys n hl hr h
        cases rvs with
        | nil => simp at hl
        | cons rv rr =>
          simp only [List.zipIdx_cons, List.foldl_cons, Go.Lm.setL]
          have := ih rr (xs.setIfInBounds (i + n) v) (ys.setIfInBounds (i + n) rv) (n + 1) (by simpa using hl) (fun j x y hx hy => hr (j + 1) x y (by simpa using hx) (by simpa using hy)) (h.set _ (hr 0 v rv (by simp) (by simp)))
          rwa [← Nat.add_assoc] at this
    exact key vs rvs xs ys 0 (by simpa using h'.1) (fun j x y hx hy => h'.2 j x y (by simpa using hx) (by simpa using hy)) h

theorem lfill_sound {place place' : Nat → Option (Nat × Nat)} : ∀ (parts : List (Nat × Value)) (rparts : List (Nat × Value)) (cells rcells c : Array Value),
    (∀ i off s, place i = some (off, s) → place' i = some (off, s)) → parts.length = rparts.length →
    (∀ (j : Nat) (x y : Nat × Value), parts[j]? = some x → rparts[j]? = some y → x.1 = y.1 ∧ vRel σ x.2 y.2) → aaRel (sRel σ) cells rcells → lfill place cells parts = some c →
    ∃ C, Instr.fill place' rcells rparts = some C ∧ aaRel (sRel σ) c C
  | [], rparts, cells, rcells, c, _, hl, _, hc, h => by
    cases rparts with
    | nil => cases h; exact ⟨rcells, rfl, hc⟩
    | cons a b => simp at hl
  | (i, v) :: rest, rparts, cells, rcells, c, hp, hl, hr, hc, h => by
    cases rparts with
    | nil => simp at hl
    | cons y rr =>
      obtain ⟨i', rv⟩ := y
      obtain ⟨e1, e2⟩ := hr 0 (i, v) (i', rv) (by simp) (by simp)
      simp only at e1 e2
      subst e1
      simp only [lfill] at h
      split at h
      case h_2 => cases h
      rename_i off size vs hpl hvs
      split at h
      case isFalse => cases h
      rename_i hcond
      have hcells := vRel_cells e2 hvs
      have hset := aaRel.setL (R := sRel σ) (vs := vs.toList) (rvs := rv.cells.toList) off hc (by simpa using hcells)
      obtain ⟨C, h1, h2⟩ := lfill_sound rest rr _ _ c hp (by simpa using hl) (fun j x y hx hy => hr (j + 1) x y (by simpa using hx) (by simpa using hy)) hset h
      refine ⟨C, ?_, h2⟩
      simp only [Instr.fill, hp _ _ _ hpl]
      rw [if_neg]
      · rw [← Array.foldl_toList, Array.toList_zipIdx]; exact h1
      · have h3 := hcells.1; have h4 := hc.1
        simp
        omega

theorem zero_rel {t : TypeId} {z : Value} (h : zeroQ P t = some z) : aaRel (sRel σ) z.cells z.cells := by
  have := zeroQ_gnd h
  have hv := gnd_vRel (σ := σ) this
  cases z with
  | tuple c => cases this
  | _ => exact vRel_cells hv rfl

theorem mapM_sizes : ∀ (l : List Field), (∀ f ∈ l, ∃ s, sizeQ P f.type = some s) →
    (l.mapM fun f => (do pure (f.offset, ← sizeOf f.type) : Sem (Nat × Nat))).run P w = .ok (l.map fun f => (f.offset, (sizeQ P f.type).getD 0)) w
  | [], _ => by simp
  | f :: r, hall => by
    obtain ⟨s, hs⟩ := hall f (by simp)
    have ih := mapM_sizes r (fun g hg => hall g (by simp [hg]))
    simp only [List.mapM_cons, Sem.run_bind, rSize hs, Result.andThen_ok, Sem.run_pure, ih, List.map_cons, hs, Option.getD_some]

theorem build_sound {t : TypeId} {parts rparts : List (Nat × Value)} {v : Value} (hl : parts.length = rparts.length)
    (hr : ∀ (j : Nat) (x y : Nat × Value), parts[j]? = some x → rparts[j]? = some y → x.1 = y.1 ∧ vRel σ x.2 y.2) (h : lbuild P t parts = some v) :
    ∃ rv, (Instr.build t rparts.toArray).run P w = .ok rv w ∧ vRel σ v rv := by
  unfold lbuild at h
  split at h
  case h_2 => cases h
  rename_i z hz
  have hzr := zero_rel (σ := σ) hz
  split at h
  · rename_i fs hq
    obtain ⟨fields, hu, hfs, hall⟩ := tyQ_struct hq
    cases hf : lfill (fun i => (fs[i]?).map fun f => (f.1, f.2.2)) z.cells parts with
    | none => rw [hf] at h; cases h
    | some c =>
      rw [hf] at h; cases h
      obtain ⟨C, h1, h2⟩ := lfill_sound (σ := σ) (place' := (((fields.toList.map fun f => (f.offset, (sizeQ P f.type).getD 0)).toArray)[·]?)) parts rparts z.cells z.cells c (fun i off s hi => by
        subst hfs
        simp only [List.getElem?_map, Option.map_map] at hi
        simp only [List.getElem?_toArray, List.getElem?_map]
        cases hfd : fields.toList[i]? with
        | none => rw [hfd] at hi; cases hi
        | some fd => rw [hfd] at hi; simpa using hi) hl hr hzr hf
      refine ⟨.agg C, ?_, C, rfl, h2⟩
      have hm : (fields.mapM fun f => (do pure (f.offset, ← sizeOf f.type) : Sem (Nat × Nat))).run P w = .ok (fields.toList.map fun f => (f.offset, (sizeQ P f.type).getD 0)).toArray w := by
        rw [Array.mapM_eq_mapM_toList]
        simp only [Sem.run_map]
        rw [mapM_sizes fields.toList hall]
        rfl
      unfold Instr.build
      simp only [Sem.run_bind, rZero hz, rUnd hu, Result.andThen_ok, hm]
      rw [h1]
      rfl
  · rename_i n el s hq
    obtain ⟨hu, hs⟩ := tyQ_arr hq
    cases hf : lfill (fun i => some (i * s, s)) z.cells parts with
    | none => rw [hf] at h; cases h
    | some c =>
      rw [hf] at h; cases h
      obtain ⟨C, h1, h2⟩ := lfill_sound (σ := σ) (place' := fun i => some (i * s, s)) parts rparts z.cells z.cells c (fun i off s hi => hi) hl hr hzr hf
      exact ⟨.agg C, by simp [Instr.build, rZero hz, rUnd hu, rSize hs, h1], C, rfl, h2⟩
  · cases h
end
end Go.Lm
/- The operations' soundness: slices, conversions, builtins. -/
namespace Go.Lm

section
variable {P : Program} {σ : Sg} {M : Nat → Ob} {w : World}

theorem zeros_rel {z z' : Array Value} (h : aaRel (sRel σ) z z') (n : Nat) (hz : 0 < z.size ∨ n = 0) : aaRel (sRel σ) (zeros z n) ((Array.range n).map (z'[· % z'.size]!)) := by
  refine ⟨by simp [zeros], fun i x y hx hy => ?_⟩
  simp only [zeros, Array.getElem?_map] at hx hy
  by_cases hi : i < n
  · have hr : (Array.range n)[i]? = some i := by simp [hi]
    rw [hr] at hx hy
    simp only [Option.map_some, Option.some.injEq] at hx hy
    have h0 : 0 < z.size := hz.resolve_right (by omega)
    have hm : i % z.size < z.size := Nat.mod_lt _ h0
    have h1 : z[i % z.size]? = some (z[i % z.size]!) := by rw [Array.getElem?_eq_getElem hm, getElem!_pos z _ hm]
    obtain ⟨v, h2, h3⟩ := h.get h1
    have hv : z'[i % z'.size]! = v := by
      rw [← h.1]
      have : i % z.size < z'.size := by rw [← h.1]; exact hm
      rw [getElem!_pos z' _ this]
      rw [Array.getElem?_eq_getElem this] at h2
      exact Option.some.inj h2
    rw [← hx, ← hy, hv]
    exact h3
  · have hr : (Array.range n)[i]? = none := by simp; omega
    rw [hr] at hx
    cases hx

theorem zeros_size (z : Array Value) (n : Nat) : (zeros z n).size = n := by simp [zeros]

/-- A new row, as a slice. -/
theorem newRow_sound (hR : Rep σ M w) {k : Nat} (hk : M k = .free) (el s : Nat) {c C : Array Value} (h : aaRel (sRel σ) c C) (l cap : Nat) :
    RanV σ M w k ((do pure (Value.slice (some (← newRow el C)) l cap) : Sem Value).run P w) { val := .slice (some ⟨k, 0, none⟩) l cap, new := some (.cells false s c) } := by
  obtain ⟨h1, h2⟩ := hR.alloc hk el s c C (by rw [h.1]; exact Nat.le_refl _) (fun j x hx => h.get hx)
  refine ⟨_, _, .slice (some ⟨w.heap.size, 0, none⟩) l cap, ?_, ?_, h1, h2⟩
  · simp [newRow]
  · exact ⟨⟨w.heap.size, 0, none⟩, cap, ⟨w.heap.size, 0, s, C.size⟩, rfl, ⟨rfl, rfl, by simp [Sset], rfl, by simp⟩, .inl rfl⟩

theorem buildSlice_sound (hR : Rep σ M w) {k : Nat} (hk : M k = .free) {t : TypeId} {len : Nat} {parts rparts : List (Nat × Value)} {e : Eff} (hl : parts.length = rparts.length)
    (hr : ∀ (j : Nat) (x y : Nat × Value), parts[j]? = some x → rparts[j]? = some y → x.1 = y.1 ∧ vRel σ x.2 y.2) (h : lbuildSlice P k t len parts = some e) :
    RanV σ M w k ((Instr.buildSlice t len rparts.toArray).run P w) e := by
  unfold lbuildSlice at h
  split at h
  case h_2 => cases h
  rename_i el s hq
  obtain ⟨hu, hs⟩ := tyQ_sl hq
  split at h
  case h_2 => cases h
  rename_i z hz
  split at h
  case isFalse => cases h
  rename_i hc
  split at h
  case h_2 => cases h
  rename_i c hf
  cases h
  have hzr := zero_rel (σ := σ) hz
  have hzs := zeros_rel hzr (len * s) (.inl (by omega))
  obtain ⟨C, h1, h2⟩ := lfill_sound (σ := σ) (place' := fun i => some (i * s, s)) parts rparts _ _ c (fun i off s hi => hi) hl hr hzs hf
  have := newRow_sound (P := P) hR hk el s h2 len len
  unfold Instr.buildSlice
  simp only [Sem.run_bind, rUnd hu, Result.andThen_ok, rSize hs]
  rw [if_neg (by omega)]
  by_cases h0 : len * s = 0
  · rw [if_pos h0]
    simp only [pure_bind]
    have he : (Array.range (len * s)).map (fun x => (#[] : Array Value)[x % (#[] : Array Value).size]!) = (Array.range (len * s)).map (fun x => z.cells[x % z.cells.size]!) := by simp [h0]
    rw [he]
    simp only [h1]
    exact this
  · rw [if_neg h0]
    simp only [pure_bind, Sem.run_bind, rZero hz, Result.andThen_ok]
    simp only [h1]
    exact this

theorem makeSlice_sound (hR : Rep σ M w) {k : Nat} (hk : M k = .free) {t : TypeId} {ln cp rln rcp : Value} {e : Eff} (h1 : vRel σ ln rln) (h2 : vRel σ cp rcp) (h : lmakeSlice P k t ln cp = some e) :
    RanV σ M w k ((Instr.makeSlice t rln rcp).run P w) e := by
  unfold lmakeSlice at h
  split at h
  case h_2 => cases h
  rename_i el s k1 l k2 c hq
  cases vRel_int h1; cases vRel_int h2
  obtain ⟨hu, hs⟩ := tyQ_sl hq
  split at h
  case h_2 => cases h
  rename_i z by_ hz hb
  split at h
  case isFalse => cases h
  rename_i hc
  cases h
  obtain ⟨i, hi, hib⟩ : ∃ i, P.info? el = some i ∧ i.bytes = by_ := by
    cases hi : P.info? el with
    | none => rw [hi] at hb; cases hb
    | some i => rw [hi] at hb; cases hb; exact ⟨i, rfl, rfl⟩
  subst hib
  have hzr := zero_rel (σ := σ) hz
  have hzs := zeros_rel hzr (c.toNat * s) (.inl (by omega))
  have := newRow_sound (P := P) hR hk el s hzs l.toNat c.toNat
  have hwl : IntKind.i64.wrap l = l := by simp [IntKind.wrap, IntKind.bits, IntKind.signed]; omega
  have hwc : IntKind.i64.wrap c = c := by simp [IntKind.wrap, IntKind.bits, IntKind.signed]; omega
  have hn1 : ¬ ((i.bytes : Int) * c > 2 ^ 48) := by omega
  have hcond : ((decide (c < 0) || decide ((i.bytes : Int) * c > 2 ^ 48)) || decide (l < 0) || decide (l > c)) = false := by simp; omega
  unfold Instr.makeSlice
  simp only [Sem.run_bind, rUnd hu, Result.andThen_ok, asInt, asIntOf, rInfo hi, hwl, hwc, Sem.run_pure]
  rw [if_neg (by rw [hcond]; simp)]
  simp only [pure_bind, Sem.run_bind, run_askRoom, Result.andThen_ok, rSize hs]
  by_cases h0 : c.toNat * s = 0
  · rw [if_pos h0]
    try simp only [Sem.run_pure, Result.andThen_ok]
    have he : (Array.range (c.toNat * s)).map (fun x => (#[] : Array Value)[x % (#[] : Array Value).size]!) = (Array.range (c.toNat * s)).map (fun x => z.cells[x % z.cells.size]!) := by simp [h0]
    rw [he]
    exact this
  · rw [if_neg h0]
    simp only [Sem.run_bind, rZero hz, Result.andThen_ok, Sem.run_pure]
    exact this

theorem sliceBound_sound {k : IntKind} {i : Int} {y : Nat} {code : BoundsCode} (h0 : 0 ≤ i) (h1 : i ≤ y) : (Instr.sliceBound (.int k i) y code).run P w = .ok i.toNat w := by
  simp [Instr.sliceBound, asIntOf, h0, h1]

/-- An optional int, on both sides. -/
def optRel (o : Option Int) (r : Option Value) : Prop :=
  match o with
  | none => r = none
  | some n => ∃ k, r = some (.int k n)

theorem bounds_sound {isSlice : Bool} {len cap rcap : Nat} {low high mx : Option Int} {rl rh rm : Option Value} (h1 : optRel low rl) (h2 : optRel high rh) (h3 : optRel mx rm) (hcap : cap ≤ rcap) {l h m : Nat}
    (hb : lbounds len cap low high mx = some (l, h, m)) : (Instr.sliceBounds isSlice len rcap rl rh rm).run P w = .ok (l, h, if mx.isSome then m else rcap) w ∧ l ≤ h ∧ h ≤ m ∧ (mx = none → m = cap) ∧ m ≤ cap := by
  unfold lbounds at hb
  split at hb
  · rename_i m0
    split at hb
    case h_2 => cases hb
    rename_i h0
    split at hb
    case isFalse => cases hb
    rename_i hc
    cases hb
    obtain ⟨k3, rfl⟩ := h3
    obtain ⟨k2, rfl⟩ := h2
    have e1 := sliceBound_sound (P := P) (w := w) (k := k3) (i := m0) (y := rcap) (code := if isSlice then .slice3Acap else .slice3Alen) (by omega) (by omega)
    have e2 := sliceBound_sound (P := P) (w := w) (k := k2) (i := h0) (y := m0.toNat) (code := .slice3B) (by omega) (by omega)
    refine ⟨?_, by omega, by omega, by simp, by omega⟩
    cases low with
    | none =>
      cases h1
      simp [Instr.sliceBounds, e1, e2]
    | some l0 =>
      obtain ⟨k1, rfl⟩ := h1
      simp only [Option.getD_some] at hc
      have e3 := sliceBound_sound (P := P) (w := w) (k := k1) (i := l0) (y := h0.toNat) (code := .slice3C) (by omega) (by omega)
      simp [Instr.sliceBounds, e1, e2, e3]
  · split at hb
    case isFalse => cases hb
    rename_i hc
    cases hb
    cases h3
    refine ⟨?_, by omega, by omega, by simp, Nat.le_refl _⟩
    cases high with
    | none =>
      cases h2
      simp only [Option.getD_none] at hc
      cases low with
      | none => cases h1; simp [Instr.sliceBounds]
      | some l0 =>
        obtain ⟨k1, rfl⟩ := h1
        simp only [Option.getD_some] at hc
        have e3 := sliceBound_sound (P := P) (w := w) (k := k1) (i := l0) (y := len) (code := .sliceB) (by omega) (by omega)
        simp [Instr.sliceBounds, e3]
    | some h0 =>
      obtain ⟨k2, rfl⟩ := h2
      simp only [Option.getD_some] at hc
      have e2 := sliceBound_sound (P := P) (w := w) (k := k2) (i := h0) (y := rcap) (code := if isSlice then .sliceAcap else .sliceAlen) (by omega) (by omega)
      cases low with
      | none => cases h1; simp [Instr.sliceBounds, e2]
      | some l0 =>
        obtain ⟨k1, rfl⟩ := h1
        simp only [Option.getD_some] at hc
        have e3 := sliceBound_sound (P := P) (w := w) (k := k1) (i := l0) (y := h0.toNat) (code := .sliceB) (by omega) (by omega)
        simp [Instr.sliceBounds, e2, e3]

theorem slice_sound (hR : Rep σ M w) {t : TypeId} {x rx v : Value} {low high mx : Option Int} {rl rh rm : Option Value} (hx : vRel σ x rx) (h1 : optRel low rl) (h2 : optRel high rh) (h3 : optRel mx rm)
    (h : lslice P M t x low high mx = some v) :
    ∃ rv, (Instr.sliceAt t rx rl rh rm).run P w = .ok rv w ∧ vRel σ v rv := by
  unfold lslice at h
  split at h
  · rename_i n el s a hq
    obtain ⟨a', p, rfl, ha⟩ := vRel_ptr hx
    obtain ⟨hu, hs⟩ := tyQ_arr hq
    split at h
    case h_2 => cases h
    rename_i l hh m hb
    cases h
    obtain ⟨e1, e2, e3, e4, e5⟩ := bounds_sound (P := P) (w := w) (isSlice := false) h1 h2 h3 (Nat.le_refl n) hb
    have hm : (if mx.isSome then m else n) = m := by
      cases mx with
      | none => simp [e4 rfl]
      | some _ => rfl
    rw [hm] at e1
    refine ⟨.slice (some (if m = l then a' else a'.add (l * s))) (hh - l) (m - l), by simp [Instr.sliceAt, rUnd hu, Instr.sureAddr, e1, rSize hs], ?_⟩
    by_cases hml : m = l
    · rw [if_pos hml, if_pos hml]; exact ⟨a', m - l, p, rfl, ha, .inl rfl⟩
    · rw [if_neg hml, if_neg hml]
      exact ⟨_, m - l, p, rfl, ⟨rfl, by rw [add_off a' ha.2.1], ha.2.2.1, by rw [add_off a' ha.2.1]; exact ha.2.2.2.1, by rw [add_off a' ha.2.1]; simp only []; rw [ha.2.2.2.2]; omega⟩, .inl rfl⟩
  · rename_i b hq
    cases vRel_string hx
    have hu := tyQ_str hq
    split at h
    case h_2 => cases h
    rename_i l hh m hb
    cases h
    cases h3
    obtain ⟨e1, e2, e3, e4, e5⟩ := bounds_sound (P := P) (w := w) (isSlice := false) h1 h2 (show optRel none none from rfl) (Nat.le_refl b.size) hb
    simp only [Option.isSome_none] at e1
    exact ⟨.string (b.extract l hh), by simp [Instr.sliceAt, Instr.slice, rUnd hu, e1], rfl⟩
  · rename_i el s a len cap hq
    obtain ⟨a', cap', p, rfl, ha, hcr⟩ := vRel_sl hx
    obtain ⟨hu, hs⟩ := tyQ_sl hq
    split at h
    case h_2 => cases h
    rename_i l hh m ro e c hb hM
    split at h
    case isTrue => cases h
    rename_i hne
    cases h
    obtain ⟨q, hq1, hqe, _⟩ := hR.cel _ _ _ _ hM
    have hpe : p.e = e := by have := ha.2.2.1; rw [hq1] at this; cases this; exact hqe
    have hcap : cap ≤ cap' := by rcases hcr with h | h <;> omega
    obtain ⟨e1, e2, e3, e4, e5⟩ := bounds_sound (P := P) (w := w) (isSlice := true) h1 h2 h3 hcap hb
    refine ⟨.slice (some (if (if mx.isSome then m else cap') = l then a' else a'.add (l * s))) (hh - l) ((if mx.isSome then m else cap') - l), ?_, ?_⟩
    · have hb : ∀ q : Nat, (if q = l then some a' else Option.map (fun x => x.add (l * s)) (some a')) = some (if q = l then a' else a'.add (l * s)) := fun q => by split <;> rfl
      simp only [Instr.sliceAt, Instr.slice, Sem.run_bind, rUnd hu, Result.andThen_ok, e1, rSize hs, hb, Sem.run_pure]
    · cases mx with
      | some mm =>
        simp only [Option.isSome_some, if_true]
        by_cases hml : m = l
        · rw [if_pos hml, if_pos hml]; exact ⟨a', m - l, p, rfl, ha, .inl rfl⟩
        · rw [if_neg hml, if_neg hml]
          exact ⟨_, m - l, p, rfl, ⟨rfl, by rw [add_off a' ha.2.1], ha.2.2.1, by rw [add_off a' ha.2.1]; exact ha.2.2.2.1, by rw [add_off a' ha.2.1]; simp only []; rw [ha.2.2.2.2]; omega⟩, .inl rfl⟩
      | none =>
        have hm := e4 rfl
        subst hm
        simp only [Option.isSome_none, Bool.false_eq_true, if_false]
        have hl0 : m = l → l = 0 := fun e => by
          by_cases hz : l = 0
          · exact hz
          · exact absurd ⟨rfl, .inl e, hz⟩ hne
        have hes : l = 0 ∨ p.e = s ∨ p.e = 0 := by
          by_cases hz : l = 0
          · exact .inl hz
          · by_cases hes : e = s
            · exact .inr (.inl (hpe.trans hes))
            · by_cases he0 : e = 0
              · exact .inr (.inr (hpe.trans he0))
              · exact absurd ⟨rfl, .inr ⟨hes, he0⟩, hz⟩ hne
        by_cases hml : m = l
        · have := hl0 hml
          subst this
          rw [if_pos hml]
          have hcc : cap' = m := by rcases hcr with h | h <;> omega
          rw [if_pos (by omega)]
          exact ⟨a', cap' - 0, p, rfl, ha, .inl (by omega)⟩
        · rw [if_neg hml, if_neg (by omega)]
          refine ⟨_, cap' - l, p, rfl, ⟨rfl, by rw [add_off a' ha.2.1], ha.2.2.1, by rw [add_off a' ha.2.1]; exact ha.2.2.2.1, by rw [add_off a' ha.2.1]; simp only []; rw [ha.2.2.2.2]; omega⟩, ?_⟩
          rw [add_off a' ha.2.1]
          rcases hcr with h | ⟨h3, h4, h5, h6⟩
          · left; omega
          · right
            refine ⟨h3, by omega, by omega, ?_⟩
            simp only
            rcases hes with hz | hes | hes
            · subst hz; simpa using h6
            · rw [hes] at h6 ⊢
              have : l * s + (cap' - l) * s = cap' * s := by rw [← Nat.add_mul]; congr 1; omega
              omega
            · omega
  · rename_i el s len cap hq
    cases vRel_sl0 hx
    obtain ⟨hu, hs⟩ := tyQ_sl hq
    split at h
    case h_2 => cases h
    rename_i l hh m hb
    cases h
    obtain ⟨e1, e2, e3, e4, e5⟩ := bounds_sound (P := P) (w := w) (isSlice := true) h1 h2 h3 (Nat.le_refl cap) hb
    have hm : (if mx.isSome then m else cap) = m := by
      cases mx with
      | none => simp [e4 rfl]
      | some _ => rfl
    rw [hm] at e1
    exact ⟨.slice none (hh - l) (m - l), by simp [Instr.sliceAt, Instr.slice, rUnd hu, e1, rSize hs], rfl⟩
  · cases h
end
end Go.Lm
/- The operations' soundness: conversions, append, copy, len, min, max. -/
namespace Go.Lm

section
variable {P : Program} {σ : Sg} {M : Nat → Ob} {w : World}

theorem bytesQ_sound : ∀ (l : List Value) (rl : List Value) (bs : List UInt8), bytesQ l = some bs → l.length = rl.length → (∀ (j : Nat) (x y : Value), l[j]? = some x → rl[j]? = some y → sRel σ x y) → ∀ s : ByteArray,
    (forIn rl s fun c r => (match c with
      | .int .u8 n => pure (ForInStep.yield (r.push (UInt8.ofNat n.toNat)))
      | _ => do
        stuck "bytesToString: byte expected"
        pure (ForInStep.yield r) : Sem (ForInStep ByteArray))).run P w = .ok ⟨s.data ++ bs.toArray⟩ w
  | [], rl, bs, h, hl, _, s => by
    cases rl with
    | nil => cases h; simp
    | cons a b => simp at hl
  | x :: l, rl, bs, h, hl, hr, s => by
    cases rl with
    | nil => simp at hl
    | cons y rl =>
      have h0 := hr 0 x y (by simp) (by simp)
      unfold bytesQ at h
      split at h
      · rename_i e; cases e
      · rename_i n r e
        obtain ⟨rfl, rfl⟩ : x = .int .u8 n ∧ l = r := by cases e; exact ⟨rfl, rfl⟩
        cases h0
        cases hb : bytesQ l with
        | none => rw [hb] at h; cases h
        | some bs' =>
          rw [hb] at h; cases h
          have ih := bytesQ_sound l rl bs' hb (by simpa using hl) (fun j x y hx hy => hr (j + 1) x y (by simpa using hx) (by simpa using hy)) (s.push (UInt8.ofNat n.toNat))
          simp only [List.forIn_cons, pure_bind]
          refine Eq.trans ih ?_
          congr 2
          simp [ByteArray.push]
      · cases h

theorem markStringish_run {b : Nat} {C : Array Value} {el : TypeId} {f : Nat × Nat} (h : w.heap[b]? = some (.cells C el f)) : (markStringish ⟨b, 0, none⟩).run P w = .ok () (w.freeze { block := b, off := C.size } 1) := by
  have hsh : w.shape? b = some (el, C.size) := by unfold World.shape?; rw [h]
  simp only [markStringish, Sem.run_bind, run_shape, hsh, Result.andThen_ok, run_freeze]

theorem stringToBytes_run (s : ByteArray) (el : TypeId) : ∃ cap C, s.size ≤ cap ∧ C = (s.data.map fun b => Value.int .u8 b.toNat) ++ Array.replicate (cap - s.size) (.int .u8 0) ∧
    (Conv.stringToBytes el s).run P w = .ok (.slice (some ⟨w.heap.size, 0, none⟩) s.size cap) ((w.drew.alloc (.cells C el)).freeze { block := w.heap.size, off := C.size } 1) := by
  refine ⟨(Question.appendCap s.size 0 el).cut (w.tape w.drawn (.appendCap s.size 0 el)), _, by simp only [Question.cut]; omega, rfl, ?_⟩
  unfold Conv.stringToBytes
  rw [Sem.run_bind]
  simp only [run_choose, Question.forced, Bool.false_eq_true, if_false, Result.andThen_ok]
  generalize (Question.appendCap s.size 0 el).cut (w.tape w.drawn (.appendCap s.size 0 el)) = cap
  generalize (s.data.map fun b => Value.int .u8 b.toNat) ++ Array.replicate (cap - s.size) (.int .u8 0) = C
  rw [Sem.run_bind]
  have q2 : (newRow el C).run P { w with drawn := w.drawn + 1 } = .ok ⟨w.heap.size, 0, none⟩ (w.drew.alloc (.cells C el)) := rfl
  rw [q2, Result.andThen_ok, Sem.run_bind, markStringish_run (show (w.drew.alloc (.cells C el)).heap[w.heap.size]? = some (.cells C el) from heap_alloc_new w.drew _)]
  rfl

theorem bytes_sound (hR : Rep σ M w) {k : Nat} (hk : M k = .free) (el : TypeId) (s : ByteArray) (hpos : 0 < s.size) :
    RanV σ M w k ((Conv.stringToBytes el s).run P w) { val := .slice (some ⟨k, 0, none⟩) s.size s.size, new := some (.cells false 1 (byteCells s)) } := by
  obtain ⟨cap, C, hcap, hC, hrun⟩ := stringToBytes_run (P := P) (w := w) s el
  have hsd : s.data.size = s.size := rfl
  have hCs : C.size = cap := by rw [hC]; simp only [Array.size_append, Array.size_map, Array.size_replicate, hsd]; omega
  obtain ⟨h1, h2⟩ := (hR.drew).alloc hk el 1 (byteCells s) C (by simp only [byteCells, Array.size_map, hsd, hCs]; exact hcap) (fun j x hx => by
    refine ⟨x, ?_, ?_⟩
    · rw [hC]
      have hj : j < (s.data.map fun b => Value.int .u8 b.toNat).size := by
        rcases Nat.lt_or_ge j (byteCells s).size with h' | h'
        · simpa [byteCells] using h'
        · rw [Array.getElem?_eq_none h'] at hx; cases hx
      rw [Array.getElem?_append_left hj]
      exact hx
    · simp only [byteCells, Array.getElem?_map] at hx
      cases hb : s.data[j]? with
      | none => rw [hb] at hx; cases hx
      | some b => rw [hb] at hx; cases hx; rfl)
  clear hC
  have hnew : (w.drew.alloc (.cells C el)).heap[w.heap.size]? = some (.cells C el) := heap_alloc_new w.drew _
  rw [hCs] at hrun
  generalize hw1 : w.drew.alloc (.cells C el) = w1 at h1 h2 hnew hrun
  have hw2 : (w1.freeze { block := w.heap.size, off := cap } 1).heap[w.heap.size]? = some (.cells C el (cap, cap + 1)) := by
    simp only [World.freeze, Nat.one_ne_zero, if_false, Array.getElem?_modify, if_true, hnew]
    simp
  have hw2o : ∀ b, b ≠ w.heap.size → (w1.freeze { block := w.heap.size, off := cap } 1).heap[b]? = w1.heap[b]? := fun b hb => by
    simp only [World.freeze, Nat.one_ne_zero, if_false, Array.getElem?_modify]
    rw [if_neg (by simpa using Ne.symm hb)]
  have hw2s : (w1.freeze { block := w.heap.size, off := cap } 1).heap.size = w1.heap.size := by simp [World.freeze]
  have hw2os : ((w1.freeze { block := w.heap.size, off := cap } 1).os, (w1.freeze { block := w.heap.size, off := cap } 1).tape) = (w1.os, w1.tape) := by simp [World.freeze]
  have hw2dr : w1.drawn ≤ (w1.freeze { block := w.heap.size, off := cap } 1).drawn := by simp [World.freeze]
  have hw2out : (w1.freeze { block := w.heap.size, off := cap } 1).output = w1.output := by simp [World.freeze]
  generalize w1.freeze { block := w.heap.size, off := cap } 1 = w2 at hw2 hw2o hw2s hw2os hw2out hw2dr hrun
  have hp : Sset σ k ⟨w.heap.size, 0, 1, C.size⟩ k = some ⟨w.heap.size, 0, 1, C.size⟩ := by simp [Sset]
  have ho := h1.ok hp
  rw [Mset_same] at ho
  have hob : ObOk (Sset σ k ⟨w.heap.size, 0, 1, C.size⟩) (.cells false 1 (byteCells s)) ⟨w.heap.size, 0, 1, C.size⟩ w2 := by
    refine ⟨?_, ?_, ?_⟩
    · intro ro e c he
      refine ⟨(ho.cel ro e c he).1, fun j x hx => ?_⟩
      obtain ⟨v, hv1, hv2⟩ := (ho.cel ro e c he).2 j x hx
      rw [cell_of_row _ _ _ _ _ _ hnew] at hv1
      exact ⟨v, by rw [cell_of_row _ _ _ _ _ _ hw2]; exact hv1, hv2⟩
    · intro e c he
      obtain ⟨g1, _⟩ := ho.own e c he
      refine ⟨g1, C, el, (cap, cap + 1), hw2, Nat.le_refl _, fun j hj => ?_⟩
      simp only [World.frozen?, hw2]
      simp only [Bool.and_eq_false_iff, decide_eq_false_iff_not]
      left
      simp only [] at hj
      omega
    · intro es he; cases he
  obtain ⟨g1, g2⟩ := h1.turn hp (by rw [Mset_same]; rfl) hob (by simp) hw2o hw2s hw2os hw2out
  have hMM : Mset (Mset M k (.cells false 1 (byteCells s))) k (.cells false 1 (byteCells s)) = Mset M k (.cells false 1 (byteCells s)) := by
    funext j; simp only [Mset]; split <;> rfl
  rw [hMM] at g1 g2
  refine ⟨_, _, _, hrun, ?_, g1, Fr.trans ⟨h2.ext, h2.size, h2.keep, h2.less, h2.os, h2.out, Nat.le_of_succ_le h2.dr⟩ g2⟩
  refine ⟨⟨w.heap.size, 0, none⟩, cap, ⟨w.heap.size, 0, 1, C.size⟩, rfl, ⟨rfl, rfl, hp, rfl, by simp⟩, ?_⟩
  right
  refine ⟨Nat.one_pos, hpos, hcap, ?_⟩
  simp only [hCs]; omega

theorem conv_sound (hR : Rep σ M w) {k : Nat} (hk : M k = .free) {src dst : TypeId} {x rx : Value} {e : Eff} (hx : vRel σ x rx) (h : lconv P M k src dst x = some e) :
    RanV σ M w k ((convert src dst rx).run P w) e := by
  unfold lconv at h
  split at h
  · rename_i kk n
    cases vRel_int hx
    split at h
    · rename_i ks kd hq1 hq2
      cases h
      refine ranV_pure hR (rv := .int kd (kd.wrap n)) ?_ rfl
      simp [convert, rUnd (tyQ_int hq1), rUnd (tyQ_int hq2), Conv.intToInt]
    · cases h
  · rename_i s
    cases vRel_string hx
    split at h
    · rename_i hq1 hq2
      cases h
      refine ranV_pure hR (rv := .string s) ?_ rfl
      simp [convert, rUnd (tyQ_str hq1), rUnd (tyQ_str hq2)]
    · rename_i el sz hq1 hq2
      split at h
      · rename_i hq3
        split at h
        · cases h
        · rename_i hc
          cases h
          have hsz : sz = 1 := by omega
          subst hsz
          obtain ⟨hu, hs⟩ := tyQ_sl hq2
          have hu3 := tyQ_int hq3
          have hr : (convert src dst (.string s)).run P w = (Conv.stringToBytes el s).run P w := by
            simp [convert, rUnd (tyQ_str hq1), rUnd hu, rUnd hu3]
          rw [hr]
          exact bytes_sound hR hk el s (by omega)
      · cases h
    · cases h
  · rename_i l c
    cases vRel_sl0 hx
    split at h
    · rename_i el s hq1 hq2
      split at h
      · rename_i hq3
        cases h
        refine ranV_pure hR (rv := .string .empty) ?_ rfl
        simp [convert, rUnd (tyQ_sl hq1).1, rUnd (tyQ_str hq2), rUnd (tyQ_int hq3), Conv.bytesToString]
      · cases h
    · cases h
  · rename_i a len c
    obtain ⟨a', c', p, rfl, ha, _⟩ := vRel_sl hx
    split at h
    · rename_i el s hq1 hq2
      split at h
      · rename_i hq3
        split at h
        case h_2 => cases h
        rename_i ro ee cs hM
        split at h
        case isFalse => cases h
        rename_i hsz
        cases hb : bytesQ (cs.extract a.off (a.off + len)).toList with
        | none => rw [hb] at h; cases h
        | some bs =>
          rw [hb] at h; cases h
          obtain ⟨C, h1, h2⟩ := loadCells_sound (P := P) hR ha hM len hsz
          refine ranV_pure hR (rv := .string ⟨bs.toArray⟩) ?_ rfl
          have := bytesQ_sound (P := P) (w := w) _ C.toList bs hb (by rw [Array.length_toList, Array.length_toList]; exact h2.1) (fun j x y hx hy => by rw [Array.getElem?_toList] at hx hy; exact h2.2 j x y hx hy) ByteArray.empty
          simp only [convert, Sem.run_bind, rUnd (tyQ_sl hq1).1, rUnd (tyQ_str hq2), Result.andThen_ok, rUnd (tyQ_int hq3), Conv.bytesToString, h1]
          rw [← Array.forIn_toList]
          refine (congrArg (fun r => Result.andThen r fun a w' => Sem.run P (pure (Value.string a)) w') this).trans ?_
          simp [ByteArray.empty, ByteArray.emptyWithCapacity]
          rfl
      · cases h
    · cases h
  · cases h

theorem lenOf_sound {x rx : Value} {n : Nat} (hx : vRel σ x rx) (h : llen x = some n) : (Builtin.lenOf rx).run P w = .ok n w := by
  unfold llen at h
  split at h
  · rename_i a l c
    cases h
    cases a with
    | none => cases vRel_sl0 hx; rfl
    | some a => obtain ⟨a', c', p, rfl, _⟩ := vRel_sl hx; rfl
  · cases h; cases vRel_string hx; rfl
  · cases h

theorem firstCells_sound (hR : Rep σ M w) {x rx : Value} {s n : Nat} {c : Array Value} (hx : vRel σ x rx) (h : lfirst M s n x = some c) :
    ∃ C, (Builtin.firstCells s n rx).run P w = .ok C w ∧ aaRel (sRel σ) c C := by
  unfold lfirst at h
  split at h
  · rename_i a l cp
    obtain ⟨a', c', p, rfl, ha, _⟩ := vRel_sl hx
    split at h
    case h_2 => cases h
    rename_i ro e cs hM
    split at h
    case isFalse => cases h
    rename_i hsz
    cases h
    exact loadCells_sound (P := P) hR ha hM (n * s) hsz
  · split at h
    · rename_i l cp hn
      cases h
      cases vRel_sl0 hx
      exact ⟨#[], rfl, aaRel.nil _⟩
    · cases h
  · rename_i b
    split at h
    case isFalse => cases h
    cases h
    cases vRel_string hx
    refine ⟨_, rfl, rfl, fun i x y hx hy => ?_⟩
    rw [hx] at hy; cases hy
    rw [Array.getElem?_map] at hx
    cases hb : (b.extract 0 n).data[i]? with
    | none => rw [hb] at hx; cases hx
    | some u => rw [hb] at hx; cases hx; rfl
  · cases h

theorem copy_sound (hR : Rep σ M w) {k : Nat} {ts : Array TypeId} {ty : TypeId} {args : List Value} {rargs : Array Value} {e : Eff}
    (hl : args.length = rargs.size) (hr : ∀ (j : Nat) (x y : Value), args[j]? = some x → rargs[j]? = some y → vRel σ x y) (h : lcopy P M ts args = some e) :
    RanV σ M w k ((Builtin.copy_ ts ty rargs).run P w) e := by
  unfold lcopy at h
  split at h
  case h_2 => cases h
  rename_i t base len cp x ht
  obtain ⟨rs, hrs⟩ : ∃ rs, rargs[0]? = some rs := ⟨rargs[0]'(by simp at hl; omega), Array.getElem?_eq_getElem _⟩
  obtain ⟨rx, hrx⟩ : ∃ rx, rargs[1]? = some rx := ⟨rargs[1]'(by simp at hl; omega), Array.getElem?_eq_getElem _⟩
  have hs0 := hr 0 (.slice base len cp) rs (by simp) hrs
  have hx0 := hr 1 x rx (by simp) hrx
  split at h
  case h_2 => cases h
  rename_i el s n hq hn
  obtain ⟨hu, hs⟩ := tyQ_sl hq
  split at h
  case h_2 => cases h
  rename_i new hf
  have e1 := lenOf_sound (P := P) (w := w) hx0 hn
  obtain ⟨C, e2, e3⟩ := firstCells_sound (P := P) hR hx0 hf
  cases base with
  | none =>
    cases vRel_sl0 hs0
    cases h
    refine ranV_pure hR (rv := .int .i64 (Nat.min n len)) ?_ rfl
    simp [Builtin.copy_, ht, hrs, hrx, rUnd hu, e1, rSize hs, e2, goInt]
  | some a =>
    obtain ⟨a', c', p, rfl, ha, _⟩ := vRel_sl hs0
    simp only at h
    split at h
    case h_2 => cases h
    rename_i ro ee c hM
    split at h
    case isFalse => cases h
    rename_i hc
    cases h
    obtain ⟨hro, hsz⟩ := hc
    subst hro
    have hns : new.size = Nat.min n len * s := by
      unfold lfirst at hf
      split at hf
      · split at hf
        · split at hf
          · cases hf; simp; omega
          · cases hf
        · cases hf
      · split at hf
        · rename_i hz; cases hf; simp [hz]
        · cases hf
      · rename_i b
        split at hf
        · rename_i hb
          cases hf
          have : (b.extract 0 (Nat.min n len)).data.size = (b.extract 0 (Nat.min n len)).size := rfl
          rw [Array.size_map, this, ByteArray.size_extract, hb.1]
          omega
        · cases hf
      · cases hf
    obtain ⟨w', g1, g2, g3⟩ := storeCells_sound (P := P) hR ha hM 0 e3 (by omega)
    have e4 : a'.add 0 = a' := by simp [Addr.add]
    rw [e4] at g1
    refine ⟨σ, w', .int .i64 (Nat.min n len), ?_, rfl, g2, g3⟩
    simp [Builtin.copy_, ht, hrs, hrx, rUnd hu, e1, rSize hs, e2, g1, goInt]

theorem min_sound {isMax : Bool} : ∀ (l : List Value) (rl : List Value) (x v : Value), lmin isMax x l = some v → l.length = rl.length → (∀ (j : Nat) (a b : Value), l[j]? = some a → rl[j]? = some b → vRel σ a b) →
    (rl.foldlM (if isMax then Builtin.max2 else Builtin.min2) x).run P w = .ok v w ∧ ∃ k n, v = .int k n
  | [], rl, x, v, h, hl, _ => by
    cases rl with
    | cons a b => simp at hl
    | nil =>
      unfold lmin at h
      split at h
      · cases h; exact ⟨rfl, _, _, rfl⟩
      · rename_i e; cases e
      · cases h
  | y :: l, rl, x, v, h, hl, hr => by
    cases rl with
    | nil => simp at hl
    | cons ry rl =>
      have h0 := hr 0 y ry (by simp) (by simp)
      unfold lmin at h
      split at h
      · rename_i e; cases e
      · rename_i k n k' m r e
        cases e
        cases vRel_int h0
        obtain ⟨ih, hv⟩ := min_sound l rl _ v h (by simpa using hl) (fun j a b ha hb => hr (j + 1) a b (by simpa using ha) (by simpa using hb))
        refine ⟨?_, hv⟩
        rw [List.foldlM_cons, Sem.run_bind]
        cases isMax
        · simpa [Builtin.min2] using ih
        · simpa [Builtin.max2] using ih
      · cases h

theorem len_sound (hR : Rep σ M w) {t ty : TypeId} {ts : Array TypeId} {x rx v : Value} {rargs : Array Value} (ht : ts[0]? = some t) (ha : rargs[0]? = some rx) (hx : vRel σ x rx) (h : llenOf P M t x = some v) :
    (Builtin.len_ ts ty rargs).run P w = .ok v w ∧ ∃ n, v = .int .i64 n := by
  unfold llenOf at h
  split at h
  · rename_i s hq; cases h; cases vRel_string hx; exact ⟨by simp [Builtin.len_, ht, ha, rUnd (tyQ_str hq), goInt], _, rfl⟩
  · rename_i n el s hq; cases h; exact ⟨by simp [Builtin.len_, ht, ha, rUnd (tyQ_arr hq).1, goInt], _, rfl⟩
  · rename_i el s a n c hq
    cases h
    cases a with
    | none => cases vRel_sl0 hx; exact ⟨by simp [Builtin.len_, ht, ha, rUnd (tyQ_sl hq).1, goInt], _, rfl⟩
    | some a => obtain ⟨a', c', p, rfl, _⟩ := vRel_sl hx; exact ⟨by simp [Builtin.len_, ht, ha, rUnd (tyQ_sl hq).1, goInt], _, rfl⟩
  · rename_i k e hq
    cases h
    cases (show rx = .map none from hx)
    exact ⟨by simp [Builtin.len_, ht, ha, rUnd (tyQ_map hq), goInt], _, rfl⟩
  · rename_i k e i hq
    split at h
    case h_2 => cases h
    rename_i es hM
    cases h
    obtain ⟨p, hp, rfl⟩ : ∃ p, σ i = some p ∧ rx = .map (some p.b) := hx
    obtain ⟨p', ents, clk, hp', hb, hl, _⟩ := hR.mp i es hM
    rw [hp] at hp'; cases hp'
    exact ⟨by simp [Builtin.len_, ht, ha, rUnd (tyQ_map hq), goInt, getObj, Sem.run, hb, hl], _, rfl⟩
  · cases h
end
end Go.Lm
/- The soundness of append. -/
namespace Go.Lm

theorem Rep.kill {σ : Sg} {M : Nat → Ob} {w : World} (h : Rep σ M w) (k : Nat) : Rep σ (Mset M k .dead) w ∧ Fr σ M w σ (Mset M k .dead) w := by
  have sub : ∀ j, (Mset M k .dead j).alive = true → j ≠ k ∧ Mset M k .dead j = M j := fun j hj => by
    by_cases e : j = k
    · subst e; simp [Mset, Ob.alive] at hj
    · exact ⟨e, Mset_ne M _ e⟩
  refine ⟨Rep.mk' ?_ ?_ ?_ h.bnd, ⟨.refl _, Nat.le_refl _, fun _ _ _ => rfl, ?_, rfl, rfl, Nat.le_refl _⟩⟩
  · intro j hj
    by_cases e : j = k
    · subst e; simp [Mset] at hj
    · rw [Mset_ne M _ e] at hj; exact h.fr j hj
  · intro j hj
    obtain ⟨e1, e2⟩ := sub j hj
    rw [e2] at hj ⊢
    obtain ⟨p, hp⟩ := h.place hj
    exact ⟨p, hp, h.ok hp⟩
  · intro j j' hjj hr ha p p' hp hp'
    obtain ⟨e1, e2⟩ := sub j (rw_alive hr)
    obtain ⟨e3, e4⟩ := sub j' ha
    rw [e2] at hr; rw [e4] at ha
    exact h.sep j j' hjj hr ha p p' hp hp'
  · rintro b _ ⟨j, p, hp, hb, hr⟩
    obtain ⟨e1, e2⟩ := sub j (rw_alive hr)
    rw [e2] at hr
    exact ⟨j, p, hp, hb, hr⟩

theorem growBy_le (n : Nat) : ∀ (r c : Nat), 256 ≤ c → Builtin.growBy n r c ≤ 2 ^ r * c
  | 0, c, _ => by simp [Builtin.growBy]
  | r + 1, c, h => by
    simp only [Builtin.growBy]
    split
    · have : 1 ≤ 2 ^ (r + 1) := Nat.one_le_two_pow
      exact Nat.le_mul_of_pos_left c this
    · have ih := growBy_le n r (c + (c + 768) / 4) (by omega)
      have h2 : c + (c + 768) / 4 ≤ 2 * c := by omega
      calc _ ≤ 2 ^ r * (c + (c + 768) / 4) := ih
        _ ≤ 2 ^ r * (2 * c) := Nat.mul_le_mul_left _ h2
        _ = 2 ^ (r + 1) * c := by rw [Nat.pow_succ, Nat.mul_assoc]

theorem next_le (need old : Nat) (h : old < need) : Builtin.nextslicecap need old ≤ 16 * need := by
  unfold Builtin.nextslicecap
  split
  · omega
  · split
    · omega
    · have := growBy_le need 4 old (by omega)
      omega

section
variable {P : Program} {σ : Sg} {M : Nat → Ob} {w : World}

theorem tyQ_src {t : TypeId} (h : (tyQ P t).isSrc = true) : ∃ d, P.underlying t = some d ∧ ((∃ e, d = .slice e) ∨ d = .string) := by
  cases hq : tyQ P t with
  | sl el s => exact ⟨_, (tyQ_sl hq).1, .inl ⟨_, rfl⟩⟩
  | str => exact ⟨_, tyQ_str hq, .inr rfl⟩
  | _ => rw [hq] at h; cases h

theorem firstCells_drew (a : Addr) (n : Nat) (w : World) (X Y : Array Value) (h : (loadCells a n).run P w = .ok X w) (h' : (loadCells a n).run P w.drew = .ok Y w.drew) : Y = X := by
  have key : ∀ (n i : Nat) (acc X Y : Array Value), (loadCellsFrom a i n acc).run P w = .ok X w → (loadCellsFrom a i n acc).run P w.drew = .ok Y w.drew → Y = X := by
    intro n
    induction n with
    | zero => intro i acc X Y h h'; simp [loadCellsFrom] at h h'; rw [← h, ← h']
    | succ n ih =>
      intro i acc X Y h h'
      simp only [loadCellsFrom, Sem.run_bind, run_load, World.cell?_drew] at h h'
      cases hc : w.cell? (a.add i) with
      | some v => rw [hc] at h h'; exact ih _ _ _ _ h h'
      | none =>
        rw [hc] at h h'
        have e : w.drew.farLoad P (a.add i) (Mode.plain == .atomic) = w.farLoad P (a.add i) (Mode.plain == .atomic) := rfl
        rw [e] at h'
        cases hf : w.farLoad P (a.add i) (Mode.plain == .atomic) with
        | ok r => rw [hf] at h h'; obtain ⟨v, l⟩ := r; exact ih _ _ _ _ h h'
        | error x => rw [hf] at h; cases h
  exact key n 0 #[] X Y h h'

theorem lfirst_size {s n : Nat} {x : Value} {new : Array Value} (hf : lfirst M s n x = some new) : new.size = n * s := by
  unfold lfirst at hf
  split at hf
  · split at hf
    · split at hf
      · cases hf; simp; omega
      · cases hf
    · cases hf
  · split at hf
    · rename_i hz; cases hf; simp [hz]
    · cases hf
  · rename_i b
    split at hf
    · rename_i hb
      cases hf
      have : (b.extract 0 n).data.size = (b.extract 0 n).size := rfl
      rw [Array.size_map, this, ByteArray.size_extract, hb.1]
      omega
    · cases hf
  · cases hf

/-- what append asks before it parts its ways -/
theorem append_head {ts : Array TypeId} {ty t tx el s n rlen rcap : Nat} {rargs : Array Value} {rbase : Option Addr} {rx : Value} {d : TypeDesc}
    (ht : ts[0]? = some t) (htx : ts[1]? = some tx) (hs : rargs[0]? = some (.slice rbase rlen rcap)) (hx : rargs[1]? = some rx)
    (hu : P.underlying t = some (.slice el)) (hsz : sizeQ P el = some s) (hd : P.underlying tx = some d) (hd' : (∃ e, d = .slice e) ∨ d = .string)
    (hn : (Builtin.lenOf rx).run P w = .ok n w) {i : TypeInfo} (hi : P.info? el = some i) (hb : 0 < i.bytes) (hbig : (rlen + n) * i.bytes ≤ 2 ^ 44) {z : Value} (hz : (zeroValue el).run P w.drew = .ok z w.drew)
    {NEW : Array Value} (hnew : ∀ w', w' = w ∨ w' = w.drew → (Builtin.firstCells s n rx).run P w' = .ok NEW w') :
    (rlen + n ≤ rcap → (Builtin.append_ ts ty rargs).run P w =
      ((match rbase with | some a => storeCells (a.add (rlen * s)) NEW.toList | none => pure ()).run P w).andThen fun _ w' => .ok (.slice rbase (rlen + n) rcap) w') ∧
    (rcap < rlen + n → ∀ OLD, (Builtin.firstCells s rlen (.slice rbase rlen rcap)).run P w.drew = .ok OLD w.drew → ∃ cap, rlen + n ≤ cap ∧ (Builtin.append_ ts ty rargs).run P w =
      .ok (.slice (some ⟨w.heap.size, 0, none⟩) (rlen + n) cap) (w.drew.alloc (.cells (OLD ++ NEW ++ Builtin.zeroCells z.cells (cap - (rlen + n))) el))) := by
  constructor
  · intro hle
    unfold Builtin.append_
    rcases hd' with ⟨e, rfl⟩ | rfl
    all_goals
      simp only [ht, htx, hs, hx, Sem.run_bind, rUnd hu, Result.andThen_ok, rSize hsz, rUnd hd, Sem.run_pure]
      simp only [Bool.false_eq_true, if_false, Bool.not_false, if_true]
      rw [Sem.run_bind, hn, Result.andThen_ok, if_pos hle]
      simp only [Sem.run_bind, hnew w (.inl rfl), Result.andThen_ok]
      cases rbase <;> simp
  · intro hlt OLD hold
    refine ⟨(Question.appendCap (rlen + n) rcap el).cut (w.tape w.drawn (.appendCap (rlen + n) rcap el)), by simp only [Question.cut]; omega, ?_⟩
    have hbig' : ¬ (Builtin.nextslicecap (rlen + n) rcap * i.bytes > 2 ^ 48) := by
      have := next_le (rlen + n) rcap hlt
      have h1 : Builtin.nextslicecap (rlen + n) rcap * i.bytes ≤ (16 * (rlen + n)) * i.bytes := Nat.mul_le_mul_right _ this
      have h2 : (16 * (rlen + n)) * i.bytes = 16 * ((rlen + n) * i.bytes) := by rw [Nat.mul_assoc]
      omega
    unfold Builtin.append_
    rcases hd' with ⟨e, rfl⟩ | rfl
    all_goals
      simp only [ht, htx, hs, hx, Sem.run_bind, rUnd hu, Result.andThen_ok, rSize hsz, rUnd hd, Sem.run_pure]
      simp only [Bool.false_eq_true, if_false, Bool.not_false, if_true]
      rw [Sem.run_bind, hn, Result.andThen_ok, if_neg (by omega)]
      simp only [false_or, Sem.run_bind, rInfo hi, Result.andThen_ok]
      have h0 : ¬ (((rlen + n : Nat) : Int) > IntKind.i64.max ∧ i.bytes = 0) := by omega
      rw [if_neg h0]
      simp only [Sem.run_bind, rInfo hi, Result.andThen_ok]
      rw [if_neg hbig']
      simp only [Sem.run_bind, Result.andThen_ok, run_choose, Question.forced, Bool.false_eq_true, if_false]
      generalize (Question.appendCap (rlen + n) rcap el).cut (w.tape w.drawn (.appendCap (rlen + n) rcap el)) = cap
      simp only [rInfo hi, Result.andThen_ok, run_askRoom]
      rw [show ({ heap := w.heap, tape := w.tape, drawn := w.drawn + 1, os := w.os, output := w.output } : World) = w.drew from rfl]
      rw [hold]
      simp only [Result.andThen_ok]
      rw [hnew w.drew (.inr rfl)]
      simp only [Result.andThen_ok]
      rw [hz]
      rfl

theorem zeroCells_size (z : Array Value) (n : Nat) : (Builtin.zeroCells z n).size = n * z.size := by simp [Builtin.zeroCells]

/-- A new row behind nothing. -/
theorem append_new (hR : Rep σ M w) {k : Nat} (hk : M k = .free) {el s n cp : Nat} {z new NEW : Array Value} (hN : aaRel (sRel σ) new NEW) (hn : 0 < n) (hs : 0 < s) (hz : z.size = s) (hns : new.size = n * s) (hcp : 0 + n ≤ cp) :
    RanV σ M w k (.ok (.slice (some ⟨w.heap.size, 0, none⟩) (0 + n) cp) (w.drew.alloc (.cells ((#[] : Array Value) ++ NEW ++ Builtin.zeroCells z (cp - (0 + n))) el))) { val := .slice (some ⟨k, 0, none⟩) n n, new := some (.cells false s new) } := by
  have hsz : ((#[] : Array Value) ++ NEW ++ Builtin.zeroCells z (cp - (0 + n))).size = cp * s := by
    rw [Array.size_append, Array.size_append, zeroCells_size, ← hN.1, hns, hz]
    simp only [Array.size_empty, Nat.zero_add]
    rw [← Nat.add_mul]; congr 1; omega
  have hpre : ∀ (j : Nat) (y : Value), NEW[j]? = some y → ((#[] : Array Value) ++ NEW ++ Builtin.zeroCells z (cp - (0 + n)))[j]? = some y := fun j y hy => by
    rw [Array.getElem?_append_left]
    · simpa using hy
    · rcases Nat.lt_or_ge j NEW.size with h' | h'
      · simpa using h'
      · rw [Array.getElem?_eq_none h'] at hy; cases hy
  generalize (#[] : Array Value) ++ NEW ++ Builtin.zeroCells z (cp - (0 + n)) = C0 at hsz hpre ⊢
  obtain ⟨g1, g2⟩ := hR.drew.alloc hk el s new C0 (by rw [hsz, hns]; exact Nat.mul_le_mul_right _ (by omega)) (fun j x hx => by
    obtain ⟨y, hy, hsy⟩ := hN.get hx
    exact ⟨y, hpre j y hy, hsy⟩)
  refine ⟨_, _, _, rfl, ?_, g1, ⟨g2.ext, g2.size, g2.keep, g2.less, g2.os, g2.out, Nat.le_of_succ_le g2.dr⟩⟩
  refine ⟨⟨w.heap.size, 0, none⟩, cp, ⟨w.heap.size, 0, s, C0.size⟩, by simp, ⟨rfl, rfl, by simp [Sset], rfl, by simp⟩, ?_⟩
  by_cases hcn : cp = n
  · exact .inl hcn
  · right
    refine ⟨hs, by omega, by omega, ?_⟩
    simp only [hsz]; omega

theorem append_sound (hR : Rep σ M w) {k : Nat} (hk : M k = .free) {ts : Array TypeId} {ty : TypeId} {args : List Value} {rargs : Array Value} {e : Eff}
    (hl : args.length = rargs.size) (hr : ∀ (j : Nat) (x y : Value), args[j]? = some x → rargs[j]? = some y → vRel σ x y) (h : lappend P M k ts args = some e) :
    RanV σ M w k ((Builtin.append_ ts ty rargs).run P w) e := by
  unfold lappend at h
  split at h
  case h_2 => cases h
  rename_i t tx base len cap x ht htx
  obtain ⟨rs, hrs⟩ : ∃ rs, rargs[0]? = some rs := ⟨rargs[0]'(by simp at hl; omega), Array.getElem?_eq_getElem _⟩
  obtain ⟨rx, hrx⟩ : ∃ rx, rargs[1]? = some rx := ⟨rargs[1]'(by simp at hl; omega), Array.getElem?_eq_getElem _⟩
  have hs0 := hr 0 (.slice base len cap) rs (by simp) hrs
  have hx0 := hr 1 x rx (by simp) hrx
  split at h
  case h_2 => cases h
  rename_i el s n hq hn
  obtain ⟨hu, hs⟩ := tyQ_sl hq
  split at h
  case isTrue => cases h
  rename_i hsrc
  obtain ⟨d, hd, hd'⟩ := tyQ_src (by simpa using hsrc)
  split at h
  case h_2 => cases h
  rename_i z by_ new hz hb hf
  obtain ⟨i, hi, hib⟩ : ∃ i, P.info? el = some i ∧ i.bytes = by_ := by
    cases hi : P.info? el with
    | none => rw [hi] at hb; cases hb
    | some i => rw [hi] at hb; cases hb; exact ⟨i, rfl, rfl⟩
  subst hib
  split at h
  case isTrue => cases h
  rename_i hc
  have hc := Decidable.not_not.1 hc
  obtain ⟨hc1, hc2, hc3, hc4, hc5⟩ := hc
  have hlen := lenOf_sound (P := P) (w := w) hx0 hn
  obtain ⟨NEW, hN1, hN2⟩ := firstCells_sound (P := P) hR hx0 hf
  obtain ⟨NEW', hN1', hN2'⟩ := firstCells_sound (P := P) hR.drew hx0 hf
  have hnew : ∀ w', w' = w ∨ w' = w.drew → ∃ C, (Builtin.firstCells s n rx).run P w' = .ok C w' ∧ aaRel (sRel σ) new C := by
    rintro w' (rfl | rfl)
    · exact ⟨NEW, hN1, hN2⟩
    · exact ⟨NEW', hN1', hN2'⟩
  have hNN : NEW' = NEW := by
    have e1 : NEW'.size = NEW.size := by rw [← hN2.1, ← hN2'.1]
    cases rx with
    | slice a l c =>
      cases a with
      | none => simp only [Builtin.firstCells, Sem.run_pure] at hN1 hN1'; cases hN1; cases hN1'; rfl
      | some a =>
        simp only [Builtin.firstCells] at hN1 hN1'
        exact firstCells_drew a (n * s) w NEW NEW' hN1 hN1'
    | string b => simp only [Builtin.firstCells, Sem.run_pure] at hN1 hN1'; cases hN1; cases hN1'; rfl
    | _ => simp [Builtin.firstCells] at hN1
  subst hNN
  have hnew2 : ∀ w', w' = w ∨ w' = w.drew → (Builtin.firstCells s n rx).run P w' = .ok NEW' w' := by
    rintro w' (rfl | rfl)
    · exact hN1
    · exact hN1'
  have hns : new.size = n * s := lfirst_size hf
  have hzd : (zeroValue el).run P w.drew = .ok z w.drew := rZero hz
  cases base with
  | none =>
    cases vRel_sl0 hs0
    simp only at h
    split at h
    case isFalse => cases h
    rename_i h00
    obtain ⟨rfl, rfl⟩ := h00
    obtain ⟨hin, hout⟩ := append_head (P := P) (w := w) (ty := ty) ht htx hrs hrx hu hs hd hd' hlen hi hc3 hc4 hzd hnew2
    split at h
    · rename_i hn0
      subst hn0
      cases h
      refine ranV_pure hR (rv := .slice none 0 0) ?_ rfl
      rw [hin (by omega)]
      rfl
    · rename_i hn0
      cases h
      obtain ⟨cp, hcp, hrun⟩ := hout (by omega) #[] rfl
      rw [hrun]
      exact append_new hR hk hN2 (by omega) hc1 hc2 hns hcp
  | some a =>
    obtain ⟨a', cap', p, rfl, ha, hcr⟩ := vRel_sl hs0
    have hcap : cap ≤ cap' := by rcases hcr with h | h <;> omega
    obtain ⟨hin, hout⟩ := append_head (P := P) (w := w) (ty := ty) ht htx hrs hrx hu hs hd hd' hlen hi hc3 hc4 hzd hnew2
    simp only at h
    split at h
    · rename_i hn0
      subst hn0
      cases h
      refine ranV_pure hR (rv := .slice (some a') len cap') ?_ ⟨a', cap', p, rfl, ha, hcr⟩
      have hne : NEW' = #[] := by
        have := hN2.1
        rw [hns] at this
        exact Array.eq_empty_of_size_eq_zero (by omega)
      rw [hin (by omega), hne]
      rfl
    · rename_i hn0
      split at h
      case h_2 => cases h
      rename_i ro ee c hM
      split at h
      · rename_i hfit
        split at h
        case isFalse => cases h
        rename_i hro
        cases h
        obtain ⟨rfl, hcs⟩ := hro
        obtain ⟨w', g1, g2, g3⟩ := storeCells_sound (P := P) hR ha hM (len * s) hN2 (by rw [hns]; rw [Nat.add_mul] at hcs; omega)
        refine ⟨σ, w', .slice (some a') (len + n) cap', ?_, ⟨a', cap', p, rfl, ha, hcr⟩, g2, g3⟩
        rw [hin (by omega)]
        simp only [g1, Result.andThen_ok]
      · rename_i hfit
        split at h
        · rename_i hc0
          subst hc0
          cases h
          have hcap0 : cap' = 0 := by rcases hcr with h | h <;> omega
          subst hcap0
          have hl0 : len = 0 := by omega
          subst hl0
          obtain ⟨cp, hcp, hrun⟩ := hout (by omega) #[] (by simp [Builtin.firstCells, loadCells, loadCellsFrom])
          rw [hrun]
          exact append_new hR hk hN2 (by omega) hc1 hc2 hns hcp
        · rename_i hcne
          split at h
          case isFalse => cases h
          rename_i hro
          cases h
          obtain ⟨rfl, rfl, hend⟩ := hro
          obtain ⟨q, hq1, hqe, hcel⟩ := hR.cel _ _ _ _ hM
          obtain ⟨hlim, C, T, f, hC, hCs, hfz⟩ := hR.own _ _ _ hM q hq1
          have hqp : q = p := by have := ha.2.2.1; rw [hq1] at this; cases this; rfl
          subst hqp
          have hkb : k ≠ a.block := fun e => by rw [e, hM] at hk; cases hk
          by_cases hreal : len + n ≤ cap'
          · -- there is room: in place
            have hroom : a'.off + cap' * q.e ≤ q.lim := by rcases hcr with h | h <;> omega
            have hadd : a'.add (len * ee) = ⟨q.b, q.o + c.size, none⟩ := by
              rw [add_off a' ha.2.1, ha.2.2.2.1, ha.2.2.2.2, Nat.add_assoc, hend]
            have hoff : a'.off + (len + n) * ee ≤ C.size := by
              have : (len + n) * ee ≤ cap' * ee := Nat.mul_le_mul_right _ hreal
              rw [hqe] at hroom; omega
            have hnn : q.o + c.size + NEW'.size ≤ q.lim := by
              have : (len + n) * ee ≤ cap' * ee := Nat.mul_le_mul_right _ hreal
              rw [← hN2.1, hns]
              rw [hqe, ha.2.2.2.2] at hroom
              rw [Nat.add_mul] at this; omega
            have hcell : ∀ j x, C[j]? = some x → w.cell? ⟨q.b, j, none⟩ = some x := fun j x hx => by rw [cell_of_row w _ _ _ _ _ hC]; exact hx
            have hst := run_storeCells_cells (P := P) q.b (q.o + c.size) NEW'.toList 0 w (fun j hj => by
                simp only [Array.length_toList] at hj
                rw [Option.isSome_iff_exists]
                exact ⟨_, hcell _ _ (Array.getElem?_eq_getElem (by omega))⟩)
              (fun j hj => by simp only [Array.length_toList] at hj; exact hfz _ (by omega))
              (fun v hv => by obtain ⟨x, hx⟩ := hN2.mem hv; exact sRel_oneCell hx)
            rw [Nat.add_zero] at hst
            have hC' := setCells_heap NEW'.toList q.b (q.o + c.size) w C T f hC
            have hob : ObOk σ (.cells false ee (c.extract a.off c.size ++ new)) ⟨q.b, q.o + a.off, ee, q.lim⟩ (w.setCells q.b (q.o + c.size) NEW'.toList) := by
              refine ⟨?_, ?_, ?_⟩
              · intro ro e' c' ho
                cases ho
                refine ⟨rfl, fun j x hx => ?_⟩
                simp only [cell_of_row _ _ _ _ _ _ hC']
                rw [setL_get _ _ _ _ (by simp; omega)]
                simp only [Array.length_toList, Array.getElem?_toList]
                by_cases hj : j < c.size - a.off
                · rw [Array.getElem?_append_left (by simp; omega), Array.getElem?_extract, if_pos (by omega)] at hx
                  obtain ⟨v, hv, hsv⟩ := hcel _ _ hx
                  rw [cell_of_row _ _ _ _ _ _ hC] at hv
                  exact ⟨v, by rw [if_neg (by omega), Nat.add_assoc]; exact hv, hsv⟩
                · rw [Array.getElem?_append_right (by simp; omega)] at hx
                  simp only [Array.size_extract] at hx
                  obtain ⟨v, hv, hsv⟩ := hN2.get hx
                  have hjl : j - (c.size - a.off) < NEW'.size := by
                    rcases Nat.lt_or_ge (j - (c.size - a.off)) NEW'.size with h' | h'
                    · exact h'
                    · rw [Array.getElem?_eq_none (by simpa using h')] at hv; cases hv
                  exact ⟨v, by rw [if_pos (by omega), show q.o + a.off + j - (q.o + c.size) = j - (min c.size c.size - a.off) by omega]; exact hv, hsv⟩
              · intro e' c' ho
                cases ho
                refine ⟨?_, _, _, _, hC', by rw [setL_size]; exact hCs, fun j hj => ?_⟩
                · have := hN2.1; simp only [Array.size_append, Array.size_extract]; omega
                · have := hfz j hj
                  simp only [World.frozen?, hC, hC'] at this ⊢
                  exact this
              · intro es ho; cases ho
            obtain ⟨g1, g2⟩ := hR.move (p' := ⟨q.b, q.o + a.off, ee, q.lim⟩) (o := .cells false ee (c.extract a.off c.size ++ new)) (w' := w.setCells q.b (q.o + c.size) NEW'.toList) hq1 (by rw [hM]; rfl) hk rfl hob (by simp) (fun b hb => setCells_heap_other _ _ _ _ _ hb) (setCells_size _ _ _ _) (setCells_os _ _ _ _) (setCells_out _ _ _ _) (setCells_dr _ _ _ _)
            refine ⟨_, _, .slice (some a') (len + n) cap', ?_, ?_, g1, g2⟩
            · rw [hin hreal]
              simp only [hadd, hst, Result.andThen_ok]
            · refine ⟨a', cap', ⟨q.b, q.o + a.off, ee, q.lim⟩, rfl, ⟨rfl, ha.2.1, by simp [Sset], ha.2.2.2.1, by rw [ha.2.2.2.2]; simp⟩, ?_⟩
              by_cases hcn : cap' = len + n
              · exact .inl hcn
              · right; exact ⟨hc1, by omega, hreal, by rw [hqe] at hroom; exact hroom⟩
          · -- no room: a new row
            obtain ⟨OLD, ho1, ho2⟩ := loadCells_sound (P := P) hR.drew ha hM (len * ee) (by omega)
            obtain ⟨cp, hcp, hrun⟩ := hout (by omega) OLD ho1
            rw [hrun]
            have hOLDs : OLD.size = len * ee := by rw [← ho2.1]; simp; omega
            have hsz : (OLD ++ NEW' ++ Builtin.zeroCells z.cells (cp - (len + n))).size = cp * ee := by
              rw [Array.size_append, Array.size_append, zeroCells_size, ← hN2.1, hns, hc2, hOLDs]
              rw [← Nat.add_mul, ← Nat.add_mul]; congr 1; omega
            have hrel : aaRel (sRel σ) (c.extract a.off c.size ++ new) (OLD ++ NEW') := by
              refine aaRel.append ?_ hN2
              rw [← hend]; exact ho2
            have hpre : ∀ (j : Nat) (y : Value), (OLD ++ NEW')[j]? = some y → (OLD ++ NEW' ++ Builtin.zeroCells z.cells (cp - (len + n)))[j]? = some y := fun j y hy => by
              rw [Array.getElem?_append_left]
              · exact hy
              · rcases Nat.lt_or_ge j (OLD ++ NEW').size with h' | h'
                · exact h'
                · rw [Array.getElem?_eq_none h'] at hy; cases hy
            have hle : (OLD ++ NEW').size ≤ (OLD ++ NEW' ++ Builtin.zeroCells z.cells (cp - (len + n))).size := by simp
            generalize OLD ++ NEW' ++ Builtin.zeroCells z.cells (cp - (len + n)) = C0 at hsz hpre hle ⊢
            obtain ⟨k1, k2⟩ := hR.drew.kill a.block
            obtain ⟨g1, g2⟩ := k1.alloc (k := k) (by rw [Mset_ne _ _ hkb]; exact hk) el ee (c.extract a.off c.size ++ new) C0 (by rw [hrel.1]; exact hle) (fun j x hx => by
                obtain ⟨y, hy, hsy⟩ := hrel.get hx
                exact ⟨y, hpre j y hy, hsy⟩)
            refine ⟨_, _, _, rfl, ?_, g1, Fr.trans ⟨k2.ext, k2.size, k2.keep, k2.less, k2.os, k2.out, Nat.le_of_succ_le k2.dr⟩ g2⟩
            refine ⟨⟨w.heap.size, 0, none⟩, cp, ⟨w.heap.size, 0, ee, C0.size⟩, rfl, ⟨rfl, rfl, by simp [Sset], rfl, by simp⟩, ?_⟩
            by_cases hcn : cp = len + n
            · exact .inl hcn
            · right
              refine ⟨hc1, by omega, by omega, ?_⟩
              simp only [hsz]; omega
end
end Go.Lm
/- The soundness of maps, and of one operation as a whole. -/
set_option linter.unusedSimpArgs false
set_option linter.unusedVariables false
namespace Go.Lm

section
variable {P : Program} {σ : Sg} {M : Nat → Ob} {w : World}

/-- entries, on both sides -/
def esRel (σ : Sg) (es : List (Value × Value)) (ents : List MapEntry) : Prop :=
  es.length = ents.length ∧ ∀ (i : Nat) (x : Value × Value) (en : MapEntry), es[i]? = some x → ents[i]? = some en → x.1 = en.key ∧ (∃ k n, x.1 = .int k n) ∧ sRel σ x.2 en.val

theorem esRel.tail {x : Value × Value} {en : MapEntry} {es : List (Value × Value)} {ents : List MapEntry} (h : esRel σ (x :: es) (en :: ents)) : esRel σ es ents :=
  ⟨by simpa using h.1, fun i a b ha hb => h.2 (i + 1) a b (by simpa using ha) (by simpa using hb)⟩
theorem esRel.head {x : Value × Value} {en : MapEntry} {es : List (Value × Value)} {ents : List MapEntry} (h : esRel σ (x :: es) (en :: ents)) : x.1 = en.key ∧ (∃ k n, x.1 = .int k n) ∧ sRel σ x.2 en.val :=
  h.2 0 x en (by simp) (by simp)
theorem esRel.nil : esRel σ [] [] := ⟨rfl, fun i x y h => by simp at h⟩
theorem esRel.cons {x : Value × Value} {en : MapEntry} {es : List (Value × Value)} {ents : List MapEntry} (h0 : x.1 = en.key ∧ (∃ k n, x.1 = .int k n) ∧ sRel σ x.2 en.val) (h : esRel σ es ents) : esRel σ (x :: es) (en :: ents) := by
  refine ⟨by simp [h.1], fun i a b ha hb => ?_⟩
  cases i with
  | zero => simp at ha hb; subst ha; subst hb; exact h0
  | succ i => exact h.2 i a b (by simpa using ha) (by simpa using hb)

theorem lfind_sound {kk : IntKind} (k : IntKind) (n : Int) : ∀ (es : List (Value × Value)) (ents : List MapEntry) (j : Nat) (r : Option Value), esRel σ es ents → lfind es k n = some r →
    ∃ q, Instr.findNow (.int kk) (.int k n) ents j = some q ∧ match r with
      | none => q = none
      | some v => ∃ i en, q = some (j + i, en.val) ∧ ents[i]? = some en ∧ en.key = .int k n ∧ sRel σ v en.val
  | [], ents, j, r, h, hf => by
    cases ents with
    | nil => cases hf; exact ⟨none, rfl, rfl⟩
    | cons a b => have := h.1; simp at this
  | (key, u) :: es, ents, j, r, h, hf => by
    cases ents with
    | nil => have := h.1; simp at this
    | cons en ents =>
      obtain ⟨h1, ⟨k', m, h2⟩, h3⟩ := h.head
      simp only at h1 h2
      subst h2
      simp only [lfind] at hf
      split at hf
      case isFalse => cases hf
      rename_i hk
      subst hk
      simp only [Instr.findNow, ← h1, Instr.sameNow, if_true]
      by_cases hnm : n = m
      · subst hnm
        simp only [if_true] at hf
        cases hf
        simp only [BEq.rfl]
        exact ⟨_, rfl, 0, en, rfl, by simp, h1.symm, h3⟩
      · simp only [hnm, if_false] at hf
        have : (n == m) = false := by simp [hnm]
        simp only [this]
        obtain ⟨q, hq, hr⟩ := lfind_sound k n es ents (j + 1) r h.tail hf
        refine ⟨q, hq, ?_⟩
        cases r with
        | none => exact hr
        | some v =>
          obtain ⟨i, e', hq', he, hk', hs⟩ := hr
          exact ⟨i + 1, e', by rw [hq']; simp; omega, by simpa using he, hk', hs⟩

theorem checkKey_int {empty : Bool} {d : Nat} {kt : TypeId} {kk : IntKind} {v : Value} (h : P.underlying kt = some (.int kk)) : (Instr.checkKey empty (d + 1) kt v).run P w = .ok () w := by
  simp [Instr.checkKey, rUnd h]

/-- the first of its key -/
theorem findNow_first {kk : IntKind} (k : IntKind) (n : Int) : ∀ (ents : List MapEntry) (j i : Nat) (v : Value), Instr.findNow (.int kk) (.int k n) ents j = some (some (j + i, v)) → ∀ m e, m < i → ents[m]? = some e → e.key ≠ .int k n
  | [], j, i, v, h => by cases h
  | en :: ents, j, i, v, h => by
    intro m e hm he hk
    simp only [Instr.findNow] at h
    split at h
    · simp only [Option.some.injEq, Prod.mk.injEq] at h
      omega
    · rename_i hs
      cases m with
      | zero =>
        simp at he
        subst he
        rw [hk] at hs
        simp [Instr.sameNow] at hs
      | succ m =>
        cases i with
        | zero => omega
        | succ i => exact findNow_first k n ents (j + 1) i v (by rw [h]; simp; omega) m e (by omega) (by simpa using he) hk
    · cases h

theorem findKey_sound {kt : TypeId} {kk : IntKind} (hu : P.underlying kt = some (.int kk)) {k : IntKind} {n : Int} {es : List (Value × Value)} {ents : List MapEntry} {r : Option Value} (h : esRel σ es ents) (hf : lfind es k n = some r) :
    ∃ q, (Instr.findKey kt (.int k n) ents).run P w = .ok q w ∧ match r with
      | none => q = none
      | some v => ∃ i en, q = some (i, en.val) ∧ ents[i]? = some en ∧ en.key = .int k n ∧ sRel σ v en.val ∧ ∀ m e, m < i → ents[m]? = some e → e.key ≠ .int k n := by
  obtain ⟨q, hq, hr⟩ := lfind_sound (σ := σ) (kk := kk) k n es ents 0 r h hf
  refine ⟨q, by simp [Instr.findKey, rUnd hu, hq], ?_⟩
  cases r with
  | none => exact hr
  | some v =>
    obtain ⟨i, en, h1, h2, h3, h4⟩ := hr
    refine ⟨i, en, by rw [h1]; simp, h2, h3, h4, findNow_first k n ents 0 i en.val (by rw [hq, h1])⟩

theorem run_getObj_map {b : Nat} {ents : Array MapEntry} {clk : Nat} (h : w.heap[b]? = some (.map ents clk)) : (getObj b).run P w = .ok (.map ents clk) w := by
  simp [getObj, Sem.run, h]

theorem Rep.es (hR : Rep σ M w) {i : Nat} {es : List (Value × Value)} (hM : M i = .map es) {p : Pl} (hp : σ i = some p) : ∃ ents clk, w.heap[p.b]? = some (.map ents clk) ∧ esRel σ es ents.toList := by
  obtain ⟨q, ents, clk, hq, hb, hl, hr⟩ := hR.mp i es hM
  rw [hp] at hq; cases hq
  exact ⟨ents, clk, hb, by simpa using hl, fun i x en hx he => hr i x en hx (by simpa using he)⟩

theorem lookup_sound (hR : Rep σ M w) {t : TypeId} {x rx ix rix v : Value} {ok : Bool} (hx : vRel σ x rx) (hi : vRel σ ix rix) (h : llookup P M t x ix ok = some v) :
    ∃ rv, (Instr.lookup t rx rix ok).run P w = .ok rv w ∧ vRel σ v rv := by
  unfold llookup at h
  split at h
  case h_2 => cases h
  rename_i kt et k n hq
  cases vRel_int hi
  have hu := tyQ_map hq
  split at h
  case h_2 => cases h
  rename_i kk z hk hz
  have huk := tyQ_int hk
  have fin : ∀ (r : Option Value) (ents : Array MapEntry), (match rx with | .map none => ents = #[] | .map (some b) => ∃ clk, w.heap[b]? = some (.map ents clk) | _ => False) →
      (∃ es, esRel σ es ents.toList ∧ lfind es k n = some r) → (match (some r : Option (Option Value)) with
      | some (some v) => some (if ok then Value.tuple #[v, .bool true] else v)
      | some none => if ok then (if gnd0 z then some (.tuple #[z, .bool false]) else none) else some z
      | none => none) = some v → ∃ rv, (Instr.lookup t rx (.int k n) ok).run P w = .ok rv w ∧ vRel σ v rv := by
    intro r ents hrx ⟨es, hes, hf⟩ hv
    obtain ⟨q, hq', hr⟩ := findKey_sound (P := P) (w := w) huk hes hf
    have hrun : (Instr.lookup t rx (.int k n) ok).run P w = (do
        let (v, ok') ← match q with
          | some (_, v) => pure (v, true)
          | none => pure (← zeroValue et, false)
        pure (if ok then .tuple #[v, .bool ok'] else v) : Sem Value).run P w := by
      cases rx with
      | map b =>
        cases b with
        | none =>
          simp only at hrx
          subst hrx
          simp only [Instr.lookup, Sem.run_bind, rUnd hu, Result.andThen_ok, Sem.run_pure, checkKey_int huk]
          rw [hq']
          rfl
        | some b =>
          obtain ⟨clk, hb⟩ := hrx
          simp only [Instr.lookup, Sem.run_bind, rUnd hu, Result.andThen_ok, run_getObj_map hb, Sem.run_pure, checkKey_int huk]
          rw [hq']
          rfl
      | _ => exact hrx.elim
    rw [hrun]
    cases r with
    | none =>
      subst hr
      simp only at hv
      cases ok
      · simp only [Bool.false_eq_true, if_false] at hv
        cases hv
        exact ⟨_, by simp [rZero hz], gnd_vRel (zeroQ_gnd hz)⟩
      · simp only [if_true] at hv
        split at hv
        · rename_i hg
          cases hv
          refine ⟨.tuple #[z, .bool false], by simp [rZero hz], ⟨_, rfl, ?_⟩⟩
          have hz0 : tRel σ z z := gnd_tRel (zeroQ_gnd hz)
          exact (aaRel.one hz0).push rfl
        · cases hv
    | some u =>
      obtain ⟨i, en, rfl, _, _, hs, _⟩ := hr
      simp only at hv
      cases ok
      · simp only [Bool.false_eq_true, if_false] at hv
        cases hv
        exact ⟨en.val, by simp, vRel.of_s hs⟩
      · simp only [if_true] at hv
        cases hv
        have ht : tRel σ u en.val := by cases u <;> first | exact hs | exact hs.elim
        exact ⟨.tuple #[en.val, .bool true], by simp, _, rfl, (aaRel.one ht).push rfl⟩
  cases x with
  | map b =>
    cases b with
    | none =>
      cases (show rx = .map none from hx)
      exact fin none #[] rfl ⟨[], esRel.nil, rfl⟩ h
    | some i =>
      obtain ⟨p, hp, rfl⟩ : ∃ p, σ i = some p ∧ rx = .map (some p.b) := hx
      simp only at h
      cases hM : M i with
      | map es =>
        rw [hM] at h
        simp only at h
        obtain ⟨ents, clk, hb, hes⟩ := hR.es hM hp
        cases hf : lfind es k n with
        | none => rw [hf] at h; cases h
        | some r =>
          rw [hf] at h
          exact fin r ents ⟨clk, hb⟩ ⟨es, hes, hf⟩ h
      | _ => rw [hM] at h; cases h
  | _ => cases h

theorem lput_sound (k : IntKind) (n : Int) (v rv : Value) (hv : sRel σ v rv) (clk : Nat) : ∀ (es : List (Value × Value)) (ents : List MapEntry) (r : Option Value), esRel σ es ents → lfind es k n = some r →
    (r = none → esRel σ (lput es k n v) (ents ++ [{ key := .int k n, val := rv, born := clk }])) ∧
    (∀ i en, r ≠ none → (∀ j e, j < i → ents[j]? = some e → e.key ≠ .int k n) → ents[i]? = some en → en.key = .int k n → esRel σ (lput es k n v) (ents.modify i fun e => { e with key := .int k n, val := rv }))
  | [], ents, r, h, hf => by
    cases ents with
    | nil =>
      cases hf
      exact ⟨fun _ => esRel.cons ⟨rfl, ⟨k, n, rfl⟩, hv⟩ esRel.nil, fun i en hr => absurd rfl hr⟩
    | cons a b => have := h.1; simp at this
  | (key, u) :: es, ents, r, h, hf => by
    cases ents with
    | nil => have := h.1; simp at this
    | cons en ents =>
      obtain ⟨h1, ⟨k', m, h2⟩, h3⟩ := h.head
      simp only at h1 h2
      subst h2
      simp only [lfind] at hf
      split at hf
      case isFalse => cases hf
      rename_i hk
      subst hk
      by_cases hnm : n = m
      · subst hnm
        simp only [if_true] at hf
        cases hf
        refine ⟨fun e => (by cases e), fun i en' _ hfirst hi hkey => ?_⟩
        have hi0 : i = 0 := by
          rcases Nat.eq_zero_or_pos i with h' | h'
          · exact h'
          · exact absurd h1.symm (hfirst 0 en h' (by simp))
        subst hi0
        simp only [lput, and_self, if_true, List.modify_zero_cons]
        exact esRel.cons ⟨rfl, ⟨k, n, rfl⟩, hv⟩ h.tail
      · simp only [hnm, if_false] at hf
        obtain ⟨g1, g2⟩ := lput_sound k n v rv hv clk es ents r h.tail hf
        simp only [lput, hnm, and_false, if_false]
        refine ⟨fun e => esRel.cons ⟨h1, ⟨k, m, rfl⟩, h3⟩ (g1 e), fun i en' hr hfirst hi hkey => ?_⟩
        cases i with
        | zero =>
          simp at hi
          subst hi
          rw [← h1] at hkey
          injection hkey with _ e
          exact absurd e.symm hnm
        | succ i =>
          simp only [List.modify_succ_cons]
          exact esRel.cons ⟨h1, ⟨k, m, rfl⟩, h3⟩ (g2 i en' hr (fun j e hj he => hfirst (j + 1) e (by omega) (by simpa using he)) (by simpa using hi) hkey)

theorem ldel_sound (k : IntKind) (n : Int) : ∀ (es : List (Value × Value)) (ents : List MapEntry) (r : Option Value), esRel σ es ents → lfind es k n = some r →
    (r = none → esRel σ (ldel es k n) ents) ∧
    (∀ i en, r ≠ none → (∀ j e, j < i → ents[j]? = some e → e.key ≠ .int k n) → ents[i]? = some en → en.key = .int k n → esRel σ (ldel es k n) (ents.eraseIdx i))
  | [], ents, r, h, hf => by
    cases ents with
    | nil => cases hf; exact ⟨fun _ => esRel.nil, fun i en hr => absurd rfl hr⟩
    | cons a b => have := h.1; simp at this
  | (key, u) :: es, ents, r, h, hf => by
    cases ents with
    | nil => have := h.1; simp at this
    | cons en ents =>
      obtain ⟨h1, ⟨k', m, h2⟩, h3⟩ := h.head
      simp only at h1 h2
      subst h2
      simp only [lfind] at hf
      split at hf
      case isFalse => cases hf
      rename_i hk
      subst hk
      by_cases hnm : n = m
      · subst hnm
        simp only [if_true] at hf
        cases hf
        refine ⟨fun e => (by cases e), fun i en' _ hfirst hi hkey => ?_⟩
        have hi0 : i = 0 := by
          rcases Nat.eq_zero_or_pos i with h' | h'
          · exact h'
          · exact absurd h1.symm (hfirst 0 en h' (by simp))
        subst hi0
        simp only [ldel, and_self, if_true, List.eraseIdx_cons_zero]
        exact h.tail
      · simp only [hnm, if_false] at hf
        obtain ⟨g1, g2⟩ := ldel_sound k n es ents r h.tail hf
        simp only [ldel, hnm, and_false, if_false]
        refine ⟨fun e => esRel.cons ⟨h1, ⟨k, m, rfl⟩, h3⟩ (g1 e), fun i en' hr hfirst hi hkey => ?_⟩
        cases i with
        | zero =>
          simp at hi
          subst hi
          rw [← h1] at hkey
          injection hkey with _ e
          exact absurd e.symm hnm
        | succ i =>
          simp only [List.eraseIdx_cons_succ]
          exact esRel.cons ⟨h1, ⟨k, m, rfl⟩, h3⟩ (g2 i en' hr (fun j e hj he => hfirst (j + 1) e (by omega) (by simpa using he)) (by simpa using hi) hkey)

theorem setObj_run {b : Nat} {ents : Array MapEntry} {clk : Nat} (h : w.heap[b]? = some (.map ents clk)) (o : Obj) : (setObj b o).run P w = .ok () { w with heap := w.heap.setIfInBounds b o } := by
  simp [setObj, Sem.run, h]

theorem Rep.turnMap (hR : Rep σ M w) {i : Nat} {es es' : List (Value × Value)} (hM : M i = .map es) {p : Pl} (hp : σ i = some p) {ents : Array MapEntry} {clk : Nat} (hb : w.heap[p.b]? = some (.map ents clk)) (ents' : Array MapEntry) (clk' : Nat) (h : esRel σ es' ents'.toList) :
    Rep σ (Mset M i (.map es')) { w with heap := w.heap.setIfInBounds p.b (.map ents' clk') } ∧ Fr σ M w σ (Mset M i (.map es')) { w with heap := w.heap.setIfInBounds p.b (.map ents' clk') } := by
  have hlt := hR.bnd i p hp
  refine hR.turn hp (by rw [hM]; rfl) ⟨?_, ?_, ?_⟩ (by simp) (fun b hb => ?_) (by simp) rfl rfl
  · intro ro e c ho; cases ho
  · intro e c ho; cases ho
  · intro es1 ho
    cases ho
    exact ⟨ents', clk', by simp [hlt], by have := h.1; simpa using this, fun i x en hx he => h.2 i x en hx (by simpa using he)⟩
  · simp [Array.getElem?_setIfInBounds_ne (Ne.symm hb)]

theorem isCell_s {v rv : Value} (hc : isCell v = true) (hv : vRel σ v rv) : sRel σ v rv := by
  cases v <;> first | exact hv | cases hc

theorem mapUpdate_sound (hR : Rep σ M w) {k : Nat} {t : TypeId} {x rx ix rix v rv : Value} {e : Eff} (hx : vRel σ x rx) (hi : vRel σ ix rix) (hv : vRel σ v rv) (h : lmapUpdate P M t x ix v = some e) :
    ∃ w', (Instr.mapUpdate t rx rix rv).run P w = .ok () w' ∧ e.val = undef ∧ Rep σ (appE M k e) w' ∧ Fr σ M w σ (appE M k e) w' := by
  unfold lmapUpdate at h
  split at h
  case h_2 => cases h
  rename_i kt et i kk n hq
  cases vRel_int hi
  obtain ⟨p, hp, rfl⟩ : ∃ p, σ i = some p ∧ rx = .map (some p.b) := hx
  split at h
  case h_2 => cases h
  rename_i k1 es hk hM
  split at h
  case h_2 => cases h
  rename_i r hf
  split at h
  case isFalse => cases h
  rename_i hcell
  cases h
  have hu := tyQ_map hq
  have huk := tyQ_int hk
  have hs := isCell_s hcell hv
  obtain ⟨ents, clk, hb, hes⟩ := hR.es hM hp
  obtain ⟨q, hq', hr⟩ := findKey_sound (P := P) (w := w) huk hes hf
  obtain ⟨g1, g2⟩ := lput_sound kk n v rv hs clk es ents.toList r hes hf
  cases r with
  | none =>
    subst hr
    obtain ⟨a1, a2⟩ := hR.turnMap hM hp hb (ents.push { key := .int kk n, val := rv, born := clk }) (clk + 1) (by simpa using g1 rfl)
    refine ⟨_, ?_, rfl, a1, a2⟩
    simp only [Instr.mapUpdate, Sem.run_bind, rUnd hu, Result.andThen_ok, run_getObj_map hb, checkKey_int huk, hq', setObj_run hb]
  | some u =>
    obtain ⟨j, en, rfl, he, hkey, _, hfirst⟩ := hr
    have := g2 j en (by simp) (fun m e hm he => hfirst m e hm he) he hkey
    obtain ⟨a1, a2⟩ := hR.turnMap hM hp hb (ents.modify j fun e => { e with key := .int kk n, val := rv }) clk (by simpa using this)
    refine ⟨_, ?_, rfl, a1, a2⟩
    have he' : ents[j]? = some en := by simpa using he
    have hks : (Instr.keyThatStays (.int kk n) (.int kk n)).run P w = .ok (.int kk n) w := by simp [Instr.keyThatStays, Instr.sameBits]
    simp only [Instr.mapUpdate, Sem.run_bind, rUnd hu, Result.andThen_ok, run_getObj_map hb, checkKey_int huk, hq', he', Option.map_some, Option.getD_some, hkey, hks, setObj_run hb]

theorem delete_sound (hR : Rep σ M w) {k : Nat} {ts : Array TypeId} {ty : TypeId} {args : List Value} {rargs : Array Value} {e : Eff}
    (hl : args.length = rargs.size) (hr : ∀ (j : Nat) (x y : Value), args[j]? = some x → rargs[j]? = some y → vRel σ x y) (h : ldelete P M ts args = some e) :
    RanV σ M w k ((Builtin.delete_ ts ty rargs).run P w) e := by
  unfold ldelete at h
  split at h
  case h_2 => cases h
  rename_i t i kk n ht
  obtain ⟨rs, hrs⟩ : ∃ rs, rargs[0]? = some rs := ⟨rargs[0]'(by simp at hl; omega), Array.getElem?_eq_getElem _⟩
  obtain ⟨rx, hrx⟩ : ∃ rx, rargs[1]? = some rx := ⟨rargs[1]'(by simp at hl; omega), Array.getElem?_eq_getElem _⟩
  have hs0 := hr 0 (.map (some i)) rs (by simp) hrs
  have hx0 := hr 1 (.int kk n) rx (by simp) hrx
  cases vRel_int hx0
  obtain ⟨p, hp, rfl⟩ : ∃ p, σ i = some p ∧ rs = .map (some p.b) := hs0
  split at h
  case h_2 => cases h
  rename_i kt et hq
  split at h
  case h_2 => cases h
  rename_i k1 es hk hM
  split at h
  case h_2 => cases h
  rename_i r hf
  cases h
  have hu := tyQ_map hq
  have huk := tyQ_int hk
  obtain ⟨ents, clk, hb, hes⟩ := hR.es hM hp
  obtain ⟨q, hq', hr⟩ := findKey_sound (P := P) (w := w) huk hes hf
  obtain ⟨g1, g2⟩ := ldel_sound kk n es ents.toList r hes hf
  cases r with
  | none =>
    subst hr
    obtain ⟨a1, a2⟩ := hR.turnMap hM hp hb ents clk (g1 rfl)
    refine ⟨σ, _, .tuple #[], ?_, ⟨_, rfl, aaRel.nil _⟩, a1, a2⟩
    simp only [Builtin.delete_, ht, hrs, hrx, Sem.run_bind, rUnd hu, Result.andThen_ok, run_getObj_map hb, checkKey_int huk, hq', setObj_run hb, Sem.run_pure]
  | some u =>
    obtain ⟨j, en, rfl, he, hkey, _, hfirst⟩ := hr
    have := g2 j en (by simp) (fun m e hm he => hfirst m e hm he) he hkey
    obtain ⟨a1, a2⟩ := hR.turnMap hM hp hb (ents.eraseIdxIfInBounds j) clk (by rw [Array.toList_eraseIdxIfInBounds]; exact this)
    refine ⟨σ, _, .tuple #[], ?_, ⟨_, rfl, aaRel.nil _⟩, a1, a2⟩
    simp only [Builtin.delete_, ht, hrs, hrx, Sem.run_bind, rUnd hu, Result.andThen_ok, run_getObj_map hb, checkKey_int huk, hq', setObj_run hb, Sem.run_pure]

theorem makeMap_sound (hR : Rep σ M w) {k : Nat} (hk : M k = .free) (t : TypeId) : RanV σ M w k ((Instr.makeMap t none).run P w) { val := .map (some k), new := some (.map []) } := by
  have hσ := hR.fr k hk
  have hle : σ.le (Sset σ k ⟨w.heap.size, 0, 0, 0⟩) := Sset_le hσ
  have hnew : (w.alloc (.map #[] 0)).heap[w.heap.size]? = some (.map #[] 0) := heap_alloc_new w _
  have hold : ∀ b, b < w.heap.size → (w.alloc (.map #[] 0)).heap[b]? = w.heap[b]? := fun b hb => heap_alloc_old w _ b hb
  have hs : ∀ j q, Sset σ k ⟨w.heap.size, 0, 0, 0⟩ j = some q → (j = k ∧ q = ⟨w.heap.size, 0, 0, 0⟩) ∨ (j ≠ k ∧ σ j = some q) := fun j q hq => by
    by_cases hj : j = k
    · simp [Sset, hj] at hq; exact .inl ⟨hj, hq.symm⟩
    · simp [Sset, hj] at hq; exact .inr ⟨hj, hq⟩
  refine ⟨_, w.alloc (.map #[] 0), .map (some w.heap.size), rfl, ⟨⟨w.heap.size, 0, 0, 0⟩, by simp [Sset], rfl⟩, Rep.mk' ?_ ?_ ?_ ?_, ⟨hle, ?_, ?_, ?_, rfl, rfl, Nat.le_refl _⟩⟩
  · intro j hj
    by_cases e1 : j = k
    · simp [appE, appM, Mset, e1] at hj
    · simp only [appE, appM, Mset, e1, if_false] at hj; simp [Sset, e1, hR.fr j hj]
  · intro j hj
    by_cases e1 : j = k
    · subst e1
      refine ⟨⟨w.heap.size, 0, 0, 0⟩, by simp [Sset], ?_, ?_, ?_⟩
      · intro ro e c ho; simp [appE, appM] at ho
      · intro e c ho; simp [appE, appM] at ho
      · intro es ho
        simp only [appE, appM, Mset_same] at ho
        cases ho
        exact ⟨#[], 0, hnew, rfl, fun i x en hx => by simp at hx⟩
    · simp only [appE, appM, Mset_ne M _ e1] at hj ⊢
      obtain ⟨p, hp⟩ := hR.place hj
      exact ⟨p, hle _ _ hp, ((hR.ok hp).world (hold _ (hR.bnd j p hp))).mono hle⟩
  · intro j j' hne hrw hal p p' hp hp'
    rcases hs j p hp with ⟨e1, e2⟩ | ⟨e1, e2⟩
    · rcases hs j' p' hp' with ⟨e3, e4⟩ | ⟨e3, e4⟩
      · exact absurd (e1.trans e3.symm) hne
      · have := hR.bnd j' p' e4; rw [e2]; show w.heap.size ≠ p'.b; omega
    · rcases hs j' p' hp' with ⟨e3, e4⟩ | ⟨e3, e4⟩
      · have := hR.bnd j p e2; rw [e4]; show p.b ≠ w.heap.size; omega
      · simp only [appE, appM, Mset_ne M _ e1] at hrw; simp only [appE, appM, Mset_ne M _ e3] at hal; exact hR.sep j j' hne hrw hal p p' e2 e4
  · intro j p hp
    rcases hs j p hp with ⟨e1, e2⟩ | ⟨e1, e2⟩
    · rw [e2]; simp
    · have := hR.bnd j p e2; simp; omega
  · simp
  · intro b hb _; exact hold b hb
  · rintro b hb ⟨j, p, hp, hpb, hrw⟩
    rcases hs j p hp with ⟨e1, e2⟩ | ⟨e1, e2⟩
    · rw [e2] at hpb; simp at hpb; omega
    · simp only [appE, appM, Mset_ne M _ e1] at hrw; exact ⟨j, p, e2, hpb, hrw⟩
end
end Go.Lm
/- The soundness of one operation. -/
namespace Go.Lm

def Ran (σ : Sg) (M : Nat → Ob) (w : World) (k : Nat) (r : Result Next) (e : Eff) : Prop :=
  ∃ σ' w', Rep σ' (appE M k e) w' ∧ Fr σ M w σ' (appE M k e) w' ∧ ((∃ rv, r = .ok (.value rv) w' ∧ vRel σ' e.val rv) ∨ (r = .ok .skip w' ∧ e.val = undef))

section
variable {P : Program} {σ : Sg} {M : Nat → Ob} {w : World}

theorem RanV.ran {k : Nat} {s : Sem Value} {e : Eff} (h : RanV σ M w k (s.run P w) e) : Ran σ M w k ((do pure (Next.value (← s)) : Sem Next).run P w) e := by
  obtain ⟨σ', w', rv, h1, h2, h3, h4⟩ := h
  exact ⟨σ', w', h3, h4, .inl ⟨rv, by simp [h1], h2⟩⟩

theorem ran_pure (hR : Rep σ M w) {k : Nat} {s : Sem Value} {v : Value} (h : ∃ rv, s.run P w = .ok rv w ∧ vRel σ v rv) : Ran σ M w k ((do pure (Next.value (← s)) : Sem Next).run P w) { val := v } := by
  obtain ⟨rv, h1, h2⟩ := h
  exact (ranV_pure hR h1 h2).ran

theorem ran_unit {k : Nat} {s : Sem Unit} {e : Eff} (h : ∃ w', s.run P w = .ok () w' ∧ e.val = undef ∧ Rep σ (appE M k e) w' ∧ Fr σ M w σ (appE M k e) w') : Ran σ M w k ((do s; pure Next.skip : Sem Next).run P w) e := by
  obtain ⟨w', h1, h2, h3, h4⟩ := h
  exact ⟨σ, w', h3, h4, .inr ⟨by simp [h1], h2⟩⟩

theorem evp_sound {env : Env} {a : Act} (r : EnvRel σ env a.tmps) : ∀ {l : List (Nat × Operand)} {vs : List (Nat × Value)}, evp env l = some vs →
    vs.length = (l.map fun x => (x.1, a.eval x.2)).length ∧ ∀ (i : Nat) (x y : Nat × Value), vs[i]? = some x → (l.map fun x => (x.1, a.eval x.2))[i]? = some y → x.1 = y.1 ∧ vRel σ x.2 y.2
  | [], vs, h => by cases h; exact ⟨rfl, fun i v x h => by simp at h⟩
  | (j, x) :: l, vs, h => by
    simp only [evp] at h
    split at h
    · rename_i v vs' h1 h2
      cases h
      obtain ⟨e1, e2⟩ := evp_sound r h2
      refine ⟨by simp at e1; simp [e1], fun i u y hu hy => ?_⟩
      cases i with
      | zero => simp at hu hy; subst hu; subst hy; exact ⟨rfl, ev_sound r h1⟩
      | succ i => simp only [List.map_cons, List.getElem?_cons_succ] at hu hy; exact e2 i u y hu hy
    · cases h

theorem evs_rel {env : Env} {a : Act} (r : EnvRel σ env a.tmps) {l : Array Operand} {vs : List Value} (h : evs env l.toList = some vs) :
    vs.length = (l.map a.eval).size ∧ ∀ (i : Nat) (x y : Value), vs[i]? = some x → (l.map a.eval)[i]? = some y → vRel σ x y := by
  obtain ⟨e1, e2⟩ := evs_sound r h
  refine ⟨by simpa using e1, fun i x y hx hy => ?_⟩
  rw [Array.getElem?_map] at hy
  cases hl : l[i]? with
  | none => rw [hl] at hy; cases hy
  | some o => rw [hl] at hy; cases hy; exact e2 i x o hx (by simpa using hl)

theorem evo_sound {env : Env} {a : Act} (r : EnvRel σ env a.tmps) {o : Option Operand} {n : Option Int} (h : evo env o = some n) : optRel n (o.map a.eval) := by
  cases o with
  | none => cases h; rfl
  | some x =>
    simp only [evo] at h
    split at h
    · rename_i k m he
      cases h
      exact ⟨k, by rw [Option.map_some, vRel_int (ev_sound r he)]⟩
    · cases h

theorem isBasic_b {v rv : Value} (hb : isBasic v = true) (hv : vRel σ v rv) : bRel σ v rv := by
  cases v <;> first | exact hv | cases hb

theorem basics {vs : List Value} {ys : Array Value} (hb : vs.all isBasic = true) (hl : vs.length = ys.size) (h : ∀ (i : Nat) (x y : Value), vs[i]? = some x → ys[i]? = some y → vRel σ x y) : aaRel (bRel σ) vs.toArray ys := by
  refine ⟨by simpa using hl, fun i x y hx hy => ?_⟩
  rw [List.getElem?_toArray] at hx
  exact isBasic_b (List.all_eq_true.1 hb x (List.mem_of_getElem? hx)) (h i x y hx hy)

theorem alloc_sound (hR : Rep σ M w) {k : Nat} (hk : M k = .free) {t : TypeId} {z : Value} (hz : zeroQ P t = some z) :
    RanV σ M w k ((Instr.alloc t true (.tuple #[])).run P w) { val := ptr0 k, new := some (.cells false 0 z.cells) } := by
  have hr := zero_rel (σ := σ) hz
  obtain ⟨h1, h2⟩ := hR.alloc hk t 0 z.cells z.cells (Nat.le_refl _) (fun j x hx => hr.get hx)
  refine ⟨_, _, .pointer (some ⟨w.heap.size, 0, none⟩), ?_, ?_, h1, h2⟩
  · simp [Instr.alloc, rZero hz, newVar, newRow]
  · exact ⟨⟨w.heap.size, 0, none⟩, ⟨w.heap.size, 0, 0, z.cells.size⟩, rfl, rfl, rfl, by simp [Sset], rfl, by simp⟩

theorem box_sound (hR : Rep σ M w) {k : Nat} (hk : M k = .free) {t : TypeId} {v rv : Value} (hv : vRel σ v rv) {c : Array Value} (hc : vcells v = some c) :
    RanV σ M w k ((Instr.box t rv).run P w) { val := ptr0 k, new := some (.cells false 0 c) } := by
  have hr := vRel_cells hv hc
  obtain ⟨h1, h2⟩ := hR.alloc hk t 0 c rv.cells (by rw [hr.1]; exact Nat.le_refl _) (fun j x hx => hr.get hx)
  refine ⟨_, _, .pointer (some ⟨w.heap.size, 0, none⟩), ?_, ?_, h1, h2⟩
  · simp [Instr.box, newVar, newRow]
  · exact ⟨⟨w.heap.size, 0, none⟩, ⟨w.heap.size, 0, 0, rv.cells.size⟩, rfl, rfl, rfl, by simp [Sset], rfl, by simp⟩

theorem call_sound (hR : Rep σ M w) {env : Env} {a : Act} (hE : EnvRel σ env a.tmps) {k : Nat} (hk : M k = .free) {c : Call} {ty : TypeId} {e : Eff} (h : lblt P env M k c = some e) :
    Ran σ M w k ((do let d ← resolve a.eval c ty; invoke d.target d.args : Sem Next).run P w) e := by
  unfold lblt at h
  have hb : ∀ b, c.callee = .builtin b → (do let d ← resolve a.eval c ty; invoke d.target d.args : Sem Next).run P w = (builtin b c.argTypes ty (c.args.map fun | .const _ => true | _ => false) (c.args.map a.eval)).run P w := by
    intro b hb
    simp only [resolve, hb, pure_bind]
    rfl
  split at h
  · rename_i vs hc hvs
    rw [hb _ hc]
    obtain ⟨e1, e2⟩ := evs_rel hE hvs
    exact (append_sound hR hk e1 e2 h).ran
  · rename_i vs hc hvs
    rw [hb _ hc]
    obtain ⟨e1, e2⟩ := evs_rel hE hvs
    exact (copy_sound hR e1 e2 h).ran
  · rename_i vs hc hvs
    rw [hb _ hc]
    obtain ⟨e1, e2⟩ := evs_rel hE hvs
    exact (delete_sound hR e1 e2 h).ran
  · rename_i x r hc hvs
    rw [hb _ hc]
    obtain ⟨e1, e2⟩ := evs_rel hE hvs
    split at h
    case h_2 => cases h
    rename_i t ht
    split at h <;> cases h
    rename_i v hv
    obtain ⟨rx, hrx⟩ : ∃ rx, (c.args.map a.eval)[0]? = some rx := ⟨(c.args.map a.eval)[0]'(by rw [← e1]; simp), Array.getElem?_eq_getElem _⟩
    obtain ⟨g1, n, rfl⟩ := len_sound (P := P) (w := w) (ty := ty) hR ht hrx (e2 0 x rx (by simp) hrx) hv
    exact ran_pure hR ⟨_, g1, rfl⟩
  · rename_i x r hc hvs
    rw [hb _ hc]
    obtain ⟨e1, e2⟩ := evs_rel hE hvs
    split at h <;> cases h
    rename_i v hv
    generalize hrl : (c.args.map a.eval) = ra at e1 e2
    obtain ⟨rx, rr, hl⟩ : ∃ rx rr, ra.toList = rx :: rr := by
      cases hq : ra.toList with
      | nil => have : ra.size = 0 := by rw [← Array.length_toList, hq]; rfl
               rw [this] at e1; simp at e1
      | cons u v => exact ⟨u, v, rfl⟩
    have hx := e2 0 x rx (by simp) (by rw [← Array.getElem?_toList, hl]; simp)
    have hrel : ∀ (j : Nat) (u v : Value), r[j]? = some u → rr[j]? = some v → vRel σ u v := fun j u v hu hv => e2 (j + 1) u v (by simpa using hu) (by rw [← Array.getElem?_toList, hl]; simpa using hv)
    have hlen : r.length = rr.length := by
      have : ra.size = (rx :: rr).length := by rw [← hl]; simp
      rw [this] at e1; simpa using e1
    obtain ⟨k1, n1, rfl⟩ : ∃ k1 n1, x = .int k1 n1 := by
      unfold lmin at hv; split at hv
      · exact ⟨_, _, rfl⟩
      · exact ⟨_, _, rfl⟩
      · cases hv
    cases vRel_int hx
    obtain ⟨g1, k2, n2, rfl⟩ := min_sound (P := P) (w := w) r rr _ v hv hlen hrel
    refine ran_pure (s := Builtin.min_ c.argTypes ty ra) hR ⟨_, ?_, rfl⟩
    simp only [Builtin.min_, hl]
    simpa using g1
  · rename_i x r hc hvs
    rw [hb _ hc]
    obtain ⟨e1, e2⟩ := evs_rel hE hvs
    split at h <;> cases h
    rename_i v hv
    generalize hrl : (c.args.map a.eval) = ra at e1 e2
    obtain ⟨rx, rr, hl⟩ : ∃ rx rr, ra.toList = rx :: rr := by
      cases hq : ra.toList with
      | nil => have : ra.size = 0 := by rw [← Array.length_toList, hq]; rfl
               rw [this] at e1; simp at e1
      | cons u v => exact ⟨u, v, rfl⟩
    have hx := e2 0 x rx (by simp) (by rw [← Array.getElem?_toList, hl]; simp)
    have hrel : ∀ (j : Nat) (u v : Value), r[j]? = some u → rr[j]? = some v → vRel σ u v := fun j u v hu hv => e2 (j + 1) u v (by simpa using hu) (by rw [← Array.getElem?_toList, hl]; simpa using hv)
    have hlen : r.length = rr.length := by
      have : ra.size = (rx :: rr).length := by rw [← hl]; simp
      rw [this] at e1; simpa using e1
    obtain ⟨k1, n1, rfl⟩ : ∃ k1 n1, x = .int k1 n1 := by
      unfold lmin at hv; split at hv
      · exact ⟨_, _, rfl⟩
      · exact ⟨_, _, rfl⟩
      · cases hv
    cases vRel_int hx
    obtain ⟨g1, k2, n2, rfl⟩ := min_sound (P := P) (w := w) r rr _ v hv hlen hrel
    refine ran_pure (s := Builtin.max_ c.argTypes ty ra) hR ⟨_, ?_, rfl⟩
    simp only [Builtin.max_, hl]
    simpa using g1
  · cases h

theorem lop_sound (hR : Rep σ M w) {env : Env} {a : Act} (hE : EnvRel σ env a.tmps) {k : Nat} (hk : M k = .free) (o : Oper) {e : Eff} (h : lop P env M k o.op = some e) :
    Ran σ M w k ((execOp a.eval o).run P w) e := by
  unfold execOp
  cases ho : o.op <;> rw [ho] at h <;> simp only [lop] at h <;> try (cases h; done)
  case move x =>
    split at h <;> cases h
    rename_i v hv
    exact ⟨σ, w, hR, .refl _ _ _, .inl ⟨_, rfl, ev_sound hE hv⟩⟩
  case assign x =>
    split at h <;> cases h
    rename_i v hv
    exact ⟨σ, w, hR, .refl _ _ _, .inl ⟨_, rfl, ev_sound hE hv⟩⟩
  case pick c x y =>
    split at h
    case h_2 => cases h
    rename_i t hc
    split at h <;> cases h
    rename_i v hv
    have hcv := vRel_bool (ev_sound hE hc)
    refine ⟨σ, w, hR, .refl _ _ _, .inl ⟨a.eval (if t then x else y), ?_, ev_sound hE hv⟩⟩
    simp only [hcv, asBool, pure_bind, Sem.run_pure]
    cases t <;> rfl
  case alloc t =>
    split at h <;> cases h
    rename_i z hz
    exact (alloc_sound hR hk hz).ran
  case box t x =>
    split at h
    case h_2 => cases h
    rename_i v hv
    split at h <;> cases h
    rename_i c hc
    exact (box_sound hR hk (ev_sound hE hv) hc).ran
  case build t parts =>
    split at h
    case h_2 => cases h
    rename_i ps hps
    split at h <;> cases h
    rename_i v hv
    obtain ⟨e1, e2⟩ := evp_sound hE hps
    have := build_sound (P := P) (w := w) e1 e2 hv
    refine ran_pure hR ?_
    have he : (parts.map fun x => (x.1, a.eval x.2)) = (parts.toList.map fun x => (x.1, a.eval x.2)).toArray := by rw [← Array.toList_map, Array.toArray_toList]
    show ∃ rv, (Instr.build t (parts.map fun x => (x.1, a.eval x.2))).run P w = .ok rv w ∧ vRel σ v rv
    rw [he]; exact this
  case buildSlice t len parts =>
    split at h
    case h_2 => cases h
    rename_i ps hps
    obtain ⟨e1, e2⟩ := evp_sound hE hps
    have := buildSlice_sound (P := P) hR hk e1 e2 h
    have he : (parts.map fun x => (x.1, a.eval x.2)) = (parts.toList.map fun x => (x.1, a.eval x.2)).toArray := by rw [← Array.toList_map, Array.toArray_toList]
    have he2 : (parts.map fun (i, x) => (i, a.eval x)) = (parts.map fun x => (x.1, a.eval x.2)) := rfl
    rw [← he, ← he2] at this
    exact this.ran
  case load t x =>
    split at h
    case h_2 => cases h
    rename_i p hp
    split at h <;> cases h
    rename_i v hv
    exact ran_pure hR (load_sound hR (ev_sound hE hp) hv)
  case store t x y =>
    split at h
    case h_2 => cases h
    rename_i p v hp hv
    exact ran_unit (store_sound hR (ev_sound hE hp) (ev_sound hE hv) h)
  case nilCheck x =>
    split at h
    · rename_i b hb
      cases h
      have hv := ev_sound hE hb
      obtain ⟨a', p, e1, e2⟩ := vRel_ptr hv
      exact ⟨σ, w, hR, .refl _ _ _, .inl ⟨.pointer (some a'), by simp [e1], by rw [← e1]; exact hv⟩⟩
    · rename_i g fi ca hb
      cases h
      have hv := ev_sound hE hb
      obtain ⟨fi', ca', e1, e2, e3⟩ : ∃ fi' ca', a.eval x = .func (.func g) fi' ca' ∧ aaRel (bRel σ) fi fi' ∧ aaRel (bRel σ) ca ca' := hv
      exact ⟨σ, w, hR, .refl _ _ _, .inl ⟨.func (.func g) fi' ca', by simp [e1], by rw [← e1]; exact ev_sound hE hb⟩⟩
    · cases h
  case binOp op t x y t' =>
    split at h
    case h_2 => cases h
    rename_i u v hu hv
    split at h <;> cases h
    rename_i r hr
    exact ran_pure hR (lbin_sound x y (ev_sound hE hu) (ev_sound hE hv) hr)
  case unOp op t x =>
    split at h
    case h_2 => cases h
    rename_i u hu
    split at h <;> cases h
    rename_i r hr
    exact ran_pure hR (lun_sound (ev_sound hE hu) hr)
  case convert src dst x =>
    split at h
    case h_2 => cases h
    rename_i u hu
    exact (conv_sound hR hk (ev_sound hE hu) h).ran
  case makeFunc fn first captured =>
    split at h
    case h_2 => cases h
    rename_i u v hu hv
    split at h <;> cases h
    rename_i hb
    simp only [Bool.and_eq_true] at hb
    obtain ⟨e1, e2⟩ := evs_rel hE hu
    obtain ⟨e3, e4⟩ := evs_rel hE hv
    exact ran_pure hR ⟨_, rfl, _, _, rfl, basics hb.1 e1 e2, basics hb.2 e3 e4⟩
  case makeMap t r =>
    cases r with
    | some x => cases h
    | none => cases h; exact (makeMap_sound hR hk t).ran
  case makeSlice t l c =>
    split at h
    case h_2 => cases h
    rename_i u v hu hv
    exact (makeSlice_sound hR hk (ev_sound hE hu) (ev_sound hE hv) h).ran
  case slice t x lo hi mx =>
    split at h
    case h_2 => cases h
    rename_i u l hh m hu hl hh' hm
    split at h <;> cases h
    rename_i r hr
    exact ran_pure hR (slice_sound hR (ev_sound hE hu) (evo_sound hE hl) (evo_sound hE hh') (evo_sound hE hm) hr)
  case fieldAddr t x f =>
    split at h
    case h_2 => cases h
    rename_i u hu
    split at h <;> cases h
    rename_i r hr
    exact ran_pure hR (fieldAddr_sound (ev_sound hE hu) hr)
  case field t x f =>
    split at h
    case h_2 => cases h
    rename_i u hu
    split at h <;> cases h
    rename_i r hr
    exact ran_pure hR (field_sound (ev_sound hE hu) hr)
  case indexAddr t x i =>
    split at h
    case h_2 => cases h
    rename_i u j hu hj
    split at h <;> cases h
    rename_i r hr
    exact ran_pure hR (indexAddr_sound (ev_sound hE hu) (ev_sound hE hj) hr)
  case index t x i =>
    split at h
    case h_2 => cases h
    rename_i u j hu hj
    split at h <;> cases h
    rename_i r hr
    exact ran_pure hR (index_sound (ev_sound hE hu) (ev_sound hE hj) hr)
  case lookup t x i ok =>
    split at h
    case h_2 => cases h
    rename_i u j hu hj
    split at h <;> cases h
    rename_i r hr
    exact ran_pure hR (lookup_sound hR (ev_sound hE hu) (ev_sound hE hj) hr)
  case mapUpdate t m i x =>
    split at h
    case h_2 => cases h
    rename_i u j v hu hj hv
    exact ran_unit (mapUpdate_sound hR (ev_sound hE hu) (ev_sound hE hj) (ev_sound hE hv) h)
  case extract x i =>
    split at h
    case h_2 => cases h
    rename_i vs hvs
    split at h <;> cases h
    rename_i v hv
    obtain ⟨C, e1, e2⟩ : ∃ C, a.eval x = .tuple C ∧ aaRel (tRel σ) vs C := ev_sound hE hvs
    obtain ⟨y, hy, ht⟩ := e2.get hv
    exact ran_pure hR ⟨y, by simp [Instr.extract, e1, hy], by cases v <;> first | exact ht | exact ht.elim⟩
  case call c => exact call_sound hR hE hk h
end
end Go.Lm
/- A Go function's code over a local environment and a local memory, as a proposition; its soundness. -/
namespace Go.Lm

/-- How a piece of code is left. -/
inductive Ex where
  | normal
  | exit (id : Nat)
  | ret

/-- A local memory: what the caller has (numbers below n), and what this call has made. -/
structure Mem where
  base : Nat → Ob
  n : Nat
  loc : List Ob

def Mem.get (m : Mem) (k : Nat) : Ob := if k < m.n then m.base k else (m.loc[k - m.n]?).getD .free
def Mem.top (m : Mem) : Nat := m.n + m.loc.length
def Mem.put (m : Mem) (k : Nat) (o : Ob) : Mem :=
  if k < m.n then { m with base := Mset m.base k o }
  else if k < m.top then { m with loc := m.loc.set (k - m.n) o }
  else { m with loc := m.loc ++ List.replicate (k - m.top) .free ++ [o] }

def Mem.puts (m : Mem) : List (Nat × Ob) → Mem
  | [] => m
  | (i, o) :: r => (m.put i o).puts r

def Mem.app (m : Mem) (k : Nat) (e : Eff) : Mem :=
  match e.new with
  | some o => (m.puts e.mods).put k o
  | none => m.puts e.mods

theorem Mem.get_put (m : Mem) (k : Nat) (o : Ob) : (m.put k o).get = Mset m.get k o := by
  funext j
  unfold Mem.put
  by_cases hk : k < m.n
  · rw [if_pos hk]
    simp only [Mem.get, Mset]
    by_cases hj : j = k
    · subst hj; rw [if_pos hk, if_pos rfl, if_pos rfl]
    · rw [if_neg hj, if_neg hj]
  · rw [if_neg hk]
    by_cases hk2 : k < m.top
    · rw [if_pos hk2]
      simp only [Mem.top] at hk2
      simp only [Mem.get, Mset]
      by_cases hj : j < m.n
      · rw [if_pos hj, if_neg (by omega), if_pos hj]
      · rw [if_neg hj, if_neg hj]
        by_cases he : j = k
        · subst he; rw [if_pos rfl, List.getElem?_set_self (by omega)]; rfl
        · rw [if_neg he, List.getElem?_set_ne (by omega)]
    · rw [if_neg hk2]
      simp only [Mem.top] at hk2
      simp only [Mem.get, Mset, Mem.top]
      by_cases hj : j < m.n
      · rw [if_pos hj, if_neg (by omega), if_pos hj]
      · rw [if_neg hj, if_neg hj, List.append_assoc]
        by_cases h1 : j - m.n < m.loc.length
        · rw [List.getElem?_append_left h1, if_neg (by omega)]
        · rw [List.getElem?_append_right (by omega), List.getElem?_eq_none (l := m.loc) (by omega)]
          by_cases h2 : j - m.n - m.loc.length < k - (m.n + m.loc.length)
          · rw [List.getElem?_append_left (by rw [List.length_replicate]; exact h2), if_neg (by omega), List.getElem?_replicate, if_pos h2]
            rfl
          · rw [List.getElem?_append_right (by rw [List.length_replicate]; omega), List.length_replicate]
            by_cases he : j = k
            · subst he
              rw [if_pos rfl, show j - m.n - m.loc.length - (j - (m.n + m.loc.length)) = 0 by omega]
              rfl
            · rw [if_neg he, List.getElem?_eq_none (by simp; omega)]

theorem Mem.get_puts : ∀ (l : List (Nat × Ob)) (m : Mem), (m.puts l).get = appM m.get l
  | [], _ => rfl
  | (i, o) :: r, m => by simp only [Mem.puts, appM]; rw [Mem.get_puts r, Mem.get_put]

theorem Mem.get_app (m : Mem) (k : Nat) (e : Eff) : (m.app k e).get = appE m.get k e := by
  unfold Mem.app appE
  cases e.new with
  | some o => simp only; rw [Mem.get_put, Mem.get_puts]
  | none => simp only; rw [Mem.get_puts]

theorem Mem.get_top (m : Mem) : m.get m.top = .free := by
  unfold Mem.get Mem.top
  rw [if_neg (by omega), List.getElem?_eq_none (by omega)]
  rfl

def argsRel (σ : Sg) (vs : List Value) (rs : Array Value) : Prop :=
  vs.length = rs.size ∧ ∀ (i : Nat) (x y : Value), vs[i]? = some x → rs[i]? = some y → vRel σ x y

/-- What a call has come to. -/
def PostC (σ : Sg) (m : Mem) (w : World) (Q : Value → Mem → Prop) (e : Ending) (w' : World) : Prop :=
  ∃ v rv m' σ', e = .returned rv ∧ Q v m' ∧ Rep σ' m'.get w' ∧ vRel σ' v rv ∧ Fr σ m.get w σ' m'.get w'

/-- The contract of a call. -/
def TC (P : Program) (g : FuncId) (vs : List Value) (m : Mem) (Q : Value → Mem → Prop) : Prop :=
  ∀ (σ : Sg) (w : World) (rs : Array Value), Rep σ m.get w → argsRel σ vs rs →
    ((callFunc g rs).run P w = .ok (.enter g rs) w ∧ Calls P g rs w (PostC σ m w Q)) ∨
    (∃ rv w', (callFunc g rs).run P w = .ok (.value rv) w' ∧ PostC σ m w Q (.returned rv) w')

theorem TC.mono {P : Program} {g : FuncId} {vs : List Value} {m : Mem} {Q Q' : Value → Mem → Prop} (h : TC P g vs m Q) (hq : ∀ v m', Q v m' → Q' v m') : TC P g vs m Q' := by
  intro σ w rs hR ha
  rcases h σ w rs hR ha with ⟨h1, h2⟩ | ⟨rv, w', h1, v, rv', m', σ', h2, h3, h4⟩
  · exact .inl ⟨h1, h2.mono fun e w' ⟨v, rv, m', σ', h3, h4, h5⟩ => ⟨v, rv, m', σ', h3, hq _ _ h4, h5⟩⟩
  · exact .inr ⟨rv, w', h1, v, rv', m', σ', h2, hq _ _ h3, h4⟩

def guardQ (ops : List Oper) (env : Env) (o : Oper) : Option Bool :=
  match o.guard with
  | none => some true
  | some (j, want) =>
    match ops[j]? with
    | some oj => match oj.dst with
      | some d => match elook env d with
        | some (.bool b) => some (b == want)
        | some (.tuple _) => some false
        | _ => none
      | none => none
    | none => none

def putEnv (N : Nat) (env : Env) (dst : Option Nat) (v : Value) : Option Env :=
  match dst with
  | none => some env
  | some d => if d < N then some ((d, v) :: env) else none

/-- a call of a Go function: which, and its arguments -/
def goCall (env : Env) : Op → Option (FuncId × List Value)
  | .call c => match c.callee with
    | .value f => match ev env f, evs env c.args.toList with
      | some (.func (.func g) fi ca), some vs => some (g, fi.toList ++ vs ++ ca.toList)
      | _, _ => none
    | _ => none
  | _ => none

def wpo (P : Program) (N : Nat) (ops : List Oper) (K : Env → Mem → Prop) : List Oper → Env → Mem → Prop
  | [], env, m => K env m
  | o :: r, env, m =>
    match guardQ ops env o with
    | none => False
    | some false => match putEnv N env o.dst undef with
      | some env' => wpo P N ops K r env' m
      | none => False
    | some true =>
      match goCall env o.op with
      | some (g, vs) => TC P g vs m fun v m' => match putEnv N env o.dst v with
        | some env' => wpo P N ops K r env' m'
        | none => False
      | none => match lop P env m.get m.top o.op with
        | some e => match putEnv N env o.dst e.val with
          | some env' => wpo P N ops K r env' (m.app m.top e)
          | none => False
        | none => False

def seqK (K : Env → Mem → Prop) (Q : Ex → Env → Mem → Prop) : Ex → Env → Mem → Prop
  | .normal, env, m => K env m
  | e, env, m => Q e env m

def blockK (id : Nat) (Q : Ex → Env → Mem → Prop) : Ex → Env → Mem → Prop
  | .exit id', env, m => if id' = id then Q .normal env m else Q (.exit id') env m
  | e, env, m => Q e env m

/-- A loop: an invariant with a number that falls. -/
def LoopW (W : Env → Mem → (Ex → Env → Mem → Prop) → Prop) (env : Env) (m : Mem) (Q : Ex → Env → Mem → Prop) : Prop :=
  ∃ I : Nat → Env → Mem → Prop, (∃ n, I n env m) ∧ ∀ n env m, I n env m → W env m (seqK (fun env' m' => ∃ n', n' < n ∧ I n' env' m') Q)

/-- A region that draws its order: told elsewhere. -/
def DrawW (P : Program) (N : Nat) (ops : Array Oper) (env : Env) (m : Mem) (K : Env → Mem → Prop) : Prop :=
  ∀ (σ : Sg) (a : Act) (w : World), Rep σ m.get w → EnvRel σ env a.tmps → a.tmps.size = N → ∀ (Q : Exit → Act → World → Prop),
    (∀ env' m' σ' a' w', K env' m' → Rep σ' m'.get w' → EnvRel σ' env' a'.tmps → a'.tmps.size = N → a'.defers = a.defers → Fr σ m.get w σ' m'.get w' → Q .normal a' w') →
    wpAny P .any ops Q ops.size (Array.replicate ops.size false) a w

def wpc (P : Program) (N : Nat) : Code → Env → Mem → (Ex → Env → Mem → Prop) → Prop
  | .skip, env, m, Q => Q .normal env m
  | .seq a b, env, m, Q => wpc P N a env m (seqK (fun env' m' => wpc P N b env' m' Q) Q)
  | .cond c a b, env, m, Q => match ev env c with
    | some (.bool t) => if t = true then wpc P N a env m Q else wpc P N b env m Q
    | _ => False
  | .block id a, env, m, Q => wpc P N a env m (blockK id Q)
  | .loop a, env, m, Q => LoopW (wpc P N a) env m Q
  | .region _ ops false, env, m, Q => wpo P N ops.toList (Q .normal) ops.toList env m
  | .region _ ops true, env, m, Q => DrawW P N ops env m (Q .normal)
  | .exit id, env, m, Q => Q (.exit id) env m
  | .ret, env, m, Q => Q .ret env m
  | .label _, env, m, Q => Q .normal env m
  | _, _, _, _ => False

/-! ### soundness -/

def exR : Exit → Ex → Prop
  | .normal, e => e = .normal
  | .exit id, e => e = .exit id
  | .ret, e => e = .ret
  | _, _ => False

def PostQ (N : Nat) (σ : Sg) (m : Mem) (w : World) (ds : List Deferred) (Q : Ex → Env → Mem → Prop) (e : Exit) (a' : Act) (w' : World) : Prop :=
  ∃ e' env' m' σ', exR e e' ∧ Q e' env' m' ∧ Rep σ' m'.get w' ∧ EnvRel σ' env' a'.tmps ∧ a'.tmps.size = N ∧ a'.defers = ds ∧ Fr σ m.get w σ' m'.get w'

theorem PostQ.from {N : Nat} {σ σ₁ : Sg} {m m₁ : Mem} {w w₁ : World} {ds : List Deferred} {Q : Ex → Env → Mem → Prop} (h : Fr σ m.get w σ₁ m₁.get w₁) {e : Exit} {a' : Act} {w' : World} (hp : PostQ N σ₁ m₁ w₁ ds Q e a' w') : PostQ N σ m w ds Q e a' w' := by
  obtain ⟨e', env', m', σ', h1, h2, h3, h4, h5, h6, h7⟩ := hp
  exact ⟨e', env', m', σ', h1, h2, h3, h4, h5, h6, h.trans h7⟩

section
variable {P : Program} {N : Nat}

theorem guardQ_sound {ops : List Oper} {env : Env} {o : Oper} {b : Bool} (h : guardQ ops env o = some b) {σ : Sg} {tmps : Array Value} (hE : EnvRel σ env tmps) :
    Region.wanted o (yielded ops.toArray tmps) = b := by
  unfold guardQ at h
  unfold Region.wanted
  cases hg : o.guard with
  | none => rw [hg] at h; cases h; rfl
  | some x =>
    obtain ⟨j, want⟩ := x
    rw [hg] at h
    simp only at h
    split at h
    case h_2 => cases h
    rename_i oj hj
    split at h
    case h_2 => cases h
    rename_i d hd
    have hb : (ops.toArray[j]?).bind (·.dst) = some d := by simp [hj, hd]
    split at h
    · rename_i b' he
      cases h
      obtain ⟨rv, h1, h2⟩ := hE d _ he
      cases vRel_bool h2
      simp only [yielded, hb, Option.bind_some, h1]
      cases b' <;> cases want <;> rfl
    · rename_i vs he
      cases h
      obtain ⟨rv, h1, c', rfl, _⟩ := hE d _ he
      simp only [yielded, hb, Option.bind_some, h1]
      rfl
    · cases h

theorem putEnv_sound {env env' : Env} {dst : Option Nat} {v rv : Value} (h : putEnv N env dst v = some env') {σ σ' : Sg} (hle : σ.le σ') {a : Act} (hE : EnvRel σ env a.tmps) (hN : a.tmps.size = N) (hv : vRel σ' v rv) :
    EnvRel σ' env' (a.put dst rv).tmps ∧ (a.put dst rv).tmps.size = N ∧ (a.put dst rv).defers = a.defers := by
  unfold putEnv at h
  split at h
  · cases h; exact ⟨hE.mono hle, hN, rfl⟩
  · split at h
    · rename_i hd
      cases h
      exact ⟨(hE.mono hle).put (by rw [hN]; exact hd) hv, by simp [Act.put, hN], rfl⟩
    · cases h

theorem goCall_sound {env : Env} {op : Op} {g : FuncId} {vs : List Value} (h : goCall env op = some (g, vs)) {σ : Sg} {a : Act} (hE : EnvRel σ env a.tmps) :
    ∃ c rs, op = .call c ∧ argsRel σ vs rs ∧ ∀ (ty : TypeId) (w : World), (do let d ← resolve a.eval c ty; invoke d.target d.args : Sem Next).run P w = (callFunc g rs).run P w := by
  unfold goCall at h
  split at h
  case h_2 => cases h
  rename_i c
  split at h
  case h_2 => cases h
  rename_i f hc
  split at h
  case h_2 => cases h
  rename_i g' fi ca us hf hus
  cases h
  obtain ⟨fi', ca', e1, e2, e3⟩ : ∃ fi' ca', a.eval f = .func (.func g) fi' ca' ∧ aaRel (bRel σ) fi fi' ∧ aaRel (bRel σ) ca ca' := ev_sound hE hf
  obtain ⟨e4, e5⟩ := evs_rel hE hus
  refine ⟨c, fi' ++ c.args.map a.eval ++ ca', rfl, ?_, fun ty w => ?_⟩
  · have b1 : ∀ x y, bRel σ x y → vRel σ x y := fun x y h => by cases x <;> first | exact h | exact h.elim
    have r1 : aaRel (vRel σ) fi fi' := e2.mono b1
    have r3 : aaRel (vRel σ) ca ca' := e3.mono b1
    have r2 : aaRel (vRel σ) us.toArray (c.args.map a.eval) := ⟨by simpa using e4, fun i x y hx hy => e5 i x y (by simpa using hx) hy⟩
    have r := (r1.append r2).append r3
    refine ⟨by have := r.1; simp at this ⊢; omega, fun i x y hx hy => r.2 i x y ?_ hy⟩
    rw [← Array.getElem?_toList]
    simpa using hx
  · simp only [resolve, hc, e1, Deferred.ofValue, pure_bind]
    rfl

theorem wpo_sound (ops : List Oper) (K : Env → Mem → Prop) (Q : Exit → Act → World → Prop) : ∀ (l : List Oper) (env : Env) (m : Mem), wpo P N ops K l env m → ∀ (σ : Sg) (a : Act) (w : World), Rep σ m.get w → EnvRel σ env a.tmps → a.tmps.size = N →
    (∀ env' m' σ' a' w', K env' m' → Rep σ' m'.get w' → EnvRel σ' env' a'.tmps → a'.tmps.size = N → a'.defers = a.defers → Fr σ m.get w σ' m'.get w' → Q .normal a' w') → wpList P ops.toArray Q l a w
  | [], env, m, h, σ, a, w, hR, hE, hN, hK => hK env m σ a w h hR hE hN rfl (.refl _ _ _)
  | o :: r, env, m, h, σ, a, w, hR, hE, hN, hK => by
    simp only [wpo] at h
    split at h
    · exact h.elim
    · rename_i hg
      have hw := guardQ_sound hg hE
      split at h
      case h_2 => exact h.elim
      rename_i env' he
      have hu : vRel σ undef undef := ⟨#[], rfl, aaRel.nil _⟩
      obtain ⟨g1, g2, g3⟩ := putEnv_sound he (.refl σ) hE hN hu
      unfold wpList
      rw [hw]
      simp only [Bool.false_eq_true, if_false]
      exact wpo_sound ops K Q r env' m h σ _ w hR g1 g2 (fun env' m' σ' a' w' h1 h2 h3 h4 h5 h6 => hK env' m' σ' a' w' h1 h2 h3 h4 (h5.trans g3) h6)
    · rename_i hg
      have hw := guardQ_sound hg hE
      unfold wpList
      rw [hw]
      simp only [if_true]
      refine .inl ?_
      split at h
      · rename_i g vs hc
        obtain ⟨c, rs, ho, ha, hrun⟩ := goCall_sound (P := P) hc hE
        unfold Oper.wp execOp
        rw [ho]
        simp only
        rw [hrun]
        have fin : ∀ (e : Ending) (w' : World), PostC σ m w (fun v m' => match putEnv N env o.dst v with | some env' => wpo P N ops K r env' m' | none => False) e w' →
            ∃ rv, e = .returned rv ∧ wpList P ops.toArray Q r (a.put o.dst rv) w' := by
          rintro e w' ⟨v, rv, m', σ', rfl, hq, hR', hv, hF⟩
          refine ⟨rv, rfl, ?_⟩
          split at hq
          case h_2 => exact hq.elim
          rename_i env' he
          obtain ⟨g1, g2, g3⟩ := putEnv_sound he hF.ext hE hN hv
          exact wpo_sound ops K Q r env' m' hq σ' _ w' hR' g1 g2 (fun env'' m'' σ'' a' w'' h1 h2 h3 h4 h5 h6 => hK env'' m'' σ'' a' w'' h1 h2 h3 h4 (h5.trans g3) (hF.trans h6))
        rcases h σ w rs hR ha with ⟨h1, h2⟩ | ⟨rv, w', h1, h2⟩
        · rw [h1]
          simp only [Oper.upon]
          refine h2.mono fun e w' hp => ?_
          obtain ⟨rv, rfl, hfin⟩ := fin e w' hp
          exact hfin
        · rw [h1]
          simp only [Oper.upon]
          obtain ⟨rv', e1, hfin⟩ := fin _ w' h2
          cases e1
          exact hfin
      · split at h
        case h_2 => exact h.elim
        rename_i e he
        split at h
        case h_2 => exact h.elim
        rename_i env' hp
        obtain ⟨σ', w', hR', hF, hcase⟩ := lop_sound hR hE (Mem.get_top m) o he
        rw [← Mem.get_app] at hR' hF
        unfold Oper.wp
        rcases hcase with ⟨rv, hr, hv⟩ | ⟨hr, hv⟩
        · rw [hr]
          simp only [Oper.upon]
          obtain ⟨g1, g2, g3⟩ := putEnv_sound hp hF.ext hE hN hv
          exact wpo_sound ops K Q r env' _ h σ' _ w' hR' g1 g2 (fun env'' m'' σ'' a' w'' h1 h2 h3 h4 h5 h6 => hK env'' m'' σ'' a' w'' h1 h2 h3 h4 (h5.trans g3) (hF.trans h6))
        · rw [hr]
          simp only [Oper.upon]
          rw [hv] at hp
          have hu : vRel σ' undef undef := ⟨#[], rfl, aaRel.nil _⟩
          obtain ⟨g1, g2, g3⟩ := putEnv_sound hp hF.ext hE hN hu
          exact wpo_sound ops K Q r env' _ h σ' _ w' hR' g1 g2 (fun env'' m'' σ'' a' w'' h1 h2 h3 h4 h5 h6 => hK env'' m'' σ'' a' w'' h1 h2 h3 h4 (h5.trans g3) (hF.trans h6))

theorem wpc_sound (hmix : P.follows .mixedOrders = true) : ∀ (c : Code) (env : Env) (m : Mem) (Q : Ex → Env → Mem → Prop), wpc P N c env m Q → ∀ (σ : Sg) (a : Act) (w : World), Rep σ m.get w → EnvRel σ env a.tmps → a.tmps.size = N →
    c.wp P (PostQ N σ m w a.defers Q) a w := by
  intro c
  induction c with
  | skip => intro env m Q h σ a w hR hE hN; exact wp_skip ⟨.normal, env, m, σ, rfl, h, hR, hE, hN, rfl, .refl _ _ _⟩
  | label l => intro env m Q h σ a w hR hE hN; exact wp_label ⟨.normal, env, m, σ, rfl, h, hR, hE, hN, rfl, .refl _ _ _⟩
  | exit id => intro env m Q h σ a w hR hE hN; exact wp_exit ⟨.exit id, env, m, σ, rfl, h, hR, hE, hN, rfl, .refl _ _ _⟩
  | ret => intro env m Q h σ a w hR hE hN; exact wp_ret ⟨.ret, env, m, σ, rfl, h, hR, hE, hN, rfl, .refl _ _ _⟩
  | seq x y ihx ihy =>
    intro env m Q h σ a w hR hE hN
    refine wp_seq (wp_mono (ihx env m _ h σ a w hR hE hN) ?_)
    rintro e a' w' ⟨e', env', m', σ', h1, h2, h3, h4, h5, h6, h7⟩
    cases e with
    | normal =>
      cases h1
      simp only [Exit.then]
      have := ihy env' m' Q h2 σ' a' w' h3 h4 h5
      rw [h6] at this
      exact wp_mono this fun e a w hp => hp.from h7
    | exit id => cases h1; exact ⟨_, env', m', σ', rfl, h2, h3, h4, h5, h6, h7⟩
    | ret => cases h1; exact ⟨_, env', m', σ', rfl, h2, h3, h4, h5, h6, h7⟩
    | _ => exact h1.elim
  | cond c x y ihx ihy =>
    intro env m Q h σ a w hR hE hN
    simp only [wpc] at h
    split at h
    case h_2 => exact h.elim
    rename_i t ht
    refine wp_cond (vRel_bool (ev_sound hE ht)) ?_
    cases t
    · simp only [Bool.false_eq_true, if_false] at h ⊢; exact ihy env m Q h σ a w hR hE hN
    · simp only [if_true] at h ⊢; exact ihx env m Q h σ a w hR hE hN
  | block id x ih =>
    intro env m Q h σ a w hR hE hN
    refine wp_block (wp_mono (ih env m _ h σ a w hR hE hN) ?_)
    rintro e a' w' ⟨e', env', m', σ', h1, h2, h3, h4, h5, h6, h7⟩
    cases e with
    | normal => cases h1; exact ⟨_, env', m', σ', rfl, h2, h3, h4, h5, h6, h7⟩
    | exit id' =>
      cases h1
      simp only [Exit.inBlock, blockK] at h2 ⊢
      split
      · rename_i hid; rw [if_pos hid] at h2; exact ⟨.normal, env', m', σ', rfl, h2, h3, h4, h5, h6, h7⟩
      · rename_i hid; rw [if_neg hid] at h2; exact ⟨.exit id', env', m', σ', rfl, h2, h3, h4, h5, h6, h7⟩
    | ret => cases h1; exact ⟨_, env', m', σ', rfl, h2, h3, h4, h5, h6, h7⟩
    | _ => exact h1.elim
  | loop x ih =>
    intro env m Q h σ a w hR hE hN
    obtain ⟨I, ⟨n, hI⟩, hround⟩ := h
    intro b k cs
    have key : ∀ n env' m' σ' a' w', I n env' m' → Rep σ' m'.get w' → EnvRel σ' env' a'.tmps → a'.tmps.size = N → a'.defers = a.defers → Fr σ m.get w σ' m'.get w' →
        ∃ e a'' w'', PostQ N σ m w a.defers Q e a'' w'' ∧ Arrives P (lone (b.at a' (.code x :: .inLoop x :: k)) cs w') b k cs e a'' w'' := by
      intro n
      induction n using Nat.strongRecOn with
      | _ n ihn =>
        intro env' m' σ' a' w' hI' hR' hE' hN' hD' hF'
        obtain ⟨e, a₁, w₁, ⟨e', env₁, m₁, σ₁, h1, h2, h3, h4, h5, h6, h7⟩, harr⟩ := ih env' m' _ (hround n env' m' hI') σ' a' w' hR' hE' hN' b (.inLoop x :: k) cs
        cases e with
        | normal =>
          cases h1
          obtain ⟨n', hlt, hI₁⟩ := h2
          obtain ⟨e₂, a₂, w₂, hq₂, harr₂⟩ := ihn n' hlt env₁ m₁ σ₁ a₁ w₁ hI₁ h3 h4 h5 (h6.trans hD') (hF'.trans h7)
          exact ⟨e₂, a₂, w₂, hq₂, .of_steps (Steps.trans harr (.one step_inLoop)) harr₂⟩
        | exit id => cases h1; exact ⟨.exit id, a₁, w₁, ⟨.exit id, env₁, m₁, σ₁, rfl, h2, h3, h4, h5, h6.trans hD', hF'.trans h7⟩, .pass (x := .inLoop x) rfl (fun _ _ => .inl (by simp)) harr⟩
        | ret => cases h1; exact ⟨.ret, a₁, w₁, ⟨.ret, env₁, m₁, σ₁, rfl, h2, h3, h4, h5, h6.trans hD', hF'.trans h7⟩, .pass (x := .inLoop x) rfl (fun _ _ => .inl (by simp)) harr⟩
        | _ => exact h1.elim
    obtain ⟨e, a', w', hq, harr⟩ := key n env m σ a w hI hR hE hN rfl (.refl _ _ _)
    exact ⟨e, a', w', hq, .of_steps (.one step_loop) harr⟩
  | region id ops d =>
    intro env m Q h σ a w hR hE hN
    cases d with
    | false =>
      refine wp_region_list ?_
      have := wpo_sound (P := P) (N := N) ops.toList (Q .normal) (PostQ N σ m w a.defers Q) ops.toList env m h σ a w hR hE hN (fun env' m' σ' a' w' h1 h2 h3 h4 h5 h6 => ⟨.normal, env', m', σ', rfl, h1, h2, h3, h4, h5, h6⟩)
      simpa using this
    | true =>
      refine wp_region_any hmix (h σ a w.drew hR.drew hE hN _ ?_)
      intro env' m' σ' a' w' h1 h2 h3 h4 h5 h6
      exact ⟨.normal, env', m', σ', rfl, h1, h2, h3, h4, h5, ⟨h6.ext, h6.size, h6.keep, h6.less, h6.os, h6.out, Nat.le_of_succ_le h6.dr⟩⟩
  | _ => intro env m Q h; exact h.elim
end
end Go.Lm
/- From a function's body to the contract of its call. -/
namespace Go.Lm

/-! ### renaming of objects -/

def rnA (τ : Nat → Nat) (a : Addr) : Addr := { a with block := τ a.block }

def rnB (τ : Nat → Nat) : Value → Value
  | .pointer (some a) => .pointer (some (rnA τ a))
  | .slice (some a) l c => .slice (some (rnA τ a)) l c
  | .map (some i) => .map (some (τ i))
  | v => v

def rnS (τ : Nat → Nat) : Value → Value
  | .func f fi ca => .func f (fi.map (rnB τ)) (ca.map (rnB τ))
  | v => rnB τ v

def rnT (τ : Nat → Nat) : Value → Value
  | .agg c => .agg (c.map (rnS τ))
  | v => rnS τ v

def rnV (τ : Nat → Nat) : Value → Value
  | .tuple c => .tuple (c.map (rnT τ))
  | v => rnT τ v

def rnO (τ : Nat → Nat) : Ob → Ob
  | .cells ro e c => .cells ro e (c.map (rnS τ))
  | .map es => .map (es.map fun x => (x.1, rnS τ x.2))
  | o => o

/-- which objects a value names -/
def okB (D : Nat → Prop) : Value → Prop
  | .pointer (some a) => D a.block
  | .slice (some a) _ _ => D a.block
  | .map (some i) => D i
  | _ => True

def okS (D : Nat → Prop) : Value → Prop
  | .func _ fi ca => (∀ x ∈ fi, okB D x) ∧ (∀ x ∈ ca, okB D x)
  | v => okB D v

def okT (D : Nat → Prop) : Value → Prop
  | .agg c => ∀ x ∈ c, okS D x
  | v => okS D v

def okV (D : Nat → Prop) : Value → Prop
  | .tuple c => ∀ x ∈ c, okT D x
  | v => okT D v

def okO (D : Nat → Prop) : Ob → Prop
  | .cells _ _ c => ∀ x ∈ c, okS D x
  | .map es => ∀ x ∈ es, okS D x.2
  | _ => True

section
variable {σ σ' : Sg} {τ : Nat → Nat} {D : Nat → Prop}

theorem back_a (hσ : ∀ k, D k → σ k = σ' (τ k)) {a a' : Addr} {p : Pl} (hd : D a.block) (h : aRel σ' (rnA τ a) a' p) : aRel σ a a' p :=
  ⟨h.1, h.2.1, by rw [hσ _ hd]; exact h.2.2.1, h.2.2.2⟩

theorem back_b (hσ : ∀ k, D k → σ k = σ' (τ k)) {x v : Value} (hd : okB D x) (h : bRel σ' (rnB τ x) v) : bRel σ x v := by
  cases x with
  | pointer a =>
    cases a with
    | none => exact h
    | some a => obtain ⟨a', p, e, r⟩ := h; exact ⟨a', p, e, back_a hσ hd r⟩
  | slice a l c =>
    cases a with
    | none => exact h
    | some a => obtain ⟨a', c', p, e, r, rc⟩ := h; exact ⟨a', c', p, e, back_a hσ hd r, rc⟩
  | map a =>
    cases a with
    | none => exact h
    | some a => obtain ⟨p, e, r⟩ := h; exact ⟨p, by rw [hσ _ hd]; exact e, r⟩
  | _ => exact h

theorem back_aa {R S : Value → Value → Prop} {f : Value → Value} {xs ys : Array Value} (hf : ∀ x ∈ xs, ∀ v, R (f x) v → S x v) (h : aaRel R (xs.map f) ys) : aaRel S xs ys := by
  refine ⟨by simpa using h.1, fun i x y hx hy => hf x (Array.mem_of_getElem? hx) y (h.2 i (f x) y (by simp [hx]) hy)⟩

theorem back_s (hσ : ∀ k, D k → σ k = σ' (τ k)) {x v : Value} (hd : okS D x) (h : sRel σ' (rnS τ x) v) : sRel σ x v := by
  cases x with
  | func f fi ca =>
    obtain ⟨fi', ca', e, r1, r2⟩ := h
    exact ⟨fi', ca', e, back_aa (fun x hx v => back_b hσ (hd.1 x hx)) r1, back_aa (fun x hx v => back_b hσ (hd.2 x hx)) r2⟩
  | pointer a => exact back_b (x := .pointer a) hσ hd (by cases a <;> exact h)
  | slice a l c => exact back_b (x := .slice a l c) hσ hd (by cases a <;> exact h)
  | map a => exact back_b (x := .map a) hσ hd (by cases a <;> exact h)
  | _ => exact h

theorem back_t (hσ : ∀ k, D k → σ k = σ' (τ k)) {x v : Value} (hd : okT D x) (h : tRel σ' (rnT τ x) v) : tRel σ x v := by
  cases x with
  | agg c => obtain ⟨c', e, r⟩ := h; exact ⟨c', e, back_aa (fun x hx v => back_s hσ (hd x hx)) r⟩
  | pointer a => exact back_s (x := .pointer a) hσ hd (by cases a <;> exact h)
  | slice a l c => exact back_s (x := .slice a l c) hσ hd (by cases a <;> exact h)
  | map a => exact back_s (x := .map a) hσ hd (by cases a <;> exact h)
  | func f fi ca => exact back_s (x := .func f fi ca) hσ hd h
  | _ => exact h

theorem back_v (hσ : ∀ k, D k → σ k = σ' (τ k)) {x v : Value} (hd : okV D x) (h : vRel σ' (rnV τ x) v) : vRel σ x v := by
  cases x with
  | tuple c => obtain ⟨c', e, r⟩ := h; exact ⟨c', e, back_aa (fun x hx v => back_t hσ (hd x hx)) r⟩
  | agg c => exact back_t (x := .agg c) hσ hd h
  | pointer a => exact back_t (x := .pointer a) hσ hd (by cases a <;> exact h)
  | slice a l c => exact back_t (x := .slice a l c) hσ hd (by cases a <;> exact h)
  | map a => exact back_t (x := .map a) hσ hd (by cases a <;> exact h)
  | func f fi ca => exact back_t (x := .func f fi ca) hσ hd h
  | _ => exact h

/-- what a related value names is placed -/
theorem rel_okB {x v : Value} (h : bRel σ x v) (hD : ∀ k p, σ k = some p → D k) : okB D x := by
  cases x with
  | pointer a =>
    cases a with
    | none => trivial
    | some a => obtain ⟨a', p, _, r⟩ := h; exact hD _ _ r.2.2.1
  | slice a l c =>
    cases a with
    | none => trivial
    | some a => obtain ⟨a', c', p, _, r, _⟩ := h; exact hD _ _ r.2.2.1
  | map a =>
    cases a with
    | none => trivial
    | some a => obtain ⟨p, e, _⟩ := h; exact hD _ _ e
  | _ => trivial

theorem rel_okS {x v : Value} (h : sRel σ x v) (hD : ∀ k p, σ k = some p → D k) : okS D x := by
  cases x with
  | func f fi ca =>
    obtain ⟨fi', ca', _, r1, r2⟩ := h
    refine ⟨fun x hx => ?_, fun x hx => ?_⟩
    · obtain ⟨i, hi, e⟩ := Array.mem_iff_getElem.1 hx
      obtain ⟨y, _, hr⟩ := r1.get (Array.getElem?_eq_some_iff.2 ⟨hi, e⟩)
      exact rel_okB hr hD
    · obtain ⟨i, hi, e⟩ := Array.mem_iff_getElem.1 hx
      obtain ⟨y, _, hr⟩ := r2.get (Array.getElem?_eq_some_iff.2 ⟨hi, e⟩)
      exact rel_okB hr hD
  | pointer a => exact rel_okB (x := .pointer a) h hD
  | slice a l c => exact rel_okB (x := .slice a l c) h hD
  | map a => exact rel_okB (x := .map a) h hD
  | _ => trivial

/-- a value that names only what is placed as before keeps its relation -/
theorem same_b {σ'' : Sg} (hσ : ∀ k, D k → σ'' k = σ k) {x v : Value} (hd : okB D x) (h : bRel σ x v) : bRel σ'' x v := by
  cases x with
  | pointer a =>
    cases a with
    | none => exact h
    | some a => obtain ⟨a', p, e, r⟩ := h; exact ⟨a', p, e, r.1, r.2.1, by rw [hσ _ hd]; exact r.2.2.1, r.2.2.2⟩
  | slice a l c =>
    cases a with
    | none => exact h
    | some a => obtain ⟨a', c', p, e, r, rc⟩ := h; exact ⟨a', c', p, e, ⟨r.1, r.2.1, by rw [hσ _ hd]; exact r.2.2.1, r.2.2.2⟩, rc⟩
  | map a =>
    cases a with
    | none => exact h
    | some a => obtain ⟨p, e, r⟩ := h; exact ⟨p, by rw [hσ _ hd]; exact e, r⟩
  | _ => exact h

theorem same_s {σ'' : Sg} (hσ : ∀ k, D k → σ'' k = σ k) {x v : Value} (hd : okS D x) (h : sRel σ x v) : sRel σ'' x v := by
  cases x with
  | func f fi ca =>
    obtain ⟨fi', ca', e, r1, r2⟩ := h
    exact ⟨fi', ca', e, ⟨r1.1, fun i x y hx hy => same_b hσ (hd.1 x (Array.mem_of_getElem? hx)) (r1.2 i x y hx hy)⟩, ⟨r2.1, fun i x y hx hy => same_b hσ (hd.2 x (Array.mem_of_getElem? hx)) (r2.2 i x y hx hy)⟩⟩
  | pointer a => exact same_b (x := .pointer a) hσ hd h
  | slice a l c => exact same_b (x := .slice a l c) hσ hd h
  | map a => exact same_b (x := .map a) hσ hd h
  | _ => exact h

end

/-- How a call's last memory (m') and value (v) are told to the caller (m0, v0): 'τ' says which of the call's objects each of the caller's is. -/
structure Leave (m m' : Mem) (v : Value) (m0 : Mem) (v0 : Value) where
  τ : Nat → Nat
  val : v = rnV τ v0
  okv : okV (fun k => m0.get k ≠ .free) v0
  old : ∀ k, m.get k ≠ .free → τ k = k ∧ m0.get k ≠ .free
  obj : ∀ k, (m0.get k).alive = true → (m.get k ≠ .free ∧ m0.get k = m.get k ∧ m'.get k = m.get k) ∨ (m'.get (τ k) = rnO τ (m0.get k) ∧ okO (fun k => m0.get k ≠ .free) (m0.get k))
  inj : ∀ k k', k ≠ k' → (m0.get k).alive = true → (m0.get k').alive = true → τ k ≠ τ k'

theorem rnO_rw (τ : Nat → Nat) (o : Ob) : (rnO τ o).rw = o.rw ∧ (rnO τ o).alive = o.alive := by
  cases o with
  | cells ro e c => cases ro <;> exact ⟨rfl, rfl⟩
  | _ => exact ⟨rfl, rfl⟩

theorem Leave.sound {m m' m0 : Mem} {v v0 rv : Value} (L : Leave m m' v m0 v0) {σ σ' : Sg} {w w' : World} (hR : Rep σ m.get w) (hR' : Rep σ' m'.get w') (hv : vRel σ' v rv) (hF : Fr σ m.get w σ' m'.get w') :
    ∃ σ0, Rep σ0 m0.get w' ∧ vRel σ0 v0 rv ∧ Fr σ m.get w σ0 m0.get w' := by
  classical
  let σ0 : Sg := fun k => if m0.get k = .free then none else σ' (L.τ k)
  have h0 : ∀ k, m0.get k ≠ .free → σ0 k = σ' (L.τ k) := fun k hk => by simp only [σ0]; rw [if_neg hk]
  have hsome : ∀ k p, σ0 k = some p → σ' (L.τ k) = some p := fun k p h => by
    simp only [σ0] at h; split at h
    · cases h
    · exact h
  have hnf : ∀ k, (m0.get k).alive = true → m0.get k ≠ .free := fun k h e => by rw [e] at h; cases h
  have hD : ∀ k p, σ k = some p → m.get k ≠ .free := fun k p h e => by rw [hR.fr k e] at h; cases h
  have hold : ∀ k p, σ k = some p → σ0 k = some p := fun k p h => by
    obtain ⟨h1, h2⟩ := L.old k (hD k p h)
    rw [h0 k h2, h1]; exact hF.ext k p h
  have hal : ∀ k, (m0.get k).alive = true → (m'.get (L.τ k)).alive = true ∧ (m'.get (L.τ k)).rw = (m0.get k).rw := fun k hk => by
    rcases L.obj k hk with ⟨h1, h2, h3⟩ | ⟨h1, _⟩
    · rw [(L.old k h1).1, h3, ← h2]; exact ⟨hk, rfl⟩
    · rw [h1, (rnO_rw _ _).1, (rnO_rw _ _).2]; exact ⟨hk, rfl⟩
  refine ⟨σ0, Rep.mk' (fun k hk => ?_) (fun k hk => ?_) (fun k k' hne hr ha p p' hp hp' => ?_) (fun k p hp => hR'.bnd _ p (hsome k p hp)), ?_, ⟨hold, hF.size, hF.keep, ?_, hF.os, hF.out, hF.dr⟩⟩
  · simp only [σ0]; rw [if_pos hk]
  · obtain ⟨hk1, _⟩ := hal k hk
    obtain ⟨p, hp⟩ := hR'.place hk1
    refine ⟨p, by rw [h0 k (hnf k hk)]; exact hp, ?_⟩
    have ho := hR'.ok hp
    rcases L.obj k hk with ⟨h1, h2, h3⟩ | ⟨h1, h2⟩
    · -- as it was: what it holds was placed at the call's begin
      have hτ := (L.old k h1).1
      rw [hτ, h3] at ho
      rw [h2]
      have hkm : (m.get k).alive = true := by rw [← h2]; exact hk
      obtain ⟨q, hq⟩ := hR.place hkm
      have ho0 := hR.ok hq
      have hsame : ∀ j, m.get j ≠ .free → σ0 j = σ' j := fun j hj => by
        obtain ⟨g1, g2⟩ := L.old j hj
        rw [h0 j g2, g1]
      refine ⟨fun ro e c hc => ?_, ho.own, fun es hc => ?_⟩
      · obtain ⟨g1, g2⟩ := ho.cel ro e c hc
        refine ⟨g1, fun j x hx => ?_⟩
        obtain ⟨y, hy, hs⟩ := g2 j x hx
        obtain ⟨y0, _, hs0⟩ := (ho0.cel ro e c hc).2 j x hx
        exact ⟨y, hy, same_s hsame (rel_okS hs0 hD) hs⟩
      · obtain ⟨ents, clk, g1, g2, g3⟩ := ho.mp es hc
        obtain ⟨ents0, clk0, _, e2, e3⟩ := ho0.mp es hc
        refine ⟨ents, clk, g1, g2, fun i x en hx he => ?_⟩
        obtain ⟨a1, a2, a3⟩ := g3 i x en hx he
        have hi : i < es.length := by
          rcases Nat.lt_or_ge i es.length with h' | h'
          · exact h'
          · rw [List.getElem?_eq_none h'] at hx; cases hx
        obtain ⟨_, _, b3⟩ := e3 i x (ents0[i]'(by omega)) hx (Array.getElem?_eq_getElem _)
        exact ⟨a1, a2, same_s hsame (rel_okS b3 hD) a3⟩
    · rw [h1] at ho
      refine ⟨fun ro e c hc => ?_, fun e c hc => ?_, fun es hc => ?_⟩
      · rw [hc] at ho h2
        obtain ⟨g1, g2⟩ := ho.cel ro e (c.map (rnS L.τ)) rfl
        refine ⟨g1, fun j x hx => ?_⟩
        obtain ⟨y, hy, hs⟩ := g2 j (rnS L.τ x) (by simp [hx])
        exact ⟨y, hy, back_s h0 (h2 x (Array.mem_of_getElem? hx)) hs⟩
      · rw [hc] at ho
        have := ho.own e (c.map (rnS L.τ)) rfl
        simpa using this
      · rw [hc] at ho h2
        obtain ⟨ents, clk, g1, g2, g3⟩ := ho.mp (es.map fun x => (x.1, rnS L.τ x.2)) rfl
        refine ⟨ents, clk, g1, by simpa using g2, fun i x en hx he => ?_⟩
        obtain ⟨a1, a2, a3⟩ := g3 i (x.1, rnS L.τ x.2) en (by simp [hx]) he
        exact ⟨a1, a2, back_s h0 (h2 x (List.mem_of_getElem? hx)) a3⟩
  · have hka := rw_alive hr
    obtain ⟨g1, g2⟩ := hal k hka
    obtain ⟨g3, g4⟩ := hal k' ha
    exact hR'.sep _ _ (L.inj k k' hne hka ha) (by rw [g2]; exact hr) g3 p p' (hsome k p hp) (hsome k' p' hp')
  · exact back_v h0 L.okv (by rw [← L.val]; exact hv)
  · rintro b hb ⟨k, p, hp, hpb, hr⟩
    have hka := rw_alive hr
    obtain ⟨g1, g2⟩ := hal k hka
    exact hF.less b hb ⟨L.τ k, p, hsome k p hp, hpb, by rw [g2]; exact hr⟩

/-! ### a function -/

def Mem.enter (m : Mem) : Mem := { base := m.get, n := m.top, loc := [] }

theorem Mem.get_enter (m : Mem) : m.enter.get = m.get := by
  funext k
  unfold Mem.enter Mem.get
  simp only [List.getElem?_nil, Option.getD_none]
  split
  · rfl
  · rename_i h
    simp only [Mem.top] at h
    rw [if_neg (by omega), List.getElem?_eq_none (by omega)]
    rfl

def resL (P : Program) (env : Env) (m : Mem) : List ResultVar → Option (List Value)
  | [] => some []
  | .tmp t :: r => match elook env t, resL P env m r with
    | some v, some vs => some (v :: vs)
    | _, _ => none
  | .cell a t :: r => match elook env a with
    | some p => match lload P m.get t p, resL P env m r with
      | some v, some vs => some (v :: vs)
      | _, _ => none
    | none => none

def notTuple : Value → Bool
  | .tuple _ => false
  | _ => true

def resV (P : Program) (env : Env) (m : Mem) (rs : List ResultVar) : Option Value :=
  match resL P env m rs with
  | some [v] => some v
  | some vs => if vs.all notTuple then some (.tuple vs.toArray) else none
  | none => none

def params (i : Nat) : List Value → Env
  | [] => []
  | v :: r => (i, v) :: params (i + 1) r

theorem params_sound {σ : Sg} : ∀ (vs : List Value) (i : Nat) (tmps : Array Value), (∀ (j : Nat) (v : Value), vs[j]? = some v → ∃ rv, tmps[i + j]? = some rv ∧ vRel σ v rv) → EnvRel σ (params i vs) tmps
  | [], i, tmps, h => fun t v e => by simp [params, elook] at e
  | v :: r, i, tmps, h => fun t u e => by
    simp only [params, elook] at e
    split at e
    · rename_i ht
      subst ht
      cases e
      simpa using h 0 v (by simp)
    · exact params_sound r (i + 1) tmps (fun j v hv => by have := h (j + 1) v (by simpa using hv); rwa [show i + (j + 1) = i + 1 + j by omega] at this) t u e

section
variable {P : Program} {σ : Sg} {m : Mem} {w : World}

def resOne (tmps : Array Value) : ResultVar → Sem Value
  | .tmp t => pure (tmps.getD t undef)
  | .cell a t => do loadVar t (← asAddr (tmps.getD a undef))

theorem resL_sound {env : Env} {tmps : Array Value} (hR : Rep σ m.get w) (hE : EnvRel σ env tmps) : ∀ (rs : List ResultVar) (vs : List Value), resL P env m rs = some vs →
    ∃ rvs, (rs.mapM (resOne tmps)).run P w = .ok rvs w ∧ rvs.length = rs.length ∧ vs.length = rvs.length ∧ ∀ (i : Nat) (x y : Value), vs[i]? = some x → rvs[i]? = some y → vRel σ x y
  | [], vs, h => by cases h; exact ⟨[], rfl, rfl, rfl, fun i x y h => by simp at h⟩
  | .tmp t :: r, vs, h => by
    simp only [resL] at h
    split at h
    · rename_i v vs' h1 h2
      cases h
      obtain ⟨rvs, e1, e0, e2, e3⟩ := resL_sound hR hE r vs' h2
      obtain ⟨rv, g1, g2⟩ := hE t v h1
      refine ⟨rv :: rvs, ?_, by simp [e0], by simp [e2], fun i x y hx hy => ?_⟩
      · simp only [List.mapM_cons, resOne, Array.getD_eq_getD_getElem?, g1, Option.getD_some, pure_bind, Sem.run_bind, e1, Result.andThen_ok, Sem.run_pure]
      · cases i with
        | zero => simp at hx hy; subst hx; subst hy; exact g2
        | succ i => exact e3 i x y (by simpa using hx) (by simpa using hy)
    · cases h
  | .cell a t :: r, vs, h => by
    simp only [resL] at h
    split at h
    case h_2 => cases h
    rename_i p hp
    split at h
    case h_2 => cases h
    rename_i v vs' h1 h2
    cases h
    obtain ⟨rvs, e1, e0, e2, e3⟩ := resL_sound hR hE r vs' h2
    obtain ⟨rp, g1, g2⟩ := hE a p hp
    obtain ⟨rv, l1, l2⟩ := load_sound hR g2 h1
    have hl : (do loadVar t (← asAddr rp) : Sem Value).run P w = .ok rv w := by
      unfold lload at h1
      split at h1
      case h_2 => cases h1
      obtain ⟨a', q, rfl, _⟩ := vRel_ptr g2
      exact l1
    refine ⟨rv :: rvs, ?_, by simp [e0], by simp [e2], fun i x y hx hy => ?_⟩
    · simp only [List.mapM_cons, resOne, Array.getD_eq_getD_getElem?, g1, Option.getD_some]
      rw [Sem.run_bind, hl]
      simp only [Result.andThen_ok, Sem.run_bind, e1, Sem.run_pure]
    · cases i with
      | zero => simp at hx hy; subst hx; subst hy; exact l2
      | succ i => exact e3 i x y (by simpa using hx) (by simpa using hy)

theorem results_eq (fn : Func) (tmps : Array Value) : results fn tmps = (do
    let vs ← List.toArray <$> fn.results.toList.mapM (resOne tmps)
    pure (if h : vs.size = 1 then vs[0] else .tuple vs)) := by
  unfold results
  rw [← Array.mapM_eq_mapM_toList]
  congr 1

theorem resV_sound {env : Env} {tmps : Array Value} (hR : Rep σ m.get w) (hE : EnvRel σ env tmps) {fn : Func} {v : Value} (h : resV P env m fn.results.toList = some v) :
    ∃ rv, (results fn tmps).run P w = .ok rv w ∧ vRel σ v rv := by
  unfold resV at h
  cases hl : resL P env m fn.results.toList with
  | none => rw [hl] at h; cases h
  | some vs =>
    obtain ⟨rvs, e1, e0, e2, e3⟩ := resL_sound hR hE _ vs hl
    rw [hl] at h
    rw [results_eq]
    simp only [Sem.run_bind, Sem.run_map, e1, Result.andThen_ok]
    cases vs with
    | nil =>
      simp only at h
      have : rvs = [] := by cases rvs with | nil => rfl | cons a b => simp at e2
      subst this
      simp only [List.all_nil, if_true] at h
      cases h
      exact ⟨.tuple #[], rfl, _, rfl, aaRel.nil _⟩
    | cons x r =>
      cases r with
      | nil =>
        cases h
        obtain ⟨y, rfl⟩ : ∃ y, rvs = [y] := by
          cases rvs with
          | nil => simp at e2
          | cons a b => cases b with
            | nil => exact ⟨a, rfl⟩
            | cons c d => simp at e2
        exact ⟨y, rfl, e3 0 v y (by simp) (by simp)⟩
      | cons z r =>
        simp only at h
        split at h
        case isFalse => cases h
        rename_i hall
        cases h
        have hsz : ¬ rvs.toArray.size = 1 := by simp at e2 ⊢; omega
        refine ⟨.tuple rvs.toArray, by simp only [hsz, dite_false, Sem.run_pure], rvs.toArray, rfl, by simpa using e2, fun i a b ha hb => ?_⟩
        rw [List.getElem?_toArray] at ha hb
        have := e3 i a b ha hb
        have hn := List.all_eq_true.1 hall a (List.mem_of_getElem? ha)
        cases a <;> first | exact this | cases hn
end

/-- A function's contract, out of its body. -/
theorem TC_of_body {P : Program} (hmix : P.follows .mixedOrders = true) {g : FuncId} {fn : Func} {c : Code} (hf : P.funcs[g]? = some fn) (hb : fn.body = some c) (hname : (fn.name == "runtime.NumGoroutine") = false)
    {vs : List Value} (hn : vs.length ≤ fn.ntmps) {m : Mem} {Q : Value → Mem → Prop}
    (h : wpc P fn.ntmps c (params 0 vs) m.enter fun e env' m' => (e = .normal ∨ e = .ret) ∧ ∃ v, resV P env' m' fn.results.toList = some v ∧ ∃ m0 v0, Nonempty (Leave m m' v m0 v0) ∧ Q v0 m0) : TC P g vs m Q := by
  intro σ w rs hR ha
  have hcall : (callFunc g rs).run P w = .ok (.enter g rs) w := by
    simp only [callFunc, Sem.run_bind, run_program, Result.andThen_ok, hf]
    rw [if_neg (by rw [hname]; simp), if_neg (by rw [hb]; simp)]
    rfl
  refine .inl ⟨hcall, calls_of_wp hf hb ?_⟩
  have hsz : rs.size ≤ fn.ntmps := by rw [← ha.1]; exact hn
  have hE : EnvRel σ (params 0 vs) (rs ++ Array.replicate (fn.ntmps - rs.size) undef) := params_sound vs 0 _ fun j v hv => by
    have hj : j < rs.size := by
      rw [← ha.1]
      rcases Nat.lt_or_ge j vs.length with h' | h'
      · exact h'
      · rw [List.getElem?_eq_none h'] at hv; cases hv
    refine ⟨rs[j], ?_, ha.2 j v _ hv (Array.getElem?_eq_getElem hj)⟩
    rw [Nat.zero_add, Array.getElem?_append_left hj, Array.getElem?_eq_getElem hj]
  have := wpc_sound hmix c _ m.enter _ h σ { tmps := rs ++ Array.replicate (fn.ntmps - rs.size) undef, defers := [] } w (by rw [Mem.get_enter]; exact hR) hE (by simp; omega)
  refine wp_mono this ?_
  rintro e a' w' ⟨e', env', m', σ', h1, ⟨h2, v, hv, m0, v0, ⟨L⟩, hQ⟩, h3, h4, h5, h6, h7⟩
  rw [Mem.get_enter] at h7
  obtain ⟨rv, r1, r2⟩ := resV_sound h3 h4 hv
  obtain ⟨σ0, g1, g2, g3⟩ := L.sound hR h3 r2 h7
  have fin : a'.defers = [] ∧ ∃ v, (results fn a'.tmps).run P w' = .ok v w' ∧ PostC σ m w Q (.returned v) w' := ⟨h6, rv, r1, v0, rv, m0, σ0, rfl, hQ, g1, g2, g3⟩
  cases e with
  | normal => exact fin
  | ret => exact fin
  | exit id => cases h1; rcases h2 with h | h <;> cases h
  | _ => exact h1.elim

end Go.Lm
