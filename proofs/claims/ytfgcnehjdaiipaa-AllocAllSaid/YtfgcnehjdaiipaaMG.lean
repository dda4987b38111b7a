/- The arguments of a law, opened: rows and structs of whole numbers; a law over memory that is read only. -/
import Derived.Test.YtfgcnehjdaiipaaMB
import Derived.ChangeSlices
import Derived.Deep.Slices
import Derived.Deep.Fields
/- A law whose arguments lead to memory: the caller's objects as a list, each read only. And arguments opened: rows of whole numbers, structs of whole numbers. -/
set_option linter.unusedVariables false
namespace Go.Lm
open Go.ChangeShapes Go.WideShapes

def sgL (l : List (Pl × Ob)) : Sg := fun k => (l[k]?).map (·.1)
def memL (l : List (Pl × Ob)) : Mem := { base := fun k => ((l[k]?).map (·.2)).getD .free, n := l.length, loc := [] }

theorem memL_get (l : List (Pl × Ob)) (k : Nat) : (memL l).get k = ((l[k]?).map (·.2)).getD .free := by
  unfold Mem.get memL
  simp only
  by_cases h : k < l.length
  · rw [if_pos h]
  · have h1 : l[k]? = none := List.getElem?_eq_none (by omega)
    have h2 : ([] : List Ob)[k - l.length]? = none := List.getElem?_nil
    rw [if_neg h, h1, h2]; rfl
theorem memL_top (l : List (Pl × Ob)) : (memL l).top = l.length := rfl

/-- Each object of the list is a row of a world, read only. -/
def ObjsOk (w : World) (l : List (Pl × Ob)) : Prop :=
  ∀ (k : Nat) (p : Pl) (o : Ob), l[k]? = some (p, o) → p.b < w.heap.size ∧ ∃ c, o = .cells true p.e c ∧ ∀ (j : Nat) (x : Value), c[j]? = some x → ∃ v, w.cell? ⟨p.b, p.o + j, none⟩ = some v ∧ sRel (sgL l) x v

theorem ObjsOk.rep {w : World} {l : List (Pl × Ob)} (h : ObjsOk w l) : Rep (sgL l) (memL l).get w := by
  have ro : ∀ k, ((memL l).get k).rw = false := fun k => by
    rw [memL_get]
    cases hk : l[k]? with
    | none => rfl
    | some x => obtain ⟨p, o⟩ := x; obtain ⟨_, c, rfl, _⟩ := h k p o hk; rfl
  refine ⟨fun k hk => ?_, fun k ro' e c hk => ?_, fun k e c hk => ?_, fun k es hk => ?_, fun k k' _ hk => ?_, fun k p hk => ?_⟩
  · rw [memL_get] at hk
    unfold sgL
    cases hl : l[k]? with
    | none => rfl
    | some x => obtain ⟨p, o⟩ := x; obtain ⟨_, c, rfl, _⟩ := h k p o hl; rw [hl] at hk; cases hk
  · rw [memL_get] at hk
    cases hl : l[k]? with
    | none => rw [hl] at hk; cases hk
    | some x =>
      obtain ⟨p, o⟩ := x
      obtain ⟨_, c', rfl, hc⟩ := h k p o hl
      rw [hl] at hk
      simp only [Option.map_some, Option.getD_some, Ob.cells.injEq] at hk
      obtain ⟨_, rfl, rfl⟩ := hk
      exact ⟨p, by unfold sgL; rw [hl]; rfl, rfl, hc⟩
  · have := ro k; rw [hk] at this; cases this
  · have := ro k; rw [hk] at this; cases this
  · rw [ro k] at hk; cases hk
  · unfold sgL at hk
    cases hl : l[k]? with
    | none => rw [hl] at hk; cases hk
    | some x =>
      obtain ⟨p', o⟩ := x
      rw [hl] at hk
      simp only [Option.map_some, Option.some.injEq] at hk
      subst hk
      exact (h k p' o hl).1

theorem memL_ro {w : World} {l : List (Pl × Ob)} (h : ObjsOk w l) (k : Nat) : ((memL l).get k).rw = false := by
  rw [memL_get]
  cases hk : l[k]? with
  | none => rfl
  | some x => obtain ⟨p, o⟩ := x; obtain ⟨_, c, rfl, _⟩ := h k p o hk; rfl

/-- A law over read-only objects: its contract is its walk. -/
theorem law_callsL {P : Program} {g : FuncId} {fn : Func} {c : Code} (hf : P.funcs[g]? = some fn) (hb : fn.body = some c) (hname : (fn.name == "runtime.NumGoroutine") = false) {vs : List Value} {rs : Array Value} {w : World}
    (l : List (Pl × Ob)) (hl : ObjsOk w l) (hv : argsRel (sgL l) vs rs) (h : TC P g vs (memL l) fun v _ => v = .bool true) :
    Calls P g rs w fun e w' => e = .returned (.bool true) ∧ Go.RowKit.Below w.heap.size w w' := by
  refine (calls_of_TC hl.rep hv (memL_ro hl) (code_of hf hb hname _ w) h).mono ?_
  rintro e w' ⟨v, rv, m', σ', rfl, rfl, hr, _, hb⟩
  exact ⟨congrArg _ hr, hb⟩

theorem argsRel_nil (σ : Sg) : argsRel σ [] #[] := ⟨rfl, fun i x y h => by simp at h⟩
theorem argsRel_cons {σ : Sg} {x y : Value} {vs : List Value} {rs : List Value} (h : vRel σ x y) (r : argsRel σ vs rs.toArray) : argsRel σ (x :: vs) (y :: rs).toArray := by
  refine ⟨by have := r.1; simp at this ⊢; exact this, fun i a b ha hb => ?_⟩
  cases i with
  | zero => simp at ha hb; subst ha; subst hb; exact h
  | succ i => simp at ha hb; exact r.2 i a b ha (by simpa using hb)

/-- a row of whole numbers -/
def intsO (k : IntKind) (zs : List Int) : Ob := .cells true 1 (zs.map (Value.int k)).toArray
def rowPl (x : Addr) (n : Nat) : Pl := ⟨x.block, x.off, 1, x.off + n⟩

theorem ints_ok {w : World} {k : IntKind} {x : Addr} {zs : List Int} (hb : x.block < w.heap.size) (hc : ∀ i, i < zs.length → w.cell? (x.add i) = some (.int k (zs.getD i 0))) (hx : x.spot = none) (σ : Sg) :
    ∀ (j : Nat) (y : Value), (zs.map (Value.int k)).toArray[j]? = some y → ∃ v, w.cell? ⟨(rowPl x zs.length).b, (rowPl x zs.length).o + j, none⟩ = some v ∧ sRel σ y v := by
  intro j y hy
  rw [List.getElem?_toArray, List.getElem?_map] at hy
  rcases Nat.lt_or_ge j zs.length with h | h
  · rw [List.getElem?_eq_getElem h] at hy
    simp only [Option.map_some, Option.some.injEq] at hy
    subst hy
    have := hc j h
    rw [List.getD_eq_getElem?_getD, List.getElem?_eq_getElem h, add_off x hx] at this
    exact ⟨_, this, rfl⟩
  · rw [List.getElem?_eq_none h] at hy; cases hy

/-- A slice argument of whole numbers: nil, or object 0 of a list of one. -/
theorem ints_arg {w : World} {k : IntKind} {x : Addr} {zs : List Int} {len cap : Nat} (hb : x.block < w.heap.size) (hx : x.spot = none) (hl : len ≤ cap) (hz : zs.length = cap)
    (hc : ∀ i, i < zs.length → w.cell? (x.add i) = some (.int k (zs.getD i 0))) :
    ObjsOk w [(rowPl x zs.length, intsO k zs)] ∧ vRel (sgL [(rowPl x zs.length, intsO k zs)]) (.slice (some ⟨0, 0, none⟩) len cap) (.slice (some x) len cap) := by
  refine ⟨fun j p o hj => ?_, ?_⟩
  · cases j with
    | succ j => simp at hj
    | zero =>
      simp only [List.getElem?_cons_zero, Option.some.injEq, Prod.mk.injEq] at hj
      obtain ⟨rfl, rfl⟩ := hj
      exact ⟨hb, _, rfl, ints_ok hb hc hx _⟩
  · exact ⟨x, cap, rowPl x zs.length, rfl, ⟨rfl, hx, rfl, rfl, rfl⟩, .inl rfl⟩

section
variable {H : Type} {enc : TypeId × Value → H} {P : Program} {w : World} {base : Nat} {spare : Nat → Bool} {held : Bool}
/-- A struct of whole numbers. -/
theorem open_nums {r : Reach} {b0 : Nat} {t : TypeId} {fs : Array Field} {v : Value} {d : DataW H} {p : List MemPlace} (ks : List IntKind) (ht : P.underlying t = some (.struct fs)) (hC : P.cellsOf t = fs.size)
    (hk : fs.toList.map (fun f => (f.offset, P.cellsOf f.type, P.underlying f.type)) = ks.zipIdx.map (fun x => (x.2, 1, some (.int x.1))))
    (hv : Value.okWide P w r b0 t v) (h : DataW.Trod enc P w base spare held t v d p) :
    ∃ ns : List Int, v = .agg (List.zipWith Value.int ks ns).toArray ∧ ns.length = ks.length ∧ ∀ (i : Nat) (k : IntKind) (n : Int), ks[i]? = some k → ns[i]? = some n → (Lit.int k n).wf = true := by
  obtain ⟨cs, rfl, hsz⟩ := okWide_struct ht hv
  obtain ⟨fuel, hf⟩ := h
  obtain ⟨xs, n, -, -, -, hxl, hg⟩ := DataW.trod_struct ht hf
  have hlen : fs.size = ks.length := by have := congrArg List.length hk; simpa using this
  have key : ∀ (i : Nat) (k : IntKind), ks[i]? = some k → ∃ z, cs[i]? = some (.int k z) ∧ (Lit.int k z).wf = true := fun i k hi => by
    have hil : i < ks.length := (List.getElem?_eq_some_iff.1 hi).1
    have hfi : fs[i]? = some (fs[i]'(by omega)) := Array.getElem?_eq_getElem _
    have h1 := congrArg (fun l => l[i]?) hk
    simp only [List.getElem?_map, List.getElem?_zipIdx, hi, Option.map_some, Nat.zero_add, Array.getElem?_toList, hfi, Option.some.injEq, Prod.mk.injEq] at h1
    obtain ⟨h2, h3, h4⟩ := h1
    have h5 := hg i _ hfi
    rw [h2, h3] at h5
    have hic : i < cs.size := by omega
    have h6 : (cs.toList.drop i).take 1 = [cs[i]'hic] := by
      rw [List.drop_eq_getElem_cons (by simpa using hic)]; simp
    have h7 : (Value.agg cs).cells.toList = cs.toList := rfl
    rw [h7, h6] at h5
    cases hxi : xs[i]? with
    | none =>
      exfalso
      rw [List.getElem?_eq_getElem (by omega)] at hxi
      cases hxi
    | some y =>
      rw [hxi] at h5
      obtain ⟨z, hz, _, hw⟩ := DataW.trod_int h4 h5
      simp only [List.cons.injEq, and_true] at hz
      exact ⟨z, by rw [Array.getElem?_eq_getElem hic, hz], hw⟩
  have hcs : cs.size = ks.length := by omega
  refine ⟨cs.toList.map (fun v => match v with | .int _ z => z | _ => 0), ?_, by simpa using hcs, fun i k z hi hz => ?_⟩
  · congr 1
    apply Array.ext
    · simp [hcs]
    · intro i h1 h2
      have hik : i < ks.length := by omega
      obtain ⟨z, hz, _⟩ := key i _ (List.getElem?_eq_getElem hik)
      rw [Array.getElem?_eq_getElem h1, Option.some.injEq] at hz
      simp [hz]
  · obtain ⟨z', hz', hw⟩ := key i k hi
    rw [List.getElem?_map, Array.getElem?_toList, hz'] at hz
    simp only [Option.map_some, Option.some.injEq] at hz
    subst hz; exact hw
/-- What a law knows of a slice of whole numbers that came in. -/
def IntsArg (k : IntKind) (w : World) (a : Option Addr) (len cap : Nat) (zs : List Int) : Prop :=
  (a = none ∧ len = 0 ∧ cap = 0 ∧ zs = []) ∨
  ∃ x, a = some x ∧ x.spot = none ∧ x.block < w.heap.size ∧ len ≤ cap ∧ cap ≤ maxLen ∧ zs.length = cap ∧ (∀ i, i < zs.length → w.cell? (x.add i) = some (.int k (zs.getD i 0))) ∧ ∀ n ∈ zs, (Lit.int k n).wf = true

theorem has_at {w : World} {r : Reach} {b0 : Nat} {a : Addr} {e : TypeId} {n : Nat} (h : w.has P r b0 a e n) : a.spot = none ∧ a.block < w.heap.size := by
  obtain ⟨_, h1, row, cells, h2, _⟩ := h
  refine ⟨h1, ?_⟩
  unfold World.shape? at h2
  rcases Nat.lt_or_ge a.block w.heap.size with h' | h'
  · exact h'
  · rw [Array.getElem?_eq_none h'] at h2; cases h2

theorem open_intsArg {b0 : Nat} {t e : TypeId} {k : IntKind} {a : Option Addr} {len cap : Nat} {d : DataW H} {p : List MemPlace} (ht : P.underlying t = some (.slice e)) (he : P.underlying e = some (.int k)) (hc : P.cellsOf e = 1)
    (hv : Value.okWide P w .any b0 t (.slice a len cap)) (h : DataW.Trod enc P w base (fun _ => true) held t (.slice a len cap) d p) : ∃ zs, IntsArg k w a len cap zs := by
  obtain ⟨fuel, hf⟩ := h
  rcases open_ints ht he hc hf with ⟨hcs, _⟩ | ⟨x, l, c, zs, hcs, _, hl, hm, hz, _, hcell, hwz⟩
  · simp [Value.cells] at hcs
    obtain ⟨rfl, rfl, rfl⟩ := hcs
    exact ⟨[], .inl ⟨rfl, rfl, rfl, rfl⟩⟩
  · simp [Value.cells] at hcs
    obtain ⟨rfl, rfl, rfl⟩ := hcs
    have h1 : Cell.okWide P w .any b0 t (.slice (some x) len cap) := by
      unfold Value.okWide at hv
      rw [ht] at hv
      exact hv
    have h2 : Cell.ok P w .any b0 t (.slice (some x) len cap) := by
      unfold Cell.okWide at h1
      rw [ht] at h1
      exact h1
    unfold Cell.ok at h2
    rw [ht] at h2
    obtain ⟨h3, h4⟩ := has_at h2.2.2
    exact ⟨zs, .inr ⟨x, rfl, h3, h4, hl, hm, by simpa using hz, hcell, hwz⟩⟩
end

theorem bRel_gnd {σ : Sg} {v : Value} (h : gnd0 v = true) : bRel σ v v := by
  unfold gnd0 at h
  split at h <;> first | rfl | cases h
theorem sRel_gnd {σ : Sg} {v : Value} (h : gnd0 v = true) : sRel σ v v := by
  have := bRel_gnd (σ := σ) h
  unfold gnd0 at h
  split at h <;> first | exact this | cases h
theorem vRel_gnd {σ : Sg} {v : Value} (h : gnd v = true) : vRel σ v v := by
  unfold gnd at h
  split at h
  · rename_i c
    simp only [Array.all_eq_true_iff_forall_mem] at h
    refine ⟨c, rfl, rfl, fun i x y hx hy => ?_⟩
    rw [hx] at hy
    cases hy
    exact sRel_gnd (h x (Array.mem_of_getElem? hx))
  · exact vRel.of_s (sRel_gnd h)

/-- a number that is not below 0 -/
theorem nat_of_u32 {a : Int} (w : (Lit.int .u32 a).wf = true) : ∃ n : Nat, a = (n : Int) ∧ n < 2 ^ 32 := by
  simp [Lit.wf, IntKind.min, IntKind.max, IntKind.bits, IntKind.signed] at w
  exact ⟨a.toNat, by omega, by omega⟩
end Go.Lm
