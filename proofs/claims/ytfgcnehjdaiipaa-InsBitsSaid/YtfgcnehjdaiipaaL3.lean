/- Each operation, as the machine runs it, does what the plain function says. -/
import Derived.Test.YtfgcnehjdaiipaaL2
import Derived.Laws.StructEq
import Derived.Laws.IdiomCopy
namespace Go.Lm

section
variable {P : Program} {w : World}

theorem rUnd {t : TypeId} {d : TypeDesc} (h : P.underlying t = some d) : (underlying t).run P w = .ok d w := run_underlying h w

theorem und_info {t : TypeId} {d : TypeDesc} (h : P.underlying t = some d) : ∃ i, P.info? t = some i := by
  unfold Program.underlying at h
  cases hi : P.info? t with
  | some i => exact ⟨i, rfl⟩
  | none => rw [hi] at h; cases h

theorem rInfo {t : TypeId} {i : TypeInfo} (h : P.info? t = some i) : (typeInfo t).run P w = .ok i w := by
  simp [typeInfo, h]

theorem rSize {t : TypeId} {s : Nat} (h : sizeQ P t = some s) : (sizeOf t).run P w = .ok s w := by
  unfold sizeQ at h
  cases hi : P.info? t with
  | none => rw [hi] at h; cases h
  | some i => rw [hi] at h; cases h; simp [sizeOf, rInfo hi]

theorem sizeQ_of_und {t : TypeId} {d : TypeDesc} (h : P.underlying t = some d) : ∃ s, sizeQ P t = some s := by
  obtain ⟨i, hi⟩ := und_info h
  exact ⟨i.size, by simp [sizeQ, hi]⟩

theorem zeroQ_gnd {t : TypeId} {z : Value} (h : zeroQ P t = some z) : gnd z = true := by
  unfold zeroQ at h
  split at h
  · split at h
    · cases h; assumption
    · cases h
  · cases h

theorem rZero {t : TypeId} {z : Value} (h : zeroQ P t = some z) : (zeroValue t).run P w = .ok z w := by
  unfold zeroQ at h
  cases hi : P.info? t with
  | none => rw [hi] at h; cases h
  | some i =>
    rw [hi] at h
    simp only [Option.bind_some] at h
    cases hz : i.zero with
    | none => rw [hz] at h; cases h
    | some z' =>
      rw [hz] at h
      simp only [] at h
      split at h
      · cases h; simp [zeroValue, rInfo hi, hz]
      · cases h

theorem tyQ_sl {t : TypeId} {el s : Nat} (h : tyQ P t = .sl el s) : P.underlying t = some (.slice el) ∧ sizeQ P el = some s := by
  unfold tyQ at h
  split at h <;> first | (cases h; done) | skip
  · rename_i el' hu
    split at h
    · rename_i s' hs; cases h; exact ⟨hu, hs⟩
    · cases h
  · split at h <;> cases h
  · split at h <;> cases h

theorem tyQ_arr {t : TypeId} {n el s : Nat} (h : tyQ P t = .arr n el s) : P.underlying t = some (.array n el) ∧ sizeQ P el = some s := by
  unfold tyQ at h
  split at h <;> first | (cases h; done) | skip
  · split at h <;> cases h
  · rename_i n' el' hu
    split at h
    · rename_i s' hs; cases h; exact ⟨hu, hs⟩
    · cases h
  · split at h <;> cases h

theorem tyQ_struct {t : TypeId} {l : List (Nat × Nat × Nat)} (h : tyQ P t = .struct l) :
    ∃ fs, P.underlying t = some (.struct fs) ∧ (l = fs.toList.map fun f => (f.offset, f.type, (sizeQ P f.type).getD 0)) ∧ ∀ f ∈ fs.toList, ∃ s, sizeQ P f.type = some s := by
  unfold tyQ at h
  split at h <;> first | (cases h; done) | skip
  · split at h <;> cases h
  · split at h <;> cases h
  · rename_i fs hu
    split at h
    · rename_i ha
      cases h
      exact ⟨fs, hu, rfl, fun f hf => Option.isSome_iff_exists.1 (List.all_eq_true.1 ha f hf)⟩
    · cases h

theorem tyQ_int {t : TypeId} {k : IntKind} (h : tyQ P t = .int k) : P.underlying t = some (.int k) := by
  unfold tyQ at h
  split at h <;> first | (cases h; done) | skip
  · rename_i k' hu; cases h; exact hu
  · split at h <;> cases h
  · split at h <;> cases h
  · split at h <;> cases h

theorem tyQ_bool {t : TypeId} (h : tyQ P t = .bool) : P.underlying t = some .bool := by
  unfold tyQ at h
  split at h <;> first | (cases h; done) | skip
  · assumption
  · split at h <;> cases h
  · split at h <;> cases h
  · split at h <;> cases h

theorem tyQ_str {t : TypeId} (h : tyQ P t = .str) : P.underlying t = some .string := by
  unfold tyQ at h
  split at h <;> first | (cases h; done) | skip
  · assumption
  · split at h <;> cases h
  · split at h <;> cases h
  · split at h <;> cases h

theorem tyQ_ptr {t el : TypeId} (h : tyQ P t = .ptr el) : P.underlying t = some (.pointer el) := by
  unfold tyQ at h
  split at h <;> first | (cases h; done) | skip
  · rename_i el' hu; cases h; exact hu
  · split at h <;> cases h
  · split at h <;> cases h
  · split at h <;> cases h

theorem tyQ_map {t k e : TypeId} (h : tyQ P t = .map k e) : P.underlying t = some (.map k e) := by
  unfold tyQ at h
  split at h <;> first | (cases h; done) | skip
  · split at h <;> cases h
  · split at h <;> cases h
  · split at h <;> cases h
  · rename_i k' e' hu; cases h; exact hu

theorem tyQ_agg_true {t : TypeId} (h : (tyQ P t).isAgg = some true) : (isAgg t).run P w = .ok true w ∧ ∃ d, P.underlying t = some d := by
  cases hq : tyQ P t with
  | arr n el s => have := (tyQ_arr hq).1; exact ⟨by simp [isAgg, rUnd this], _, this⟩
  | struct l => obtain ⟨fs, hu, _⟩ := tyQ_struct hq; exact ⟨by simp [isAgg, rUnd hu], _, hu⟩
  | _ => rw [hq] at h; cases h

theorem tyQ_func {t : TypeId} (h : tyQ P t = .func) : ∃ a b c, P.underlying t = some (.func a b c) := by
  unfold tyQ at h
  split at h <;> first | (cases h; done) | skip
  · split at h <;> cases h
  · split at h <;> cases h
  · split at h <;> cases h
  · exact ⟨_, _, _, by assumption⟩

theorem tyQ_agg_false {t : TypeId} (h : (tyQ P t).isAgg = some false) : (isAgg t).run P w = .ok false w ∧ ∃ d, P.underlying t = some d := by
  cases hq : tyQ P t with
  | bool => have := tyQ_bool hq; exact ⟨by simp [isAgg, rUnd this], _, this⟩
  | int k => have := tyQ_int hq; exact ⟨by simp [isAgg, rUnd this], _, this⟩
  | str => have := tyQ_str hq; exact ⟨by simp [isAgg, rUnd this], _, this⟩
  | ptr el => have := tyQ_ptr hq; exact ⟨by simp [isAgg, rUnd this], _, this⟩
  | sl el s => have := (tyQ_sl hq).1; exact ⟨by simp [isAgg, rUnd this], _, this⟩
  | map a b => have := tyQ_map hq; exact ⟨by simp [isAgg, rUnd this], _, this⟩
  | func => obtain ⟨a, b, c, this⟩ := tyQ_func hq; exact ⟨by simp [isAgg, rUnd this], _, this⟩
  | arr n el s => rw [hq] at h; cases h
  | struct l => rw [hq] at h; cases h
  | other => rw [hq] at h; cases h
end

/-! ### values -/

theorem gnd0_bRel {σ : Sg} {v : Value} (h : gnd0 v = true) : bRel σ v v := by
  cases v with
  | pointer a => cases a <;> simp [gnd0] at h; rfl
  | slice a l c => cases a <;> simp [gnd0] at h; rfl
  | map a => cases a <;> simp [gnd0] at h; rfl
  | _ => first | rfl | (simp [gnd0] at h)

theorem gnd0_sRel {σ : Sg} {v : Value} (h : gnd0 v = true) : sRel σ v v := by
  have h' : bRel σ v v := gnd0_bRel h
  cases v <;> first | exact h' | (simp [gnd0] at h)

theorem gnd_tRel {σ : Sg} {v : Value} (h : gnd v = true) : tRel σ v v := by
  cases v with
  | agg c =>
    refine ⟨c, rfl, rfl, fun i x y hx hy => ?_⟩
    rw [hx] at hy; cases hy
    simp only [gnd, Array.all_eq_true_iff_forall_mem] at h
    exact gnd0_sRel (h x (Array.mem_of_getElem? hx))
  | _ => simp only [gnd] at h; simp only [tRel]; exact gnd0_sRel h

theorem gnd_vRel {σ : Sg} {v : Value} (h : gnd v = true) : vRel σ v v := by
  cases v with
  | tuple c => simp [gnd, gnd0] at h
  | _ => simp only [vRel]; exact gnd_tRel h

theorem sRel_oneCell {σ : Sg} {x v : Value} (h : sRel σ x v) : v.oneCell' = true := by
  cases x with
  | func f fi ca => obtain ⟨fi', ca', rfl, _⟩ := h; rfl
  | pointer a =>
    cases a with
    | none => cases h; rfl
    | some a => obtain ⟨a', p, rfl, _⟩ := h; rfl
  | slice a l c =>
    cases a with
    | none => cases h; rfl
    | some a => obtain ⟨a', c', p, rfl, _⟩ := h; rfl
  | map a =>
    cases a with
    | none => cases h; rfl
    | some a => obtain ⟨p, _, rfl⟩ := h; rfl
  | _ => first | (cases h; rfl) | exact h.elim

/-- A value's cells, on both sides. -/
theorem vRel_cells {σ : Sg} {x v : Value} (h : vRel σ x v) {c : Array Value} (hc : vcells x = some c) : aaRel (sRel σ) c v.cells := by
  cases x with
  | agg a => obtain ⟨c', rfl, r⟩ := h; cases hc; exact r
  | tuple a => cases hc
  | func f fi ca =>
    cases hc
    have h1 : sRel σ (.func f fi ca) v := h
    obtain ⟨fi', ca', rfl, _⟩ := h
    exact aaRel.one h1
  | pointer a =>
    cases hc
    have h1 : sRel σ (.pointer a) v := h
    cases a with
    | none => cases h; exact aaRel.one h1
    | some a => obtain ⟨a', p, rfl, _⟩ := h; exact aaRel.one h1
  | slice a l c =>
    cases hc
    have h1 : sRel σ (.slice a l c) v := h
    cases a with
    | none => cases h; exact aaRel.one h1
    | some a => obtain ⟨a', c', p, rfl, _⟩ := h; exact aaRel.one h1
  | map a =>
    cases hc
    have h1 : sRel σ (.map a) v := h
    cases a with
    | none => cases h; exact aaRel.one h1
    | some a => obtain ⟨p, _, rfl⟩ := h; exact aaRel.one h1
  | bool b => cases hc; cases h; exact aaRel.one rfl
  | int k n => cases hc; cases h; exact aaRel.one rfl
  | string s => cases hc; cases h; exact aaRel.one rfl
  | nilFunc => cases hc; cases h; exact aaRel.one rfl
  | nilIface => cases hc; cases h; exact aaRel.one rfl
  | _ => exact h.elim

theorem vRel_bool {σ : Sg} {b : Bool} {v : Value} (h : vRel σ (.bool b) v) : v = .bool b := h
theorem vRel_int {σ : Sg} {k : IntKind} {n : Int} {v : Value} (h : vRel σ (.int k n) v) : v = .int k n := h
theorem vRel_string {σ : Sg} {s : ByteArray} {v : Value} (h : vRel σ (.string s) v) : v = .string s := h
theorem vRel_ptr {σ : Sg} {a : Addr} {v : Value} (h : vRel σ (.pointer (some a)) v) : ∃ a' p, v = .pointer (some a') ∧ aRel σ a a' p := h
theorem vRel_sl {σ : Sg} {a : Addr} {l c : Nat} {v : Value} (h : vRel σ (.slice (some a) l c) v) : ∃ a' c' p, v = .slice (some a') l c' ∧ aRel σ a a' p ∧ cRel p a'.off c c' := h
theorem vRel_sl0 {σ : Sg} {l c : Nat} {v : Value} (h : vRel σ (.slice none l c) v) : v = .slice none l c := h
theorem vRel_agg {σ : Sg} {c : Array Value} {v : Value} (h : vRel σ (.agg c) v) : ∃ c', v = .agg c' ∧ aaRel (sRel σ) c c' := h

/-! ### the environment -/

def EnvRel (σ : Sg) (env : Env) (tmps : Array Value) : Prop :=
  ∀ t v, elook env t = some v → ∃ rv, tmps[t]? = some rv ∧ vRel σ v rv

theorem EnvRel.mono {σ τ : Sg} (h : σ.le τ) {env : Env} {tmps : Array Value} (r : EnvRel σ env tmps) : EnvRel τ env tmps :=
  fun t v e => let ⟨rv, h1, h2⟩ := r t v e; ⟨rv, h1, h2.mono h⟩

theorem EnvRel.put {σ : Sg} {env : Env} {tmps : Array Value} (r : EnvRel σ env tmps) {d : Nat} {v rv : Value} (hd : d < tmps.size) (h : vRel σ v rv) :
    EnvRel σ ((d, v) :: env) (tmps.setIfInBounds d rv) := by
  intro t u e
  simp only [elook] at e
  by_cases ht : d = t
  · subst ht
    simp only [if_true] at e
    cases e
    exact ⟨rv, by rw [Array.getElem?_setIfInBounds_self_of_lt hd], h⟩
  · rw [if_neg ht] at e
    obtain ⟨ru, h1, h2⟩ := r t u e
    exact ⟨ru, by rw [Array.getElem?_setIfInBounds_ne ht]; exact h1, h2⟩

theorem ev_sound {σ : Sg} {env : Env} {a : Act} (r : EnvRel σ env a.tmps) {x : Operand} {v : Value} (h : ev env x = some v) : vRel σ v (a.eval x) := by
  cases x with
  | tmp t =>
    obtain ⟨rv, h1, h2⟩ := r t v h
    simp only [Act.eval, Array.getD_eq_getD_getElem?, h1, Option.getD_some]
    exact h2
  | const c =>
    simp only [ev] at h
    split at h
    · cases h; exact gnd_vRel (by assumption)
    · cases h
  | global g => cases h
  | func f => cases h; exact ⟨#[], #[], rfl, .nil _, .nil _⟩

theorem evs_sound {σ : Sg} {env : Env} {a : Act} (r : EnvRel σ env a.tmps) : ∀ {l : List Operand} {vs : List Value}, evs env l = some vs →
    vs.length = l.length ∧ ∀ (i : Nat) (v : Value) (x : Operand), vs[i]? = some v → l[i]? = some x → vRel σ v (a.eval x)
  | [], vs, h => by cases h; exact ⟨rfl, fun i v x h => by simp at h⟩
  | x :: l, vs, h => by
    simp only [evs] at h
    split at h
    · rename_i v vs' h1 h2
      cases h
      obtain ⟨e1, e2⟩ := evs_sound r h2
      refine ⟨by simp [e1], fun i u y hu hy => ?_⟩
      cases i with
      | zero => simp at hu hy; subst hu; subst hy; exact ev_sound r h1
      | succ i => simp at hu hy; exact e2 i u y hu hy
    · cases h

end Go.Lm
