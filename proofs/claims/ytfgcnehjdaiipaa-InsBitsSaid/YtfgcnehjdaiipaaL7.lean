/- The operations' soundness: slices, conversions, builtins. -/
import Derived.Test.YtfgcnehjdaiipaaL6
namespace Go.Lm

section
variable {P : Program} {σ : Sg} {M : Nat → Ob} {w : World}

theorem zeros_rel {z z' : Array Value} (h : aaRel (sRel σ) z z') (n : Nat) (hz : 0 < z.size ∨ n = 0) : aaRel (sRel σ) (zeros z n) ((Array.range n).map (z'[· % z'.size]!)) := by
  refine ⟨by simp [zeros], fun i x y hx hy => ?_⟩
  simp only [zeros, Array.getElem?_map] at hx hy
  by_cases hi : i < n
  · have hr : (Array.range n)[i]? = some i := by simp [hi]
    rw [hr] at hx hy
    simp only [Option.map_some, Option.some.injEq] at hx hy
    have h0 : 0 < z.size := hz.resolve_right (by omega)
    have hm : i % z.size < z.size := Nat.mod_lt _ h0
    have h1 : z[i % z.size]? = some (z[i % z.size]!) := by rw [Array.getElem?_eq_getElem hm, getElem!_pos z _ hm]
    obtain ⟨v, h2, h3⟩ := h.get h1
    have hv : z'[i % z'.size]! = v := by
      rw [← h.1]
      have : i % z.size < z'.size := by rw [← h.1]; exact hm
      rw [getElem!_pos z' _ this]
      rw [Array.getElem?_eq_getElem this] at h2
      exact Option.some.inj h2
    rw [← hx, ← hy, hv]
    exact h3
  · have hr : (Array.range n)[i]? = none := by simp; omega
    rw [hr] at hx
    cases hx

theorem zeros_size (z : Array Value) (n : Nat) : (zeros z n).size = n := by simp [zeros]

/-- A new row, as a slice. -/
theorem newRow_sound (hR : Rep σ M w) {k : Nat} (hk : M k = .free) (el s : Nat) {c C : Array Value} (h : aaRel (sRel σ) c C) (l cap : Nat) :
    RanV σ M w k ((do pure (Value.slice (some (← newRow el C)) l cap) : Sem Value).run P w) { val := .slice (some ⟨k, 0, none⟩) l cap, new := some (.cells false s c) } := by
  obtain ⟨h1, h2⟩ := hR.alloc hk el s c C (by rw [h.1]; exact Nat.le_refl _) (fun j x hx => h.get hx)
  refine ⟨_, _, .slice (some ⟨w.heap.size, 0, none⟩) l cap, ?_, ?_, h1, h2⟩
  · simp [newRow]
  · exact ⟨⟨w.heap.size, 0, none⟩, cap, ⟨w.heap.size, 0, s, C.size⟩, rfl, ⟨rfl, rfl, by simp [Sset], rfl, by simp⟩, .inl rfl⟩

theorem buildSlice_sound (hR : Rep σ M w) {k : Nat} (hk : M k = .free) {t : TypeId} {len : Nat} {parts rparts : List (Nat × Value)} {e : Eff} (hl : parts.length = rparts.length)
    (hr : ∀ (j : Nat) (x y : Nat × Value), parts[j]? = some x → rparts[j]? = some y → x.1 = y.1 ∧ vRel σ x.2 y.2) (h : lbuildSlice P k t len parts = some e) :
    RanV σ M w k ((Instr.buildSlice t len rparts.toArray).run P w) e := by
  unfold lbuildSlice at h
  split at h
  case h_2 => cases h
  rename_i el s hq
  obtain ⟨hu, hs⟩ := tyQ_sl hq
  split at h
  case h_2 => cases h
  rename_i z hz
  split at h
  case isFalse => cases h
  rename_i hc
  split at h
  case h_2 => cases h
  rename_i c hf
  cases h
  have hzr := zero_rel (σ := σ) hz
  have hzs := zeros_rel hzr (len * s) (.inl (by omega))
  obtain ⟨C, h1, h2⟩ := lfill_sound (σ := σ) (place' := fun i => some (i * s, s)) parts rparts _ _ c (fun i off s hi => hi) hl hr hzs hf
  have := newRow_sound (P := P) hR hk el s h2 len len
  unfold Instr.buildSlice
  simp only [Sem.run_bind, rUnd hu, Result.andThen_ok, rSize hs]
  rw [if_neg (by omega)]
  by_cases h0 : len * s = 0
  · rw [if_pos h0]
    simp only [pure_bind]
    have he : (Array.range (len * s)).map (fun x => (#[] : Array Value)[x % (#[] : Array Value).size]!) = (Array.range (len * s)).map (fun x => z.cells[x % z.cells.size]!) := by simp [h0]
    rw [he]
    simp only [h1]
    exact this
  · rw [if_neg h0]
    simp only [pure_bind, Sem.run_bind, rZero hz, Result.andThen_ok]
    simp only [h1]
    exact this

theorem makeSlice_sound (hR : Rep σ M w) {k : Nat} (hk : M k = .free) {t : TypeId} {ln cp rln rcp : Value} {e : Eff} (h1 : vRel σ ln rln) (h2 : vRel σ cp rcp) (h : lmakeSlice P k t ln cp = some e) :
    RanV σ M w k ((Instr.makeSlice t rln rcp).run P w) e := by
  unfold lmakeSlice at h
  split at h
  case h_2 => cases h
  rename_i el s k1 l k2 c hq
  cases vRel_int h1; cases vRel_int h2
  obtain ⟨hu, hs⟩ := tyQ_sl hq
  split at h
  case h_2 => cases h
  rename_i z by_ hz hb
  split at h
  case isFalse => cases h
  rename_i hc
  cases h
  obtain ⟨i, hi, hib⟩ : ∃ i, P.info? el = some i ∧ i.bytes = by_ := by
    cases hi : P.info? el with
    | none => rw [hi] at hb; cases hb
    | some i => rw [hi] at hb; cases hb; exact ⟨i, rfl, rfl⟩
  subst hib
  have hzr := zero_rel (σ := σ) hz
  have hzs := zeros_rel hzr (c.toNat * s) (.inl (by omega))
  have := newRow_sound (P := P) hR hk el s hzs l.toNat c.toNat
  have hwl : IntKind.i64.wrap l = l := by simp [IntKind.wrap, IntKind.bits, IntKind.signed]; omega
  have hwc : IntKind.i64.wrap c = c := by simp [IntKind.wrap, IntKind.bits, IntKind.signed]; omega
  have hn1 : ¬ ((i.bytes : Int) * c > 2 ^ 48) := by omega
  have hcond : ((decide (c < 0) || decide ((i.bytes : Int) * c > 2 ^ 48)) || decide (l < 0) || decide (l > c)) = false := by simp; omega
  unfold Instr.makeSlice
  simp only [Sem.run_bind, rUnd hu, Result.andThen_ok, asInt, asIntOf, rInfo hi, hwl, hwc, Sem.run_pure]
  rw [if_neg (by rw [hcond]; simp)]
  simp only [pure_bind, Sem.run_bind, run_askRoom, Result.andThen_ok, rSize hs]
  by_cases h0 : c.toNat * s = 0
  · rw [if_pos h0]
    try simp only [Sem.run_pure, Result.andThen_ok]
    have he : (Array.range (c.toNat * s)).map (fun x => (#[] : Array Value)[x % (#[] : Array Value).size]!) = (Array.range (c.toNat * s)).map (fun x => z.cells[x % z.cells.size]!) := by simp [h0]
    rw [he]
    exact this
  · rw [if_neg h0]
    simp only [Sem.run_bind, rZero hz, Result.andThen_ok, Sem.run_pure]
    exact this

theorem sliceBound_sound {k : IntKind} {i : Int} {y : Nat} {code : BoundsCode} (h0 : 0 ≤ i) (h1 : i ≤ y) : (Instr.sliceBound (.int k i) y code).run P w = .ok i.toNat w := by
  simp [Instr.sliceBound, asIntOf, h0, h1]

/-- An optional int, on both sides. -/
def optRel (o : Option Int) (r : Option Value) : Prop :=
  match o with
  | none => r = none
  | some n => ∃ k, r = some (.int k n)

theorem bounds_sound {isSlice : Bool} {len cap rcap : Nat} {low high mx : Option Int} {rl rh rm : Option Value} (h1 : optRel low rl) (h2 : optRel high rh) (h3 : optRel mx rm) (hcap : cap ≤ rcap) {l h m : Nat}
    (hb : lbounds len cap low high mx = some (l, h, m)) : (Instr.sliceBounds isSlice len rcap rl rh rm).run P w = .ok (l, h, if mx.isSome then m else rcap) w ∧ l ≤ h ∧ h ≤ m ∧ (mx = none → m = cap) ∧ m ≤ cap := by
  unfold lbounds at hb
  split at hb
  · rename_i m0
    split at hb
    case h_2 => cases hb
    rename_i h0
    split at hb
    case isFalse => cases hb
    rename_i hc
    cases hb
    obtain ⟨k3, rfl⟩ := h3
    obtain ⟨k2, rfl⟩ := h2
    have e1 := sliceBound_sound (P := P) (w := w) (k := k3) (i := m0) (y := rcap) (code := if isSlice then .slice3Acap else .slice3Alen) (by omega) (by omega)
    have e2 := sliceBound_sound (P := P) (w := w) (k := k2) (i := h0) (y := m0.toNat) (code := .slice3B) (by omega) (by omega)
    refine ⟨?_, by omega, by omega, by simp, by omega⟩
    cases low with
    | none =>
      cases h1
      simp [Instr.sliceBounds, e1, e2]
    | some l0 =>
      obtain ⟨k1, rfl⟩ := h1
      simp only [Option.getD_some] at hc
      have e3 := sliceBound_sound (P := P) (w := w) (k := k1) (i := l0) (y := h0.toNat) (code := .slice3C) (by omega) (by omega)
      simp [Instr.sliceBounds, e1, e2, e3]
  · split at hb
    case isFalse => cases hb
    rename_i hc
    cases hb
    cases h3
    refine ⟨?_, by omega, by omega, by simp, Nat.le_refl _⟩
    cases high with
    | none =>
      cases h2
      simp only [Option.getD_none] at hc
      cases low with
      | none => cases h1; simp [Instr.sliceBounds]
      | some l0 =>
        obtain ⟨k1, rfl⟩ := h1
        simp only [Option.getD_some] at hc
        have e3 := sliceBound_sound (P := P) (w := w) (k := k1) (i := l0) (y := len) (code := .sliceB) (by omega) (by omega)
        simp [Instr.sliceBounds, e3]
    | some h0 =>
      obtain ⟨k2, rfl⟩ := h2
      simp only [Option.getD_some] at hc
      have e2 := sliceBound_sound (P := P) (w := w) (k := k2) (i := h0) (y := rcap) (code := if isSlice then .sliceAcap else .sliceAlen) (by omega) (by omega)
      cases low with
      | none => cases h1; simp [Instr.sliceBounds, e2]
      | some l0 =>
        obtain ⟨k1, rfl⟩ := h1
        simp only [Option.getD_some] at hc
        have e3 := sliceBound_sound (P := P) (w := w) (k := k1) (i := l0) (y := h0.toNat) (code := .sliceB) (by omega) (by omega)
        simp [Instr.sliceBounds, e2, e3]

theorem slice_sound (hR : Rep σ M w) {t : TypeId} {x rx v : Value} {low high mx : Option Int} {rl rh rm : Option Value} (hx : vRel σ x rx) (h1 : optRel low rl) (h2 : optRel high rh) (h3 : optRel mx rm)
    (h : lslice P M t x low high mx = some v) :
    ∃ rv, (Instr.sliceAt t rx rl rh rm).run P w = .ok rv w ∧ vRel σ v rv := by
  unfold lslice at h
  split at h
  · rename_i n el s a hq
    obtain ⟨a', p, rfl, ha⟩ := vRel_ptr hx
    obtain ⟨hu, hs⟩ := tyQ_arr hq
    split at h
    case h_2 => cases h
    rename_i l hh m hb
    cases h
    obtain ⟨e1, e2, e3, e4, e5⟩ := bounds_sound (P := P) (w := w) (isSlice := false) h1 h2 h3 (Nat.le_refl n) hb
    have hm : (if mx.isSome then m else n) = m := by
      cases mx with
      | none => simp [e4 rfl]
      | some _ => rfl
    rw [hm] at e1
    refine ⟨.slice (some (if m = l then a' else a'.add (l * s))) (hh - l) (m - l), by simp [Instr.sliceAt, rUnd hu, Instr.sureAddr, e1, rSize hs], ?_⟩
    by_cases hml : m = l
    · rw [if_pos hml, if_pos hml]; exact ⟨a', m - l, p, rfl, ha, .inl rfl⟩
    · rw [if_neg hml, if_neg hml]
      exact ⟨_, m - l, p, rfl, ⟨rfl, by rw [add_off a' ha.2.1], ha.2.2.1, by rw [add_off a' ha.2.1]; exact ha.2.2.2.1, by rw [add_off a' ha.2.1]; simp only []; rw [ha.2.2.2.2]; omega⟩, .inl rfl⟩
  · rename_i b hq
    cases vRel_string hx
    have hu := tyQ_str hq
    split at h
    case h_2 => cases h
    rename_i l hh m hb
    cases h
    cases h3
    obtain ⟨e1, e2, e3, e4, e5⟩ := bounds_sound (P := P) (w := w) (isSlice := false) h1 h2 (show optRel none none from rfl) (Nat.le_refl b.size) hb
    simp only [Option.isSome_none] at e1
    exact ⟨.string (b.extract l hh), by simp [Instr.sliceAt, Instr.slice, rUnd hu, e1], rfl⟩
  · rename_i el s a len cap hq
    obtain ⟨a', cap', p, rfl, ha, hcr⟩ := vRel_sl hx
    obtain ⟨hu, hs⟩ := tyQ_sl hq
    split at h
    case h_2 => cases h
    rename_i l hh m ro e c hb hM
    split at h
    case isTrue => cases h
    rename_i hne
    cases h
    obtain ⟨q, hq1, hqe, _⟩ := hR.cel _ _ _ _ hM
    have hpe : p.e = e := by have := ha.2.2.1; rw [hq1] at this; cases this; exact hqe
    have hcap : cap ≤ cap' := by rcases hcr with h | h <;> omega
    obtain ⟨e1, e2, e3, e4, e5⟩ := bounds_sound (P := P) (w := w) (isSlice := true) h1 h2 h3 hcap hb
    refine ⟨.slice (some (if (if mx.isSome then m else cap') = l then a' else a'.add (l * s))) (hh - l) ((if mx.isSome then m else cap') - l), ?_, ?_⟩
    · have hb : ∀ q : Nat, (if q = l then some a' else Option.map (fun x => x.add (l * s)) (some a')) = some (if q = l then a' else a'.add (l * s)) := fun q => by split <;> rfl
      simp only [Instr.sliceAt, Instr.slice, Sem.run_bind, rUnd hu, Result.andThen_ok, e1, rSize hs, hb, Sem.run_pure]
    · cases mx with
      | some mm =>
        simp only [Option.isSome_some, if_true]
        by_cases hml : m = l
        · rw [if_pos hml, if_pos hml]; exact ⟨a', m - l, p, rfl, ha, .inl rfl⟩
        · rw [if_neg hml, if_neg hml]
          exact ⟨_, m - l, p, rfl, ⟨rfl, by rw [add_off a' ha.2.1], ha.2.2.1, by rw [add_off a' ha.2.1]; exact ha.2.2.2.1, by rw [add_off a' ha.2.1]; simp only []; rw [ha.2.2.2.2]; omega⟩, .inl rfl⟩
      | none =>
        have hm := e4 rfl
        subst hm
        simp only [Option.isSome_none, Bool.false_eq_true, if_false]
        have hl0 : m = l → l = 0 := fun e => by
          by_cases hz : l = 0
          · exact hz
          · exact absurd ⟨rfl, .inl e, hz⟩ hne
        have hes : l = 0 ∨ p.e = s ∨ p.e = 0 := by
          by_cases hz : l = 0
          · exact .inl hz
          · by_cases hes : e = s
            · exact .inr (.inl (hpe.trans hes))
            · by_cases he0 : e = 0
              · exact .inr (.inr (hpe.trans he0))
              · exact absurd ⟨rfl, .inr ⟨hes, he0⟩, hz⟩ hne
        by_cases hml : m = l
        · have := hl0 hml
          subst this
          rw [if_pos hml]
          have hcc : cap' = m := by rcases hcr with h | h <;> omega
          rw [if_pos (by omega)]
          exact ⟨a', cap' - 0, p, rfl, ha, .inl (by omega)⟩
        · rw [if_neg hml, if_neg (by omega)]
          refine ⟨_, cap' - l, p, rfl, ⟨rfl, by rw [add_off a' ha.2.1], ha.2.2.1, by rw [add_off a' ha.2.1]; exact ha.2.2.2.1, by rw [add_off a' ha.2.1]; simp only []; rw [ha.2.2.2.2]; omega⟩, ?_⟩
          rw [add_off a' ha.2.1]
          rcases hcr with h | ⟨h3, h4, h5, h6⟩
          · left; omega
          · right
            refine ⟨h3, by omega, by omega, ?_⟩
            simp only
            rcases hes with hz | hes | hes
            · subst hz; simpa using h6
            · rw [hes] at h6 ⊢
              have : l * s + (cap' - l) * s = cap' * s := by rw [← Nat.add_mul]; congr 1; omega
              omega
            · omega
  · rename_i el s len cap hq
    cases vRel_sl0 hx
    obtain ⟨hu, hs⟩ := tyQ_sl hq
    split at h
    case h_2 => cases h
    rename_i l hh m hb
    cases h
    obtain ⟨e1, e2, e3, e4, e5⟩ := bounds_sound (P := P) (w := w) (isSlice := true) h1 h2 h3 (Nat.le_refl cap) hb
    have hm : (if mx.isSome then m else cap) = m := by
      cases mx with
      | none => simp [e4 rfl]
      | some _ => rfl
    rw [hm] at e1
    exact ⟨.slice none (hh - l) (m - l), by simp [Instr.sliceAt, Instr.slice, rUnd hu, e1, rSize hs], rfl⟩
  · cases h
end
end Go.Lm
