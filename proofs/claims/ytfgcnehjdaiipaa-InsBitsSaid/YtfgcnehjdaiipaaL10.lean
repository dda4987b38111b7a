/- The soundness of maps, and of one operation as a whole. -/
import Derived.Test.YtfgcnehjdaiipaaL9
set_option linter.unusedSimpArgs false
set_option linter.unusedVariables false
namespace Go.Lm

section
variable {P : Program} {σ : Sg} {M : Nat → Ob} {w : World}

/-- entries, on both sides -/
def esRel (σ : Sg) (es : List (Value × Value)) (ents : List MapEntry) : Prop :=
  es.length = ents.length ∧ ∀ (i : Nat) (x : Value × Value) (en : MapEntry), es[i]? = some x → ents[i]? = some en → x.1 = en.key ∧ (∃ k n, x.1 = .int k n) ∧ sRel σ x.2 en.val

theorem esRel.tail {x : Value × Value} {en : MapEntry} {es : List (Value × Value)} {ents : List MapEntry} (h : esRel σ (x :: es) (en :: ents)) : esRel σ es ents :=
  ⟨by simpa using h.1, fun i a b ha hb => h.2 (i + 1) a b (by simpa using ha) (by simpa using hb)⟩
theorem esRel.head {x : Value × Value} {en : MapEntry} {es : List (Value × Value)} {ents : List MapEntry} (h : esRel σ (x :: es) (en :: ents)) : x.1 = en.key ∧ (∃ k n, x.1 = .int k n) ∧ sRel σ x.2 en.val :=
  h.2 0 x en (by simp) (by simp)
theorem esRel.nil : esRel σ [] [] := ⟨rfl, fun i x y h => by simp at h⟩
theorem esRel.cons {x : Value × Value} {en : MapEntry} {es : List (Value × Value)} {ents : List MapEntry} (h0 : x.1 = en.key ∧ (∃ k n, x.1 = .int k n) ∧ sRel σ x.2 en.val) (h : esRel σ es ents) : esRel σ (x :: es) (en :: ents) := by
  refine ⟨by simp [h.1], fun i a b ha hb => ?_⟩
  cases i with
  | zero => simp at ha hb; subst ha; subst hb; exact h0
  | succ i => exact h.2 i a b (by simpa using ha) (by simpa using hb)

theorem lfind_sound {kk : IntKind} (k : IntKind) (n : Int) : ∀ (es : List (Value × Value)) (ents : List MapEntry) (j : Nat) (r : Option Value), esRel σ es ents → lfind es k n = some r →
    ∃ q, Instr.findNow (.int kk) (.int k n) ents j = some q ∧ match r with
      | none => q = none
      | some v => ∃ i en, q = some (j + i, en.val) ∧ ents[i]? = some en ∧ en.key = .int k n ∧ sRel σ v en.val
  | [], ents, j, r, h, hf => by
    cases ents with
    | nil => cases hf; exact ⟨none, rfl, rfl⟩
    | cons a b => have := h.1; simp at this
  | (key, u) :: es, ents, j, r, h, hf => by
    cases ents with
    | nil => have := h.1; simp at this
    | cons en ents =>
      obtain ⟨h1, ⟨k', m, h2⟩, h3⟩ := h.head
      simp only at h1 h2
      subst h2
      simp only [lfind] at hf
      split at hf
      case isFalse => cases hf
      rename_i hk
      subst hk
      simp only [Instr.findNow, ← h1, Instr.sameNow, if_true]
      by_cases hnm : n = m
      · subst hnm
        simp only [if_true] at hf
        cases hf
        simp only [BEq.rfl]
        exact ⟨_, rfl, 0, en, rfl, by simp, h1.symm, h3⟩
      · simp only [hnm, if_false] at hf
        have : (n == m) = false := by simp [hnm]
        simp only [this]
        obtain ⟨q, hq, hr⟩ := lfind_sound k n es ents (j + 1) r h.tail hf
        refine ⟨q, hq, ?_⟩
        cases r with
        | none => exact hr
        | some v =>
          obtain ⟨i, e', hq', he, hk', hs⟩ := hr
          exact ⟨i + 1, e', by rw [hq']; simp; omega, by simpa using he, hk', hs⟩

theorem checkKey_int {empty : Bool} {d : Nat} {kt : TypeId} {kk : IntKind} {v : Value} (h : P.underlying kt = some (.int kk)) : (Instr.checkKey empty (d + 1) kt v).run P w = .ok () w := by
  simp [Instr.checkKey, rUnd h]

/-- the first of its key -/
theorem findNow_first {kk : IntKind} (k : IntKind) (n : Int) : ∀ (ents : List MapEntry) (j i : Nat) (v : Value), Instr.findNow (.int kk) (.int k n) ents j = some (some (j + i, v)) → ∀ m e, m < i → ents[m]? = some e → e.key ≠ .int k n
  | [], j, i, v, h => by cases h
  | en :: ents, j, i, v, h => by
    intro m e hm he hk
    simp only [Instr.findNow] at h
    split at h
    · simp only [Option.some.injEq, Prod.mk.injEq] at h
      omega
    · rename_i hs
      cases m with
      | zero =>
        simp at he
        subst he
        rw [hk] at hs
        simp [Instr.sameNow] at hs
      | succ m =>
        cases i with
        | zero => omega
        | succ i => exact findNow_first k n ents (j + 1) i v (by rw [h]; simp; omega) m e (by omega) (by simpa using he) hk
    · cases h

theorem findKey_sound {kt : TypeId} {kk : IntKind} (hu : P.underlying kt = some (.int kk)) {k : IntKind} {n : Int} {es : List (Value × Value)} {ents : List MapEntry} {r : Option Value} (h : esRel σ es ents) (hf : lfind es k n = some r) :
    ∃ q, (Instr.findKey kt (.int k n) ents).run P w = .ok q w ∧ match r with
      | none => q = none
      | some v => ∃ i en, q = some (i, en.val) ∧ ents[i]? = some en ∧ en.key = .int k n ∧ sRel σ v en.val ∧ ∀ m e, m < i → ents[m]? = some e → e.key ≠ .int k n := by
  obtain ⟨q, hq, hr⟩ := lfind_sound (σ := σ) (kk := kk) k n es ents 0 r h hf
  refine ⟨q, by simp [Instr.findKey, rUnd hu, hq], ?_⟩
  cases r with
  | none => exact hr
  | some v =>
    obtain ⟨i, en, h1, h2, h3, h4⟩ := hr
    refine ⟨i, en, by rw [h1]; simp, h2, h3, h4, findNow_first k n ents 0 i en.val (by rw [hq, h1])⟩

theorem run_getObj_map {b : Nat} {ents : Array MapEntry} {clk : Nat} (h : w.heap[b]? = some (.map ents clk)) : (getObj b).run P w = .ok (.map ents clk) w := by
  simp [getObj, Sem.run, h]

theorem Rep.es (hR : Rep σ M w) {i : Nat} {es : List (Value × Value)} (hM : M i = .map es) {p : Pl} (hp : σ i = some p) : ∃ ents clk, w.heap[p.b]? = some (.map ents clk) ∧ esRel σ es ents.toList := by
  obtain ⟨q, ents, clk, hq, hb, hl, hr⟩ := hR.mp i es hM
  rw [hp] at hq; cases hq
  exact ⟨ents, clk, hb, by simpa using hl, fun i x en hx he => hr i x en hx (by simpa using he)⟩

theorem lookup_sound (hR : Rep σ M w) {t : TypeId} {x rx ix rix v : Value} {ok : Bool} (hx : vRel σ x rx) (hi : vRel σ ix rix) (h : llookup P M t x ix ok = some v) :
    ∃ rv, (Instr.lookup t rx rix ok).run P w = .ok rv w ∧ vRel σ v rv := by
  unfold llookup at h
  split at h
  case h_2 => cases h
  rename_i kt et k n hq
  cases vRel_int hi
  have hu := tyQ_map hq
  split at h
  case h_2 => cases h
  rename_i kk z hk hz
  have huk := tyQ_int hk
  have fin : ∀ (r : Option Value) (ents : Array MapEntry), (match rx with | .map none => ents = #[] | .map (some b) => ∃ clk, w.heap[b]? = some (.map ents clk) | _ => False) →
      (∃ es, esRel σ es ents.toList ∧ lfind es k n = some r) → (match (some r : Option (Option Value)) with
      | some (some v) => some (if ok then Value.tuple #[v, .bool true] else v)
      | some none => if ok then (if gnd0 z then some (.tuple #[z, .bool false]) else none) else some z
      | none => none) = some v → ∃ rv, (Instr.lookup t rx (.int k n) ok).run P w = .ok rv w ∧ vRel σ v rv := by
    intro r ents hrx ⟨es, hes, hf⟩ hv
    obtain ⟨q, hq', hr⟩ := findKey_sound (P := P) (w := w) huk hes hf
    have hrun : (Instr.lookup t rx (.int k n) ok).run P w = (do
        let (v, ok') ← match q with
          | some (_, v) => pure (v, true)
          | none => pure (← zeroValue et, false)
        pure (if ok then .tuple #[v, .bool ok'] else v) : Sem Value).run P w := by
      cases rx with
      | map b =>
        cases b with
        | none =>
          simp only at hrx
          subst hrx
          simp only [Instr.lookup, Sem.run_bind, rUnd hu, Result.andThen_ok, Sem.run_pure, checkKey_int huk]
          rw [hq']
          rfl
        | some b =>
          obtain ⟨clk, hb⟩ := hrx
          simp only [Instr.lookup, Sem.run_bind, rUnd hu, Result.andThen_ok, run_getObj_map hb, Sem.run_pure, checkKey_int huk]
          rw [hq']
          rfl
      | _ => exact hrx.elim
    rw [hrun]
    cases r with
    | none =>
      subst hr
      simp only at hv
      cases ok
      · simp only [Bool.false_eq_true, if_false] at hv
        cases hv
        exact ⟨_, by simp [rZero hz], gnd_vRel (zeroQ_gnd hz)⟩
      · simp only [if_true] at hv
        split at hv
        · rename_i hg
          cases hv
          refine ⟨.tuple #[z, .bool false], by simp [rZero hz], ⟨_, rfl, ?_⟩⟩
          have hz0 : tRel σ z z := gnd_tRel (zeroQ_gnd hz)
          exact (aaRel.one hz0).push rfl
        · cases hv
    | some u =>
      obtain ⟨i, en, rfl, _, _, hs, _⟩ := hr
      simp only at hv
      cases ok
      · simp only [Bool.false_eq_true, if_false] at hv
        cases hv
        exact ⟨en.val, by simp, vRel.of_s hs⟩
      · simp only [if_true] at hv
        cases hv
        have ht : tRel σ u en.val := by cases u <;> first | exact hs | exact hs.elim
        exact ⟨.tuple #[en.val, .bool true], by simp, _, rfl, (aaRel.one ht).push rfl⟩
  cases x with
  | map b =>
    cases b with
    | none =>
      cases (show rx = .map none from hx)
      exact fin none #[] rfl ⟨[], esRel.nil, rfl⟩ h
    | some i =>
      obtain ⟨p, hp, rfl⟩ : ∃ p, σ i = some p ∧ rx = .map (some p.b) := hx
      simp only at h
      cases hM : M i with
      | map es =>
        rw [hM] at h
        simp only at h
        obtain ⟨ents, clk, hb, hes⟩ := hR.es hM hp
        cases hf : lfind es k n with
        | none => rw [hf] at h; cases h
        | some r =>
          rw [hf] at h
          exact fin r ents ⟨clk, hb⟩ ⟨es, hes, hf⟩ h
      | _ => rw [hM] at h; cases h
  | _ => cases h

theorem lput_sound (k : IntKind) (n : Int) (v rv : Value) (hv : sRel σ v rv) (clk : Nat) : ∀ (es : List (Value × Value)) (ents : List MapEntry) (r : Option Value), esRel σ es ents → lfind es k n = some r →
    (r = none → esRel σ (lput es k n v) (ents ++ [{ key := .int k n, val := rv, born := clk }])) ∧
    (∀ i en, r ≠ none → (∀ j e, j < i → ents[j]? = some e → e.key ≠ .int k n) → ents[i]? = some en → en.key = .int k n → esRel σ (lput es k n v) (ents.modify i fun e => { e with key := .int k n, val := rv }))
  | [], ents, r, h, hf => by
    cases ents with
    | nil =>
      cases hf
      exact ⟨fun _ => esRel.cons ⟨rfl, ⟨k, n, rfl⟩, hv⟩ esRel.nil, fun i en hr => absurd rfl hr⟩
    | cons a b => have := h.1; simp at this
  | (key, u) :: es, ents, r, h, hf => by
    cases ents with
    | nil => have := h.1; simp at this
    | cons en ents =>
      obtain ⟨h1, ⟨k', m, h2⟩, h3⟩ := h.head
      simp only at h1 h2
      subst h2
      simp only [lfind] at hf
      split at hf
      case isFalse => cases hf
      rename_i hk
      subst hk
      by_cases hnm : n = m
      · subst hnm
        simp only [if_true] at hf
        cases hf
        refine ⟨fun e => (by cases e), fun i en' _ hfirst hi hkey => ?_⟩
        have hi0 : i = 0 := by
          rcases Nat.eq_zero_or_pos i with h' | h'
          · exact h'
          · exact absurd h1.symm (hfirst 0 en h' (by simp))
        subst hi0
        simp only [lput, and_self, if_true, List.modify_zero_cons]
        exact esRel.cons ⟨rfl, ⟨k, n, rfl⟩, hv⟩ h.tail
      · simp only [hnm, if_false] at hf
        obtain ⟨g1, g2⟩ := lput_sound k n v rv hv clk es ents r h.tail hf
        simp only [lput, hnm, and_false, if_false]
        refine ⟨fun e => esRel.cons ⟨h1, ⟨k, m, rfl⟩, h3⟩ (g1 e), fun i en' hr hfirst hi hkey => ?_⟩
        cases i with
        | zero =>
          simp at hi
          subst hi
          rw [← h1] at hkey
          injection hkey with _ e
          exact absurd e.symm hnm
        | succ i =>
          simp only [List.modify_succ_cons]
          exact esRel.cons ⟨h1, ⟨k, m, rfl⟩, h3⟩ (g2 i en' hr (fun j e hj he => hfirst (j + 1) e (by omega) (by simpa using he)) (by simpa using hi) hkey)

theorem ldel_sound (k : IntKind) (n : Int) : ∀ (es : List (Value × Value)) (ents : List MapEntry) (r : Option Value), esRel σ es ents → lfind es k n = some r →
    (r = none → esRel σ (ldel es k n) ents) ∧
    (∀ i en, r ≠ none → (∀ j e, j < i → ents[j]? = some e → e.key ≠ .int k n) → ents[i]? = some en → en.key = .int k n → esRel σ (ldel es k n) (ents.eraseIdx i))
  | [], ents, r, h, hf => by
    cases ents with
    | nil => cases hf; exact ⟨fun _ => esRel.nil, fun i en hr => absurd rfl hr⟩
    | cons a b => have := h.1; simp at this
  | (key, u) :: es, ents, r, h, hf => by
    cases ents with
    | nil => have := h.1; simp at this
    | cons en ents =>
      obtain ⟨h1, ⟨k', m, h2⟩, h3⟩ := h.head
      simp only at h1 h2
      subst h2
      simp only [lfind] at hf
      split at hf
      case isFalse => cases hf
      rename_i hk
      subst hk
      by_cases hnm : n = m
      · subst hnm
        simp only [if_true] at hf
        cases hf
        refine ⟨fun e => (by cases e), fun i en' _ hfirst hi hkey => ?_⟩
        have hi0 : i = 0 := by
          rcases Nat.eq_zero_or_pos i with h' | h'
          · exact h'
          · exact absurd h1.symm (hfirst 0 en h' (by simp))
        subst hi0
        simp only [ldel, and_self, if_true, List.eraseIdx_cons_zero]
        exact h.tail
      · simp only [hnm, if_false] at hf
        obtain ⟨g1, g2⟩ := ldel_sound k n es ents r h.tail hf
        simp only [ldel, hnm, and_false, if_false]
        refine ⟨fun e => esRel.cons ⟨h1, ⟨k, m, rfl⟩, h3⟩ (g1 e), fun i en' hr hfirst hi hkey => ?_⟩
        cases i with
        | zero =>
          simp at hi
          subst hi
          rw [← h1] at hkey
          injection hkey with _ e
          exact absurd e.symm hnm
        | succ i =>
          simp only [List.eraseIdx_cons_succ]
          exact esRel.cons ⟨h1, ⟨k, m, rfl⟩, h3⟩ (g2 i en' hr (fun j e hj he => hfirst (j + 1) e (by omega) (by simpa using he)) (by simpa using hi) hkey)

theorem setObj_run {b : Nat} {ents : Array MapEntry} {clk : Nat} (h : w.heap[b]? = some (.map ents clk)) (o : Obj) : (setObj b o).run P w = .ok () { w with heap := w.heap.setIfInBounds b o } := by
  simp [setObj, Sem.run, h]

theorem Rep.turnMap (hR : Rep σ M w) {i : Nat} {es es' : List (Value × Value)} (hM : M i = .map es) {p : Pl} (hp : σ i = some p) {ents : Array MapEntry} {clk : Nat} (hb : w.heap[p.b]? = some (.map ents clk)) (ents' : Array MapEntry) (clk' : Nat) (h : esRel σ es' ents'.toList) :
    Rep σ (Mset M i (.map es')) { w with heap := w.heap.setIfInBounds p.b (.map ents' clk') } ∧ Fr σ M w σ (Mset M i (.map es')) { w with heap := w.heap.setIfInBounds p.b (.map ents' clk') } := by
  have hlt := hR.bnd i p hp
  refine hR.turn hp (by rw [hM]; rfl) ⟨?_, ?_, ?_⟩ (by simp) (fun b hb => ?_) (by simp) rfl rfl
  · intro ro e c ho; cases ho
  · intro e c ho; cases ho
  · intro es1 ho
    cases ho
    exact ⟨ents', clk', by simp [hlt], by have := h.1; simpa using this, fun i x en hx he => h.2 i x en hx (by simpa using he)⟩
  · simp [Array.getElem?_setIfInBounds_ne (Ne.symm hb)]

theorem isCell_s {v rv : Value} (hc : isCell v = true) (hv : vRel σ v rv) : sRel σ v rv := by
  cases v <;> first | exact hv | cases hc

theorem mapUpdate_sound (hR : Rep σ M w) {k : Nat} {t : TypeId} {x rx ix rix v rv : Value} {e : Eff} (hx : vRel σ x rx) (hi : vRel σ ix rix) (hv : vRel σ v rv) (h : lmapUpdate P M t x ix v = some e) :
    ∃ w', (Instr.mapUpdate t rx rix rv).run P w = .ok () w' ∧ e.val = undef ∧ Rep σ (appE M k e) w' ∧ Fr σ M w σ (appE M k e) w' := by
  unfold lmapUpdate at h
  split at h
  case h_2 => cases h
  rename_i kt et i kk n hq
  cases vRel_int hi
  obtain ⟨p, hp, rfl⟩ : ∃ p, σ i = some p ∧ rx = .map (some p.b) := hx
  split at h
  case h_2 => cases h
  rename_i k1 es hk hM
  split at h
  case h_2 => cases h
  rename_i r hf
  split at h
  case isFalse => cases h
  rename_i hcell
  cases h
  have hu := tyQ_map hq
  have huk := tyQ_int hk
  have hs := isCell_s hcell hv
  obtain ⟨ents, clk, hb, hes⟩ := hR.es hM hp
  obtain ⟨q, hq', hr⟩ := findKey_sound (P := P) (w := w) huk hes hf
  obtain ⟨g1, g2⟩ := lput_sound kk n v rv hs clk es ents.toList r hes hf
  cases r with
  | none =>
    subst hr
    obtain ⟨a1, a2⟩ := hR.turnMap hM hp hb (ents.push { key := .int kk n, val := rv, born := clk }) (clk + 1) (by simpa using g1 rfl)
    refine ⟨_, ?_, rfl, a1, a2⟩
    simp only [Instr.mapUpdate, Sem.run_bind, rUnd hu, Result.andThen_ok, run_getObj_map hb, checkKey_int huk, hq', setObj_run hb]
  | some u =>
    obtain ⟨j, en, rfl, he, hkey, _, hfirst⟩ := hr
    have := g2 j en (by simp) (fun m e hm he => hfirst m e hm he) he hkey
    obtain ⟨a1, a2⟩ := hR.turnMap hM hp hb (ents.modify j fun e => { e with key := .int kk n, val := rv }) clk (by simpa using this)
    refine ⟨_, ?_, rfl, a1, a2⟩
    have he' : ents[j]? = some en := by simpa using he
    have hks : (Instr.keyThatStays (.int kk n) (.int kk n)).run P w = .ok (.int kk n) w := by simp [Instr.keyThatStays, Instr.sameBits]
    simp only [Instr.mapUpdate, Sem.run_bind, rUnd hu, Result.andThen_ok, run_getObj_map hb, checkKey_int huk, hq', he', Option.map_some, Option.getD_some, hkey, hks, setObj_run hb]

theorem delete_sound (hR : Rep σ M w) {k : Nat} {ts : Array TypeId} {ty : TypeId} {args : List Value} {rargs : Array Value} {e : Eff}
    (hl : args.length = rargs.size) (hr : ∀ (j : Nat) (x y : Value), args[j]? = some x → rargs[j]? = some y → vRel σ x y) (h : ldelete P M ts args = some e) :
    RanV σ M w k ((Builtin.delete_ ts ty rargs).run P w) e := by
  unfold ldelete at h
  split at h
  case h_2 => cases h
  rename_i t i kk n ht
  obtain ⟨rs, hrs⟩ : ∃ rs, rargs[0]? = some rs := ⟨rargs[0]'(by simp at hl; omega), Array.getElem?_eq_getElem _⟩
  obtain ⟨rx, hrx⟩ : ∃ rx, rargs[1]? = some rx := ⟨rargs[1]'(by simp at hl; omega), Array.getElem?_eq_getElem _⟩
  have hs0 := hr 0 (.map (some i)) rs (by simp) hrs
  have hx0 := hr 1 (.int kk n) rx (by simp) hrx
  cases vRel_int hx0
  obtain ⟨p, hp, rfl⟩ : ∃ p, σ i = some p ∧ rs = .map (some p.b) := hs0
  split at h
  case h_2 => cases h
  rename_i kt et hq
  split at h
  case h_2 => cases h
  rename_i k1 es hk hM
  split at h
  case h_2 => cases h
  rename_i r hf
  cases h
  have hu := tyQ_map hq
  have huk := tyQ_int hk
  obtain ⟨ents, clk, hb, hes⟩ := hR.es hM hp
  obtain ⟨q, hq', hr⟩ := findKey_sound (P := P) (w := w) huk hes hf
  obtain ⟨g1, g2⟩ := ldel_sound kk n es ents.toList r hes hf
  cases r with
  | none =>
    subst hr
    obtain ⟨a1, a2⟩ := hR.turnMap hM hp hb ents clk (g1 rfl)
    refine ⟨σ, _, .tuple #[], ?_, ⟨_, rfl, aaRel.nil _⟩, a1, a2⟩
    simp only [Builtin.delete_, ht, hrs, hrx, Sem.run_bind, rUnd hu, Result.andThen_ok, run_getObj_map hb, checkKey_int huk, hq', setObj_run hb, Sem.run_pure]
  | some u =>
    obtain ⟨j, en, rfl, he, hkey, _, hfirst⟩ := hr
    have := g2 j en (by simp) (fun m e hm he => hfirst m e hm he) he hkey
    obtain ⟨a1, a2⟩ := hR.turnMap hM hp hb (ents.eraseIdxIfInBounds j) clk (by rw [Array.toList_eraseIdxIfInBounds]; exact this)
    refine ⟨σ, _, .tuple #[], ?_, ⟨_, rfl, aaRel.nil _⟩, a1, a2⟩
    simp only [Builtin.delete_, ht, hrs, hrx, Sem.run_bind, rUnd hu, Result.andThen_ok, run_getObj_map hb, checkKey_int huk, hq', setObj_run hb, Sem.run_pure]

theorem makeMap_sound (hR : Rep σ M w) {k : Nat} (hk : M k = .free) (t : TypeId) : RanV σ M w k ((Instr.makeMap t none).run P w) { val := .map (some k), new := some (.map []) } := by
  have hσ := hR.fr k hk
  have hle : σ.le (Sset σ k ⟨w.heap.size, 0, 0, 0⟩) := Sset_le hσ
  have hnew : (w.alloc (.map #[] 0)).heap[w.heap.size]? = some (.map #[] 0) := heap_alloc_new w _
  have hold : ∀ b, b < w.heap.size → (w.alloc (.map #[] 0)).heap[b]? = w.heap[b]? := fun b hb => heap_alloc_old w _ b hb
  have hs : ∀ j q, Sset σ k ⟨w.heap.size, 0, 0, 0⟩ j = some q → (j = k ∧ q = ⟨w.heap.size, 0, 0, 0⟩) ∨ (j ≠ k ∧ σ j = some q) := fun j q hq => by
    by_cases hj : j = k
    · simp [Sset, hj] at hq; exact .inl ⟨hj, hq.symm⟩
    · simp [Sset, hj] at hq; exact .inr ⟨hj, hq⟩
  refine ⟨_, w.alloc (.map #[] 0), .map (some w.heap.size), rfl, ⟨⟨w.heap.size, 0, 0, 0⟩, by simp [Sset], rfl⟩, Rep.mk' ?_ ?_ ?_ ?_, ⟨hle, ?_, ?_, ?_, rfl, rfl⟩⟩
  · intro j hj
    by_cases e1 : j = k
    · simp [appE, appM, Mset, e1] at hj
    · simp only [appE, appM, Mset, e1, if_false] at hj; simp [Sset, e1, hR.fr j hj]
  · intro j hj
    by_cases e1 : j = k
    · subst e1
      refine ⟨⟨w.heap.size, 0, 0, 0⟩, by simp [Sset], ?_, ?_, ?_⟩
      · intro ro e c ho; simp [appE, appM] at ho
      · intro e c ho; simp [appE, appM] at ho
      · intro es ho
        simp only [appE, appM, Mset_same] at ho
        cases ho
        exact ⟨#[], 0, hnew, rfl, fun i x en hx => by simp at hx⟩
    · simp only [appE, appM, Mset_ne M _ e1] at hj ⊢
      obtain ⟨p, hp⟩ := hR.place hj
      exact ⟨p, hle _ _ hp, ((hR.ok hp).world (hold _ (hR.bnd j p hp))).mono hle⟩
  · intro j j' hne hrw hal p p' hp hp'
    rcases hs j p hp with ⟨e1, e2⟩ | ⟨e1, e2⟩
    · rcases hs j' p' hp' with ⟨e3, e4⟩ | ⟨e3, e4⟩
      · exact absurd (e1.trans e3.symm) hne
      · have := hR.bnd j' p' e4; rw [e2]; show w.heap.size ≠ p'.b; omega
    · rcases hs j' p' hp' with ⟨e3, e4⟩ | ⟨e3, e4⟩
      · have := hR.bnd j p e2; rw [e4]; show p.b ≠ w.heap.size; omega
      · simp only [appE, appM, Mset_ne M _ e1] at hrw; simp only [appE, appM, Mset_ne M _ e3] at hal; exact hR.sep j j' hne hrw hal p p' e2 e4
  · intro j p hp
    rcases hs j p hp with ⟨e1, e2⟩ | ⟨e1, e2⟩
    · rw [e2]; simp
    · have := hR.bnd j p e2; simp; omega
  · simp
  · intro b hb _; exact hold b hb
  · rintro b hb ⟨j, p, hp, hpb, hrw⟩
    rcases hs j p hp with ⟨e1, e2⟩ | ⟨e1, e2⟩
    · rw [e2] at hpb; simp at hpb; omega
    · simp only [appE, appM, Mset_ne M _ e1] at hrw; exact ⟨j, p, e2, hpb, hrw⟩
end
end Go.Lm
