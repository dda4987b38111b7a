/- The operations' soundness: numbers, equality, building. -/
import Derived.Test.YtfgcnehjdaiipaaL5
namespace Go.Lm

section
variable {P : Program} {σ : Sg} {M : Nat → Ob} {w : World}

theorem lint_sound {op : BinOp} {k : IntKind} {a b : Int} {x : Value} (h : lint op k a b = some x) (hs : op ≠ .shl) (hs' : op ≠ .shr) (t : TypeId) :
    (binOp op t (.int k a) (.int k b)).run P w = .ok x w ∧ (∃ n, x = .int k n) ∨ (binOp op t (.int k a) (.int k b)).run P w = .ok x w ∧ (∃ n, x = .bool n) := by
  cases op <;> simp only [lint, Option.some.injEq] at h <;> first
    | (cases h; exact .inl ⟨by simp [binOp, Op.intArith, Op.intBits], _, rfl⟩)
    | (cases h; exact .inr ⟨by simp [binOp, Op.intCmp], _, rfl⟩)
    | (split at h
       · cases h
       · rename_i h0; cases h; exact .inl ⟨by simp [binOp, Op.intDiv, h0], _, rfl⟩)
    | exact absurd rfl hs
    | exact absurd rfl hs'
    | cases h

theorem lstr_sound {op : BinOp} {a b : ByteArray} {x : Value} (h : lstr op a b = some x) (t : TypeId) :
    (binOp op t (.string a) (.string b)).run P w = .ok x w ∧ gnd0 x = true := by
  cases op <;> simp only [lstr, Option.some.injEq] at h <;> first
    | (cases h; exact ⟨by simp [binOp, Op.stringOp], rfl⟩)
    | (split at h
       · cases h
       · rename_i h0; cases h; exact ⟨by simp only [binOp, Op.stringOp, h0, if_false, Sem.run_pure], rfl⟩)
    | cases h

/-- a loop that ands -/
theorem leq_sound : ∀ (d : Nat) (t : TypeId) (x y rx ry : Value) (b : Bool), leq P d t x y = some b → vRel σ x rx → vRel σ y ry → ∀ D, d ≤ D → (Op.equalIn D t rx ry).run P w = .ok b w := by
  intro d
  induction d with
  | zero => intro t x y rx ry b h; cases h
  | succ d ih =>
    intro t x y rx ry b h hx hy D hD
    obtain ⟨D, rfl⟩ : ∃ m, D = m + 1 := ⟨D - 1, by omega⟩
    unfold leq at h
    split at h
    · rename_i hq
      cases vRel_bool hx; cases vRel_bool hy; cases h
      exact run_equalIn_bool' w D t _ _ (tyQ_bool hq)
    · rename_i hq
      cases vRel_int hx; cases vRel_int hy
      split at h
      · rename_i hk; subst hk; cases h
        exact run_equalIn_int w D t _ _ _ _ (tyQ_int hq)
      · cases h
    · rename_i hq
      cases vRel_string hx; cases vRel_string hy; cases h
      rw [run_equalIn_string w D t _ _ (tyQ_str hq), beq_toListBytes]
    · rename_i l xs ys hq
      obtain ⟨X, rfl, hX⟩ := vRel_agg hx
      obtain ⟨Y, rfl, hY⟩ := vRel_agg hy
      split at h
      case h_2 => cases h
      rename_i fl hfl
      unfold eqFsQ at hfl
      split at hfl
      case h_2 => cases hfl
      rename_i fs hu
      split at hfl
      case isTrue => cases hfl
      rename_i hst
      cases hfl
      have hst' : P.stoodInHeld t = false := by simpa using hst
      have hf : P.fieldsOf t = fs := by simp [Program.fieldsOf, hu]
      rw [run_equalIn_struct w D t X Y (by rw [hf]; exact hu) hst', hf]
      generalize fs.toList = l at h
      clear hf hu
      induction l generalizing b with
      | nil => simp at h; subst h; rfl
      | cons f r ihl =>
        simp only [Op.eqFields]
        by_cases hn : f.name = "_"
        · have hn' : (f.name != "_") = false := by simp [hn]
          rw [List.filter_cons_of_neg (by rw [hn']; simp)] at h
          simp only [hn, ne_eq, not_true_eq_false, if_false]
          exact ihl b h
        · have hn' : (f.name != "_") = true := by simp [hn]
          rw [List.filter_cons_of_pos (by rw [hn'])] at h
          simp only [List.map_cons, List.foldr_cons] at h
          split at h
          case h_2 => cases h
          rename_i a c ha hc
          split at h
          case h_2 => cases h
          rename_i p q hp hr
          cases h
          obtain ⟨ra, h1, h2, _⟩ := part_sound (w := w) hX ha
          obtain ⟨rc, h3, h4, _⟩ := part_sound (w := w) hY hc
          have h5 := ih _ _ _ _ _ _ hp h2 h4 D (by omega)
          have h6 := ihl q hr
          cases p
          · simp [hn, h1, h3, h5]
          · simp [hn, h1, h3, h5, h6]
    · rename_i n el s xs ys hq
      obtain ⟨X, rfl, hX⟩ := vRel_agg hx
      obtain ⟨Y, rfl, hY⟩ := vRel_agg hy
      obtain ⟨hu, hs⟩ := tyQ_arr hq
      simp only [Op.equalIn, Sem.run_bind, rUnd hu, Result.andThen_ok, rSize hs]
      simp only [Std.Legacy.Range.forIn_eq_forIn_range', Std.Legacy.Range.size, Nat.sub_zero, Nat.add_sub_cancel, Nat.div_one]
      rw [List.range_eq_range'] at h
      generalize List.range' 0 n 1 = l at h ⊢
      induction l generalizing b with
      | nil => simp at h; subst h; simp
      | cons i r ihl =>
        simp only [List.foldr_cons] at h
        split at h
        case h_2 => cases h
        rename_i a c ha hc
        split at h
        case h_2 => cases h
        rename_i p q hp hr
        cases h
        obtain ⟨ra, h1, h2, _⟩ := part_sound (w := w) hX ha
        obtain ⟨rc, h3, h4, _⟩ := part_sound (w := w) hY hc
        have h5 := ih _ _ _ _ _ _ hp h2 h4 D (by omega)
        have h6 := ihl q hr
        cases p
        · simp [h1, h3, h5]
        · simp only [List.forIn_cons, Sem.run_bind, h1, h3, h5, Result.andThen_ok, Bool.not_true, Bool.false_eq_true, if_false, Sem.run_pure, Bool.true_and]
          exact h6
    · cases h

theorem leq_bool {d : Nat} {t : TypeId} {x y : Value} {v : Value} (h : (leq P d t x y).map Value.bool = some v) : ∃ b, leq P d t x y = some b ∧ v = .bool b := by
  cases hq : leq P d t x y with
  | none => rw [hq] at h; cases h
  | some b => rw [hq] at h; cases h; exact ⟨b, rfl, rfl⟩

theorem run_equalIn_ptr_nil (d : Nat) (t el : TypeId) (a : Option Addr) (h : P.underlying t = some (.pointer el)) : (Op.equalIn (d + 1) t (.pointer a) (.pointer none)).run P w = .ok a.isNone w := by
  cases a <;> simp [Op.equalIn, rUnd h]
theorem run_equalIn_sl_nil (d : Nat) (t el : TypeId) (a : Option Addr) (l c l' c' : Nat) (h : P.underlying t = some (.slice el)) : (Op.equalIn (d + 1) t (.slice a l c) (.slice none l' c')).run P w = .ok a.isNone w := by
  cases a <;> simp [Op.equalIn, rUnd h]

theorem lbin_sound {op : BinOp} {t : TypeId} {x y rx ry v : Value} (o1 o2 : Operand) (hx : vRel σ x rx) (hy : vRel σ y ry) (h : lbin P op t x y = some v) :
    ∃ rv, (do eqGuard op t o1 o2 rx ry; binOp op t rx ry).run P w = .ok rv w ∧ vRel σ v rv := by
  unfold lbin at h
  split at h
  · rename_i k a k' b
    cases vRel_int hx; cases vRel_int hy
    have hg : (eqGuard op t o1 o2 (.int k a) (.int k' b)).run P w = .ok () w := by
      unfold eqGuard; split <;> rfl
    split at h
    · split at h
      · rename_i hb
        cases h
        exact ⟨_, by simp [hg, binOp, Op.shift, Int.not_lt.2 hb], rfl⟩
      · cases h
    · split at h
      · rename_i hb
        cases h
        exact ⟨_, by simp [hg, binOp, Op.shift, Int.not_lt.2 hb], rfl⟩
      · cases h
    · rename_i n1 n2
      split at h
      · rename_i hk; subst hk
        rcases lint_sound (P := P) (w := w) h (fun e => n1 (by simp [e])) (fun e => n2 (by simp [e])) t with ⟨h1, n, rfl⟩ | ⟨h1, n, rfl⟩
        · exact ⟨_, by simp [hg, h1], rfl⟩
        · exact ⟨_, by simp [hg, h1], rfl⟩
      · cases h
  · rename_i a b
    cases vRel_string hx; cases vRel_string hy
    have hg : (eqGuard op t o1 o2 (.string a) (.string b)).run P w = .ok () w := by
      unfold eqGuard; split <;> rfl
    obtain ⟨h1, h2⟩ := lstr_sound (P := P) (w := w) h t
    exact ⟨v, by simp [hg, h1], by cases v <;> first | exact gnd_vRel (by exact h2) | cases h2⟩
  · rename_i a b
    cases vRel_bool hx; cases vRel_bool hy
    have hg : (eqGuard op t o1 o2 (.bool a) (.bool b)).run P w = .ok () w := by
      unfold eqGuard; split <;> rfl
    split at h
    · rename_i hq
      cases h
      exact ⟨_, by simp [hg, binOp, Op.equal, Op.maxDepth, run_equalIn_bool' w 9999 t a b (tyQ_bool hq)], rfl⟩
    · rename_i hq
      cases h
      exact ⟨_, by simp [hg, binOp, Op.equal, Op.maxDepth, run_equalIn_bool' w 9999 t a b (tyQ_bool hq)], rfl⟩
    · cases h
  · rename_i a
    cases (show ry = .pointer none from hy)
    obtain ⟨ra, rfl, hn⟩ : ∃ ra, rx = .pointer ra ∧ ra.isNone = a.isNone := by
      cases a with
      | none => exact ⟨none, hx, rfl⟩
      | some a => obtain ⟨a', p, e, _⟩ := vRel_ptr hx; exact ⟨_, e, rfl⟩
    have hg : (eqGuard op t o1 o2 (.pointer ra) (.pointer none)).run P w = .ok () w := by
      unfold eqGuard; split <;> rfl
    split at h
    · rename_i el hq
      cases h
      exact ⟨_, by simp [hg, binOp, Op.equal, Op.maxDepth, run_equalIn_ptr_nil 9999 t el ra (tyQ_ptr hq), hn], rfl⟩
    · rename_i el hq
      cases h
      exact ⟨_, by simp [hg, binOp, Op.equal, Op.maxDepth, run_equalIn_ptr_nil 9999 t el ra (tyQ_ptr hq), hn], rfl⟩
    · cases h
  · rename_i a l c l' c'
    cases (show ry = .slice none l' c' from hy)
    obtain ⟨ra, rl, rc, rfl, hn⟩ : ∃ ra rl rc, rx = .slice ra rl rc ∧ ra.isNone = a.isNone := by
      cases a with
      | none => exact ⟨none, _, _, hx, rfl⟩
      | some a => obtain ⟨a', c', p, e, _⟩ := vRel_sl hx; exact ⟨_, _, _, e, rfl⟩
    have hg : (eqGuard op t o1 o2 (.slice ra rl rc) (.slice none l' c')).run P w = .ok () w := by
      unfold eqGuard; split <;> rfl
    split at h
    · rename_i el s hq
      cases h
      exact ⟨_, by simp [hg, binOp, Op.equal, Op.maxDepth, run_equalIn_sl_nil 9999 t el ra rl rc l' c' (tyQ_sl hq).1, hn], rfl⟩
    · rename_i el s hq
      cases h
      exact ⟨_, by simp [hg, binOp, Op.equal, Op.maxDepth, run_equalIn_sl_nil 9999 t el ra rl rc l' c' (tyQ_sl hq).1, hn], rfl⟩
    · cases h
  · rename_i xs ys
    obtain ⟨X, rfl, hX⟩ := vRel_agg hx
    obtain ⟨Y, rfl, hY⟩ := vRel_agg hy
    split at h
    case isTrue => cases h
    rename_i hgd
    have hg := run_eqGuard_agg (P := P) w op t o1 o2 X Y (by simpa using hgd)
    split at h
    · obtain ⟨b, hb, rfl⟩ := leq_bool h
      have h1 := leq_sound (w := w) 8 t _ _ _ _ b hb hx hy 10000 (by omega)
      exact ⟨.bool b, by simp [hg, binOp, Op.equal, Op.maxDepth, h1], rfl⟩
    · cases hq : leq P 8 t (.agg xs) (.agg ys) with
      | none => rw [hq] at h; cases h
      | some b =>
        rw [hq] at h; cases h
        have h1 := leq_sound (w := w) 8 t _ _ _ _ b hq hx hy 10000 (by omega)
        exact ⟨.bool (!b), by simp [hg, binOp, Op.equal, Op.maxDepth, h1], rfl⟩
    · cases h
  · cases h

theorem lun_sound {op : UnOp} {x rx v : Value} (hx : vRel σ x rx) (h : lun op x = some v) : ∃ rv, (Op.unary op rx).run P w = .ok rv w ∧ vRel σ v rv := by
  unfold lun at h
  split at h
  · cases vRel_int hx; cases h; exact ⟨_, by simp [Op.unary, Op.intArith], rfl⟩
  · cases vRel_int hx; cases h; exact ⟨_, by simp [Op.unary, Op.intBits], rfl⟩
  · cases vRel_bool hx; cases h; exact ⟨_, by simp [Op.unary], rfl⟩
  · cases h

theorem aaRel.setL {R : Value → Value → Prop} : ∀ {vs rvs : List Value} {xs ys : Array Value} (i : Nat), aaRel R xs ys → aaRel R vs.toArray rvs.toArray →
    aaRel R (setL xs i vs) (rvs.zipIdx.foldl (fun cs (c, j) => cs.setIfInBounds (i + j) c) ys)
  | vs, rvs, xs, ys, i, h, h' => by
    have key : ∀ (vs rvs : List Value) (xs ys : Array Value) (n : Nat), vs.length = rvs.length → (∀ (j : Nat) (x y : Value), vs[j]? = some x → rvs[j]? = some y → R x y) → aaRel R xs ys →
        aaRel R (Go.Lm.setL xs (i + n) vs) ((rvs.zipIdx n).foldl (fun cs (c, j) => cs.setIfInBounds (i + j) c) ys) := by
      intro vs
      induction vs with
      | nil => intro rvs xs ys n hl _ h; cases rvs with | nil => exact h | cons a b => simp at hl
      | cons v r ih =>
        intro rvs xs ys n hl hr h
        cases rvs with
        | nil => simp at hl
        | cons rv rr =>
          simp only [List.zipIdx_cons, List.foldl_cons, Go.Lm.setL]
          have := ih rr (xs.setIfInBounds (i + n) v) (ys.setIfInBounds (i + n) rv) (n + 1) (by simpa using hl) (fun j x y hx hy => hr (j + 1) x y (by simpa using hx) (by simpa using hy)) (h.set _ (hr 0 v rv (by simp) (by simp)))
          rwa [← Nat.add_assoc] at this
    exact key vs rvs xs ys 0 (by simpa using h'.1) (fun j x y hx hy => h'.2 j x y (by simpa using hx) (by simpa using hy)) h

theorem lfill_sound {place place' : Nat → Option (Nat × Nat)} : ∀ (parts : List (Nat × Value)) (rparts : List (Nat × Value)) (cells rcells c : Array Value),
    (∀ i off s, place i = some (off, s) → place' i = some (off, s)) → parts.length = rparts.length →
    (∀ (j : Nat) (x y : Nat × Value), parts[j]? = some x → rparts[j]? = some y → x.1 = y.1 ∧ vRel σ x.2 y.2) → aaRel (sRel σ) cells rcells → lfill place cells parts = some c →
    ∃ C, Instr.fill place' rcells rparts = some C ∧ aaRel (sRel σ) c C
  | [], rparts, cells, rcells, c, _, hl, _, hc, h => by
    cases rparts with
    | nil => cases h; exact ⟨rcells, rfl, hc⟩
    | cons a b => simp at hl
  | (i, v) :: rest, rparts, cells, rcells, c, hp, hl, hr, hc, h => by
    cases rparts with
    | nil => simp at hl
    | cons y rr =>
      obtain ⟨i', rv⟩ := y
      obtain ⟨e1, e2⟩ := hr 0 (i, v) (i', rv) (by simp) (by simp)
      simp only at e1 e2
      subst e1
      simp only [lfill] at h
      split at h
      case h_2 => cases h
      rename_i off size vs hpl hvs
      split at h
      case isFalse => cases h
      rename_i hcond
      have hcells := vRel_cells e2 hvs
      have hset := aaRel.setL (R := sRel σ) (vs := vs.toList) (rvs := rv.cells.toList) off hc (by simpa using hcells)
      obtain ⟨C, h1, h2⟩ := lfill_sound rest rr _ _ c hp (by simpa using hl) (fun j x y hx hy => hr (j + 1) x y (by simpa using hx) (by simpa using hy)) hset h
      refine ⟨C, ?_, h2⟩
      simp only [Instr.fill, hp _ _ _ hpl]
      rw [if_neg]
      · rw [← Array.foldl_toList, Array.toList_zipIdx]; exact h1
      · have h3 := hcells.1; have h4 := hc.1
        simp
        omega

theorem zero_rel {t : TypeId} {z : Value} (h : zeroQ P t = some z) : aaRel (sRel σ) z.cells z.cells := by
  have := zeroQ_gnd h
  have hv := gnd_vRel (σ := σ) this
  cases z with
  | tuple c => cases this
  | _ => exact vRel_cells hv rfl

theorem mapM_sizes : ∀ (l : List Field), (∀ f ∈ l, ∃ s, sizeQ P f.type = some s) →
    (l.mapM fun f => (do pure (f.offset, ← sizeOf f.type) : Sem (Nat × Nat))).run P w = .ok (l.map fun f => (f.offset, (sizeQ P f.type).getD 0)) w
  | [], _ => by simp
  | f :: r, hall => by
    obtain ⟨s, hs⟩ := hall f (by simp)
    have ih := mapM_sizes r (fun g hg => hall g (by simp [hg]))
    simp only [List.mapM_cons, Sem.run_bind, rSize hs, Result.andThen_ok, Sem.run_pure, ih, List.map_cons, hs, Option.getD_some]

theorem build_sound {t : TypeId} {parts rparts : List (Nat × Value)} {v : Value} (hl : parts.length = rparts.length)
    (hr : ∀ (j : Nat) (x y : Nat × Value), parts[j]? = some x → rparts[j]? = some y → x.1 = y.1 ∧ vRel σ x.2 y.2) (h : lbuild P t parts = some v) :
    ∃ rv, (Instr.build t rparts.toArray).run P w = .ok rv w ∧ vRel σ v rv := by
  unfold lbuild at h
  split at h
  case h_2 => cases h
  rename_i z hz
  have hzr := zero_rel (σ := σ) hz
  split at h
  · rename_i fs hq
    obtain ⟨fields, hu, hfs, hall⟩ := tyQ_struct hq
    cases hf : lfill (fun i => (fs[i]?).map fun f => (f.1, f.2.2)) z.cells parts with
    | none => rw [hf] at h; cases h
    | some c =>
      rw [hf] at h; cases h
      obtain ⟨C, h1, h2⟩ := lfill_sound (σ := σ) (place' := (((fields.toList.map fun f => (f.offset, (sizeQ P f.type).getD 0)).toArray)[·]?)) parts rparts z.cells z.cells c (fun i off s hi => by
        subst hfs
        simp only [List.getElem?_map, Option.map_map] at hi
        simp only [List.getElem?_toArray, List.getElem?_map]
        cases hfd : fields.toList[i]? with
        | none => rw [hfd] at hi; cases hi
        | some fd => rw [hfd] at hi; simpa using hi) hl hr hzr hf
      refine ⟨.agg C, ?_, C, rfl, h2⟩
      have hm : (fields.mapM fun f => (do pure (f.offset, ← sizeOf f.type) : Sem (Nat × Nat))).run P w = .ok (fields.toList.map fun f => (f.offset, (sizeQ P f.type).getD 0)).toArray w := by
        rw [Array.mapM_eq_mapM_toList]
        simp only [Sem.run_map]
        rw [mapM_sizes fields.toList hall]
        rfl
      unfold Instr.build
      simp only [Sem.run_bind, rZero hz, rUnd hu, Result.andThen_ok, hm]
      rw [h1]
      rfl
  · rename_i n el s hq
    obtain ⟨hu, hs⟩ := tyQ_arr hq
    cases hf : lfill (fun i => some (i * s, s)) z.cells parts with
    | none => rw [hf] at h; cases h
    | some c =>
      rw [hf] at h; cases h
      obtain ⟨C, h1, h2⟩ := lfill_sound (σ := σ) (place' := fun i => some (i * s, s)) parts rparts z.cells z.cells c (fun i off s hi => hi) hl hr hzr hf
      exact ⟨.agg C, by simp [Instr.build, rZero hz, rUnd hu, rSize hs, h1], C, rfl, h2⟩
  · cases h
end
end Go.Lm
