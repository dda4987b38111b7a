/- An operation does the same over a greater environment and memory. -/
import Derived.Test.YtfgcnehjdaiipaaL14
set_option linter.unusedSimpArgs false
set_option linter.unusedVariables false
namespace Go.Lm

/-- M' holds all that M holds. -/
def Mle (M M' : Nat → Ob) : Prop := ∀ k, M k ≠ .free → M' k = M k

theorem Mle.cells {M M' : Nat → Ob} (h : Mle M M') {k : Nat} {ro : Bool} {e : Nat} {c : Array Value} (hk : M k = .cells ro e c) : M' k = .cells ro e c := by
  rw [h k (by rw [hk]; simp), hk]
theorem Mle.map {M M' : Nat → Ob} (h : Mle M M') {k : Nat} {es : List (Value × Value)} (hk : M k = .map es) : M' k = .map es := by
  rw [h k (by rw [hk]; simp), hk]

section
variable {P : Program} {M M' : Nat → Ob}

theorem lload_mono (h : Mle M M') {t : TypeId} {v x : Value} (hl : lload P M t v = some x) : lload P M' t v = some x := by
  unfold lload at hl ⊢
  split at hl
  case h_2 => cases hl
  split at hl
  case h_2 => cases hl
  rename_i hM
  simp only [h.cells hM]
  exact hl

theorem lfirst_mono (h : Mle M M') {s n : Nat} {v : Value} {c : Array Value} (hl : lfirst M s n v = some c) : lfirst M' s n v = some c := by
  unfold lfirst at hl ⊢
  split at hl
  · split at hl
    case h_2 => cases hl
    rename_i hM
    simp only [h.cells hM]
    exact hl
  · exact hl
  · exact hl
  · cases hl

theorem lconv_mono (h : Mle M M') {k : Nat} {src dst : TypeId} {x : Value} {e : Eff} (hl : lconv P M k src dst x = some e) : lconv P M' k src dst x = some e := by
  unfold lconv at hl ⊢
  split at hl
  · exact hl
  · exact hl
  · exact hl
  · rename_i a len c
    split at hl
    · rename_i el s h1 h2
      (try simp only [h1, h2])
      split at hl
      · rename_i h3
        (try simp only [h3])
        split at hl
        case h_2 => cases hl
        rename_i hM
        simp only [h.cells hM]
        exact hl
      · cases hl
    · cases hl
  · cases hl

theorem lslice_mono (h : Mle M M') {t : TypeId} {x v : Value} {lo hi mx : Option Int} (hl : lslice P M t x lo hi mx = some v) : lslice P M' t x lo hi mx = some v := by
  unfold lslice at hl ⊢
  split at hl
  · rename_i hq; (try simp only [hq]); exact hl
  · rename_i hq; (try simp only [hq]); exact hl
  · rename_i hq
    (try simp only [hq])
    split at hl
    case h_2 => cases hl
    rename_i hb hM
    simp only [hb, h.cells hM]
    exact hl
  · rename_i hq; (try simp only [hq]); exact hl
  · cases hl

theorem llookup_mono (h : Mle M M') {t : TypeId} {x ix v : Value} {ok : Bool} (hl : llookup P M t x ix ok = some v) : llookup P M' t x ix ok = some v := by
  unfold llookup at hl ⊢
  split at hl
  case h_2 => cases hl
  rename_i hq
  (try simp only [hq])
  split at hl
  case h_2 => cases hl
  rename_i h1 h2
  (try simp only [h1, h2])
  cases x with
  | map b =>
    cases b with
    | none => exact hl
    | some i =>
      simp only at hl ⊢
      cases hM : M i with
      | map es => rw [hM] at hl; rw [h.map hM]; exact hl
      | _ => rw [hM] at hl; cases hl
  | _ => cases hl

theorem llenOf_mono (h : Mle M M') {t : TypeId} {x v : Value} (hl : llenOf P M t x = some v) : llenOf P M' t x = some v := by
  unfold llenOf at hl ⊢
  split at hl
  · rename_i hq; (try simp only [hq]); exact hl
  · rename_i hq; (try simp only [hq]); exact hl
  · rename_i hq; (try simp only [hq]); exact hl
  · rename_i hq; (try simp only [hq]); exact hl
  · rename_i hq
    (try simp only [hq])
    split at hl
    case h_2 => cases hl
    rename_i hM
    simp only [h.map hM]
    exact hl
  · cases hl

theorem lappend_mono (h : Mle M M') {k : Nat} {ts : Array TypeId} {args : List Value} {e : Eff} (hl : lappend P M k ts args = some e) : lappend P M' k ts args = some e := by
  unfold lappend at hl ⊢
  split at hl
  case h_2 => cases hl
  rename_i t tx base len cap x h1 h2
  (try simp only [h1, h2])
  split at hl
  case h_2 => cases hl
  rename_i el s n h3 h4
  (try simp only [h3, h4])
  split at hl
  case isTrue => cases hl
  rename_i h5
  rw [if_neg h5]
  split at hl
  case h_2 => cases hl
  rename_i z b new h6 h7 h8
  simp only [h6, h7, lfirst_mono h h8]
  split at hl
  case isTrue => cases hl
  rename_i h9
  rw [if_neg h9]
  cases base with
  | none => exact hl
  | some a =>
    simp only at hl ⊢
    split at hl
    · rename_i h10; rw [if_pos h10]; exact hl
    · rename_i h10
      rw [if_neg h10]
      split at hl
      case h_2 => cases hl
      rename_i hM
      simp only [h.cells hM]
      exact hl

/-- An operation without turned objects over more. -/
theorem lop_mono (h : Mle M M') {env env' : Env} {k : Nat} {op : Op} {e : Eff} (hE : ∀ x ∈ op.operands, ev env' x = ev env x) (hm : e.mods = []) (hl : lop P env M k op = some e) : lop P env' M' k op = some e := by
  have hevs : ∀ l : List Operand, (∀ x ∈ l, ev env' x = ev env x) → evs env' l = evs env l := by
    intro l
    induction l with
    | nil => intro _; rfl
    | cons x r ih => intro hx; simp only [evs]; rw [hx x (by simp), ih (fun y hy => hx y (by simp [hy]))]
  have hevp : ∀ l : List (Nat × Operand), (∀ x ∈ l, ev env' x.2 = ev env x.2) → evp env' l = evp env l := by
    intro l
    induction l with
    | nil => intro _; rfl
    | cons x r ih => intro hx; obtain ⟨i, x⟩ := x; simp only [evp]; rw [hx (i, x) (by simp), ih (fun y hy => hx y (by simp [hy]))]
  have hevo : ∀ o : Option Operand, (∀ x, o = some x → ev env' x = ev env x) → evo env' o = evo env o := by
    intro o ho
    cases o with
    | none => rfl
    | some x => simp only [evo]; rw [ho x rfl]
  cases op <;> simp only [lop] at hl ⊢ <;> try (cases hl; done)
  case move x => rw [hE x (by simp [Op.operands])]; exact hl
  case assign x => rw [hE x (by simp [Op.operands])]; exact hl
  case pick c a b =>
    rw [hE c (by simp [Op.operands])]
    split at hl
    case h_2 => cases hl
    rename_i t hc
    rw [show ev env' (if t = true then a else b) = ev env (if t = true then a else b) by cases t <;> simp <;> exact hE _ (by simp [Op.operands])]
    exact hl
  case alloc t => exact hl
  case box t x => rw [hE x (by simp [Op.operands])]; exact hl
  case build t parts => rw [hevp _ (fun x hx => hE x.2 (by simp only [Op.operands, List.mem_toArray, List.mem_map]; exact ⟨x, hx, rfl⟩))]; exact hl
  case buildSlice t len parts => rw [hevp _ (fun x hx => hE x.2 (by simp only [Op.operands, List.mem_toArray, List.mem_map]; exact ⟨x, hx, rfl⟩))]; exact hl
  case load t x =>
    rw [hE x (by simp [Op.operands])]
    split at hl
    case h_2 => cases hl
    rename_i p hp
    split at hl <;> cases hl
    rename_i v hv
    simp only [lload_mono h hv]
  case store t x y =>
    split at hl
    case h_2 => cases hl
    rename_i p v hp hv
    unfold lstore at hl
    split at hl
    case h_2 => cases hl
    split at hl
    case h_2 => cases hl
    split at hl
    case h_2 => cases hl
    split at hl
    case isFalse => cases hl
    cases hl; cases hm
  case nilCheck x => rw [hE x (by simp [Op.operands])]; exact hl
  case binOp o t x y t' => rw [hE x (by simp [Op.operands]), hE y (by simp [Op.operands])]; exact hl
  case unOp o t x => rw [hE x (by simp [Op.operands])]; exact hl
  case convert s d x =>
    rw [hE x (by simp [Op.operands])]
    split at hl
    case h_2 => cases hl
    exact lconv_mono h hl
  case makeFunc fn first captured =>
    rw [hevs _ (fun x hx => hE x (by simp [Op.operands] at hx ⊢; exact .inl hx)), hevs _ (fun x hx => hE x (by simp [Op.operands] at hx ⊢; exact .inr hx))]
    exact hl
  case makeMap t r => cases r <;> exact hl
  case makeSlice t a b => rw [hE a (by simp [Op.operands]), hE b (by simp [Op.operands])]; exact hl
  case slice t x lo hi mx =>
    rw [hE x (by simp [Op.operands]), hevo lo (fun y hy => hE y (by simp [Op.operands, hy])), hevo hi (fun y hy => hE y (by simp [Op.operands, hy])), hevo mx (fun y hy => hE y (by simp [Op.operands, hy]))]
    split at hl
    case h_2 => cases hl
    split at hl <;> cases hl
    rename_i v hv
    simp only [lslice_mono h hv]
  case fieldAddr t x f => rw [hE x (by simp [Op.operands])]; exact hl
  case field t x f => rw [hE x (by simp [Op.operands])]; exact hl
  case indexAddr t x i => rw [hE x (by simp [Op.operands]), hE i (by simp [Op.operands])]; exact hl
  case index t x i => rw [hE x (by simp [Op.operands]), hE i (by simp [Op.operands])]; exact hl
  case lookup t x i ok =>
    rw [hE x (by simp [Op.operands]), hE i (by simp [Op.operands])]
    split at hl
    case h_2 => cases hl
    split at hl <;> cases hl
    rename_i v hv
    simp only [llookup_mono h hv]
  case mapUpdate t a b c =>
    split at hl
    case h_2 => cases hl
    unfold lmapUpdate at hl
    split at hl
    case h_2 => cases hl
    split at hl
    case h_2 => cases hl
    split at hl
    case h_2 => cases hl
    split at hl
    case isFalse => cases hl
    cases hl; cases hm
  case extract x i => rw [hE x (by simp [Op.operands])]; exact hl
  case call c =>
    have hargs : evs env' c.args.toList = evs env c.args.toList := hevs _ fun x hx => hE x (by simp only [Op.operands, Call.operands]; rw [Array.mem_append]; exact .inr (Array.mem_toList_iff.1 hx))
    unfold lblt at hl ⊢
    rw [hargs]
    split at hl
    · rename_i h1 h2; (try simp only [h1, h2]); exact lappend_mono h hl
    · rename_i vs h1 h2
      (try simp only [h1, h2])
      unfold lcopy at hl ⊢
      split at hl
      case h_2 => cases hl
      rename_i t base len cp x h3
      (try simp only [h3])
      split at hl
      case h_2 => cases hl
      rename_i el s n h4 h5
      (try simp only [h4, h5])
      split at hl
      case h_2 => cases hl
      rename_i new h6
      simp only [lfirst_mono h h6]
      cases base with
      | none => exact hl
      | some a =>
        simp only at hl
        split at hl
        case h_2 => cases hl
        split at hl
        case isFalse => cases hl
        cases hl; cases hm
    · rename_i vs h1 h2
      unfold ldelete at hl
      split at hl
      case h_2 => cases hl
      split at hl
      case h_2 => cases hl
      split at hl
      case h_2 => cases hl
      split at hl
      case h_2 => cases hl
      cases hl; cases hm
    · rename_i x r h1 h2
      (try simp only [h1, h2])
      split at hl
      case h_2 => cases hl
      rename_i t h3
      (try simp only [h3])
      split at hl <;> cases hl
      rename_i v hv
      simp only [llenOf_mono h hv]
    · rename_i h1 h2; (try simp only [h1, h2]); exact hl
    · rename_i h1 h2; (try simp only [h1, h2]); exact hl
    · cases hl
end

theorem goCall_same {env env' : Env} {op : Op} (hE : ∀ x ∈ op.operands, ev env' x = ev env x) {r : FuncId × List Value} (h : goCall env op = some r) : goCall env' op = some r := by
  have hevs : ∀ l : List Operand, (∀ x ∈ l, ev env' x = ev env x) → evs env' l = evs env l := by
    intro l
    induction l with
    | nil => intro _; rfl
    | cons x r ih => intro hx; simp only [evs]; rw [hx x (by simp), ih (fun y hy => hx y (by simp [hy]))]
  unfold goCall at h ⊢
  split at h
  case h_2 => cases h
  rename_i c
  split at h
  case h_2 => cases h
  rename_i f hc
  have hargs : evs env' c.args.toList = evs env c.args.toList := hevs _ fun x hx => hE x (by simp only [Op.operands, Call.operands]; rw [Array.mem_append]; exact .inr (Array.mem_toList_iff.1 hx))
  have hf : ev env' f = ev env f := hE f (by simp [Op.operands, Call.operands, hc])
  (try simp only [hc, hf, hargs])
  exact h

end Go.Lm
