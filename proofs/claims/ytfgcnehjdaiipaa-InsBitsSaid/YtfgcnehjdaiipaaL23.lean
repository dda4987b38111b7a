/- Small things for contracts. -/
import Derived.Test.YtfgcnehjdaiipaaL22
namespace Go.Lm

/-! ### equality of aggregates -/
def leqL (P : Program) (d : Nat) (xs ys : Array Value) : List (Nat × Nat) → Option Bool
  | [] => some true
  | f :: r => match lpart P f.2 xs f.1, lpart P f.2 ys f.1 with
    | some a, some b => match leq P d f.2 a b, leqL P d xs ys r with
      | some p, some q => some (p && q)
      | _, _ => none
    | _, _ => none
def lrng (el s : Nat) : Nat → Nat → List (Nat × Nat)
  | 0, _ => []
  | n + 1, off => (off, el) :: lrng el s n (off + s)

theorem leqL_foldr (P : Program) (d : Nat) (xs ys : Array Value) : ∀ l : List (Nat × Nat), leqL P d xs ys l = l.foldr (fun f r =>
        match lpart P f.2 xs f.1, lpart P f.2 ys f.1 with
        | some a, some b => match leq P d f.2 a b, r with
          | some p, some q => some (p && q)
          | _, _ => none
        | _, _ => none) (some true)
  | [] => rfl
  | f :: r => by rw [leqL, leqL_foldr P d xs ys r]; rfl

theorem lrng_map (el s : Nat) : ∀ (n k : Nat), lrng el s n (k * s) = (List.range' k n).map fun i => (i * s, el)
  | 0, _ => rfl
  | n + 1, k => by rw [lrng, show k * s + s = (k + 1) * s by rw [Nat.succ_mul], lrng_map el s n (k + 1), List.range'_succ, List.map_cons]

section
variable (P : Program) (d : Nat) (t : TypeId)
@[simp ↓] theorem leqL_nil (xs ys : Array Value) : leqL P d xs ys [] = some true := rfl
@[simp ↓] theorem leqL_cons (xs ys : Array Value) (o u : Nat) (r : List (Nat × Nat)) : leqL P d xs ys ((o, u) :: r) = match lpart P u xs o, lpart P u ys o with
    | some a, some b => match leq P d u a b, leqL P d xs ys r with
      | some p, some q => some (p && q)
      | _, _ => none
    | _, _ => none := rfl
@[simp ↓] theorem leqL_rng0 (xs ys : Array Value) (el s o : Nat) : leqL P d xs ys (lrng el s 0 o) = some true := rfl
@[simp ↓] theorem leqL_rng (xs ys : Array Value) (el s n o : Nat) : leqL P d xs ys (lrng el s (n + 1) o) = match lpart P el xs o, lpart P el ys o with
    | some a, some b => match leq P d el a b, leqL P d xs ys (lrng el s n (o + s)) with
      | some p, some q => some (p && q)
      | _, _ => none
    | _, _ => none := rfl
@[simp ↓] theorem leq_int (k : IntKind) (a b : Int) : leq P (d + 1) t (.int k a) (.int k b) = match tyQ P t with | .int _ => some (a == b) | _ => none := by
  cases h : tyQ P t <;> simp [leq, h]
@[simp ↓] theorem leq_boo (a b : Bool) : leq P (d + 1) t (.bool a) (.bool b) = match tyQ P t with | .bool => some (a == b) | _ => none := by
  cases h : tyQ P t <;> simp [leq, h]
@[simp ↓] theorem leq_str (a b : ByteArray) : leq P (d + 1) t (.string a) (.string b) = match tyQ P t with | .str => some (a == b) | _ => none := by
  cases h : tyQ P t <;> simp [leq, h]
@[simp ↓] theorem leq_agg (xs ys : Array Value) : leq P (d + 1) t (.agg xs) (.agg ys) = match tyQ P t with
    | .struct _ => match eqFsQ P t with
      | some fs => leqL P d xs ys fs
      | none => none
    | .arr n el s => leqL P d xs ys (lrng el s n 0)
    | _ => none := by
  cases h : tyQ P t with
  | struct fs =>
    simp only [leq, h]
    cases eqFsQ P t with
    | none => rfl
    | some fs => simp only; rw [leqL_foldr]; rfl
  | arr n el s =>
    simp only [leq, h]
    have := lrng_map el s n 0
    rw [Nat.zero_mul] at this
    rw [leqL_foldr, this, List.foldr_map, List.range_eq_range']; rfl
  | _ => simp [leq, h]
end

theorem okS_gnd0 {D : Nat → Prop} {v : Value} (h : gnd0 v = true) : okS D v := by
  unfold gnd0 at h
  split at h <;> first | trivial | cases h
theorem okT_gnd0 {D : Nat → Prop} {v : Value} (h : gnd0 v = true) : okT D v := by
  unfold gnd0 at h
  split at h <;> first | trivial | cases h
theorem okV_gnd0 {D : Nat → Prop} {v : Value} (h : gnd0 v = true) : okV D v := by
  unfold gnd0 at h
  split at h <;> first | trivial | cases h
theorem okV_gnd {D : Nat → Prop} {v : Value} (h : gnd v = true) : okV D v := by
  unfold gnd at h
  split at h
  · intro x hx
    simp only [Array.all_eq_true_iff_forall_mem] at h
    exact okS_gnd0 (h x hx)
  · exact okV_gnd0 h
theorem okT_gnd {D : Nat → Prop} {v : Value} (h : gnd v = true) : okT D v := by
  unfold gnd at h
  split at h
  · intro x hx
    simp only [Array.all_eq_true_iff_forall_mem] at h
    exact okS_gnd0 (h x hx)
  · exact okT_gnd0 h

theorem wpo_mono {P : Program} {N : Nat} {ops : List Oper} {K K' : Env → Mem → Prop} (hk : ∀ env m, K env m → K' env m) : ∀ (l : List Oper) (env : Env) (m : Mem), wpo P N ops K l env m → wpo P N ops K' l env m
  | [], env, m, h => hk _ _ h
  | o :: r, env, m, h => by
    unfold wpo at h ⊢
    split at h
    · exact h.elim
    · split at h
      · exact wpo_mono hk r _ _ h
      · exact h.elim
    · split at h
      · refine h.mono fun v m' hv => ?_
        split at hv
        · exact wpo_mono hk r _ _ hv
        · exact hv.elim
      · split at h
        · split at h
          · exact wpo_mono hk r _ _ h
          · exact h.elim
        · exact h.elim

theorem seqK_mono {K K' : Env → Mem → Prop} {Q Q' : Ex → Env → Mem → Prop} (hk : ∀ env m, K env m → K' env m) (hq : ∀ e env m, Q e env m → Q' e env m) : ∀ e env m, seqK K Q e env m → seqK K' Q' e env m
  | .normal, _, _, h => hk _ _ h
  | .exit _, _, _, h => hq _ _ _ h
  | .ret, _, _, h => hq _ _ _ h

theorem blockK_mono {id : Nat} {Q Q' : Ex → Env → Mem → Prop} (hq : ∀ e env m, Q e env m → Q' e env m) : ∀ e env m, blockK id Q e env m → blockK id Q' e env m
  | .normal, _, _, h => hq _ _ _ h
  | .exit id', env, m, h => by
    rw [blockK_exit] at h ⊢
    by_cases e : id' = id
    · rw [if_pos e] at h ⊢; exact hq _ _ _ h
    · rw [if_neg e] at h ⊢; exact hq _ _ _ h
  | .ret, _, _, h => hq _ _ _ h

theorem wpc_mono {P : Program} {N : Nat} : ∀ (c : Code) (env : Env) (m : Mem) (Q Q' : Ex → Env → Mem → Prop), (∀ e env m, Q e env m → Q' e env m) → wpc P N c env m Q → wpc P N c env m Q' := by
  intro c
  induction c with
  | seq a b iha ihb => exact fun env m Q Q' hq h => iha env m _ _ (seqK_mono (fun env m h => ihb env m _ _ hq h) hq) h
  | cond x a b iha ihb =>
    intro env m Q Q' hq h
    unfold wpc at h ⊢
    split at h
    · next t ht =>
      by_cases hb : t = true
      · rw [if_pos hb] at h ⊢; exact iha _ _ _ _ hq h
      · rw [if_neg hb] at h ⊢; exact ihb _ _ _ _ hq h
    · exact h.elim
  | block id a iha => exact fun env m Q Q' hq h => iha env m _ _ (blockK_mono hq) h
  | loop a iha => exact fun env m Q Q' hq ⟨I, h0, h⟩ => ⟨I, h0, fun n env m hi => iha env m _ _ (seqK_mono (fun _ _ x => x) hq) (h n env m hi)⟩
  | region id ops d =>
    intro env m Q Q' hq h
    cases d with
    | false => exact wpo_mono (hq .normal) _ _ _ h
    | true => exact fun σ a w hR hE hN Q1 hQ => h σ a w hR hE hN Q1 fun env' m' σ' a' w' hk => hQ env' m' σ' a' w' (hq _ _ _ hk)
  | _ => first | exact fun env m Q Q' hq h => hq _ _ _ h | exact fun env m Q Q' hq h => h.elim

/-- One statement that is a region; what stands behind it is shut away. -/
theorem wpc_st {P : Program} {N : Nat} {id : Nat} {l : List Oper} {b : Code} {env : Env} {m : Mem} {Q : Ex → Env → Mem → Prop}
    (h : ∀ K : Env → Mem → Prop, (∀ env' m', wpc P N b env' m' Q → K env' m') → wpo P N l K l env m) : wpc P N (.seq (.region id (List.toArray l) false) b) env m Q := h _ fun _ _ x => x

@[simp ↓] theorem wpo_drop (P : Program) (N : Nat) (ops : List Oper) (K : Env → Mem → Prop) (n : Nat) (o : Oper) (r : List Oper) (env : Env) (m : Mem) : wpo P N ops K (List.drop (n + 1) (o :: r)) env m = wpo P N ops K (List.drop n r) env m := rfl
@[simp ↓] theorem wpo_drop0 (P : Program) (N : Nat) (ops : List Oper) (K : Env → Mem → Prop) (r : List Oper) (env : Env) (m : Mem) : wpo P N ops K (List.drop 0 r) env m = wpo P N ops K r env m := rfl

/-- A draw, as simp likes it. -/
theorem draw_go {P : Program} {N : Nat} {l : List Oper} {env : Env} {m : Mem} {K : Env → Mem → Prop} (s : Nat) (bs : List Nat) (hb : Region.before l.toArray = bs.toArray) (hok : drawOk l.toArray s = true)
    (h : drw P N l.toArray s (fun i => bs.getD i 0) env m (fun D => wpo P N l K (l.drop s) (senv (fun _ => true) 0 D env) (smem (fun _ => true) 0 D m)) l 0 m.top []) : DrawD P N l.toArray env m K () () :=
  draw_by s bs hb hok h
theorem drw_go {P : Program} {N : Nat} {oa : Array Oper} {s : Nat} {b : Nat → Nat} {env : Env} {m : Mem} {KD : List DRes → Prop} {l : List Oper} {i kid : Nat} {D : List DRes}
    (h : drw P N oa s b env m KD l i kid D) : DrwD P N oa s b env m KD l i kid D () () () () := h

/-- One statement of any kind; what stands behind it is shut away. -/
theorem wpc_sq {P : Program} {N : Nat} {a b : Code} {env : Env} {m : Mem} {Q : Ex → Env → Mem → Prop}
    (h : ∀ K : Env → Mem → Prop, (∀ env' m', wpc P N b env' m' Q → K env' m') → wpc P N a env m (seqK K Q)) : wpc P N (.seq a b) env m Q := h _ fun _ _ x => x

/-- What holds between two statements. -/
theorem wpc_mid {P : Program} {N : Nat} {a b : Code} {env : Env} {m : Mem} {Q : Ex → Env → Mem → Prop} (R : Env → Mem → Prop)
    (ha : wpc P N a env m (seqK R Q)) (hb : ∀ env' m', R env' m' → wpc P N b env' m' Q) : wpc P N (.seq a b) env m Q := by
  exact wpc_mono a env m (seqK R Q) (seqK (fun env' m' => wpc P N b env' m' Q) Q) (seqK_mono hb fun _ _ _ x => x) ha
end Go.Lm
