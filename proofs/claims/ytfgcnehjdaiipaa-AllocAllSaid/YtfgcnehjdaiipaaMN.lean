/- Spans and the two ways of Assign in plain words. -/
/- Spans: the plain law. -/
set_option linter.unusedSimpArgs false
set_option linter.unusedVariables false
namespace Go.Lm

structure Sp where
  place : Int
  fr : Int
  to : Int
  deriving Inhabited, DecidableEq
def spLt (a b : Sp) : Prop := a.fr < b.fr ∨ (a.fr = b.fr ∧ a.place < b.place)
/-- a place's span, by what each operation names -/
def IsSpan (nm : List (List Int)) (s : Sp) : Prop :=
  1 ≤ s.place ∧ ∃ i j : Nat, s.fr = (i : Int) ∧ s.to = (j : Int) ∧ (∃ l, nm[i]? = some l ∧ s.place ∈ l) ∧ (∃ l, nm[j]? = some l ∧ s.place ∈ l) ∧
    ∀ (k : Nat) (l : List Int), nm[k]? = some l → s.place ∈ l → i ≤ k ∧ k ≤ j
def SpansR (nm : List (List Int)) (l : List Sp) : Prop := l.Pairwise spLt ∧ ∀ s, s ∈ l ↔ IsSpan nm s
def RawR (nm : List (List Int)) (l : List Sp) : Prop := l.Pairwise (fun a b => a.place ≠ b.place) ∧ ∀ s, s ∈ l ↔ IsSpan nm s

theorem spLt_irrefl (a : Sp) : ¬ spLt a a := by unfold spLt; omega
theorem spLt_asymm {a b : Sp} (h : spLt a b) : ¬ spLt b a := by unfold spLt at *; omega
theorem spLt_trans {a b c : Sp} (h : spLt a b) (h' : spLt b c) : spLt a c := by unfold spLt at *; omega

theorem sorted_unique {α : Type} {R : α → α → Prop} (has : ∀ {a b}, R a b → ¬ R b a) : ∀ {l l' : List α}, l.Pairwise R → l'.Pairwise R → (∀ x, x ∈ l ↔ x ∈ l') → l = l'
  | [], [], _, _, _ => rfl
  | [], b :: l', _, _, h => by have := (h b).2 (by simp); simp at this
  | a :: l, [], _, _, h => by have := (h a).1 (by simp); simp at this
  | a :: l, b :: l', h1, h2, h => by
    have hir : ∀ a, ¬ R a a := fun a h => has h h
    rw [List.pairwise_cons] at h1 h2
    have e : a = b := by
      have ha := (h a).1 (by simp)
      have hb := (h b).2 (by simp)
      rw [List.mem_cons] at ha hb
      rcases ha with ha | ha
      · exact ha
      · rcases hb with hb | hb
        · exact hb.symm
        · exact absurd (h1.1 b hb) (has (h2.1 a ha))
    subst e
    refine congrArg _ (sorted_unique has h1.2 h2.2 fun x => ⟨fun hx => ?_, fun hx => ?_⟩)
    · have := (h x).1 (by simp [hx])
      rw [List.mem_cons] at this
      rcases this with e | e
      · subst e; exact absurd (h1.1 x hx) (hir x)
      · exact e
    · have := (h x).2 (by simp [hx])
      rw [List.mem_cons] at this
      rcases this with e | e
      · subst e; exact absurd (h2.1 x hx) (hir x)
      · exact e

theorem SpansR.unique {nm : List (List Int)} {l l' : List Sp} (h : SpansR nm l) (h' : SpansR nm l') : l = l' :=
  sorted_unique spLt_asymm h.1 h'.1 fun s => (h.2 s).trans (h'.2 s).symm

theorem IsSpan.uniq {nm : List (List Int)} {s t : Sp} (h : IsSpan nm s) (h' : IsSpan nm t) (e : s.place = t.place) : s = t := by
  obtain ⟨_, i, j, e1, e2, ⟨l1, h1, h2⟩, ⟨l2, h3, h4⟩, h5⟩ := h
  obtain ⟨_, i', j', e1', e2', ⟨l1', h1', h2'⟩, ⟨l2', h3', h4'⟩, h5'⟩ := h'
  have a1 := h5 _ _ h1' (by rw [e]; exact h2')
  have a2 := h5 _ _ h3' (by rw [e]; exact h4')
  have a3 := h5' _ _ h1 (by rw [← e]; exact h2)
  have a4 := h5' _ _ h3 (by rw [← e]; exact h4)
  cases s; cases t
  simp only [Sp.mk.injEq] at *
  omega

/-- a raw list, sorted -/
theorem SpansR.of_raw {nm : List (List Int)} {l l' : List Sp} (h : RawR nm l) (hm : ∀ s, s ∈ l' ↔ s ∈ l) (hn : l'.Pairwise (fun a b => a.place ≠ b.place)) (hs : l'.Pairwise fun a b => ¬ spLt b a) : SpansR nm l' := by
  refine ⟨?_, fun s => (hm s).trans (h.2 s)⟩
  refine (hn.and hs).imp fun {a b} h => ?_
  have h1 := h.1
  have h2 := h.2
  unfold spLt at *
  omega

theorem getElem?_snoc (A : List (List Int)) (x : List Int) (k : Nat) : (A ++ [x])[k]? = if k < A.length then A[k]? else if k = A.length then some x else none := by
  rw [List.getElem?_append]
  split
  · rfl
  · rename_i h
    split
    · rename_i h2; subst h2; simp
    · rw [List.getElem?_eq_none (by simp; omega)]

theorem IsSpan_nil (A : List (List Int)) (s : Sp) : IsSpan (A ++ [[]]) s ↔ IsSpan A s := by
  have e : ∀ (k : Nat) (p : Int), (∃ l, (A ++ [[]])[k]? = some l ∧ p ∈ l) ↔ ∃ l, A[k]? = some l ∧ p ∈ l := by
    intro k p
    rw [getElem?_snoc]
    split
    · exact Iff.rfl
    · rename_i h
      constructor
      · rintro ⟨l, h1, h2⟩
        split at h1
        · cases h1; cases h2
        · cases h1
      · rintro ⟨l, h1, h2⟩
        rw [List.getElem?_eq_none (by omega)] at h1; cases h1
  have e2 : ∀ (i j : Nat) (p : Int) (nm : List (List Int)), (∀ (k : Nat) (l : List Int), nm[k]? = some l → p ∈ l → i ≤ k ∧ k ≤ j) ↔ ∀ k, (∃ l, nm[k]? = some l ∧ p ∈ l) → i ≤ k ∧ k ≤ j := by
    intro i j p nm
    exact ⟨fun h k ⟨l, h1, h2⟩ => h k l h1 h2, fun h k l h1 h2 => h k ⟨l, h1, h2⟩⟩
  unfold IsSpan
  simp only [e, e2]

/-- one name more -/
theorem IsSpan_snoc_ne {A : List (List Int)} {pre : List Int} {p : Int} {s : Sp} (hp : s.place ≠ p) : IsSpan (A ++ [pre ++ [p]]) s ↔ IsSpan (A ++ [pre]) s := by
  have e : ∀ (k : Nat), (∃ l, (A ++ [pre ++ [p]])[k]? = some l ∧ s.place ∈ l) ↔ ∃ l, (A ++ [pre])[k]? = some l ∧ s.place ∈ l := by
    intro k
    rw [getElem?_snoc, getElem?_snoc]
    split
    · exact Iff.rfl
    · split
      · constructor
        · rintro ⟨l, h1, h2⟩
          cases h1
          rw [List.mem_append] at h2
          rcases h2 with h2 | h2
          · exact ⟨_, rfl, h2⟩
          · simp at h2; exact absurd h2 hp
        · rintro ⟨l, h1, h2⟩
          cases h1
          exact ⟨_, rfl, by rw [List.mem_append]; exact .inl h2⟩
      · exact Iff.rfl
  have e2 : ∀ (i j : Nat) (p : Int) (nm : List (List Int)), (∀ (k : Nat) (l : List Int), nm[k]? = some l → p ∈ l → i ≤ k ∧ k ≤ j) ↔ ∀ k, (∃ l, nm[k]? = some l ∧ p ∈ l) → i ≤ k ∧ k ≤ j := by
    intro i j p nm
    exact ⟨fun h k ⟨l, h1, h2⟩ => h k l h1 h2, fun h k l h1 h2 => h k ⟨l, h1, h2⟩⟩
  unfold IsSpan
  simp only [e, e2]

theorem IsSpan_last {A : List (List Int)} {pre : List Int} {s : Sp} (h : IsSpan (A ++ [pre]) s) : IsSpan (A ++ [pre ++ [s.place]]) { s with to := A.length } := by
  obtain ⟨h0, i, j, e1, e2, ⟨l1, h1, h2⟩, ⟨l2, h3, h4⟩, h5⟩ := h
  refine ⟨h0, i, A.length, e1, rfl, ?_, ⟨pre ++ [s.place], by simp, by simp⟩, fun k l hk hl => ?_⟩
  · rw [getElem?_snoc] at h1 ⊢
    split at h1
    · rename_i h; rw [if_pos h]; exact ⟨_, h1, h2⟩
    · split at h1
      · rename_i h h'; rw [if_neg h, if_pos h']; exact ⟨_, rfl, by simp⟩
      · cases h1
  · rw [getElem?_snoc] at hk
    split at hk
    · rename_i h
      have := h5 k l (by rw [getElem?_snoc, if_pos h]; exact hk) hl
      omega
    · split at hk
      · rename_i h h'
        have hi := (List.getElem?_eq_some_iff.1 h1).1
        simp at hi
        omega
      · cases hk

theorem IsSpan_first {A : List (List Int)} {pre : List Int} {p : Int} (h1 : 1 ≤ p) (h : ∀ s, IsSpan (A ++ [pre]) s → s.place ≠ p) : IsSpan (A ++ [pre ++ [p]]) ⟨p, A.length, A.length⟩ := by
  refine ⟨h1, A.length, A.length, rfl, rfl, ⟨pre ++ [p], by simp, by simp⟩, ⟨pre ++ [p], by simp, by simp⟩, fun k l hk hl => ?_⟩
  -- no operation ahead names p
  have hno : ∀ (k : Nat) (l : List Int), (A ++ [pre])[k]? = some l → p ∉ l := by
    intro k l hk hl
    -- the first and the last one that names it
    have hex : ∃ i j : Nat, (∃ l, (A ++ [pre])[i]? = some l ∧ p ∈ l) ∧ (∃ l, (A ++ [pre])[j]? = some l ∧ p ∈ l) ∧ ∀ (k : Nat) (l : List Int), (A ++ [pre])[k]? = some l → p ∈ l → i ≤ k ∧ k ≤ j := by
      generalize A ++ [pre] = B at *
      clear h
      have hfirst : ∀ n : Nat, (∃ (k : Nat) (l : List Int), k < n ∧ B[k]? = some l ∧ p ∈ l) → ∃ i, (∃ l, B[i]? = some l ∧ p ∈ l) ∧ ∀ (k : Nat) (l : List Int), B[k]? = some l → p ∈ l → i ≤ k := by
        intro n
        induction n with
        | zero => rintro ⟨k, l, h, _⟩; omega
        | succ n ih =>
          rintro ⟨k, l, hk, h1, h2⟩
          by_cases hlo : ∃ (k : Nat) (l : List Int), k < n ∧ B[k]? = some l ∧ p ∈ l
          · exact ih hlo
          · have : k = n := by
              rcases Nat.lt_or_ge k n with h | h
              · exact absurd ⟨k, l, h, h1, h2⟩ hlo
              · omega
            subst this
            refine ⟨k, ⟨l, h1, h2⟩, fun k' l' h1' h2' => ?_⟩
            rcases Nat.lt_or_ge k' k with h | h
            · exact absurd ⟨k', l', h, h1', h2'⟩ hlo
            · exact h
      have hlast : ∀ n : Nat, (∃ (k : Nat) (l : List Int), B.length ≤ k + n ∧ B[k]? = some l ∧ p ∈ l) → ∃ j, (∃ l, B[j]? = some l ∧ p ∈ l) ∧ ∀ (k : Nat) (l : List Int), B[k]? = some l → p ∈ l → k ≤ j := by
        intro n
        induction n with
        | zero => rintro ⟨k, l, h, h1, _⟩; have := (List.getElem?_eq_some_iff.1 h1).1; omega
        | succ n ih =>
          rintro ⟨k, l, hk, h1, h2⟩
          by_cases hlo : ∃ (k : Nat) (l : List Int), B.length ≤ k + n ∧ B[k]? = some l ∧ p ∈ l
          · exact ih hlo
          · have : B.length = k + n + 1 := by
              rcases Nat.lt_or_ge (k + n) B.length with h | h
              · omega
              · exact absurd ⟨k, l, h, h1, h2⟩ hlo
            refine ⟨k, ⟨l, h1, h2⟩, fun k' l' h1' h2' => ?_⟩
            rcases Nat.lt_or_ge k k' with h | h
            · exact absurd ⟨k', l', by omega, h1', h2'⟩ hlo
            · exact h
      obtain ⟨i, hi1, hi2⟩ := hfirst (k + 1) ⟨k, l, by omega, hk, hl⟩
      obtain ⟨j, hj1, hj2⟩ := hlast B.length ⟨k, l, by omega, hk, hl⟩
      exact ⟨i, j, hi1, hj1, fun k l h1 h2 => ⟨hi2 k l h1 h2, hj2 k l h1 h2⟩⟩
    obtain ⟨i, j, hi, hj, hij⟩ := hex
    exact h ⟨p, i, j⟩ ⟨h1, i, j, rfl, rfl, hi, hj, hij⟩ rfl
  rw [getElem?_snoc] at hk
  split at hk
  · rename_i h'
    exact absurd hl (hno k l (by rw [getElem?_snoc, if_pos h']; exact hk))
  · split at hk
    · omega
    · cases hk

theorem RawR.skip {A : List (List Int)} {pre : List Int} {p : Int} {l : List Sp} (h : RawR (A ++ [pre]) l) (hp : p ≤ 0) : RawR (A ++ [pre ++ [p]]) l := by
  refine ⟨h.1, fun s => (h.2 s).trans ?_⟩
  by_cases h1 : 1 ≤ s.place
  · exact (IsSpan_snoc_ne (by omega)).symm
  · exact ⟨fun h => absurd h.1 h1, fun h => absurd h.1 h1⟩
theorem RawR.again {A : List (List Int)} {pre : List Int} {l : List Sp} {j : Nat} {s : Sp} (h : RawR (A ++ [pre]) l) (hj : l[j]? = some s) : RawR (A ++ [pre ++ [s.place]]) (l.set j { s with to := A.length }) := by
  obtain ⟨hj', hjs⟩ := List.getElem?_eq_some_iff.1 hj
  have hmem : s ∈ l := by rw [← hjs]; exact List.getElem_mem hj'
  have hne : ∀ (i : Nat) t, l[i]? = some t → i ≠ j → t.place ≠ s.place := by
    intro i t hi hij
    obtain ⟨hi', hit⟩ := List.getElem?_eq_some_iff.1 hi
    have := List.pairwise_iff_getElem.1 h.1
    rcases Nat.lt_or_ge i j with h2 | h2
    · have := this i j hi' hj' h2; rw [hit, hjs] at this; exact this
    · have := this j i hj' hi' (by omega); rw [hit, hjs] at this; exact this.symm
  constructor
  · rw [List.pairwise_iff_getElem]
    intro a b ha hb hab
    simp only [List.length_set] at ha hb
    have hp := List.pairwise_iff_getElem.1 h.1 a b ha hb hab
    rw [List.getElem_set, List.getElem_set]
    split
    · rename_i e; subst e
      rw [if_neg (by omega)]
      rw [hjs] at hp; exact hp
    · split
      · rename_i e; subst e
        rw [hjs] at hp; exact hp
      · exact hp
  · intro t
    rw [List.mem_iff_getElem?]
    constructor
    · rintro ⟨i, hi⟩
      rw [List.getElem?_set] at hi
      split at hi
      · cases hi; exact IsSpan_last ((h.2 s).1 hmem)
      · rename_i hij
        have hn := hne i t hi (fun e => hij e.symm)
        exact (IsSpan_snoc_ne hn).2 ((h.2 t).1 (List.mem_iff_getElem?.2 ⟨i, hi⟩))
    · intro ht
      by_cases e : t.place = s.place
      · have := IsSpan.uniq ht (IsSpan_last ((h.2 s).1 hmem)) e
        refine ⟨j, ?_⟩
        rw [List.getElem?_set, if_pos rfl, if_pos hj', this]
      · obtain ⟨i, hi⟩ := List.mem_iff_getElem?.1 ((h.2 t).2 ((IsSpan_snoc_ne e).1 ht))
        refine ⟨i, ?_⟩
        rw [List.getElem?_set, if_neg]
        · exact hi
        · rintro rfl; rw [hj] at hi; cases hi; exact e rfl
theorem RawR.fresh {A : List (List Int)} {pre : List Int} {p : Int} {l : List Sp} (h : RawR (A ++ [pre]) l) (hp : 1 ≤ p) (hn : ∀ s ∈ l, s.place ≠ p) : RawR (A ++ [pre ++ [p]]) (l ++ [⟨p, A.length, A.length⟩]) := by
  have hf := IsSpan_first (A := A) (pre := pre) hp fun s hs => hn s ((h.2 s).2 hs)
  constructor
  · rw [List.pairwise_append]
    refine ⟨h.1, by simp, fun a ha b hb => ?_⟩
    simp only [List.mem_singleton] at hb
    subst hb; exact hn a ha
  · intro s
    rw [List.mem_append, List.mem_singleton]
    constructor
    · rintro (hs | rfl)
      · exact (IsSpan_snoc_ne (hn s hs)).2 ((h.2 s).1 hs)
      · exact hf
    · intro hs
      by_cases e : s.place = p
      · exact .inr (IsSpan.uniq hs hf e)
      · exact .inl ((h.2 s).2 ((IsSpan_snoc_ne e).1 hs))
theorem RawR.next {A : List (List Int)} {l : List Sp} (h : RawR A l) : RawR (A ++ [[]]) l := ⟨h.1, fun s => (h.2 s).trans (IsSpan_nil A s).symm⟩
theorem RawR.nil : RawR [] [] := by
  refine ⟨by simp, fun s => ⟨fun h => by simp at h, fun h => ?_⟩⟩
  obtain ⟨_, i, j, _, _, ⟨l, h, _⟩, _⟩ := h
  simp at h
end Go.Lm
/- Assign: the plain law. -/
set_option linter.unusedSimpArgs false
set_option linter.unusedVariables false
namespace Go.Lm

def spMore (a b : Sp) : Bool := decide (b.to < a.to) || (decide (b.to = a.to) && decide (b.place < a.place))
def spAt (l : List Sp) (k : Nat) : Sp := l.getD k default
def deadA (l : List Sp) (fr : Int) (h : Nat) : Prop := h = 0 ∨ (spAt l (h - 1)).to < fr
def deadR (l : List Sp) (fr : Int) (k : Int) : Prop := k < 0 ∨ (spAt l k.toNat).to < fr
instance (l : List Sp) (fr : Int) (h : Nat) : Decidable (deadA l fr h) := by unfold deadA; infer_instance
instance (l : List Sp) (fr : Int) (k : Int) : Decidable (deadR l fr k) := by unfold deadR; infer_instance
/-- the document's: registers looked at from r on -/
def rsScan (l : List Sp) (fr : Int) (who : List Int) : Nat → Nat → Nat → Int → Nat ⊕ (Nat × Int)
  | 0, _, w, a => .inr (w, a)
  | f + 1, r, w, a =>
    let k := who.getD r 0
    if deadR l fr k then .inl r
    else if spMore (spAt l k.toNat) (spAt l w) then rsScan l fr who f (r + 1) k.toNat r else rsScan l fr who f (r + 1) w a
def rsStep (l : List Sp) (n : Nat) (st : List Int × List Int) (i : Nat) : List Int × List Int :=
  match rsScan l (spAt l i).fr st.1 n 0 i (-1) with
  | .inl r => (st.1.set r i, st.2 ++ [(r : Int)])
  | .inr (w, a) => if a < 0 then (st.1, st.2 ++ [-1]) else (st.1.set a.toNat i, (st.2.set w (-1)) ++ [a])
def asLoop (l : List Sp) (s : Sp) : Nat → List Nat → Int → Sp → List Nat × Int × Sp
  | 0, has, free, worst => (has, free, worst)
  | r + 1, has, free, worst =>
    let h := has.getD r 0
    if deadA l s.fr h then asLoop l s r (has.set r 0) r worst
    else if spMore (spAt l (h - 1)) worst then asLoop l s r has free (spAt l (h - 1)) else asLoop l s r has free worst
/-- the first register that holds this span -/
def asFind (l : List Sp) (worst : Sp) (has : List Nat) : Nat := has.findIdx fun k => decide (spAt l (k - 1) = worst)
def asStep (l : List Sp) (n : Nat) (st : List Nat × List Int) (i : Nat) : List Nat × List Int :=
  let s := spAt l i
  let q := asLoop l s n st.1 (-1) s
  if 0 ≤ q.2.1 then (q.1.set q.2.1.toNat (i + 1), st.2 ++ [q.2.1])
  else if q.2.2 = s then (q.1, st.2 ++ [-1])
  else
    let f := asFind l q.2.2 (q.1.take n)
    (q.1.set f (i + 1), (st.2.set (q.1.getD f 0 - 1) (-1)) ++ [(f : Int)])
def rsRun (l : List Sp) (n : Nat) : Nat → List Int × List Int
  | 0 => (List.replicate 15 (-1), [])
  | i + 1 => rsStep l n (rsRun l n i) i
def asRun (l : List Sp) (n : Nat) : Nat → List Nat × List Int
  | 0 => (List.replicate 15 0, [])
  | i + 1 => asStep l n (asRun l n i) i
def assignQ (l : List Sp) (n : Nat) : List Int := (rsRun l n l.length).2

structure SpRight (l : List Sp) : Prop where
  mono : ∀ i j, i ≤ j → j < l.length → (spAt l i).fr ≤ (spAt l j).fr
  apart : ∀ i j, i < l.length → j < l.length → (spAt l i).place = (spAt l j).place → i = j


theorem rsScan_dead {l : List Sp} {fr : Int} {who : List Int} {r0 : Nat} (hd : deadR l fr (who.getD r0 0)) : ∀ (f r w : Nat) (a : Int), r ≤ r0 → r0 < r + f → (∀ r', r ≤ r' → r' < r0 → ¬ deadR l fr (who.getD r' 0)) → rsScan l fr who f r w a = .inl r0 := by
  intro f
  induction f with
  | zero => intro r w a h1 h2; omega
  | succ f ih =>
    intro r w a h1 h2 hn
    unfold rsScan
    dsimp only
    by_cases e : r = r0
    · subst e
      rw [if_pos hd]
    · have := hn r (Nat.le_refl _) (by omega)
      rw [if_neg this]
      split
      · exact ih _ _ _ (by omega) (by omega) fun r' h1 h2 => hn r' (by omega) h2
      · exact ih _ _ _ (by omega) (by omega) fun r' h1 h2 => hn r' (by omega) h2

theorem spMore_trans {a b c : Sp} (h : spMore a b = true) (h' : spMore b c = true) : spMore a c = true := by
  unfold spMore at *; simp only [Bool.or_eq_true, Bool.and_eq_true, decide_eq_true_eq] at *; omega
theorem spMore_neg {a b c : Sp} (h : spMore a b = false) (h' : spMore b c = false) : spMore a c = false := by
  unfold spMore at *; simp only [Bool.or_eq_false_iff, Bool.and_eq_false_iff, decide_eq_false_iff_not] at *; omega
theorem spMore_irrefl (a : Sp) : spMore a a = false := by unfold spMore; simp
theorem spMore_asymm {a b : Sp} (h : spMore a b = true) : spMore b a = false := by
  unfold spMore at *; simp only [Bool.or_eq_true, Bool.and_eq_true, decide_eq_true_eq, Bool.or_eq_false_iff, Bool.and_eq_false_iff, decide_eq_false_iff_not] at *; omega

/-- No register is free: the greatest. -/
theorem rsScan_live {l : List Sp} {fr : Int} {who : List Int} {i : Nat} : ∀ (f r w : Nat) (a : Int), (∀ r', r ≤ r' → r' < r + f → ¬ deadR l fr (who.getD r' 0)) →
    ((a = -1 ∧ w = i) ∨ (0 ≤ a ∧ a.toNat < r ∧ who.getD a.toNat 0 = (w : Int) ∧ ∀ r', r' < a.toNat → spMore (spAt l w) (spAt l (who.getD r' 0).toNat) = true)) →
    (∀ r', r' < r → spMore (spAt l (who.getD r' 0).toNat) (spAt l w) = false) → spMore (spAt l i) (spAt l w) = false → ((a = -1 ∧ w = i) ∨ spMore (spAt l w) (spAt l i) = true) →
    ∃ w' a', rsScan l fr who f r w a = .inr (w', a') ∧
      ((a' = -1 ∧ w' = i) ∨ (0 ≤ a' ∧ a'.toNat < r + f ∧ who.getD a'.toNat 0 = (w' : Int) ∧ (∀ r', r' < a'.toNat → spMore (spAt l w') (spAt l (who.getD r' 0).toNat) = true) ∧ spMore (spAt l w') (spAt l i) = true)) ∧
      (∀ r', r' < r + f → spMore (spAt l (who.getD r' 0).toNat) (spAt l w') = false) ∧ spMore (spAt l i) (spAt l w') = false := by
  intro f
  induction f with
  | zero =>
    intro r w a hn h1 h2 h3 h4
    refine ⟨w, a, rfl, ?_, h2, h3⟩
    rcases h1 with h1 | ⟨q1, q2, q3, q4⟩
    · exact .inl h1
    · rcases h4 with h4 | h4
      · exact .inl h4
      · exact .inr ⟨q1, q2, q3, q4, h4⟩
  | succ f ih =>
    intro r w a hn h1 h2 h3 h4
    have hr := hn r (Nat.le_refl _) (by omega)
    unfold rsScan
    dsimp only
    rw [if_neg hr]
    have hk : ((who.getD r 0).toNat : Int) = who.getD r 0 := by
      unfold deadR at hr; omega
    split
    · rename_i hm
      have hall : ∀ r', r' < r → spMore (spAt l (who.getD r 0).toNat) (spAt l (who.getD r' 0).toNat) = true := by
        intro r' hr'
        have := h2 r' hr'
        revert this hm
        unfold spMore
        simp only [Bool.or_eq_true, Bool.and_eq_true, decide_eq_true_eq, Bool.or_eq_false_iff, Bool.and_eq_false_iff, decide_eq_false_iff_not]
        omega
      have hi : spMore (spAt l (who.getD r 0).toNat) (spAt l i) = true := by
        revert h3 hm
        unfold spMore
        simp only [Bool.or_eq_true, Bool.and_eq_true, decide_eq_true_eq, Bool.or_eq_false_iff, Bool.and_eq_false_iff, decide_eq_false_iff_not]
        omega
      obtain ⟨w', a', e, e1, e2, e3⟩ := ih (r + 1) (who.getD r 0).toNat (r : Int) (fun r' q1 q2 => hn r' (by omega) (by omega)) (.inr ⟨by omega, by omega, by rw [Int.toNat_natCast, hk], fun r' hr' => hall r' (by omega)⟩)
        (fun r' hr' => by
          by_cases e : r' = r
          · subst e; exact spMore_irrefl _
          · exact spMore_asymm (hall r' (by omega))) (spMore_asymm hi) (.inr hi)
      refine ⟨w', a', e, ?_, fun r' hr' => e2 r' (by omega), e3⟩
      rcases e1 with e1 | ⟨q1, q2, q3⟩
      · exact .inl e1
      · exact .inr ⟨q1, by omega, q3⟩
    · rename_i hm
      have hm' : spMore (spAt l (who.getD r 0).toNat) (spAt l w) = false := by simpa using hm
      obtain ⟨w', a', e, e1, e2, e3⟩ := ih (r + 1) w a (fun r' q1 q2 => hn r' (by omega) (by omega)) (by
          rcases h1 with h1 | ⟨q1, q2, q3⟩
          · exact .inl h1
          · exact .inr ⟨q1, by omega, q3⟩)
        (fun r' hr' => by
          by_cases e : r' = r
          · subst e; exact hm'
          · exact h2 r' (by omega)) h3 h4
      refine ⟨w', a', e, ?_, fun r' hr' => e2 r' (by omega), e3⟩
      rcases e1 with e1 | ⟨q1, q2, q3⟩
      · exact .inl e1
      · exact .inr ⟨q1, by omega, q3⟩

theorem getD_set (l : List Nat) (r x r' : Nat) (d : Nat) : (l.set r x).getD r' d = if r = r' ∧ r < l.length then x else l.getD r' d := by
  simp only [List.getD_eq_getElem?_getD, List.getElem?_set]
  by_cases e : r = r'
  · subst e
    by_cases h : r < l.length
    · simp [h]
    · simp [h]
  · simp [e]
theorem getD_setZ (l : List Int) (r r' : Nat) (x d : Int) : (l.set r x).getD r' d = if r = r' ∧ r < l.length then x else l.getD r' d := by
  simp only [List.getD_eq_getElem?_getD, List.getElem?_set]
  by_cases e : r = r'
  · subst e
    by_cases h : r < l.length
    · simp [h]
    · simp [h]
  · simp [e]

/-- what the loop over the registers leaves -/
theorem asLoop_spec {l : List Sp} {s : Sp} : ∀ (n : Nat) (has : List Nat) (free : Int) (worst : Sp), n ≤ has.length →
    (asLoop l s n has free worst).1.length = has.length ∧
    (∀ r, n ≤ r → (asLoop l s n has free worst).1.getD r 0 = has.getD r 0) ∧
    (∀ r, r < n → (deadA l s.fr (has.getD r 0) → (asLoop l s n has free worst).1.getD r 0 = 0) ∧ (¬ deadA l s.fr (has.getD r 0) → (asLoop l s n has free worst).1.getD r 0 = has.getD r 0)) ∧
    ((∃ r, r < n ∧ deadA l s.fr (has.getD r 0) ∧ (∀ r', r' < r → ¬ deadA l s.fr (has.getD r' 0)) ∧ (asLoop l s n has free worst).2.1 = r) ∨ ((∀ r, r < n → ¬ deadA l s.fr (has.getD r 0)) ∧ (asLoop l s n has free worst).2.1 = free)) ∧
    ((asLoop l s n has free worst).2.2 = worst ∨ ∃ r, r < n ∧ ¬ deadA l s.fr (has.getD r 0) ∧ (asLoop l s n has free worst).2.2 = spAt l (has.getD r 0 - 1)) ∧
    (∀ r, r < n → ¬ deadA l s.fr (has.getD r 0) → spMore (spAt l (has.getD r 0 - 1)) (asLoop l s n has free worst).2.2 = false) ∧
    spMore worst (asLoop l s n has free worst).2.2 = false := by
  intro n
  induction n with
  | zero =>
    intro has free worst hn
    exact ⟨rfl, fun r _ => rfl, fun r h => absurd h (by omega), .inr ⟨fun r h => absurd h (by omega), rfl⟩, .inl rfl, fun r h => absurd h (by omega), spMore_irrefl _⟩
  | succ n ih =>
    intro has free worst hn
    by_cases hd : deadA l s.fr (has.getD n 0)
    · have e : asLoop l s (n + 1) has free worst = asLoop l s n (has.set n 0) n worst := by
        conv => lhs; unfold asLoop
        dsimp only
        rw [if_pos hd]
      rw [e]
      have hg : ∀ r, r ≠ n → (has.set n 0).getD r 0 = has.getD r 0 := fun r hr => by rw [getD_set, if_neg (fun h => hr h.1.symm)]
      have hgn : (has.set n 0).getD n 0 = 0 := by rw [getD_set, if_pos ⟨rfl, by omega⟩]
      obtain ⟨h0, h1, h2, h3, h4, h5, h6⟩ := ih (has.set n 0) n worst (by simp; omega)
      refine ⟨by rw [h0]; simp, fun r hr => by rw [h1 r (by omega), hg r (by omega)], fun r hr => ?_, ?_, ?_, fun r hr hl => ?_, h6⟩
      · by_cases er : r = n
        · subst er
          refine ⟨fun _ => by rw [h1 r (Nat.le_refl _), hgn], fun h => absurd hd h⟩
        · have := h2 r (by omega)
          rw [hg r er] at this
          exact this
      · left
        rcases h3 with ⟨r, hr, hr1, hr2, hr3⟩ | ⟨hr1, hr2⟩
        · rw [hg r (by omega)] at hr1
          exact ⟨r, by omega, hr1, fun r' h => by have := hr2 r' h; rwa [hg r' (by omega)] at this, hr3⟩
        · exact ⟨n, by omega, hd, fun r' h => by have := hr1 r' h; rwa [hg r' (by omega)] at this, hr2⟩
      · rcases h4 with h4 | ⟨r, hr, hr1, hr2⟩
        · exact .inl h4
        · rw [hg r (by omega)] at hr1 hr2
          exact .inr ⟨r, by omega, hr1, hr2⟩
      · by_cases er : r = n
        · subst er; exact absurd hd hl
        · have := h5 r (by omega)
          rw [hg r er] at this
          exact this hl
    · have key : ∃ worst', spMore worst worst' = false ∧ spMore (spAt l (has.getD n 0 - 1)) worst' = false ∧ (worst' = worst ∨ worst' = spAt l (has.getD n 0 - 1)) ∧
          asLoop l s (n + 1) has free worst = asLoop l s n has free worst' := by
        by_cases hm : spMore (spAt l (has.getD n 0 - 1)) worst = true
        · refine ⟨_, spMore_asymm hm, spMore_irrefl _, .inr rfl, ?_⟩
          conv => lhs; unfold asLoop
          dsimp only
          rw [if_neg hd, if_pos hm]
        · refine ⟨_, spMore_irrefl _, by simpa using hm, .inl rfl, ?_⟩
          conv => lhs; unfold asLoop
          dsimp only
          rw [if_neg hd, if_neg hm]
      obtain ⟨worst', w1, w2, w3, e⟩ := key
      rw [e]
      obtain ⟨h0, h1, h2, h3, h4, h5, h6⟩ := ih has free worst' (by omega)
      refine ⟨h0, fun r hr => h1 r (by omega), fun r hr => ?_, ?_, ?_, fun r hr hl => ?_, spMore_neg w1 h6⟩
      · by_cases er : r = n
        · subst er; exact ⟨fun h => absurd h hd, fun _ => h1 r (Nat.le_refl _)⟩
        · exact h2 r (by omega)
      · rcases h3 with ⟨r, hr, hr1, hr2, hr3⟩ | ⟨hr1, hr2⟩
        · exact .inl ⟨r, by omega, hr1, hr2, hr3⟩
        · refine .inr ⟨fun r hr => ?_, hr2⟩
          by_cases er : r = n
          · subst er; exact hd
          · exact hr1 r (by omega)
      · rcases h4 with h4 | ⟨r, hr, hr1, hr2⟩
        · rcases w3 with w3 | w3
          · exact .inl (h4.trans w3)
          · exact .inr ⟨n, by omega, hd, h4.trans w3⟩
        · exact .inr ⟨r, by omega, hr1, hr2⟩
      · by_cases er : r = n
        · subst er; exact spMore_neg w2 h6
        · exact h5 r (by omega) hl

/-- How the two tables of registers stand to one another ahead of span i. -/
structure AsRel (l : List Sp) (n i : Nat) (has : List Nat) (who : List Int) : Prop where
  h1 : has.length = 15
  h2 : who.length = 15
  rel : ∀ r, r < n → (who.getD r 0 = -1 ∧ has.getD r 0 = 0) ∨ ∃ k : Nat, k < i ∧ who.getD r 0 = (k : Int) ∧ (has.getD r 0 = k + 1 ∨ (has.getD r 0 = 0 ∧ ∀ j, i ≤ j → j < l.length → (spAt l k).fr ≤ (spAt l j).fr ∧ (spAt l k).to < (spAt l j).fr))

theorem AsRel.dead {l : List Sp} {n i : Nat} {has : List Nat} {who : List Int} (h : AsRel l n i has who) (hi : i < l.length) {r : Nat} (hr : r < n) : deadA l (spAt l i).fr (has.getD r 0) ↔ deadR l (spAt l i).fr (who.getD r 0) := by
  unfold deadA deadR
  rcases h.rel r hr with ⟨e1, e2⟩ | ⟨k, hk, e1, e2 | ⟨e2, e3⟩⟩
  · rw [e1, e2]; simp
  · rw [e1, e2]; simp; omega
  · rw [e1, e2]; simp; exact .inr (e3 i (Nat.le_refl _) hi).2

theorem findIdx_eq {α : Type} (p : α → Bool) : ∀ (l : List α) (k : Nat) (hk : k < l.length), p l[k] = true → (∀ j (hj : j < k), p (l[j]'(by omega)) = false) → l.findIdx p = k := by
  intro l
  induction l with
  | nil => intro k hk; simp at hk
  | cons a l ih =>
    intro k hk h1 h2
    rw [List.findIdx_cons]
    cases k with
    | zero => simp at h1; simp [h1]
    | succ k =>
      have h0 := h2 0 (by omega)
      simp at h0
      simp only [h0, cond_false]
      congr 1
      refine ih k (by simpa using hk) (by simpa using h1) fun j hj => ?_
      have := h2 (j + 1) (by omega)
      simpa using this

theorem asStep_rel {l : List Sp} (hl : SpRight l) {n i : Nat} (hn : n ≤ 15) (hi : i < l.length) {has : List Nat} {who out : List Int} (h : AsRel l n i has who) (ho : out.length = i) :
    AsRel l n (i + 1) (asStep l n (has, out) i).1 (rsStep l n (who, out) i).1 ∧ (asStep l n (has, out) i).2 = (rsStep l n (who, out) i).2 ∧ (rsStep l n (who, out) i).2.length = i + 1 := by
  obtain ⟨s1, s2, s3, s4, s5, s6, s7⟩ := asLoop_spec (l := l) (s := spAt l i) n has (-1) (spAt l i) (by rw [h.h1]; exact hn)
  have hdead := fun r hr => h.dead hi (r := r) hr
  -- what the loop has left, to the document's
  have hrel : ∀ r, r < n → (who.getD r 0 = -1 ∧ (asLoop l (spAt l i) n has (-1) (spAt l i)).1.getD r 0 = 0) ∨ ∃ k : Nat, k < i + 1 ∧ who.getD r 0 = (k : Int) ∧ ((asLoop l (spAt l i) n has (-1) (spAt l i)).1.getD r 0 = k + 1 ∨ ((asLoop l (spAt l i) n has (-1) (spAt l i)).1.getD r 0 = 0 ∧ ∀ j, i + 1 ≤ j → j < l.length → (spAt l k).fr ≤ (spAt l j).fr ∧ (spAt l k).to < (spAt l j).fr)) := by
    intro r hr
    by_cases hd : deadA l (spAt l i).fr (has.getD r 0)
    · have e := (s3 r hr).1 hd
      rcases h.rel r hr with ⟨e1, e2⟩ | ⟨k, hk, e1, e2⟩
      · exact .inl ⟨e1, e⟩
      · refine .inr ⟨k, by omega, e1, .inr ⟨e, fun j hj hj' => ?_⟩⟩
        have hdr := (hdead r hr).1 hd
        unfold deadR at hdr
        rw [e1] at hdr
        have hm := hl.mono i j (by omega) hj'
        have hm2 := hl.mono k i (by omega) hi
        have hdr' : (spAt l k).to < (spAt l i).fr := by
          rcases hdr with hdr | hdr
          · omega
          · simpa using hdr
        omega
    · have e := (s3 r hr).2 hd
      rcases h.rel r hr with ⟨e1, e2⟩ | ⟨k, hk, e1, e2 | ⟨e2, _⟩⟩
      · exact absurd (.inl e2) hd
      · exact .inr ⟨k, by omega, e1, .inl (by rw [e, e2])⟩
      · exact absurd (.inl e2) hd
  have hset : ∀ f : Nat, f < n → AsRel l n (i + 1) ((asLoop l (spAt l i) n has (-1) (spAt l i)).1.set f (i + 1)) (who.set f (i : Int)) := by
    intro f hf
    refine ⟨by rw [List.length_set, s1, h.h1], by rw [List.length_set, h.h2], fun r hr => ?_⟩
    rw [getD_set, getD_setZ, s1, h.h1, h.h2]
    by_cases e : f = r
    · rw [if_pos ⟨e, by omega⟩, if_pos ⟨e, by omega⟩]
      exact .inr ⟨i, by omega, rfl, .inl rfl⟩
    · rw [if_neg (fun h => e h.1), if_neg (fun h => e h.1)]
      exact hrel r hr
  unfold asStep rsStep
  dsimp only
  rcases s4 with ⟨r, hr, hr1, hr2, hr3⟩ | ⟨hr1, hr2⟩
  · rw [rsScan_dead ((hdead r hr).1 hr1) n 0 i (-1) (by omega) (by omega) fun r' _ h' => fun hd => hr2 r' h' ((hdead r' (by omega)).2 hd)]
    rw [hr3, if_pos (by omega), Int.toNat_natCast]
    exact ⟨hset r hr, rfl, by simp [ho]⟩
  · obtain ⟨w, a, e, e1, e2, e3⟩ := rsScan_live (l := l) (fr := (spAt l i).fr) (who := who) (i := i) n 0 i (-1) (fun r' _ h' hd => hr1 r' (by omega) ((hdead r' (by omega)).2 hd)) (.inl ⟨rfl, rfl⟩) (fun r' h' => absurd h' (by omega)) (spMore_irrefl _) (.inl ⟨rfl, rfl⟩)
    rw [e, hr2, if_neg (by omega)]
    dsimp only
    -- the entries of the registers
    have hent : ∀ r, r < n → ∃ k : Nat, k < i ∧ who.getD r 0 = (k : Int) ∧ has.getD r 0 = k + 1 ∧ (asLoop l (spAt l i) n has (-1) (spAt l i)).1.getD r 0 = k + 1 := by
      intro r hr
      have hd := hr1 r hr
      rcases h.rel r hr with ⟨e1, e2⟩ | ⟨k, hk, e1, e2 | ⟨e2, _⟩⟩
      · exact absurd (.inl e2) hd
      · exact ⟨k, hk, e1, e2, by rw [(s3 r hr).2 hd, e2]⟩
      · exact absurd (.inl e2) hd
    have hwlt : w < l.length ∧ w ≤ i := by
      rcases e1 with ⟨_, rfl⟩ | ⟨q1, q2, q3, _⟩
      · exact ⟨hi, Nat.le_refl _⟩
      · obtain ⟨k, hk, q, _⟩ := hent a.toNat (by omega)
        rw [q] at q3; omega
    -- the greatest is the same
    have hmax : (asLoop l (spAt l i) n has (-1) (spAt l i)).2.2 = spAt l w := by
      have hq : ∃ j, j < l.length ∧ (asLoop l (spAt l i) n has (-1) (spAt l i)).2.2 = spAt l j ∧ spMore (spAt l j) (spAt l w) = false := by
        rcases s5 with s5 | ⟨r, hr, _, s5⟩
        · exact ⟨i, hi, s5, e3⟩
        · obtain ⟨k, hk, q1, q2, _⟩ := hent r hr
          refine ⟨k, by omega, by rw [s5, q2]; rfl, ?_⟩
          have := e2 r (by omega)
          rwa [q1, Int.toNat_natCast] at this
      obtain ⟨j, hj, ej, hj2⟩ := hq
      have hw2 : spMore (spAt l w) (spAt l j) = false := by
        rw [← ej]
        rcases e1 with ⟨_, rfl⟩ | ⟨q1, q2, q3, _⟩
        · exact s7
        · obtain ⟨k, hk, t1, t2, _⟩ := hent a.toNat (by omega)
          have := s6 a.toNat (by omega) (hr1 _ (by omega))
          rw [t2] at this
          have ek : k = w := by rw [t1] at q3; omega
          subst ek; exact this
      have : (spAt l j).place = (spAt l w).place := by
        revert hj2 hw2
        unfold spMore
        simp only [Bool.or_eq_false_iff, Bool.and_eq_false_iff, decide_eq_false_iff_not]
        omega
      rw [ej, hl.apart j w hj hwlt.1 this]
    rw [hmax]
    rcases e1 with ⟨rfl, rfl⟩ | ⟨q1, q2, q3, q4, q5⟩
    · rw [if_pos rfl, if_pos (by omega)]
      exact ⟨⟨by rw [s1, h.h1], h.h2, hrel⟩, rfl, by simp [ho]⟩
    · have hwi : w ≠ i := by rintro rfl; rw [spMore_irrefl] at q5; cases q5
      have hne : spAt l w ≠ spAt l i := fun e => by rw [e, spMore_irrefl] at q5; cases q5
      rw [if_neg hne, if_neg (by omega)]
      have hf : asFind l (spAt l w) ((asLoop l (spAt l i) n has (-1) (spAt l i)).1.take n) = a.toNat := by
        unfold asFind
        have hlen : ((asLoop l (spAt l i) n has (-1) (spAt l i)).1.take n).length = n := by rw [List.length_take, s1, h.h1]; omega
        have hg : ∀ r (hr : r < n), ((asLoop l (spAt l i) n has (-1) (spAt l i)).1.take n)[r]'(by omega) = (asLoop l (spAt l i) n has (-1) (spAt l i)).1.getD r 0 := by
          intro r hr
          rw [List.getElem_take, List.getD_eq_getElem?_getD, List.getElem?_eq_getElem (by rw [s1, h.h1]; omega)]
          rfl
        refine findIdx_eq _ _ a.toNat (by omega) ?_ fun j hj => ?_
        · rw [hg _ (by omega)]
          obtain ⟨k, hk, t1, t2, t3⟩ := hent a.toNat (by omega)
          rw [t3]
          have ek : k = w := by rw [t1] at q3; omega
          subst ek; simp
        · rw [hg _ (by omega)]
          obtain ⟨k, hk, t1, t2, t3⟩ := hent j (by omega)
          rw [t3]
          have := q4 j hj
          rw [t1, Int.toNat_natCast] at this
          simp only [Nat.add_sub_cancel, decide_eq_false_iff_not]
          intro e; rw [e, spMore_irrefl] at this; cases this
      rw [hf]
      obtain ⟨k, hk, t1, t2, t3⟩ := hent a.toNat (by omega)
      have ek : k = w := by rw [t1] at q3; omega
      subst ek
      rw [t3]
      refine ⟨hset _ (by omega), ?_, by simp [ho]⟩
      rw [Int.toNat_of_nonneg q1]; rfl

theorem asRun_eq {l : List Sp} (hl : SpRight l) {n : Nat} (hn : n ≤ 15) : ∀ i, i ≤ l.length → AsRel l n i (asRun l n i).1 (rsRun l n i).1 ∧ (asRun l n i).2 = (rsRun l n i).2 ∧ (rsRun l n i).2.length = i := by
  intro i
  induction i with
  | zero =>
    intro _
    refine ⟨⟨by simp [asRun], by simp [rsRun], fun r hr => .inl ?_⟩, rfl, rfl⟩
    unfold asRun rsRun
    constructor
    · rw [List.getD_eq_getElem?_getD, List.getElem?_replicate, if_pos (by omega)]; rfl
    · rw [List.getD_eq_getElem?_getD, List.getElem?_replicate, if_pos (by omega)]; rfl
  | succ i ih =>
    intro hi
    obtain ⟨h1, h2, h3⟩ := ih (by omega)
    have := asStep_rel hl hn (show i < l.length by omega) h1 h3
    unfold asRun rsRun
    have e1 : asRun l n i = ((asRun l n i).1, (rsRun l n i).2) := by rw [← h2]
    rw [e1]
    exact this
end Go.Lm
/- The document's Spans: the plain law. -/
set_option linter.unusedSimpArgs false
set_option linter.unusedVariables false
namespace Go.Lm

theorem isSpan_op_no {A : List (List Int)} {L : List Int} {s : Sp} (h : s.place ∉ L) : IsSpan (A ++ [L]) s ↔ IsSpan A s := by
  have e : ∀ (k : Nat), (∃ l, (A ++ [L])[k]? = some l ∧ s.place ∈ l) ↔ ∃ l, A[k]? = some l ∧ s.place ∈ l := by
    intro k
    rw [getElem?_snoc]
    split
    · exact Iff.rfl
    · rename_i hk
      constructor
      · rintro ⟨l, h1, h2⟩
        split at h1
        · cases h1; exact absurd h2 h
        · cases h1
      · rintro ⟨l, h1, h2⟩
        rw [List.getElem?_eq_none (by omega)] at h1; cases h1
  have e2 : ∀ (i j : Nat) (p : Int) (nm : List (List Int)), (∀ (k : Nat) (l : List Int), nm[k]? = some l → p ∈ l → i ≤ k ∧ k ≤ j) ↔ ∀ k, (∃ l, nm[k]? = some l ∧ p ∈ l) → i ≤ k ∧ k ≤ j := by
    intro i j p nm
    exact ⟨fun h k ⟨l, h1, h2⟩ => h k l h1 h2, fun h k l h1 h2 => h k ⟨l, h1, h2⟩⟩
  unfold IsSpan
  simp only [e, e2]

theorem isSpan_op_first {A : List (List Int)} {L : List Int} {p : Int} (h1 : 1 ≤ p) (hp : p ∈ L) (hno : ∀ (k : Nat) (l : List Int), A[k]? = some l → p ∉ l) : IsSpan (A ++ [L]) ⟨p, A.length, A.length⟩ := by
  refine ⟨h1, A.length, A.length, rfl, rfl, ⟨L, by simp, hp⟩, ⟨L, by simp, hp⟩, fun k l hk hl => ?_⟩
  rw [getElem?_snoc] at hk
  split at hk
  · exact absurd hl (hno k l hk)
  · split at hk
    · omega
    · cases hk

theorem isSpan_op_last {A : List (List Int)} {L : List Int} {s : Sp} (h : IsSpan A s) (hp : s.place ∈ L) : IsSpan (A ++ [L]) { s with to := A.length } := by
  obtain ⟨h0, i, j, e1, e2, ⟨l1, h1, h2⟩, ⟨l2, h3, h4⟩, h5⟩ := h
  have hi := (List.getElem?_eq_some_iff.1 h1).1
  refine ⟨h0, i, A.length, e1, rfl, ⟨l1, by rw [getElem?_snoc, if_pos hi]; exact h1, h2⟩, ⟨L, by simp, hp⟩, fun k l hk hl => ?_⟩
  rw [getElem?_snoc] at hk
  split at hk
  · have := h5 k l hk hl; omega
  · split at hk
    · omega
    · cases hk

/-- the spans of the places below p -/
def SpBelow (nm : List (List Int)) (p : Int) (l : List Sp) : Prop := l.Pairwise spLt ∧ ∀ s, s ∈ l ↔ (IsSpan nm s ∧ s.place < p)

theorem SpBelow.start (nm : List (List Int)) : SpBelow nm 1 [] := by
  refine ⟨by simp, fun s => ⟨fun h => by simp at h, fun h => ?_⟩⟩
  have := h.1.1; have := h.2; omega
theorem SpBelow.skip {nm : List (List Int)} {p : Int} {l : List Sp} (h : SpBelow nm p l) (hno : ∀ (k : Nat) (L : List Int), nm[k]? = some L → p ∉ L) : SpBelow nm (p + 1) l := by
  refine ⟨h.1, fun s => (h.2 s).trans ⟨fun hs => ⟨hs.1, by omega⟩, fun hs => ⟨hs.1, ?_⟩⟩⟩
  rcases Int.lt_or_le s.place p with h' | h'
  · exact h'
  · have e : s.place = p := by have := hs.2; omega
    obtain ⟨_, i, j, _, _, ⟨L, h1, h2⟩, _⟩ := hs.1
    rw [e] at h2
    exact absurd h2 (hno i L h1)
theorem SpBelow.insert {nm : List (List Int)} {l : List Sp} {s : Sp} (h : SpBelow nm s.place l) (hs : IsSpan nm s) {k : Nat} (hk : k ≤ l.length) (h1 : ∀ (j : Nat) (t : Sp), k ≤ j → l[j]? = some t → s.fr < t.fr) (h2 : k = 0 ∨ ∃ t, l[k - 1]? = some t ∧ t.fr ≤ s.fr) :
    SpBelow nm (s.place + 1) (l.take k ++ s :: l.drop k) := by
  constructor
  · rw [List.pairwise_append]
    refine ⟨h.1.sublist (List.take_sublist _ _), ?_, fun a ha b hb => ?_⟩
    · rw [List.pairwise_cons]
      refine ⟨fun t ht => ?_, h.1.sublist (List.drop_sublist _ _)⟩
      obtain ⟨j, hj⟩ := List.mem_iff_getElem?.1 ht
      rw [List.getElem?_drop] at hj
      exact .inl (h1 _ t (by omega) hj)
    · -- what stands ahead
      have hal : a ∈ l := List.mem_of_mem_take ha
      have hap := ((h.2 a).1 hal).2
      have hafr : a.fr ≤ s.fr := by
        rcases h2 with h2 | ⟨t, ht, htf⟩
        · subst h2; simp at ha
        · obtain ⟨j, hj⟩ := List.mem_iff_getElem?.1 ha
          rw [List.getElem?_take] at hj
          split at hj
          · rename_i hjk
            obtain ⟨hj1, hj2⟩ := List.getElem?_eq_some_iff.1 hj
            obtain ⟨ht1, ht2⟩ := List.getElem?_eq_some_iff.1 ht
            by_cases e : j = k - 1
            · subst e; rw [hj] at ht; cases ht; exact htf
            · have := List.pairwise_iff_getElem.1 h.1 j (k - 1) hj1 ht1 (by omega)
              rw [hj2, ht2] at this
              unfold spLt at this
              omega
          · cases hj
      rcases List.mem_cons.1 hb with rfl | hb
      · unfold spLt; omega
      · obtain ⟨j, hj⟩ := List.mem_iff_getElem?.1 hb
        rw [List.getElem?_drop] at hj
        have := h1 _ b (by omega) hj
        exact .inl (by omega)
  · intro t
    have hm : t ∈ l.take k ++ s :: l.drop k ↔ t = s ∨ t ∈ l := by
      rw [List.mem_append, List.mem_cons]
      constructor
      · rintro (h | h | h)
        · exact .inr (List.mem_of_mem_take h)
        · exact .inl h
        · exact .inr (List.mem_of_mem_drop h)
      · rintro (h | h)
        · exact .inr (.inl h)
        · rw [← List.take_append_drop k l, List.mem_append] at h
          rcases h with h | h
          · exact .inl h
          · exact .inr (.inr h)
    rw [hm]
    constructor
    · rintro (rfl | ht)
      · exact ⟨hs, by omega⟩
      · have := (h.2 t).1 ht; exact ⟨this.1, by omega⟩
    · rintro ⟨ht1, ht2⟩
      rcases Int.lt_or_le t.place s.place with h' | h'
      · exact .inr ((h.2 t).2 ⟨ht1, h'⟩)
      · exact .inl (IsSpan.uniq ht1 hs (by omega))
theorem SpBelow.done {nm : List (List Int)} {l : List Sp} (h : SpBelow nm 64 l) (hnm : ∀ (k : Nat) (L : List Int), nm[k]? = some L → ∀ p ∈ L, p ≤ 63) : SpansR nm l := by
  refine ⟨h.1, fun s => (h.2 s).trans ⟨fun h => h.1, fun hs => ⟨hs, ?_⟩⟩⟩
  obtain ⟨_, i, j, _, _, ⟨L, h1, h2⟩, _⟩ := hs
  have := hnm i L h1 _ h2
  omega
end Go.Lm
