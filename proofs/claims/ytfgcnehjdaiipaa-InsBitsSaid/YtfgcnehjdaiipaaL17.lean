/- The rule of a region that draws its order. -/
import Derived.Test.YtfgcnehjdaiipaaL16
namespace Go.Lm

section

theorem sE_other {b : Bool} {d : DRes} {e : Env} {t : Nat} (h : d.dst ≠ some t) : elook (sE b d e) t = elook e t := by
  unfold sE
  split
  · rename_i s hs
    simp only [elook]
    rw [if_neg (fun e => h (by rw [hs, e]))]
  · rfl

theorem sE_same {d : DRes} {e : Env} {t : Nat} (h : d.dst = some t) : elook (sE true d e) t = some d.val := by
  simp only [sE, h, elook, if_true]

theorem sE_false (d : DRes) (e : Env) : sE false d e = e := rfl
theorem sM_false (d : DRes) (m : Mem) : sM false d m = m := rfl

theorem sE_congr {b : Bool} {d : DRes} {e e' : Env} {t : Nat} (h : elook e t = elook e' t) : elook (sE b d e) t = elook (sE b d e') t := by
  by_cases ht : d.dst = some t
  · cases b
    · exact h
    · rw [sE_same ht, sE_same ht]
  · rw [sE_other ht, sE_other ht, h]

theorem sM_get (b : Bool) (d : DRes) (m : Mem) : (sM b d m).get = match b, d.new with
    | true, some o => Mset m.get d.kid o
    | _, _ => m.get := by
  unfold sM
  cases b with
  | false => rfl
  | true =>
    cases d.new with
    | none => rfl
    | some o => exact Mem.get_put _ _ _

theorem sM_none {d : DRes} (h : d.new = none) (b : Bool) (m : Mem) : sM b d m = m := by
  unfold sM; rw [h]; cases b <;> rfl

/-- Two stages look alike at a slot that what parts them does not write. -/
theorem senv_agree (on on' : Nat → Bool) (t : Nat) : ∀ (D : List DRes) (i : Nat) (env env' : Env), elook env t = elook env' t →
    (∀ (j : Nat) (d : DRes), D[j]? = some d → on (i + j) ≠ on' (i + j) → d.dst ≠ some t) → elook (senv on i D env) t = elook (senv on' i D env') t
  | [], i, env, env', h, _ => h
  | d :: r, i, env, env', h, hd => by
    simp only [senv]
    refine senv_agree on on' t r (i + 1) _ _ ?_ (fun j d' hj hne => hd (j + 1) d' (by simpa using hj) (by rwa [show i + (j + 1) = i + 1 + j by omega]))
    have h0 := hd 0 d (by simp)
    rw [Nat.add_zero] at h0
    by_cases hon : on i = on' i
    · rw [hon]; exact sE_congr h
    · rw [sE_other (h0 hon), sE_other (h0 hon), h]

theorem senv_none : ∀ (D : List DRes) (i : Nat) (e : Env), senv (fun _ => false) i D e = e
  | [], _, _ => rfl
  | d :: r, i, e => by simp only [senv, sE_false]; exact senv_none r (i + 1) e

theorem senv_set (on : Nat → Bool) (t : Nat) : ∀ (D : List DRes) (i k : Nat) (d : DRes) (env : Env), D[k]? = some d → on (i + k) = false →
    (∀ (j : Nat) (d' : DRes), k < j → D[j]? = some d' → on (i + j) = true → d'.dst = some t → d.dst ≠ some t) →
    elook (senv (fun j => decide (j = i + k) || on j) i D env) t = if d.dst = some t then some d.val else elook (senv on i D env) t
  | [], i, k, d, env, h, _, _ => by simp at h
  | d0 :: r, i, 0, d, env, h, hon, hl => by
    simp only [List.getElem?_cons_zero, Option.some.injEq] at h
    subst h
    rw [Nat.add_zero] at hon
    simp only [senv, Nat.add_zero, decide_true, Bool.true_or, hon, sE_false]
    by_cases ht : d0.dst = some t
    · rw [if_pos ht]
      have := senv_agree (fun j => decide (j = i) || on j) (fun _ => false) t r (i + 1) (sE true d0 env) (sE true d0 env) rfl (fun j d' hj hne => by
        intro hdt
        have hlt : on (i + (j + 1)) = true := by
          have e : (decide (i + 1 + j = i)) = false := by simp; omega
          simp only [e, Bool.false_or] at hne
          rw [show i + (j + 1) = i + 1 + j by omega]
          simpa using hne
        exact hl (j + 1) d' (by omega) (by simpa using hj) hlt hdt ht)
      rw [this, senv_none]
      exact sE_same ht
    · rw [if_neg ht]
      refine senv_agree _ _ t r (i + 1) _ _ (sE_other ht) (fun j d' hj hne => ?_)
      exfalso
      apply hne
      have e : (decide (i + 1 + j = i)) = false := by simp; omega
      simp [e]
  | d0 :: r, i, k + 1, d, env, h, hon, hl => by
    simp only [senv]
    have e : (decide (i = i + (k + 1)) || on i) = on i := by
      have : decide (i = i + (k + 1)) = false := by simp
      rw [this, Bool.false_or]
    rw [e]
    have := senv_set on t r (i + 1) k d (sE (on i) d0 env) (by simpa using h) (by rwa [show i + 1 + k = i + (k + 1) by omega]) (fun j d' hj hd ho => hl (j + 1) d' (by omega) (by simpa using hd) (by rwa [show i + (j + 1) = i + 1 + j by omega]))
    rw [show i + 1 + k = i + (k + 1) by omega] at this
    exact this

/-- the new objects' numbers are free, and no two are one -/
def KidsOk (M : Nat → Ob) (D : List DRes) : Prop :=
  (∀ (j : Nat) (d : DRes) (o : Ob), D[j]? = some d → d.new = some o → M d.kid = .free) ∧
  (∀ (j j' : Nat) (d d' : DRes) (o o' : Ob), D[j]? = some d → D[j']? = some d' → d.new = some o → d'.new = some o' → j ≠ j' → d.kid ≠ d'.kid)

theorem KidsOk.tail {M : Nat → Ob} {d : DRes} {r : List DRes} (h : KidsOk M (d :: r)) : KidsOk M r :=
  ⟨fun j d' o hj hn => h.1 (j + 1) d' o (by simpa using hj) hn, fun j j' d1 d2 o o' h1 h2 h3 h4 hne => h.2 (j + 1) (j' + 1) d1 d2 o o' (by simpa using h1) (by simpa using h2) h3 h4 (by omega)⟩

theorem KidsOk.put {M : Nat → Ob} {d : DRes} {r : List DRes} {o : Ob} (h : KidsOk M (d :: r)) (hn : d.new = some o) (ob : Ob) : KidsOk (Mset M d.kid ob) r := by
  refine ⟨fun j d' o' hj hn' => ?_, h.tail.2⟩
  have hne := h.2 0 (j + 1) d d' o o' (by simp) (by simpa using hj) hn hn' (by omega)
  rw [Mset_ne M _ (Ne.symm hne)]
  exact h.tail.1 j d' o' hj hn'

theorem KidsOk.sM {m : Mem} {d : DRes} {r : List DRes} (h : KidsOk m.get (d :: r)) (b : Bool) : KidsOk (sM b d m).get r := by
  rw [sM_get]
  split
  · rename_i o hn; exact h.put hn o
  · exact h.tail

theorem smem_le (on on' : Nat → Bool) : ∀ (D : List DRes) (i : Nat) (m m' : Mem), (∀ j, on j = true → on' j = true) → Mle m.get m'.get → KidsOk m.get D → Mle (smem on i D m).get (smem on' i D m').get
  | [], _, _, _, _, h, _ => h
  | d :: r, i, m, m', hon, h, hk => by
    simp only [smem]
    refine smem_le on on' r (i + 1) _ _ hon ?_ (hk.sM _)
    rw [sM_get, sM_get]
    cases hn : d.new with
    | none => cases on i <;> cases on' i <;> exact h
    | some o =>
      have hfree := hk.1 0 d o (by simp) hn
      cases h1 : on i with
      | true =>
        rw [hon i h1]
        intro k hk'
        simp only at hk' ⊢
        by_cases e : k = d.kid
        · subst e; rw [Mset_same, Mset_same]
        · rw [Mset_ne _ _ e] at hk' ⊢; rw [Mset_ne _ _ e]; exact h k hk'
      | false =>
        cases h2 : on' i with
        | false => exact h
        | true =>
          intro k hk'
          simp only at hk' ⊢
          by_cases e : k = d.kid
          · subst e; exact absurd hfree hk'
          · rw [Mset_ne _ _ e]; exact h k hk'

theorem smem_keep (on : Nat → Bool) (k : Nat) : ∀ (r : List DRes) (i : Nat) (m : Mem), (∀ (j : Nat) (d' : DRes) (o' : Ob), r[j]? = some d' → d'.new = some o' → k ≠ d'.kid) → (smem on i r m).get k = m.get k
  | [], _, _, _ => rfl
  | d1 :: r, i, m, hne => by
    simp only [smem]
    rw [smem_keep on k r (i + 1) _ (fun j d' o' hj hn' => hne (j + 1) d' o' (by simpa using hj) hn'), sM_get]
    cases hn1 : d1.new with
    | none => cases on i <;> rfl
    | some o1 =>
      cases on i with
      | false => rfl
      | true => exact Mset_ne _ _ (hne 0 d1 o1 (by simp) hn1)

theorem smem_free (on : Nat → Bool) : ∀ (D : List DRes) (i j : Nat) (m : Mem) (d : DRes) (o : Ob), KidsOk m.get D → D[j]? = some d → d.new = some o → on (i + j) = false → (smem on i D m).get d.kid = .free
  | [], _, _, _, _, _, _, h, _, _ => by simp at h
  | d0 :: r, i, 0, m, d, o, hk, h, hn, hon => by
    simp only [List.getElem?_cons_zero, Option.some.injEq] at h
    subst h
    rw [Nat.add_zero] at hon
    simp only [smem, hon, sM_false]
    rw [smem_keep on d0.kid r (i + 1) m fun j d' o' hj hn' => hk.2 0 (j + 1) d0 d' o o' (by simp) (by simpa using hj) hn hn' (by omega)]
    exact hk.1 0 d0 o (by simp) hn
  | d0 :: r, i, j + 1, m, d, o, hk, h, hn, hon => by
    simp only [smem]
    exact smem_free on r (i + 1) j _ d o (hk.sM _) (by simpa using h) hn (by rwa [show i + 1 + j = i + (j + 1) by omega])

theorem smem_congr (on on' : Nat → Bool) : ∀ (D : List DRes) (i : Nat) (m m' : Mem), m.get = m'.get → (∀ (j : Nat) (d : DRes) (o : Ob), D[j]? = some d → d.new = some o → on (i + j) = on' (i + j)) → (smem on i D m).get = (smem on' i D m').get
  | [], _, _, _, h, _ => h
  | d :: r, i, m, m', h, hon => by
    simp only [smem]
    refine smem_congr on on' r (i + 1) _ _ ?_ (fun j d' o hj hn => by have := hon (j + 1) d' o (by simpa using hj) hn; rwa [show i + (j + 1) = i + 1 + j by omega] at this)
    rw [sM_get, sM_get, h]
    cases hn : d.new with
    | none => cases on i <;> cases on' i <;> rfl
    | some o =>
      have := hon 0 d o (by simp) hn
      rw [Nat.add_zero] at this
      rw [this]

theorem Mset_comm (M : Nat → Ob) {k k' : Nat} (o o' : Ob) (h : k ≠ k') : Mset (Mset M k o) k' o' = Mset (Mset M k' o') k o := by
  funext j
  simp only [Mset]
  by_cases h1 : j = k
  · by_cases h2 : j = k'
    · omega
    · simp [h1]; intro e; omega
  · simp [h1]

theorem smem_put (on : Nat → Bool) (k : Nat) (o : Ob) : ∀ (r : List DRes) (i : Nat) (m : Mem), (∀ (j : Nat) (d' : DRes) (o' : Ob), r[j]? = some d' → d'.new = some o' → k ≠ d'.kid) → (smem on i r (m.put k o)).get = Mset (smem on i r m).get k o
  | [], _, m, _ => Mem.get_put _ _ _
  | d1 :: r, i, m, hne => by
    simp only [smem]
    rw [← smem_put on k o r (i + 1) _ (fun j d' o' hj hn' => hne (j + 1) d' o' (by simpa using hj) hn')]
    refine smem_congr on on r (i + 1) _ _ ?_ (fun _ _ _ _ _ => rfl)
    rw [sM_get, Mem.get_put, Mem.get_put, sM_get]
    cases hn1 : d1.new with
    | none => cases on i <;> rfl
    | some o1 =>
      cases on i with
      | false => rfl
      | true => exact Mset_comm _ _ _ (hne 0 d1 o1 (by simp) hn1)

theorem smem_set (on : Nat → Bool) : ∀ (D : List DRes) (i k : Nat) (m : Mem) (d : DRes), KidsOk m.get D → D[k]? = some d → on (i + k) = false →
    (smem (fun j => decide (j = i + k) || on j) i D m).get = match d.new with | some o => Mset (smem on i D m).get d.kid o | none => (smem on i D m).get
  | [], _, _, _, _, _, h, _ => by simp at h
  | d0 :: r, i, 0, m, d, hk, h, hon => by
    simp only [List.getElem?_cons_zero, Option.some.injEq] at h
    subst h
    rw [Nat.add_zero] at hon
    simp only [smem, Nat.add_zero, decide_true, Bool.true_or, hon, sM_false]
    have hc := fun m' : Mem => smem_congr (fun j => decide (j = i) || on j) on r (i + 1) m' m' rfl fun j d' o hj _ => by
      have e : (decide (i + 1 + j = i)) = false := by simp; omega
      simp [e]
    rw [hc]
    cases hn : d0.new with
    | none => simp only; rw [sM_none hn]
    | some o =>
      simp only
      have : sM true d0 m = m.put d0.kid o := by simp only [sM, hn]
      rw [this]
      exact smem_put on d0.kid o r (i + 1) m fun j d' o' hj hn' => hk.2 0 (j + 1) d0 d' o o' (by simp) (by simpa using hj) hn hn' (by omega)
  | d0 :: r, i, k + 1, m, d, hk, h, hon => by
    simp only [smem]
    have e : (decide (i = i + (k + 1)) || on i) = on i := by
      have : decide (i = i + (k + 1)) = false := by simp
      rw [this, Bool.false_or]
    rw [e]
    have := smem_set on r (i + 1) k (sM (on i) d0 m) d (hk.sM _) (by simpa using h) (by rwa [show i + 1 + k = i + (k + 1) by omega])
    rw [show i + 1 + k = i + (k + 1) by omega] at this
    exact this
end

/-- What the walk over the first s has found of operation number i. -/
def OpFact (P : Program) (N : Nat) (ops : Array Oper) (env : Env) (m : Mem) (D : List DRes) (i : Nat) (o : Oper) (d : DRes) : Prop :=
  d.dst = o.dst ∧ okDst N o = true ∧
  ((guardQ ops.toList (senv (bit ((Region.before ops).getD i 0)) 0 D env) o = some false ∧ d.val = undef ∧ d.new = none) ∨
   (guardQ ops.toList (senv (bit ((Region.before ops).getD i 0)) 0 D env) o = some true ∧
    ((∃ g vs, goCall (senv (bit ((Region.before ops).getD i 0)) 0 D env) o.op = some (g, vs) ∧
        ((d.new = none ∧ PureC P g vs (smem (bit ((Region.before ops).getD i 0)) 0 D m) d.val) ∨ (∃ ob, d.new = some ob ∧ NewC P g vs (smem (bit ((Region.before ops).getD i 0)) 0 D m) d.kid d.val ob))) ∨
     (goCall (senv (bit ((Region.before ops).getD i 0)) 0 D env) o.op = none ∧ lop P (senv (bit ((Region.before ops).getD i 0)) 0 D env) (smem (bit ((Region.before ops).getD i 0)) 0 D m).get d.kid o.op = some { val := d.val, new := d.new, mods := [] }))))

theorem senv_take (on : Nat → Bool) : ∀ (D : List DRes) (E : List DRes) (i : Nat) (env : Env), (∀ j, i + D.length ≤ j → on j = false) → senv on i (D ++ E) env = senv on i D env
  | [], [], _, _, _ => rfl
  | [], e :: E, i, env, h => by
    simp only [List.nil_append, senv, h i (by simp), sE_false]
    exact senv_take on [] E (i + 1) env fun j hj => h j (by simp at hj ⊢; omega)
  | d :: D, E, i, env, h => by
    simp only [List.cons_append, senv]
    exact senv_take on D E (i + 1) _ fun j hj => h j (by simp at hj ⊢; omega)

theorem smem_take (on : Nat → Bool) : ∀ (D : List DRes) (E : List DRes) (i : Nat) (m : Mem), (∀ j, i + D.length ≤ j → on j = false) → smem on i (D ++ E) m = smem on i D m
  | [], [], _, _, _ => rfl
  | [], e :: E, i, m, h => by
    simp only [List.nil_append, smem, h i (by simp), sM_false]
    exact smem_take on [] E (i + 1) m fun j hj => h j (by simp at hj ⊢; omega)
  | d :: D, E, i, m, h => by
    simp only [List.cons_append, smem]
    exact smem_take on D E (i + 1) _ fun j hj => h j (by simp at hj ⊢; omega)

end Go.Lm
