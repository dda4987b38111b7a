/- The rule of a region that draws its order. -/
import Derived.Test.YtfgcnehjdaiipaaL18
namespace Go.Lm

section
variable {P : Program} {N : Nat} {ops : Array Oper} {s : Nat} {env : Env} {m : Mem} {K : Env → Mem → Prop}

structure DrawOk (ops : Array Oper) (s : Nat) : Prop where
  low : Lower ops
  apart : ∀ i j, i < s → j < s → j ≠ i → ((Region.before ops).getD i 0).testBit j = false → ((Region.before ops).getD j 0).testBit i = false → ∀ oi oj d, ops[i]? = some oi → ops[j]? = some oj → oj.dst = some d → d ∉ oi.looksAt ops ∧ oi.dst ≠ some d
  tail : ∀ i, s ≤ i → i < ops.size → ∀ j, j < i → ((Region.before ops).getD i 0).testBit j = true

theorem drawOk_spec (h : drawOk ops s = true) : DrawOk ops s := by
  unfold drawOk at h
  simp only [Bool.and_eq_true, List.all_eq_true, List.mem_range] at h
  obtain ⟨⟨h1, h2⟩, h3⟩ := h
  refine ⟨fun i o ho e he hb => ?_, fun i j hi hj hne hb hb' oi oj d hoi hoj hd => ?_, fun i hs hi j hj => ?_⟩
  · have hi : i < ops.size := by
      rcases Nat.lt_or_ge i ops.size with h' | h'
      · exact h'
      · rw [Array.getElem?_eq_none h'] at ho; cases ho
    have := h1 i hi
    rw [ho] at this
    simp only [Option.map_some, Option.getD_some, Array.all_eq_true_iff_forall_mem] at this
    have := this e he
    rw [hb] at this
    simpa using this
  · have := h2 i hi j hj
    rw [hb, hb', hoi, hoj] at this
    simp only [Option.bind_some, hd, Bool.or_false, Bool.or_eq_true, beq_iff_eq] at this
    rcases this with h' | h'
    · exact absurd h' hne
    · simp only [Bool.and_eq_true, Bool.not_eq_true', bne_iff_ne] at h'
      exact ⟨by simpa using h'.1, h'.2⟩
  · have := h3 i hi
    simp only [Bool.or_eq_true, decide_eq_true_iff] at this
    rcases this with h' | h'
    · omega
    · rw [List.all_eq_true] at h'
      exact h' j (List.mem_range.2 hj)

/-- One operation of the first s, wherever its turn comes. -/
theorem stable_step (hD : DrawOk ops s) {D : List DRes} {kid' : Nat} (hku : KidsUp m.top kid' D) (hDs : D.length ≤ s)
    (hf : ∀ (j : Nat) (o : Oper) (d : DRes), ops[j]? = some o → D[j]? = some d → OpFact P N ops env m (D.take j) j o d)
    {listed : Array Bool} (hsz : listed.size = ops.size) (hc : Closed ops listed) {i : Nat} {o : Oper} {d : DRes} (ho : ops[i]? = some o) (hd : D[i]? = some d)
    (hun : onL listed i = false) (hedge : ∀ e ∈ o.after, Region.binds .any e = true → onL listed e.on = true)
    {σ : Sg} {a : Act} {w : World} (hR : Rep σ (smem (onL listed) 0 D m).get w) (hE : EnvRel σ (senv (onL listed) 0 D env) a.tmps) (hN : a.tmps.size = N)
    {Q : Exit → Act → World → Prop} {Kn : Act → World → Prop}
    (hK : ∀ σ' a' w', Rep σ' (smem (onL (listed.setIfInBounds i true)) 0 D m).get w' → EnvRel σ' (senv (onL (listed.setIfInBounds i true)) 0 D env) a'.tmps → a'.tmps.size = N → a'.defers = a.defers →
      Fr σ (smem (onL listed) 0 D m).get w σ' (smem (onL (listed.setIfInBounds i true)) 0 D m).get w' → Kn a' w') :
    wpOp P ops Q i Kn a w := by
  have hi : i < ops.size := by
    rcases Nat.lt_or_ge i ops.size with h' | h'
    · exact h'
    · rw [Array.getElem?_eq_none h'] at ho; cases ho
  have hiD : i < D.length := by
    rcases Nat.lt_or_ge i D.length with h' | h'
    · exact h'
    · rw [List.getElem?_eq_none h'] at hd; cases hd
  have hon' : onL (listed.setIfInBounds i true) = fun j => decide (j = 0 + i) || onL listed j := by
    funext j; rw [onL_set (by omega), Nat.zero_add]
  have hbits : ∀ j, bit ((Region.before ops).getD i 0) j = true → onL listed j = true ∧ j < i := fun j hj => ahead_listed hD.low hc i o ho hedge j hj
  -- the fact, over the whole list
  have hfact := hf i o d ho hd
  have htk : ∀ j, 0 + (D.take i).length ≤ j → bit ((Region.before ops).getD i 0) j = false := fun j hj => by
    cases hb : bit ((Region.before ops).getD i 0) j with
    | false => rfl
    | true => have := (hbits j hb).2; rw [List.length_take] at hj; omega
  have e1 : senv (bit ((Region.before ops).getD i 0)) 0 D env = senv (bit ((Region.before ops).getD i 0)) 0 (D.take i) env := by
    conv => lhs; rw [← List.take_append_drop i D]
    exact senv_take _ _ _ 0 env htk
  have e2 : smem (bit ((Region.before ops).getD i 0)) 0 D m = smem (bit ((Region.before ops).getD i 0)) 0 (D.take i) m := by
    conv => lhs; rw [← List.take_append_drop i D]
    exact smem_take _ _ _ 0 m htk
  unfold OpFact at hfact
  rw [← e1, ← e2] at hfact
  -- what is listed and what is ahead look alike to it
  have hother : ∀ j d', D[j]? = some d' → onL listed j = true → bit ((Region.before ops).getD i 0) j = false → ∀ oj t, ops[j]? = some oj → oj.dst = some t → t ∉ o.looksAt ops ∧ o.dst ≠ some t := by
    intro j d' hj hon hb oj t hoj ht
    have hjD : j < D.length := by
      rcases Nat.lt_or_ge j D.length with h' | h'
      · exact h'
      · rw [List.getElem?_eq_none h'] at hj; cases hj
    refine hD.apart i j (by omega) (by omega) (fun e => by rw [e, hun] at hon; cases hon) hb ?_ o oj t ho hoj ht
    cases hbj : ((Region.before ops).getD j 0).testBit i with
    | false => rfl
    | true =>
      have := (ahead_listed hD.low hc j oj hoj (fun e he hb => hc j oj hoj hon e he hb) i hbj).1
      rw [hun] at this
      cases this
  have dstOf : ∀ j d' , D[j]? = some d' → onL listed j = true → ∃ oj, ops[j]? = some oj ∧ d'.dst = oj.dst := by
    intro j d' hj hon
    have hjs : j < ops.size := by
      rcases Nat.lt_or_ge j ops.size with h' | h'
      · exact h'
      · simp only [onL, Array.getD_eq_getD_getElem?] at hon
        rw [Array.getElem?_eq_none (by omega)] at hon
        cases hon
    exact ⟨ops[j], Array.getElem?_eq_getElem hjs, (hf j _ d' (Array.getElem?_eq_getElem hjs) hj).1⟩
  have hlook : ∀ t ∈ o.looksAt ops, elook (senv (onL listed) 0 D env) t = elook (senv (bit ((Region.before ops).getD i 0)) 0 D env) t := by
    intro t ht
    refine senv_agree _ _ t D 0 env env rfl fun j d' hj hne hdt => ?_
    rw [Nat.zero_add] at hne
    have hon : onL listed j = true := by
      cases h1 : onL listed j with
      | true => rfl
      | false =>
        cases h2 : bit ((Region.before ops).getD i 0) j with
        | false => rw [h1, h2] at hne; exact absurd rfl hne
        | true => have := (hbits j h2).1; rw [h1] at this; cases this
    have hb : bit ((Region.before ops).getD i 0) j = false := by
      cases h2 : bit ((Region.before ops).getD i 0) j with
      | false => rfl
      | true => rw [hon, h2] at hne; exact absurd rfl hne
    obtain ⟨oj, hoj, hdst⟩ := dstOf j d' hj hon
    exact (hother j d' hj hon hb oj t hoj (by rw [← hdst]; exact hdt)).1 ht
  have hkids := hku.ok
  have hle : Mle (smem (bit ((Region.before ops).getD i 0)) 0 D m).get (smem (onL listed) 0 D m).get := smem_le _ _ D 0 m m (fun j hj => (hbits j hj).1) (fun _ _ => rfl) hkids
  -- what its end leaves
  have hput : ∀ (σ' : Sg) (rv : Value), σ.le σ' → vRel σ' d.val rv → EnvRel σ' (senv (onL (listed.setIfInBounds i true)) 0 D env) (a.put o.dst rv).tmps ∧ (a.put o.dst rv).tmps.size = N ∧ (a.put o.dst rv).defers = a.defers := by
    intro σ' rv hσ hv
    obtain ⟨hdo, hdst, _⟩ := hfact
    have hset := fun t => senv_set (onL listed) t D 0 i d env hd (by rw [Nat.zero_add]; exact hun) (fun j d' hij hj hon hdt => by
      rw [Nat.zero_add] at hon
      obtain ⟨oj, hoj, hdst'⟩ := dstOf j d' hj hon
      have hb : bit ((Region.before ops).getD i 0) j = false := by
        cases h2 : bit ((Region.before ops).getD i 0) j with
        | false => rfl
        | true => have := (hbits j h2).2; omega
      rw [hdo]
      exact (hother j d' hj hon hb oj t hoj (by rw [← hdst']; exact hdt)).2)
    rw [hon']
    cases hod : o.dst with
    | none =>
      refine ⟨fun t v ht => ?_, hN, rfl⟩
      rw [hset t, hdo, hod, if_neg (by simp)] at ht
      exact (hE.mono hσ) t v ht
    | some q =>
      have hq : q < N := by simpa [okDst, hod] using hdst
      refine ⟨fun t v ht => ?_, by simp [Act.put, hN], rfl⟩
      rw [hset t, hdo, hod] at ht
      by_cases e : q = t
      · subst e
        rw [if_pos rfl] at ht
        cases ht
        exact ⟨rv, by simp only [Act.put]; rw [Array.getElem?_setIfInBounds_self_of_lt (by rw [hN]; exact hq)], hv⟩
      · rw [if_neg (by simpa using e)] at ht
        obtain ⟨ru, h1, h2⟩ := (hE.mono hσ) t v ht
        exact ⟨ru, by simp only [Act.put]; rw [Array.getElem?_setIfInBounds_ne e]; exact h1, h2⟩
  have hmem : (smem (onL (listed.setIfInBounds i true)) 0 D m).get = match d.new with | some ob => Mset (smem (onL listed) 0 D m).get d.kid ob | none => (smem (onL listed) 0 D m).get := by
    rw [hon']
    exact smem_set (onL listed) D 0 i m d hkids hd (by rw [Nat.zero_add]; exact hun)
  unfold wpOp
  rw [ho]
  simp only
  obtain ⟨hdo, hdst, ⟨hg, hval, hnew⟩ | ⟨hg, hrest⟩⟩ := hfact
  · -- its guard says no
    have hg' : guardQ ops.toList (senv (onL listed) 0 D env) o = some false := by rw [guardQ_same hlook]; exact hg
    have hw := guardQ_sound hg' hE
    rw [Array.toArray_toList] at hw
    rw [hw]
    simp only [Bool.false_eq_true, if_false]
    have hu : vRel σ d.val undef := by rw [hval]; exact ⟨#[], rfl, aaRel.nil _⟩
    obtain ⟨g1, g2, g3⟩ := hput σ undef (.refl _) hu
    rw [hnew] at hmem
    exact hK σ _ w (by rw [hmem]; exact hR) g1 g2 g3 (by rw [hmem]; exact .refl _ _ _)
  · have hg' : guardQ ops.toList (senv (onL listed) 0 D env) o = some true := by rw [guardQ_same hlook]; exact hg
    have hw := guardQ_sound hg' hE
    rw [Array.toArray_toList] at hw
    rw [hw]
    simp only [if_true]
    refine .inl ?_
    have hev := ev_same hlook
    rcases hrest with ⟨g, vs, hcall, hcase⟩ | ⟨hcall, hl⟩
    · -- a call
      have hcall' := goCall_same hev hcall
      obtain ⟨c, rs, hop, ha, hrun⟩ := goCall_sound (P := P) hcall' hE
      have htc : TC P g vs (smem (onL listed) 0 D m) fun u m'' => u = d.val ∧ m''.get = (smem (onL (listed.setIfInBounds i true)) 0 D m).get := by
        rcases hcase with ⟨hnew, hp⟩ | ⟨ob, hnew, hp⟩
        · refine (hp _ hle).mono fun u m'' ⟨h1, h2⟩ => ⟨h1, ?_⟩
          rw [hmem, hnew, h2]
        · refine (hp _ hle (smem_free (onL listed) D 0 i m d ob hkids hd hnew (by rw [Nat.zero_add]; exact hun))).mono fun u m'' ⟨h1, h2⟩ => ⟨h1, ?_⟩
          rw [hmem, hnew, h2, Mem.get_put]
      unfold Oper.wp execOp
      rw [hop]
      simp only
      rw [hrun]
      rcases htc σ w rs hR ha with ⟨h1, h2⟩ | ⟨rv, w', h1, v, rv', m', σ', e3, ⟨rfl, e4⟩, hR', hv, hF⟩
      · rw [h1]
        simp only [Oper.upon]
        refine h2.mono ?_
        rintro e w' ⟨v, rv, m', σ', rfl, ⟨rfl, e4⟩, hR', hv, hF⟩
        obtain ⟨g1, g2, g3⟩ := hput σ' rv hF.ext hv
        rw [e4] at hR' hF
        exact hK σ' _ w' hR' g1 g2 g3 hF
      · rw [h1]
        simp only [Oper.upon]
        cases e3
        obtain ⟨g1, g2, g3⟩ := hput σ' rv hF.ext hv
        rw [e4] at hR' hF
        exact hK σ' _ w' hR' g1 g2 g3 hF
    · -- another operation
      have hl' : lop P (senv (onL listed) 0 D env) (smem (onL listed) 0 D m).get d.kid o.op = some { val := d.val, new := d.new, mods := [] } := lop_mono hle hev rfl hl
      have hran : Ran σ (smem (onL listed) 0 D m).get w (match d.new with | some _ => d.kid | none => (smem (onL listed) 0 D m).top) ((execOp a.eval o).run P w) { val := d.val, new := d.new, mods := [] } := by
        cases hn : d.new with
        | some ob =>
          rw [hn] at hl'
          exact lop_sound hR hE (smem_free (onL listed) D 0 i m d ob hkids hd hn (by rw [Nat.zero_add]; exact hun)) o hl'
        | none =>
          rw [hn] at hl'
          exact lop_sound hR hE (Mem.get_top _) o (lop_nokid hl' rfl _)
      obtain ⟨σ', w', hR', hF, hres⟩ := hran
      have hap : appE (smem (onL listed) 0 D m).get (match d.new with | some _ => d.kid | none => (smem (onL listed) 0 D m).top) { val := d.val, new := d.new, mods := [] } = (smem (onL (listed.setIfInBounds i true)) 0 D m).get := by
        rw [hmem]
        cases d.new <;> rfl
      rw [hap] at hR' hF
      unfold Oper.wp
      rcases hres with ⟨rv, hr, hv⟩ | ⟨hr, hv⟩
      · rw [hr]
        simp only [Oper.upon]
        obtain ⟨g1, g2, g3⟩ := hput σ' rv hF.ext hv
        exact hK σ' _ w' hR' g1 g2 g3 hF
      · rw [hr]
        simp only [Oper.upon]
        simp only at hv
        have hu : vRel σ' d.val undef := by rw [hv]; exact ⟨#[], rfl, aaRel.nil _⟩
        obtain ⟨g1, g2, g3⟩ := hput σ' undef hF.ext hu
        exact hK σ' _ w' hR' g1 g2 g3 hF

theorem draw_rule (s : Nat) (hok : drawOk ops s = true)
    (h : drw P N ops s (fun i => (Region.before ops).getD i 0) env m (fun D => wpo P N ops.toList K (ops.toList.drop s) (senv (fun _ => true) 0 D env) (smem (fun _ => true) 0 D m)) ops.toList 0 m.top []) : DrawW P N ops env m K := by
  have hD := drawOk_spec hok
  obtain ⟨D, kid', hK, hku, hlen, hDs, hDle, hf⟩ := drw_facts ops.toList 0 m.top [] h (by simp) rfl (Nat.zero_le _) (Nat.zero_le _) (Nat.le_refl _) ⟨fun j d o h => by simp at h, fun j j' d d' o o' h => by simp at h⟩ (fun j o d _ h => by simp at h)
  intro σ a w hR hE hN Q hQ
  -- what stands when the first s have all run
  have full : ∀ (listed : Array Bool) (σ' : Sg) (a' : Act) (w' : World), (∀ j, j < D.length → onL listed j = true) → Rep σ' (smem (onL listed) 0 D m).get w' → EnvRel σ' (senv (onL listed) 0 D env) a'.tmps → Fr σ m.get w σ' (smem (onL listed) 0 D m).get w' →
      Rep σ' (smem (fun _ => true) 0 D m).get w' ∧ EnvRel σ' (senv (fun _ => true) 0 D env) a'.tmps ∧ Fr σ m.get w σ' (smem (fun _ => true) 0 D m).get w' := by
    intro listed σ' a' w' hall hR' hE' hF'
    have inD : ∀ (j : Nat) (d : DRes), D[j]? = some d → onL listed (0 + j) = true := fun j d hj => by
      rw [Nat.zero_add]
      refine hall j ?_
      rcases Nat.lt_or_ge j D.length with h' | h'
      · exact h'
      · rw [List.getElem?_eq_none h'] at hj; cases hj
    have e1 : (smem (fun _ => true) 0 D m).get = (smem (onL listed) 0 D m).get := smem_congr _ _ D 0 m m rfl fun j d o hj _ => (inD j d hj).symm
    rw [e1]
    refine ⟨hR', fun t v ht => hE' t v ?_, hF'⟩
    rw [← ht]
    exact senv_agree _ _ t D 0 env env rfl fun j d hj hne => absurd (inD j d hj) hne
  have main : ∀ (fuel : Nat) (listed : Array Bool) (σ' : Sg) (a' : Act) (w' : World), cnt listed = fuel → listed.size = ops.size → Closed ops listed → (∀ j, D.length ≤ j → onL listed j = false) →
      Rep σ' (smem (onL listed) 0 D m).get w' → EnvRel σ' (senv (onL listed) 0 D env) a'.tmps → a'.tmps.size = N → a'.defers = a.defers → Fr σ m.get w σ' (smem (onL listed) 0 D m).get w' → wpAny P .any ops Q fuel listed a' w' := by
    intro fuel
    induction fuel with
    | zero =>
      intro listed σ' a' w' hcnt hsz hc hno hR' hE' hN' hd' hF'
      have hall : ∀ i, i < ops.size → onL listed i = true := by
        intro i hi
        cases hx : onL listed i with
        | true => rfl
        | false =>
          have := cnt_set (by omega) hx
          omega
      have hDge : ops.size ≤ D.length := by
        rcases Nat.lt_or_ge D.length ops.size with h' | h'
        · have := hall _ h'; rw [hno _ (Nat.le_refl _)] at this; cases this
        · exact h'
      refine ⟨?_, ?_⟩
      · cases hr : Region.ready .any ops listed with
        | nil => rfl
        | cons i r =>
          obtain ⟨o, ho, h1, _⟩ := ready_spec hsz (i := i) (by rw [hr]; simp)
          have hi : i < ops.size := by
            rcases Nat.lt_or_ge i ops.size with h' | h'
            · exact h'
            · rw [Array.getElem?_eq_none h'] at ho; cases ho
          rw [hall i hi] at h1; cases h1
      · have hdrop : ops.toList.drop s = [] := List.drop_eq_nil_of_le (by simp; omega)
        rw [hdrop] at hK
        obtain ⟨g1, g2, g3⟩ := full listed σ' a' w' (fun j hj => hall j (by omega)) hR' hE' hF'
        exact hQ _ _ σ' a' w' hK g1 g2 hN' hd' g3
    | succ fuel ih =>
      intro listed σ' a' w' hcnt hsz hc hno hR' hE' hN' hd' hF'
      refine ⟨fun h0 => ?_, fun i hi => ?_⟩
      · have hall := ready_nil hD.low hsz h0
        rw [cnt_all (fun i hi => hall i (by omega))] at hcnt
        omega
      · obtain ⟨o, ho, hun, hedge⟩ := ready_spec hsz hi
        have hilt : i < ops.size := by
          rcases Nat.lt_or_ge i ops.size with h' | h'
          · exact h'
          · rw [Array.getElem?_eq_none h'] at ho; cases ho
        rcases Nat.lt_or_ge i D.length with hiD | hiD
        · have hd : D[i]? = some D[i] := List.getElem?_eq_getElem hiD
          refine stable_step hD hku hDs hf hsz hc ho hd hun hedge hR' hE' hN' (fun σ'' a'' w'' r1 r2 r3 r4 r5 => ?_)
          refine ih _ σ'' a'' w'' ?_ (by simpa using hsz) ?_ ?_ r1 r2 r3 (r4.trans hd') (hF'.trans r5)
          · have := cnt_set (i := i) (by omega) hun; omega
          · intro j oj hoj hj e he hb
            rw [onL_set (by omega)] at hj ⊢
            rw [Bool.or_eq_true, decide_eq_true_iff] at hj ⊢
            right
            rcases hj with rfl | hj
            · rw [hoj] at ho; cases ho; exact hedge e he hb
            · exact hc j oj hoj hj e he hb
          · intro j hj
            rw [onL_set (by omega), Bool.or_eq_false_iff]
            exact ⟨by simp; omega, hno j hj⟩
        · -- the others have their turn
          have hsD : D.length = s := by
            rcases hlen with h' | h'
            · exact h'
            · omega
          have hlt : ∀ j, j < i → onL listed j = true := fun j hj => (ahead_listed hD.low hc i o ho hedge j (hD.tail i (by omega) hilt j hj)).1
          have his : i = s := by
            rcases Nat.lt_or_ge s i with h' | h'
            · have := hlt s h'; rw [hno s (by omega)] at this; cases this
            · omega
          obtain ⟨g1, g2, g3⟩ := full listed σ' a' w' (fun j hj => hlt j (by omega)) hR' hE' hF'
          have hwl := wpo_sound (P := P) (N := N) ops.toList K Q (ops.toList.drop s) _ _ hK σ' a' w' g1 g2 hN' (fun env' m' σ'' a'' w'' h1 h2 h3 h4 h5 h6 => hQ env' m' σ'' a'' w'' h1 h2 h3 h4 (h5.trans hd') (g3.trans h6))
          rw [Array.toArray_toList] at hwl
          have honiff : ∀ j, j < ops.size → (onL listed j = true ↔ j < s) := fun j hj => by
            constructor
            · intro hx
              rcases Nat.lt_or_ge j s with h' | h'
              · exact h'
              · rw [hno j (by omega)] at hx; cases hx
            · intro hx; exact hlt j (by omega)
          have htail := tail_any hD.low (ops.toList.drop s) s listed a' w' rfl hsz hc honiff (fun i' h1 h2 j h3 => hD.tail i' h1 h2 j h3) hwl
          have hfl : (ops.toList.drop s).length = fuel + 1 := by
            rw [← hcnt]
            unfold cnt
            rw [cnt_prefix listed.toList s]
            · simp [hsz]
            · intro j b hj
              have hjl : j < listed.size := by
                rcases Nat.lt_or_ge j listed.size with h' | h'
                · exact h'
                · rw [List.getElem?_eq_none (by simpa using h')] at hj; cases hj
              have := honiff j (by omega)
              simp only [onL, Array.getD_eq_getD_getElem?, ← Array.getElem?_toList, hj, Option.getD_some] at this
              exact this
          rw [hfl] at htail
          exact htail.2 i hi
  have hrep : ∀ j, onL (Array.replicate ops.size false) j = false := fun j => by
    simp only [onL, Array.getD_eq_getD_getElem?, Array.getElem?_replicate]
    split <;> rfl
  have hon0 : onL (Array.replicate ops.size false) = fun _ => false := funext hrep
  have hsm : smem (fun _ => false) 0 D m = m := by
    have : ∀ (D : List DRes) (i : Nat) (m : Mem), smem (fun _ => false) i D m = m := by
      intro D
      induction D with
      | nil => intro i m; rfl
      | cons d r ih => intro i m; simp only [smem, sM_false]; exact ih _ _
    exact this D 0 m
  have hcnt : cnt (Array.replicate ops.size false) = ops.size := by
    unfold cnt
    rw [cnt_prefix _ 0]
    · simp
    · intro j b hj
      have := List.mem_of_getElem? hj
      simp at this
      rw [this.2]
      simp
  have := main ops.size (Array.replicate ops.size false) σ a w hcnt (by simp) (fun i o _ h => by rw [hrep] at h; cases h) (fun j _ => hrep j) (by rw [hon0, hsm]; exact hR) (by rw [hon0, senv_none]; exact hE) hN rfl (by rw [hon0, hsm]; exact .refl _ _ _)
  exact this

/-- The same, what goes ahead of each being told. -/
theorem draw_by (s : Nat) (bs : List Nat) (hb : Region.before ops = bs.toArray) (hok : drawOk ops s = true)
    (h : drw P N ops s (fun i => bs.getD i 0) env m (fun D => wpo P N ops.toList K (ops.toList.drop s) (senv (fun _ => true) 0 D env) (smem (fun _ => true) 0 D m)) ops.toList 0 m.top []) : DrawW P N ops env m K := by
  refine draw_rule s hok ?_
  have e : (fun i => (Region.before ops).getD i 0) = fun i => bs.getD i 0 := by
    funext i
    rw [hb]
    simp
  rw [e]
  exact h
end
end Go.Lm
