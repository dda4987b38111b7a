/- The rule of a region that draws its order: its soundness. -/
import Derived.Test.YtfgcnehjdaiipaaL17
namespace Go.Lm

section
variable {P : Program} {N : Nat} {ops : Array Oper} {s : Nat} {env : Env} {m : Mem} {K : List DRes → Prop}

/-- the numbers of new objects: above the memory's, rising -/
def KidsUp (top kid : Nat) (D : List DRes) : Prop :=
  (∀ (j : Nat) (d : DRes) (o : Ob), D[j]? = some d → d.new = some o → top ≤ d.kid ∧ d.kid < kid) ∧
  (∀ (j j' : Nat) (d d' : DRes) (o o' : Ob), D[j]? = some d → D[j']? = some d' → d.new = some o → d'.new = some o' → j ≠ j' → d.kid ≠ d'.kid)

theorem KidsUp.snoc {top kid : Nat} {D : List DRes} (h : KidsUp top kid D) (d : DRes) (hd : ∀ o, d.new = some o → d.kid = kid ∧ top ≤ kid) : KidsUp top (match d.new with | some _ => kid + 1 | none => kid) (D ++ [d]) := by
  have hle : kid ≤ (match d.new with | some _ => kid + 1 | none => kid) := by split <;> omega
  have get : ∀ (j : Nat) (x : DRes), (D ++ [d])[j]? = some x → D[j]? = some x ∨ (j = D.length ∧ x = d) := fun j x hj => by
    rcases Nat.lt_or_ge j D.length with h' | h'
    · rw [List.getElem?_append_left h'] at hj; exact .inl hj
    · rw [List.getElem?_append_right h'] at hj
      have : j - D.length = 0 := by
        rcases Nat.eq_zero_or_pos (j - D.length) with h0 | h0
        · exact h0
        · rw [List.getElem?_eq_none (by simp; omega)] at hj; cases hj
      rw [this] at hj
      simp at hj
      exact .inr ⟨by omega, hj.symm⟩
  refine ⟨fun j x o hj hn => ?_, fun j j' x x' o o' hj hj' hn hn' hne => ?_⟩
  · rcases get j x hj with h1 | ⟨h1, rfl⟩
    · have := h.1 j x o h1 hn; omega
    · obtain ⟨h2, h3⟩ := hd o hn
      rw [hn]
      simp only
      omega
  · rcases get j x hj with h1 | ⟨h1, e1⟩
    · rcases get j' x' hj' with h2 | ⟨h2, e2⟩
      · exact h.2 j j' x x' o o' h1 h2 hn hn' hne
      · subst e2
        have h3 := h.1 j x o h1 hn
        have h4 := (hd o' hn').1
        omega
    · rcases get j' x' hj' with h2 | ⟨h2, e2⟩
      · subst e1
        have h3 := h.1 j' x' o' h2 hn'
        have h4 := (hd o hn).1
        omega
      · omega

theorem drw_facts : ∀ (l : List Oper) (i kid : Nat) (D0 : List DRes), drw P N ops s (fun i => (Region.before ops).getD i 0) env m K l i kid D0 → l = ops.toList.drop i → D0.length = i → i ≤ s → i ≤ ops.size → m.top ≤ kid → KidsUp m.top kid D0 →
    (∀ (j : Nat) (o : Oper) (d : DRes), ops[j]? = some o → D0[j]? = some d → OpFact P N ops env m (D0.take j) j o d) →
    ∃ D kid', K D ∧ KidsUp m.top kid' D ∧ (D.length = s ∨ D.length = ops.size) ∧ D.length ≤ s ∧ D.length ≤ ops.size ∧ ∀ (j : Nat) (o : Oper) (d : DRes), ops[j]? = some o → D[j]? = some d → OpFact P N ops env m (D.take j) j o d
  | [], i, kid, D0, h, hl, hD, hs, hsz, hk, hku, hf => by
    refine ⟨D0, kid, h, hku, ?_, by omega, by omega, hf⟩
    have : (ops.toList.drop i).length = 0 := by rw [← hl]; rfl
    right; simp at this; omega
  | o :: r, i, kid, D0, h, hl, hD, hs, hsz, hk, hku, hf => by
    have hi : i < ops.size := by
      have : (ops.toList.drop i).length = r.length + 1 := by rw [← hl]; rfl
      simp at this; omega
    have hoi : ops[i]? = some o := by
      have : (ops.toList.drop i)[0]? = some o := by rw [← hl]; rfl
      simpa using this
    have hr : r = ops.toList.drop (i + 1) := by
      have : (ops.toList.drop i).drop 1 = r := by rw [← hl]; rfl
      rw [← this, List.drop_drop]
    unfold drw at h
    split at h
    · exact ⟨D0, kid, h, hku, .inl (by omega), by omega, by omega, hf⟩
    · rename_i hsi
      obtain ⟨hdst, h⟩ := h
      have hf' : ∀ d : DRes, OpFact P N ops env m D0 i o d → ∀ (j : Nat) (o : Oper) (d' : DRes), ops[j]? = some o → (D0 ++ [d])[j]? = some d' → OpFact P N ops env m ((D0 ++ [d]).take j) j o d' := by
        intro d hd j o' d' hj hd'
        rcases Nat.lt_or_ge j D0.length with h' | h'
        · rw [List.getElem?_append_left h'] at hd'
          rw [List.take_append_of_le_length (by omega)]
          exact hf j o' d' hj hd'
        · rw [List.getElem?_append_right h'] at hd'
          have h0 : j - D0.length = 0 := by
            rcases Nat.eq_zero_or_pos (j - D0.length) with h0 | h0
            · exact h0
            · rw [List.getElem?_eq_none (by simp; omega)] at hd'; cases hd'
          rw [h0] at hd'
          simp at hd'
          subst hd'
          have hji : j = i := by omega
          subst hji
          rw [hoi] at hj
          cases hj
          rw [List.take_append_of_le_length (by omega), List.take_of_length_le (by omega)]
          exact hd
      split at h
      · exact h.elim
      · rename_i hg
        have hfact : OpFact P N ops env m D0 i o ⟨o.dst, undef, none, 0⟩ := ⟨rfl, hdst, .inl ⟨hg, rfl, rfl⟩⟩
        exact drw_facts r (i + 1) kid (D0 ++ [⟨o.dst, undef, none, 0⟩]) h hr (by simp [hD]) (by omega) (by omega) hk (hku.snoc ⟨o.dst, undef, none, 0⟩ (fun o ho => by cases ho)) (hf' _ hfact)
      · rename_i hg
        split at h
        · rename_i g vs hc
          rcases h with ⟨v, hp, h⟩ | ⟨v, ob, hp, h⟩
          · have hfact : OpFact P N ops env m D0 i o ⟨o.dst, v, none, 0⟩ := ⟨rfl, hdst, .inr ⟨hg, .inl ⟨g, vs, hc, .inl ⟨rfl, hp⟩⟩⟩⟩
            exact drw_facts r (i + 1) kid (D0 ++ [⟨o.dst, v, none, 0⟩]) h hr (by simp [hD]) (by omega) (by omega) hk (hku.snoc ⟨o.dst, v, none, 0⟩ (fun o ho => by cases ho)) (hf' _ hfact)
          · have hfact : OpFact P N ops env m D0 i o ⟨o.dst, v, some ob, kid⟩ := ⟨rfl, hdst, .inr ⟨hg, .inl ⟨g, vs, hc, .inr ⟨ob, rfl, hp⟩⟩⟩⟩
            exact drw_facts r (i + 1) (kid + 1) (D0 ++ [⟨o.dst, v, some ob, kid⟩]) h hr (by simp [hD]) (by omega) (by omega) (by omega) (hku.snoc ⟨o.dst, v, some ob, kid⟩ (fun o _ => ⟨rfl, hk⟩)) (hf' _ hfact)
        · rename_i hc
          split at h
          case h_2 => exact h.elim
          rename_i e he
          obtain ⟨hm, h⟩ := h
          have hfact : OpFact P N ops env m D0 i o ⟨o.dst, e.val, e.new, kid⟩ := ⟨rfl, hdst, .inr ⟨hg, .inr ⟨hc, by rw [he]; cases e; simp at hm; simp [hm]⟩⟩⟩
          refine drw_facts r (i + 1) _ (D0 ++ [⟨o.dst, e.val, e.new, kid⟩]) h hr (by simp [hD]) (by omega) (by omega) (by split <;> omega) (hku.snoc ⟨o.dst, e.val, e.new, kid⟩ (fun o _ => ⟨rfl, hk⟩)) (hf' _ hfact)

theorem Mem.get_ge (m : Mem) {k : Nat} (h : m.top ≤ k) : m.get k = .free := by
  unfold Mem.top at h
  unfold Mem.get
  rw [if_neg (by omega), List.getElem?_eq_none (by omega)]
  rfl

theorem KidsUp.ok {kid : Nat} {D : List DRes} (h : KidsUp m.top kid D) : KidsOk m.get D :=
  ⟨fun j d o hj hn => m.get_ge (h.1 j d o hj hn).1, h.2⟩

/-- where nothing new is made its number plays no part -/
theorem lop_nokid {M : Nat → Ob} {k : Nat} {op : Op} {e : Eff} (h : lop P env M k op = some e) (hn : e.new = none) (k' : Nat) : lop P env M k' op = some e := by
  have app : ∀ (ts : Array TypeId) (args : List Value), lappend P M k ts args = some e → lappend P M k' ts args = some e := by
    intro ts args h
    unfold lappend at h ⊢
    split at h
    case h_2 => cases h
    rename_i t tx base len cap x h1 h2
    (try simp only [h1, h2])
    split at h
    case h_2 => cases h
    rename_i el s n h3 h4
    (try simp only [h3, h4])
    split at h
    case isTrue => cases h
    rename_i h5
    rw [if_neg h5]
    split at h
    case h_2 => cases h
    rename_i z b new h6 h7 h8
    (try simp only [h6, h7, h8])
    split at h
    case isTrue => cases h
    rename_i h9
    rw [if_neg h9]
    cases base with
    | none =>
      simp only at h ⊢
      split at h
      case isFalse => cases h
      rename_i h10
      rw [if_pos h10]
      split at h
      · rename_i h11; rw [if_pos h11]; exact h
      · cases h; cases hn
    | some a =>
      simp only at h ⊢
      split at h
      · rename_i h10; rw [if_pos h10]; exact h
      · rename_i h10
        rw [if_neg h10]
        split at h
        case h_2 => cases h
        rename_i ro ee c hM
        (try simp only [hM])
        split at h
        · rename_i h11; rw [if_pos h11]; exact h
        · split at h
          · cases h; cases hn
          · split at h
            · cases h; cases hn
            · cases h
  cases op <;> simp only [lop] at h ⊢ <;> try (exact h)
  case alloc t => split at h <;> cases h; cases hn
  case box t x =>
    split at h
    case h_2 => cases h
    split at h <;> cases h; cases hn
  case buildSlice t len parts =>
    split at h
    case h_2 => cases h
    unfold lbuildSlice at h
    split at h
    case h_2 => cases h
    split at h
    case h_2 => cases h
    split at h
    case isFalse => cases h
    split at h <;> cases h; cases hn
  case convert src dst x =>
    split at h
    case h_2 => cases h
    rename_i v hv
    (try simp only [hv])
    unfold lconv at h ⊢
    split at h
    · exact h
    · split at h
      · exact h
      · split at h
        · split at h <;> cases h; cases hn
        · cases h
      · cases h
    · exact h
    · exact h
    · cases h
  case makeMap t r => cases r <;> cases h; cases hn
  case makeSlice t a b =>
    split at h
    case h_2 => cases h
    unfold lmakeSlice at h
    split at h
    case h_2 => cases h
    split at h
    case h_2 => cases h
    split at h <;> cases h; cases hn
  case call c =>
    unfold lblt at h ⊢
    split at h
    · rename_i h1 h2; (try simp only [h1, h2]); exact app _ _ h
    · rename_i h1 h2; (try simp only [h1, h2]); exact h
    · rename_i h1 h2; (try simp only [h1, h2]); exact h
    · rename_i h1 h2; (try simp only [h1, h2]); exact h
    · rename_i h1 h2; (try simp only [h1, h2]); exact h
    · rename_i h1 h2; (try simp only [h1, h2]); exact h
    · cases h

theorem guardQ_same {o : Oper} {env env' : Env} (h : ∀ t ∈ o.looksAt ops, elook env t = elook env' t) : guardQ ops.toList env o = guardQ ops.toList env' o := by
  unfold guardQ
  cases hg : o.guard with
  | none => rfl
  | some x =>
    obtain ⟨j, want⟩ := x
    simp only [Array.getElem?_toList]
    cases hj : ops[j]? with
    | none => rfl
    | some oj =>
      simp only
      cases hd : oj.dst with
      | none => rfl
      | some d =>
        simp only
        rw [h d (by simp [Oper.looksAt, hg, hj, hd])]

theorem ev_same {o : Oper} {env env' : Env} (h : ∀ t ∈ o.looksAt ops, elook env t = elook env' t) : ∀ x ∈ o.op.operands, ev env x = ev env' x := by
  intro x hx
  cases x with
  | tmp t =>
    refine h t ?_
    unfold Oper.looksAt
    rw [List.mem_append]
    left
    rw [List.mem_filterMap]
    exact ⟨.tmp t, Array.mem_toList_iff.2 hx, rfl⟩
  | _ => rfl

theorem cnt_prefix : ∀ (l : List Bool) (k : Nat), (∀ (j : Nat) (b : Bool), l[j]? = some b → (b = true ↔ j < k)) → l.countP (!·) = l.length - k
  | [], k, _ => by simp
  | b :: r, 0, h => by
    have hb : b = false := by
      cases b with
      | false => rfl
      | true => have := (h 0 true (by simp)).1 rfl; omega
    have := cnt_prefix r 0 fun j b' hj => by have := h (j + 1) b' (by simpa using hj); constructor
                                             · intro e; have := this.1 e; omega
                                             · intro e; omega
    simp [hb, this]
  | b :: r, k + 1, h => by
    have hb : b = true := (h 0 b (by simp)).2 (by omega)
    have := cnt_prefix r k fun j b' hj => by have := h (j + 1) b' (by simpa using hj); constructor
                                             · intro e; have := this.1 e; omega
                                             · intro e; exact this.2 (by omega)
    simp [hb, this]
end
end Go.Lm
