/- The contract and the walk of calquelaw23.AllocAll. -/
import Derived.Test.YtfgcnehjdaiipaaMP
import Derived.Test.YtfgcnehjdaiipaaMQ
import Derived.Test.YtfgcnehjdaiipaaMK
/- calquelaw00.Words, Ops, SameInts; calquelaw23.list, right. -/
set_option linter.unusedSimpArgs false
set_option linter.unusedVariables false
namespace Go.Lm
open Go.Proofs

def eqInts (a b : List Int) : Bool := decide (a = b)
/-- A row of whole numbers in memory, at its beginning. -/
def IntsIn (m : Mem) (v : Value) (l : List Int) : Prop :=
  (l = [] ∧ v = .slice none 0 0) ∨ ∃ k, v = .slice (some ⟨k, 0, none⟩) l.length l.length ∧ m.get k = .cells false 1 (i64A l)
theorem IntsIn_cap {m : Mem} {v : Value} {l : List Int} (h : IntsIn m v l) : ∃ a cap, v = .slice a l.length cap := by
  rcases h with ⟨rfl, rfl⟩ | ⟨k, rfl, _⟩
  · exact ⟨_, _, rfl⟩
  · exact ⟨_, _, rfl⟩

set_option maxRecDepth 100000 in
set_option maxHeartbeats 8000000 in
theorem sameints_tc (a b : List Int) (va vb : Value) (m : Mem) (ha : IntsIn m va a) (hb : IntsIn m vb b) (hla : a.length < 2 ^ 40) (Q) (h : Q (.bool (eqInts a b)) m) : TC Try.prog 46 [va, vb] m Q := by
  refine TC_fn mixed Try.func46 rfl Try.ntmps46 rfl (by decide) (by simp) ?_
  obtain ⟨pa, ca, hva⟩ := IntsIn_cap ha
  obtain ⟨pb, cb, hvb⟩ := IntsIn_cap hb
  unfold eqInts at h
  by_cases hl : a.length = b.length
  · have hl' : (a.length : Int) = (b.length : Int) := by omega
    refine wpc_st fun K hK => ?_
    simp -dsimp
    refine hK _ _ ?_
    clear hK K
    refine wpc_sq fun K hK => ?_
    simp -dsimp [hva, hvb, hl']
    refine hK _ _ ?_
    clear hK K
    simp -dsimp
    refine loop_by (fun f env m' => ∃ i, f = a.length - i ∧ i ≤ a.length ∧ elook env 0 = some va ∧ elook env 1 = some vb ∧ elook env 5 = some (.int .i64 i) ∧ (∀ j, j < i → a[j]? = b[j]?) ∧ m' = { base := m.get, n := m.top, loc := [] }) a.length ⟨0, rfl, by omega, by simp -dsimp [hva, hvb]⟩ ?_
    rintro f env m' ⟨i, rfl, hi, e0, e1, e5, hall, rfl⟩
    by_cases hlt : i < a.length
    · have hlt' : (i : Int) < (a.length : Int) := by omega
      rcases ha with ⟨rfl, _⟩ | ⟨ka, e, hma⟩
      · simp at hlt
      rcases hb with ⟨rfl, _⟩ | ⟨kb, e2, hmb⟩
      · rw [hl] at hlt; simp at hlt
      have t1 := lt_cells hma
      have t2 := lt_cells hmb
      have g1 : ∀ os, ({ base := m.get, n := m.top, loc := os } : Mem).get ka = .cells false 1 (i64A a) := fun os => by rw [get_base _ _ _ t1, hma]
      have g2 : ∀ os, ({ base := m.get, n := m.top, loc := os } : Mem).get kb = .cells false 1 (i64A b) := fun os => by rw [get_base _ _ _ t2, hmb]
      obtain ⟨x, hx⟩ : ∃ x, a[i]? = some x := ⟨a[i], List.getElem?_eq_getElem hlt⟩
      obtain ⟨y, hy⟩ : ∃ y, b[i]? = some y := ⟨b[i]'(by omega), List.getElem?_eq_getElem (by omega)⟩
      have hx' : (i64A a)[i]? = some (.int .i64 x) := by simp [i64A, hx]
      have hy' : (i64A b)[i]? = some (.int .i64 y) := by simp [i64A, hy]
      have hlb' : (i : Int) < (b.length : Int) := by omega
      have hkw : IntKind.i64.wrap ((i : Int) + 1) = ((i + 1 : Nat) : Int) := wI64 (by omega) (by omega)
      rw [e] at e0; rw [e2] at e1
      by_cases hxy : x = y
      · have hb1 : (x != y) = false := by simp [hxy]
        refine wpc_sq fun K hK => ?_
        simp -dsimp [e0, e5, hlt']
        refine hK _ _ ?_
        clear hK K
        refine wpc_sq fun K hK => ?_
        simp -dsimp
        refine draw_go 8 [0, 0, 3, 7, 0, 0, 48, 112, 255] (by kernel_rfl) (by kernel_rfl) ?_
        simp -dsimp -implicitDefEqProofs [e0, e1, e5, hlt', hlb', g1, g2, hx', hy', hb1]
        refine hK _ _ ?_
        clear hK K
        simp -dsimp [e5, hkw]
        refine ⟨a.length - (i + 1), by omega, i + 1, rfl, by omega, by simp -dsimp [e0, e], by simp -dsimp [e1, e2], by omega, fun j hj => ?_⟩
        by_cases hji : j < i
        · exact hall j hji
        · have : j = i := by omega
          subst this; rw [hx, hy, hxy]
      · have hb1 : (x != y) = true := by simp [hxy]
        have hne : ¬ a = b := fun e => by rw [e, hy] at hx; exact hxy (Option.some.inj hx).symm
        rw [decide_eq_false hne] at h
        refine wpc_sq fun K hK => ?_
        simp -dsimp [e0, e5, hlt']
        refine hK _ _ ?_
        clear hK K
        refine wpc_sq fun K hK => ?_
        simp -dsimp
        refine draw_go 8 [0, 0, 3, 7, 0, 0, 48, 112, 255] (by kernel_rfl) (by kernel_rfl) ?_
        simp -dsimp -implicitDefEqProofs [e0, e1, e5, hlt', hlb', g1, g2, hx', hy', hb1]
        exact fin_ret rfl (leave_pure (by simp) h)
    · have hii : i = a.length := by omega
      subst hii
      have hab : a = b := List.ext_getElem? fun j => by
        rcases Nat.lt_or_ge j a.length with h' | h'
        · exact hall j h'
        · rw [List.getElem?_eq_none h', List.getElem?_eq_none (by omega)]
      rw [decide_eq_true hab] at h
      have hlt' : ¬ (a.length : Int) < (a.length : Int) := by omega
      simp -dsimp [e0, e5, hva, hlt']
      exact fin_ret rfl (leave_pure (by simp) h)
  · have hl' : ¬ (a.length : Int) = (b.length : Int) := by omega
    rw [decide_eq_false (fun e => hl (by rw [e]))] at h
    simp -dsimp [hva, hvb, hl']
    exact fin_ret rfl (leave_pure (by simp) h)

theorem WordsAt_cap {m : Mem} {v : Value} {l : List Nat} (h : WordsAt m v l) : ∃ a cap, v = .slice a l.length cap := by
  rcases h.2 with ⟨rfl, rfl⟩ | ⟨k, off, cap, ro, c, rfl, _⟩
  · exact ⟨_, _, rfl⟩
  · exact ⟨_, _, rfl⟩
theorem SpsAt_cap {m : Mem} {v : Value} {l : List Sp} (h : SpsAt m v l) : ∃ a cap, v = .slice a l.length cap := by
  rcases h with ⟨rfl, rfl⟩ | ⟨k, off, cap, ro, c, rfl, _⟩
  · exact ⟨_, _, rfl⟩
  · exact ⟨_, _, rfl⟩
/-- what right has looked at -/
def RtOk (l : List Sp) (i : Nat) : Prop := (∀ j, 0 < j → j < i → (spAt l (j - 1)).fr ≤ (spAt l j).fr) ∧ ∀ j k, j < i → k < j → (spAt l k).place ≠ (spAt l j).place
theorem RtOk.right {l : List Sp} (h : RtOk l l.length) : SpRight l := by
  refine ⟨fun i j => ?_, fun i j hi hj e => ?_⟩
  · induction j with
    | zero => intro h1 h2; have : i = 0 := by omega
              subst this; exact Int.le_refl _
    | succ j ih =>
      intro h1 h2
      by_cases e : i = j + 1
      · subst e; exact Int.le_refl _
      · have := ih (by omega) (by omega)
        have h3 := h.1 (j + 1) (by omega) h2
        simp only [Nat.add_sub_cancel] at h3
        omega
  · rcases Nat.lt_trichotomy i j with h' | h' | h'
    · exact absurd e (h.2 j i hj h')
    · exact h'
    · exact absurd e.symm (h.2 i j hi h')

set_option maxRecDepth 100000 in
set_option maxHeartbeats 16000000 in
theorem right_tc2 (l : List Sp) (v : Value) (m : Mem) (hl : SpsAt m v l) (hlen : l.length < 2 ^ 63) (Q : Value → Mem → Prop) (h : ∀ b, (b = true → SpRight l ∧ l.length ≤ 64) → Q (.bool b) m) : TC Try.prog 45 [v] m Q := by
  refine TC_fn mixed Try.func45 rfl Try.ntmps45 rfl (by decide) (by simp) ?_
  have hF := h false (fun e => by cases e)
  obtain ⟨av, cv, hv⟩ := SpsAt_cap hl
  refine wpc_st fun K hK => ?_
  simp -dsimp
  refine hK _ _ ?_
  clear hK K
  refine wpc_mid (fun env m' => RtOk l l.length ∧ elook env 0 = some v ∧ m' = { base := m.get, n := m.top, loc := [] }) ?_ ?_
  · refine wpc_st fun K hK => ?_
    simp -dsimp
    refine hK _ _ ?_
    clear hK K
    simp -dsimp
    refine loop_by (fun f env m' => ∃ i, f = l.length - i ∧ i ≤ l.length ∧ elook env 0 = some v ∧ elook env 3 = some (.int .i64 i) ∧ RtOk l i ∧ m' = { base := m.get, n := m.top, loc := [] }) l.length ⟨0, rfl, by omega, by simp -dsimp, by simp -dsimp, ⟨fun j h1 h2 => by omega, fun j k h1 h2 => by omega⟩, rfl⟩ ?_
    rintro f env m' ⟨i, rfl, hi, e0, e3, hrt, rfl⟩
    by_cases hlt : i < l.length
    · have hlt' : (i : Int) < (l.length : Int) := by omega
      rcases hl with ⟨rfl, _⟩ | ⟨k, off, cap, ro, c, e, hcap, hm, hsz, hc⟩
      · simp at hlt
      have htop := lt_cells hm
      have hgt : ∀ os, ({ base := m.get, n := m.top, loc := os } : Mem).get k = .cells ro 3 c := fun os => by rw [get_base _ _ _ htop, hm]
      rw [e] at e0
      have hkw : IntKind.i64.wrap ((i : Int) + 1) = ((i + 1 : Nat) : Int) := wI64 (by omega) (by omega)
      refine wpc_sq fun K hK => ?_
      simp -dsimp [e0, e3, hlt']
      refine hK _ _ ?_
      clear hK K
      refine wpc_mid (fun env' m' => RtOk l (i + 1) ∧ elook env' 0 = elook env 0 ∧ elook env' 3 = elook env 3 ∧ m' = { base := m.get, n := m.top, loc := [] }) ?_ ?_
      · rw [wpc_block]
        obtain ⟨c0, c1, c2⟩ := sps_cell hc hlt
        refine wpc_mid (fun env' m' => (i = 0 ∨ (spAt l (i - 1)).fr ≤ (spAt l i).fr) ∧ elook env' 0 = elook env 0 ∧ elook env' 3 = elook env 3 ∧ m' = { base := m.get, n := m.top, loc := [] }) ?_ ?_
        · have hgo : ∀ (K : Env → Mem → Prop) (env0 : Env), True := fun _ _ => trivial
          simp -dsimp
          refine draw_gor (by kernel_rfl) ?_
          by_cases h1 : (spAt l i).fr < 0
          · simp -dsimp -implicitDefEqProofs [undef, e0, e3, hlt', hgt, c0, c1, c2, h1]
            exact fin_ret rfl (leave_pure (by simp) hF)
          · by_cases h2 : (spAt l i).to < (spAt l i).fr
            · simp -dsimp -implicitDefEqProofs [undef, e0, e3, hlt', hgt, c0, c1, c2, h1, h2]
              exact fin_ret rfl (leave_pure (by simp) hF)
            · by_cases h3 : i = 0
              · have h3' : ¬ 0 < i := by omega
                simp -dsimp -implicitDefEqProofs [undef, e0, e3, hlt', hgt, c0, c1, c2, h1, h2, h3']
                exact .inl h3
              · have h3' : 0 < i := by omega
                obtain ⟨d0, d1, d2⟩ := sps_cell hc (show i - 1 < l.length by omega)
                have hkw2 : IntKind.i64.wrap ((i : Int) - 1) = ((i - 1 : Nat) : Int) := by rw [wI64 (by omega) (by omega)]; omega
                have hlt2 : ((i - 1 : Nat) : Int) < (l.length : Int) := by omega
                by_cases h4 : (spAt l i).fr < (spAt l (i - 1)).fr
                · simp -dsimp -implicitDefEqProofs [undef, e0, e3, hlt', hgt, c0, c1, c2, h1, h2, h3', hkw2, hlt2, d0, d1, h4]
                  exact fin_ret rfl (leave_pure (by simp) hF)
                · by_cases h5 : (spAt l i).fr = (spAt l (i - 1)).fr
                  · have h5' : ((spAt l i).fr == (spAt l (i - 1)).fr) = true := by rw [beq_iff_eq]; exact h5
                    by_cases h6 : (spAt l i).place ≤ (spAt l (i - 1)).place
                    · simp -dsimp -implicitDefEqProofs [undef, e0, e3, hlt', hgt, c0, c1, c2, h1, h2, h3', hkw2, hlt2, d0, d1, h4, h5', h6]
                      exact fin_ret rfl (leave_pure (by simp) hF)
                    · simp -dsimp -implicitDefEqProofs [undef, e0, e3, hlt', hgt, c0, c1, c2, h1, h2, h3', hkw2, hlt2, d0, d1, h4, h5', h6]
                      exact .inr (by omega)
                  · have h5' : ((spAt l i).fr == (spAt l (i - 1)).fr) = false := by rw [beq_eq_false_iff_ne]; exact h5
                    simp -dsimp -implicitDefEqProofs [undef, e0, e3, hlt', hgt, c0, c1, c2, h1, h2, h3', hkw2, hlt2, d0, d1, h4, h5']
                    exact .inr (by omega)
        · rintro env2 m2 ⟨hord, f0, f3, rfl⟩
          rw [e0] at f0; rw [e3] at f3
          refine wpc_st fun K hK => ?_
          simp -dsimp
          refine hK _ _ ?_
          clear hK K
          simp -dsimp
          refine loop_by (fun f env' m' => ∃ q, f = i - q ∧ q ≤ i ∧ elook env' 0 = some (.slice (some ⟨k, off, none⟩) l.length cap) ∧ elook env' 3 = some (.int .i64 i) ∧ elook env' 4 = some (.int .i64 q) ∧ (∀ r, r < q → (spAt l r).place ≠ (spAt l i).place) ∧ m' = { base := m.get, n := m.top, loc := [] }) i ⟨0, rfl, by omega, by simp -dsimp [f0, f3]⟩ ?_
          clear f0 f3
          rintro f env3 m3 ⟨q, rfl, hq, f0, f3, f4, hpl, rfl⟩
          by_cases hqi : q < i
          · have hqi' : (q : Int) < (i : Int) := by omega
            have hql : (q : Int) < (l.length : Int) := by omega
            obtain ⟨d0, d1, d2⟩ := sps_cell hc (show q < l.length by omega)
            have hkwq : IntKind.i64.wrap ((q : Int) + 1) = ((q + 1 : Nat) : Int) := wI64 (by omega) (by omega)
            refine wpc_sq fun K hK => ?_
            simp -dsimp [f3, f4, hqi']
            refine hK _ _ ?_
            clear hK K
            by_cases hpe : (spAt l q).place = (spAt l i).place
            · have hpe' : ((spAt l q).place == (spAt l i).place) = true := by rw [beq_iff_eq]; exact hpe
              refine wpc_sq fun K hK => ?_
              simp -dsimp
              refine draw_go 10 [0, 0, 3, 7, 15, 0, 0, 96, 224, 480, 1023] (by kernel_rfl) (by kernel_rfl) ?_
              simp -dsimp -implicitDefEqProofs [f0, f3, f4, hlt', hql, hgt, c0, d0, hpe']
              exact fin_ret rfl (leave_pure (by simp) hF)
            · have hpe' : ((spAt l q).place == (spAt l i).place) = false := by rw [beq_eq_false_iff_ne]; exact hpe
              refine wpc_sq fun K hK => ?_
              simp -dsimp
              refine draw_go 10 [0, 0, 3, 7, 15, 0, 0, 96, 224, 480, 1023] (by kernel_rfl) (by kernel_rfl) ?_
              simp -dsimp -implicitDefEqProofs [f0, f3, f4, hlt', hql, hgt, c0, d0, hpe']
              refine hK _ _ ?_
              clear hK K
              simp -dsimp [f0, f3, f4, hkwq]
              refine ⟨i - (q + 1), by omega, q + 1, rfl, by omega, by omega, fun r hr => ?_⟩
              by_cases hrq : r < q
              · exact hpl r hrq
              · have : r = q := by omega
                subst this; exact hpe
          · have hqe : q = i := by omega
            subst hqe
            have hqi' : ¬ (q : Int) < (q : Int) := by omega
            simp -dsimp [f0, f3, f4, hqi', e0, e3]
            refine ⟨fun j h1 h2 => ?_, fun j r h1 h2 => ?_⟩
            · by_cases hj : j < q
              · exact hrt.1 j h1 hj
              · have : j = q := by omega
                subst this
                rcases hord with e2 | e2
                · omega
                · exact e2
            · by_cases hj : j < q
              · exact hrt.2 j r hj h2
              · have : j = q := by omega
                subst this; exact hpl r h2
      · rintro env2 m2 ⟨hrt2, f0, f3, rfl⟩
        rw [e0] at f0; rw [e3] at f3
        simp -dsimp [f3, hkw]
        exact ⟨l.length - (i + 1), by omega, i + 1, rfl, by omega, by rw [f0, e], by omega, hrt2⟩
    · have hii : i = l.length := by omega
      subst hii
      have hlt' : ¬ (l.length : Int) < (l.length : Int) := by omega
      rw [hv] at e0
      simp -dsimp [e0, e3, hlt', hv]
      exact hrt
  · rintro env m' ⟨hrt, e0, rfl⟩
    rw [hv] at e0
    simp -dsimp [e0]
    by_cases h64 : l.length ≤ 64
    · have h64' : (l.length : Int) ≤ 64 := by omega
      exact fin_ret (v := .bool true) (by simp -dsimp [h64']) (leave_pure (by simp) (h true fun _ => ⟨hrt.right, h64⟩))
    · have h64' : ¬ (l.length : Int) ≤ 64 := by omega
      exact fin_ret (v := .bool false) (by simp -dsimp [h64']) (leave_pure (by simp) hF)
end Go.Lm
/- calquelaw23.list; calquelaw00.Words, Ops, Block. -/
set_option linter.unusedSimpArgs false
set_option linter.unusedVariables false
namespace Go.Lm
open Go.Proofs

/-- a list of spans that is built by append: nil, or one of the call's own objects -/
def LstU (top : Nat) (l : List Sp) (v : Value) (g : List Ob) : Prop :=
  (l = [] ∧ v = .slice none 0 0) ∨ (l ≠ [] ∧ ∃ p, v = .slice (some ⟨top + p, 0, none⟩) l.length l.length ∧ g[p]? = some (.cells false 3 (flatS l)))

set_option maxRecDepth 100000 in
set_option maxHeartbeats 8000000 in
theorem list_tc (l : List Sp) (v : Value) (m : Mem) (hl : SpsAt m v l) (hlen : l.length ≤ 64) (kk : Nat) (hf : m.get kk = .free) (Q : Value → Mem → Prop) (h : Q (lstSV kk l) (lstSM m kk l)) : TC Try.prog 48 [v] m Q := by
  refine TC_fn mixed Try.func48 rfl Try.ntmps48 rfl (by decide) (by simp) ?_
  obtain ⟨av, cv, hv⟩ := SpsAt_cap hl
  refine wpc_st fun K hK => ?_
  simp -dsimp
  refine hK _ _ ?_
  clear hK K
  refine wpc_st fun K hK => ?_
  simp -dsimp
  refine hK _ _ ?_
  clear hK K
  refine wpc_mid (fun env m' => ∃ v' g, elook env 3 = some v' ∧ LstU m.top l v' g ∧ m' = { base := m.get, n := m.top, loc := g }) ?_ ?_
  · refine wpc_st fun K hK => ?_
    simp -dsimp
    refine hK _ _ ?_
    clear hK K
    simp -dsimp
    refine loop_by (fun f env m' => ∃ i v' g, f = l.length - i ∧ i ≤ l.length ∧ elook env 0 = some v ∧ elook env 3 = some v' ∧ elook env 4 = some (.int .i64 i) ∧ LstU m.top (l.take i) v' g ∧ m' = { base := m.get, n := m.top, loc := g }) l.length ⟨0, .slice none 0 0, [], rfl, by omega, by simp -dsimp, by simp -dsimp, by simp -dsimp, .inl ⟨rfl, rfl⟩, rfl⟩ ?_
    rintro f env m' ⟨i, v', g, rfl, hi, e0, e3, e4, hlu, rfl⟩
    by_cases hlt : i < l.length
    · have hlt' : (i : Int) < (l.length : Int) := by omega
      rcases hl with ⟨rfl, _⟩ | ⟨k, off, cap, ro, c, e, hcap, hm, hsz, hc⟩
      · simp at hlt
      have htop := lt_cells hm
      have hgt : ∀ os, ({ base := m.get, n := m.top, loc := os } : Mem).get k = .cells ro 3 c := fun os => by rw [get_base _ _ _ htop, hm]
      have hx : l[i]? = some (spAt l i) := by unfold spAt; rw [List.getD_eq_getElem?_getD, List.getElem?_eq_getElem hlt]; rfl
      obtain ⟨c0, c1, c2⟩ := sps_cell hc hlt
      have htk : l.take (i + 1) = l.take i ++ [spAt l i] := by rw [List.take_add_one, hx]; rfl
      have htl : (l.take i).length = i := by rw [List.length_take]; omega
      have hkw : IntKind.i64.wrap ((i : Int) + 1) = ((i + 1 : Nat) : Int) := wI64 (by omega) (by omega)
      rw [e] at e0
      refine wpc_sq fun K hK => ?_
      simp -dsimp [e0, e4, hlt']
      refine hK _ _ ?_
      clear hK K
      refine wpc_mid (fun env' m' => elook env' 0 = some v ∧ elook env' 4 = some (.int .i64 i) ∧ ∃ v' g, elook env' 3 = some v' ∧ LstU m.top (l.take (i + 1)) v' g ∧ m' = { base := m.get, n := m.top, loc := g }) ?_ ?_
      · rw [wpc_block, htk]
        generalize spAt l i = x at *
        generalize l.take i = L at *
        rcases hlu with ⟨rfl, rfl⟩ | ⟨hne, p, rfl, hg⟩
        · simp -dsimp
          refine draw_go 18 [0, 0, 0, 6, 14, 30, 0, 0, 192, 448, 960, 0, 0, 6144, 14336, 30720, 65534, 131070, 262143, 524287] (by kernel_rfl) (by kernel_rfl) ?_
          simp -dsimp -implicitDefEqProofs [e0, e3, e4, hlt', hgt, c0, c1, c2, y79]
          exact ⟨e.symm, .inr ⟨by simp, g.length + 1, rfl, by simp [flatS, spV]⟩⟩
        · have hpg : p < g.length := (List.getElem?_eq_some_iff.1 hg).1
          have hpg1 : p < g.length + 1 := by omega
          have hg' : g[p]'hpg = .cells false 3 (flatS L) := by rw [List.getElem?_eq_getElem hpg] at hg; exact Option.some.inj hg
          have hb : ¬ 17592186044416 < (i + 1) * 24 := by omega
          have hnl2 : ¬ i + 1 ≤ i := by omega
          have hfs := flatS_size L
          have hex : (flatS L).extract 0 (i * 3) = flatS L := Array.extract_eq_self_of_le (by omega)
          rw [htl] at hfs e3
          have hi0 : ¬ i = 0 := fun e => by rw [e] at htl; exact hne (List.length_eq_zero_iff.1 htl)
          simp -dsimp
          refine draw_go 18 [0, 0, 0, 6, 14, 30, 0, 0, 192, 448, 960, 0, 0, 6144, 14336, 30720, 65534, 131070, 262143, 524287] (by kernel_rfl) (by kernel_rfl) ?_
          simp -dsimp -implicitDefEqProofs [e0, e3, e4, hlt', hgt, c0, c1, c2, y79, hg', hne, hb, hpg, hpg1, hnl2, hfs, hex, hi0, List.getElem?_append, List.set_append]
          exact ⟨e.symm, .inr ⟨by simp, g.length + 1, by simp [htl], by rw [List.getElem?_append_right (by simp)]; simp [flatS_append, spV]⟩⟩
      · rintro env2 m2 ⟨f0, f4, v2, g2, f3, hlu2, rfl⟩
        simp -dsimp [f4, hkw]
        exact ⟨l.length - (i + 1), by omega, i + 1, rfl, by omega, f0, v2, f3, by omega, hlu2⟩
    · have hii : i = l.length := by omega
      subst hii
      have hlt' : ¬ (l.length : Int) < (l.length : Int) := by omega
      rw [List.take_length] at hlu
      rw [hv] at e0
      simp -dsimp [e0, e4, hlt', e3]
      exact hlu
  · rintro env m' ⟨v', g, e3, hlu, rfl⟩
    unfold lstSV lstSM at h
    simp -dsimp [e3]
    rcases hlu with ⟨rfl, rfl⟩ | ⟨hne, p, rfl, hg⟩
    · exact fin_ret rfl (leave_pure (by simp) (by simpa using h))
    · rw [if_neg hne, if_neg hne] at h
      exact fin_ret rfl (leave_row_at (i := p) hg (flatS_gnd l) hf h)

def wordsA (l : List Nat) : Array Value := (l.map fun (x : Nat) => Value.int .u32 (x : Int)).toArray
def opsA (l : List OpZ) : Array Value := (l.flatMap opL).toArray
theorem opsA_size (l : List OpZ) : (opsA l).size = l.length * 6 := by
  unfold opsA
  exact flat_size opL 6 (fun _ => rfl) l
theorem wordsA_gnd (l : List Nat) : ∀ x ∈ wordsA l, gnd0 x = true := by
  intro x hx
  simp only [wordsA, List.mem_toArray, List.mem_map] at hx
  obtain ⟨_, _, rfl⟩ := hx; rfl
theorem opsA_gnd (l : List OpZ) : ∀ x ∈ opsA l, gnd0 x = true := by
  intro x hx
  simp only [opsA, List.mem_toArray, List.mem_flatMap] at hx
  obtain ⟨o, _, hx⟩ := hx
  simp only [opL, List.mem_cons, List.not_mem_nil, or_false] at hx
  rcases hx with rfl | rfl | rfl | rfl | rfl | rfl <;> rfl
theorem words_ext {c : Array Value} {off : Nat} {l : List Nat} (hsz : off + l.length ≤ c.size) (hc : ∀ (j x : Nat), l[j]? = some x → c[off + j]? = some (.int .u32 (x : Int))) : c.extract off (off + l.length) = wordsA l := by
  apply Array.ext_getElem?
  intro i
  rw [Array.getElem?_extract]
  by_cases hi : i < l.length
  · rw [if_pos (by omega)]
    obtain ⟨x, hx⟩ : ∃ x, l[i]? = some x := ⟨l[i], List.getElem?_eq_getElem hi⟩
    rw [hc i x hx]
    simp [wordsA, hx]
  · rw [if_neg (by omega), Array.getElem?_eq_none (by simp [wordsA]; omega)]
theorem ops_ext {c : Array Value} {off cap : Nat} {l : List OpZ} (hcap : l.length ≤ cap) (hsz : off + cap * 6 ≤ c.size) (hc : ∀ (j : Nat) (o : OpZ), l[j]? = some o → c.extract (off + j * 6) (off + j * 6 + 6) = (opL o).toArray) : c.extract off (off + l.length * 6) = opsA l := by
  have hs := opsA_size l
  have hle : l.length * 6 ≤ cap * 6 := Nat.mul_le_mul_right 6 hcap
  apply Array.ext_getElem?
  intro i
  rw [Array.getElem?_extract]
  by_cases hi : i < l.length * 6
  · rw [if_pos (by omega)]
    have hj : i / 6 < l.length := by omega
    obtain ⟨o, ho⟩ : ∃ o, l[i / 6]? = some o := ⟨l[i / 6], List.getElem?_eq_getElem hj⟩
    have h1 := hc _ o ho
    have h2 : (opsA l).extract (i / 6 * 6) (i / 6 * 6 + 6) = (opL o).toArray := by
      unfold opsA
      rw [flat_extract opL 6 (fun _ => rfl) l (i / 6) hj]
      rw [List.getElem?_eq_getElem hj] at ho
      rw [Option.some.inj ho]
    have e1 : (c.extract (off + i / 6 * 6) (off + i / 6 * 6 + 6))[i % 6]? = c[off + i]? := by
      rw [Array.getElem?_extract, if_pos (by omega)]
      congr 1; omega
    have e2 : ((opsA l).extract (i / 6 * 6) (i / 6 * 6 + 6))[i % 6]? = (opsA l)[i]? := by
      rw [Array.getElem?_extract, if_pos (by omega)]
      congr 1; omega
    rw [← e1, h1, ← h2, e2]
  · rw [if_neg (by omega), Array.getElem?_eq_none (by omega)]

def lstWV (k : Nat) (n : Nat) : Value := if n = 0 then .slice none 0 0 else .slice (some ⟨k, 0, none⟩) n n
def lstWM (m : Mem) (k : Nat) (n e : Nat) (c : Array Value) : Mem := if n = 0 then m else m.put k (.cells false e c)
set_option maxRecDepth 100000 in
set_option maxHeartbeats 8000000 in
theorem cwords_tc (l : List Nat) (v : Value) (m : Mem) (hl : WordsAt m v l) (hlen : l.length ≤ 40) (kk : Nat) (hf : m.get kk = .free) (Q : Value → Mem → Prop) (h : Q (lstWV kk l.length) (lstWM m kk l.length 1 (wordsA l))) : TC Try.prog 34 [v] m Q := by
  refine TC_fn mixed Try.func34 rfl Try.ntmps34 rfl (by decide) (by simp) ?_
  unfold lstWV lstWM at h
  rcases hl.2 with ⟨rfl, rfl⟩ | ⟨k, off, cap, ro, c, rfl, hcap, hm, hsz, hc⟩
  · simp -dsimp
    exact fin_ret rfl (leave_pure (by simp) (by simpa using h))
  have htop := lt_cells hm
  have hgt : ∀ os, ({ base := m.get, n := m.top, loc := os } : Mem).get k = .cells ro 1 c := fun os => by rw [get_base _ _ _ htop, hm]
  have hb : ¬ 17592186044416 < l.length * 4 := by omega
  have hin : off + l.length ≤ c.size := by omega
  have hex : c.extract off (off + l.length) = wordsA l := words_ext (by omega) hc
  by_cases hne : l = []
  · subst hne
    have hin0 : off ≤ c.size := by omega
    simp -dsimp [hgt, hin0]
    exact fin_ret rfl (leave_pure (by simp) (by simpa using h))
  · have hn0 : ¬ l.length = 0 := fun e => hne (List.length_eq_zero_iff.1 e)
    rw [if_neg hn0, if_neg hn0] at h
    simp -dsimp [hgt, hb, hne, hex, hin]
    exact fin_ret rfl (leave_row_at (i := 0) (by simp) (wordsA_gnd l) hf h)
set_option maxRecDepth 100000 in
set_option maxHeartbeats 8000000 in
theorem cops_tc (l : List OpZ) (v : Value) (m : Mem) (hl : OpsAt m v l) (hlen : l.length ≤ 130) (kk : Nat) (hf : m.get kk = .free) (Q : Value → Mem → Prop) (h : Q (lstWV kk l.length) (lstWM m kk l.length 6 (opsA l))) : TC Try.prog 103 [v] m Q := by
  refine TC_fn mixed Try.func103 rfl Try.ntmps103 rfl (by decide) (by simp) ?_
  unfold lstWV lstWM at h
  rcases hl with ⟨rfl, rfl⟩ | ⟨k, off, cap, ro, c, rfl, hcap, hm, hsz, hc⟩
  · simp -dsimp
    exact fin_ret rfl (leave_pure (by simp) (by simpa using h))
  have htop := lt_cells hm
  have hgt : ∀ os, ({ base := m.get, n := m.top, loc := os } : Mem).get k = .cells ro 6 c := fun os => by rw [get_base _ _ _ htop, hm]
  have hb : ¬ 17592186044416 < l.length * 48 := by omega
  have hle : l.length * 6 ≤ cap * 6 := Nat.mul_le_mul_right 6 hcap
  have hin : off + l.length * 6 ≤ c.size := by omega
  have hex := ops_ext hcap hsz hc
  by_cases hne : l = []
  · subst hne
    have hin0 : off ≤ c.size := by omega
    simp -dsimp [hgt, hin0]
    exact fin_ret rfl (leave_pure (by simp) (by simpa using h))
  · have hn0 : ¬ l.length = 0 := fun e => hne (List.length_eq_zero_iff.1 e)
    rw [if_neg hn0, if_neg hn0] at h
    simp -dsimp [hgt, hb, hne, hex, hin]
    exact fin_ret rfl (leave_row_at (i := 0) (by simp) (opsA_gnd l) hf h)
end Go.Lm
/- law00.Block: a copy of a block. -/
set_option linter.unusedSimpArgs false
set_option linter.unusedVariables false
namespace Go.Lm
open Go.Proofs

theorem WordsAt_mle {m m' : Mem} {v : Value} {l : List Nat} (h : WordsAt m v l) (hm : Mle m.get m'.get) : WordsAt m' v l := by
  refine ⟨h.1, ?_⟩
  rcases h.2 with h | ⟨k, off, cap, ro, c, e, h1, hk, h2, h3⟩
  · exact .inl h
  · exact .inr ⟨k, off, cap, ro, c, e, h1, hm.cells hk, h2, h3⟩
theorem OpsAt_mle {m m' : Mem} {v : Value} {l : List OpZ} (h : OpsAt m v l) (hm : Mle m.get m'.get) : OpsAt m' v l := by
  rcases h with h | ⟨k, off, cap, ro, c, e, h1, hk, h2, h3⟩
  · exact .inl h
  · exact .inr ⟨k, off, cap, ro, c, e, h1, hm.cells hk, h2, h3⟩
theorem SpsAt_mle {m m' : Mem} {v : Value} {l : List Sp} (h : SpsAt m v l) (hm : Mle m.get m'.get) : SpsAt m' v l := by
  rcases h with h | ⟨k, off, cap, ro, c, e, h1, hk, h2, h3⟩
  · exact .inl h
  · exact .inr ⟨k, off, cap, ro, c, e, h1, hm.cells hk, h2, h3⟩
theorem mle_loc (m : Mem) (loc : List Ob) : Mle m.get (Mem.mk m.get m.top loc).get := fun k hk => get_base _ _ _ (get_lt hk)

theorem leave_rowv {m : Mem} {loc : List Ob} {i e kk : Nat} {c : Array Value} {v v0 : Value} {Q : Value → Mem → Prop} (hi : loc[i]? = some (.cells false e c)) (hc : ∀ x ∈ c, gnd0 x = true) (hf : m.get kk = .free)
    (hv : v = rnV (fun x => if x = kk then m.top + i else x) v0) (hok : okV (fun k => (m.put kk (.cells false e c)).get k ≠ .free) v0) (h : Q v0 (m.put kk (.cells false e c))) :
    ∃ m0 v1, Nonempty (Leave m { base := m.get, n := m.top, loc := loc } v m0 v1) ∧ Q v1 m0 := by
  have hg : (m.put kk (.cells false e c)).get = Mset m.get kk (.cells false e c) := Mem.get_put _ _ _
  have hlt : ∀ k, k ≠ kk → ((m.put kk (.cells false e c)).get k).alive = true → (m.get k).alive = true ∧ k < m.top := fun k hk ha => by
    rw [hg, Mset_ne _ _ hk] at ha
    exact ⟨ha, get_lt fun e => by rw [e] at ha; cases ha⟩
  refine ⟨m.put kk (.cells false e c), v0, ⟨⟨_, hv, hok, fun k hk => ⟨?_, ?_⟩, fun k hk => ?_, fun k k' hne hk hk' => ?_⟩⟩, h⟩
  · have e1 : k ≠ kk := fun e => hk (by rw [e]; exact hf)
    exact if_neg e1
  · have e1 : k ≠ kk := fun e => hk (by rw [e]; exact hf)
    rw [hg, Mset_ne _ _ e1]; exact hk
  · by_cases e1 : k = kk
    · right
      rw [if_pos e1, e1, hg, Mset_same, get_loc, hi]
      refine ⟨?_, fun x hx => okS_gnd0 (hc x hx)⟩
      simp only [Option.getD_some, rnO, rn_gnds hc]
    · left
      obtain ⟨h1, h2⟩ := hlt k e1 hk
      exact ⟨fun e => (by rw [e] at h1; cases h1), by rw [hg, Mset_ne _ _ e1], get_base _ _ _ h2⟩
  · by_cases e1 : k = kk
    · by_cases e2 : k' = kk
      · exact absurd (e1.trans e2.symm) hne
      · rw [if_pos e1, if_neg e2]; have := (hlt k' e2 hk').2; omega
    · by_cases e2 : k' = kk
      · rw [if_neg e1, if_pos e2]; have := (hlt k e1 hk).2; omega
      · rw [if_neg e1, if_neg e2]; exact hne

theorem leave_rows2 {m : Mem} {loc : List Ob} {i j e e' kk ko : Nat} {c c' : Array Value} {v v0 : Value} {Q : Value → Mem → Prop} (hi : loc[i]? = some (.cells false e c)) (hj : loc[j]? = some (.cells false e' c')) (hij : i ≠ j)
    (hc : ∀ x ∈ c, gnd0 x = true) (hc' : ∀ x ∈ c', gnd0 x = true) (hf : m.get kk = .free) (hfo : m.get ko = .free) (hne : kk ≠ ko)
    (hv : v = rnV (fun x => if x = kk then m.top + i else if x = ko then m.top + j else x) v0) (hok : okV (fun k => ((m.put kk (.cells false e c)).put ko (.cells false e' c')).get k ≠ .free) v0)
    (h : Q v0 ((m.put kk (.cells false e c)).put ko (.cells false e' c'))) :
    ∃ m0 v1, Nonempty (Leave m { base := m.get, n := m.top, loc := loc } v m0 v1) ∧ Q v1 m0 := by
  have hg : ((m.put kk (.cells false e c)).put ko (.cells false e' c')).get = Mset (Mset m.get kk (.cells false e c)) ko (.cells false e' c') := by rw [Mem.get_put, Mem.get_put]
  have hlt : ∀ k, k ≠ kk → k ≠ ko → (((m.put kk (.cells false e c)).put ko (.cells false e' c')).get k).alive = true → (m.get k).alive = true ∧ k < m.top := fun k hk hk2 ha => by
    rw [hg, Mset_ne _ _ hk2, Mset_ne _ _ hk] at ha
    exact ⟨ha, get_lt fun e => by rw [e] at ha; cases ha⟩
  refine ⟨(m.put kk (.cells false e c)).put ko (.cells false e' c'), v0, ⟨⟨_, hv, hok, fun k hk => ⟨?_, ?_⟩, fun k hk => ?_, fun k k' hkk hk hk' => ?_⟩⟩, h⟩
  · have e1 : k ≠ kk := fun e => hk (by rw [e]; exact hf)
    have e2 : k ≠ ko := fun e => hk (by rw [e]; exact hfo)
    simp only [if_neg e1, if_neg e2]
  · have e1 : k ≠ kk := fun e => hk (by rw [e]; exact hf)
    have e2 : k ≠ ko := fun e => hk (by rw [e]; exact hfo)
    rw [hg, Mset_ne _ _ e2, Mset_ne _ _ e1]; exact hk
  · by_cases e1 : k = kk
    · right
      subst e1
      simp only [if_true]
      rw [hg, Mset_ne _ _ hne, Mset_same, get_loc, hi]
      refine ⟨?_, fun x hx => okS_gnd0 (hc x hx)⟩
      simp only [Option.getD_some, rnO, rn_gnds hc]
    · by_cases e2 : k = ko
      · right
        subst e2
        simp only [if_neg e1, if_true]
        rw [hg, Mset_same, get_loc, hj]
        refine ⟨?_, fun x hx => okS_gnd0 (hc' x hx)⟩
        simp only [Option.getD_some, rnO, rn_gnds hc']
      · left
        obtain ⟨h1, h2⟩ := hlt k e1 e2 hk
        exact ⟨fun e => (by rw [e] at h1; cases h1), by rw [hg, Mset_ne _ _ e2, Mset_ne _ _ e1], get_base _ _ _ h2⟩
  · have cs : ∀ k, (((m.put kk (.cells false e c)).put ko (.cells false e' c')).get k).alive = true → k = kk ∨ k = ko ∨ (k ≠ kk ∧ k ≠ ko ∧ k < m.top) := fun k hk => by
      by_cases e1 : k = kk
      · exact .inl e1
      · by_cases e2 : k = ko
        · exact .inr (.inl e2)
        · exact .inr (.inr ⟨e1, e2, (hlt k e1 e2 hk).2⟩)
    have hne' : ko ≠ kk := fun e => hne e.symm
    rcases cs k hk with rfl | rfl | ⟨a1, a2, a3⟩ <;> rcases cs k' hk' with rfl | rfl | ⟨b1, b2, b3⟩ <;> simp only [*, if_true, if_false] <;> omega

def blkV (pc : Nat) (vw vo : Value) : Value := .agg #[.int .u32 pc, vw, vo]

set_option maxRecDepth 100000 in
set_option maxHeartbeats 8000000 in
theorem block_tc (pc : Nat) (ws : List Nat) (vw : Value) (ops : List OpZ) (vo : Value) (m : Mem) (hw : WordsAt m vw ws) (ho : OpsAt m vo ops) (hwl : ws.length ≤ 40) (hol : ops.length ≤ 130) (kk ko : Nat) (hf : m.get kk = .free) (hfo : m.get ko = .free) (hne : kk ≠ ko) (Q : Value → Mem → Prop)
    (h : Q (blkV pc (lstWV kk ws.length) (lstWV ko ops.length)) (lstWM (lstWM m kk ws.length 1 (wordsA ws)) ko ops.length 6 (opsA ops))) :
    TC Try.prog 43 [blkV pc vw vo] m Q := by
  refine TC_fn mixed Try.func43 rfl Try.ntmps43 rfl (by decide) (by simp) ?_
  unfold blkV at *
  refine wpc_st fun K hK => ?_
  simp -dsimp
  refine hK _ _ ?_
  clear hK K
  refine wpc_sq fun K hK => ?_
  simp -dsimp
  refine draw_go 8 [0, 1, 0, 4, 12, 0, 32, 124, 255, 511] (by kernel_rfl) (by kernel_rfl) ?_
  simp -dsimp -implicitDefEqProofs
  have hwc : ∀ m' : Mem, Mle (Mem.mk m.get m.top [Ob.cells false 0 #[Value.int IntKind.u32 (pc : Int), vw, vo], Ob.cells false 0 #[Value.int IntKind.u32 0, Value.slice none 0 0, Value.slice none 0 0]]).get m'.get → WordsAt m' vw ws := fun m' h => WordsAt_mle (WordsAt_to hw _) h
  have hoc : ∀ m' : Mem, Mle (Mem.mk m.get m.top [Ob.cells false 0 #[Value.int IntKind.u32 (pc : Int), vw, vo], Ob.cells false 0 #[Value.int IntKind.u32 0, Value.slice none 0 0, Value.slice none 0 0]]).get m'.get → OpsAt m' vo ops := fun m' h => OpsAt_mle (OpsAt_to ho _) h
  rcases Nat.eq_zero_or_pos ws.length with hw0 | hw1
  · simp only [lstWV, lstWM, hw0, if_true] at h
    refine .inl ⟨_, fun m' hm => cwords_tc ws vw m' (hwc m' hm) hwl m'.top m'.get_top _ ⟨by simp [lstWV, hw0]; rfl, by simp [lstWM, hw0]⟩, drw_go ?_⟩
    simp -dsimp -implicitDefEqProofs [Nat.add_assoc]
    rcases Nat.eq_zero_or_pos ops.length with ho0 | ho1
    · simp only [ho0, if_true] at h
      refine .inl ⟨_, fun m' hm => cops_tc ops vo m' (hoc m' hm) hol m'.top m'.get_top _ ⟨by simp [lstWV, ho0]; rfl, by simp [lstWM, ho0]⟩, drw_go ?_⟩
      simp -dsimp -implicitDefEqProofs [Nat.add_assoc]
      refine hK _ _ ?_
      clear hK K
      simp -dsimp
      exact fin_ret (by simp -dsimp [Nat.add_assoc]; rfl) (leave_pure (by simp) (by simpa using h))
    · have hon : ¬ ops.length = 0 := by omega
      simp only [hon, if_false] at h
      refine .inr ⟨_, _, fun m' hm hf => cops_tc ops vo m' (hoc m' hm) hol _ hf _ ⟨by simp [lstWV, hon]; rfl, by simp [lstWM, hon]; rfl⟩, drw_go ?_⟩
      simp -dsimp -implicitDefEqProofs [Nat.add_assoc]
      refine hK _ _ ?_
      clear hK K
      simp -dsimp
      refine fin_ret (by simp -dsimp [Nat.add_assoc]; rfl) ?_
      refine leave_rowv (i := 2) rfl (opsA_gnd ops) hfo ?_ ?_ h
      · simp [rnV, rnT, rnS, rnB, rnA]
      · simp [okV, okT, okS, okB, Mem.get_put]
  · have hwn : ¬ ws.length = 0 := by omega
    simp only [lstWV, lstWM, hwn, if_false] at h
    refine .inr ⟨_, _, fun m' hm hf => cwords_tc ws vw m' (hwc m' hm) hwl _ hf _ ⟨by simp [lstWV, hwn]; rfl, by simp [lstWM, hwn]; rfl⟩, drw_go ?_⟩
    simp -dsimp -implicitDefEqProofs [Nat.add_assoc]
    rcases Nat.eq_zero_or_pos ops.length with ho0 | ho1
    · simp only [ho0, if_true] at h
      refine .inl ⟨_, fun m' hm => cops_tc ops vo m' (OpsAt_mle (OpsAt_to ho _) hm) hol m'.top m'.get_top _ ⟨by simp [lstWV, ho0]; rfl, by simp [lstWM, ho0]⟩, drw_go ?_⟩
      simp -dsimp -implicitDefEqProofs [Nat.add_assoc]
      refine hK _ _ ?_
      clear hK K
      simp -dsimp
      refine fin_ret (by simp -dsimp [Nat.add_assoc]; rfl) ?_
      refine leave_rowv (i := 2) rfl (wordsA_gnd ws) hf ?_ ?_ h
      · simp [rnV, rnT, rnS, rnB, rnA]
      · simp [okV, okT, okS, okB, Mem.get_put]
    · have hon : ¬ ops.length = 0 := by omega
      simp only [hon, if_false] at h
      refine .inr ⟨_, _, fun m' hm hf => cops_tc ops vo m' (OpsAt_mle (OpsAt_to ho _) hm) hol _ hf _ ⟨by simp [lstWV, hon]; rfl, by simp [lstWM, hon]; rfl⟩, drw_go ?_⟩
      simp -dsimp -implicitDefEqProofs [Nat.add_assoc]
      refine hK _ _ ?_
      clear hK K
      simp -dsimp
      refine fin_ret (by simp -dsimp [Nat.add_assoc]; rfl) ?_
      refine leave_rows2 (i := 2) (j := 3) rfl rfl (by decide) (wordsA_gnd ws) (opsA_gnd ops) hf hfo hne ?_ ?_ h
      · have hne' : ¬ ko = kk := fun e => hne e.symm
        simp [rnV, rnT, rnS, rnB, rnA, hne']
      · simp [okV, okT, okS, okB, Mem.get_put, Mset_ne _ _ hne]
end Go.Lm
/- calquelaw23.awake. -/
set_option linter.unusedSimpArgs false
set_option linter.unusedVariables false
namespace Go.Lm
open Go.Proofs

def awl : List Sp := [⟨1, 0, 9⟩, ⟨2, 0, 9⟩, ⟨3, 0, 9⟩]
theorem aw_run : (asRun awl (regsQ 2) 3).2 = [0, 1, -1] := by decide
theorem y80 : (Array.range 9).map (fun x => [Value.int .i64 0, Value.int .i64 0, Value.int .i64 0][x % 3]?.getD default) = #[.int .i64 0, .int .i64 0, .int .i64 0, .int .i64 0, .int .i64 0, .int .i64 0, .int .i64 0, .int .i64 0, .int .i64 0] := by kernel_rfl
theorem y81 : (Array.range 3).map (fun x => [Value.int .i64 0][x % 1]?.getD default) = #[.int .i64 0, .int .i64 0, .int .i64 0] := by kernel_rfl
theorem awake23_tc (m : Mem) (Q : Value → Mem → Prop) (h : Q (.bool true) m) : TC Try.prog 41 [] m Q := by
  refine TC_fn mixed Try.func41 rfl Try.ntmps41 rfl (by decide) (by simp) ?_
  simp -dsimp [y80, y81]
  refine assign_tc awl _ 2 _ (.inr ⟨m.top, 0, 3, false, flatS awl, rfl, by decide, by rw [get_loc0]; rfl, by decide, fun j s hj => ?_⟩) (by decide) (m.top + 1) (by rw [get_loc]; rfl) _ ?_
  · match j, hj with
    | 0, hj => cases hj; rfl
    | 1, hj => cases hj; rfl
    | 2, hj => cases hj; rfl
  rw [show awl.length = 3 from rfl, aw_run]
  simp -dsimp [y81]
  refine sameints_tc [0, 1, -1] [0, 1, -1] _ _ _ (.inr ⟨m.top + 1, rfl, by rw [get_loc]; rfl⟩) (.inr ⟨m.top + 2, rfl, by rw [get_loc]; rfl⟩) (by decide) _ ?_
  rw [show eqInts [0, 1, -1] [0, 1, -1] = true by decide]
  simp -dsimp
  exact fin_ret rfl (leave_pure (by simp) (by simpa using h))
end Go.Lm
/- Contracts for AllocAll with memory that only grows. -/
set_option linter.unusedSimpArgs false
set_option linter.unusedVariables false
namespace Go.Lm
open Go.Proofs

theorem mle_put {m : Mem} {k : Nat} {o : Ob} (h : m.get k = .free) : Mle m.get (m.put k o).get := fun j hj => by
  have e : j ≠ k := fun e => hj (by rw [e]; exact h)
  rw [Mem.get_put, Mset_ne _ _ e]
theorem mle_tr {A B C : Nat → Ob} (h : Mle A B) (h' : Mle B C) : Mle A C := fun k hk => by
  have e := h k hk
  rw [h' k (by rw [e]; exact hk), e]
theorem mle_rfl {A : Nat → Ob} : Mle A A := fun _ _ => rfl
theorem IntsIn_mle {m m' : Mem} {v : Value} {l : List Int} (h : IntsIn m v l) (hm : Mle m.get m'.get) : IntsIn m' v l := by
  rcases h with h | ⟨k, e, hk⟩
  · exact .inl h
  · exact .inr ⟨k, e, hm.cells hk⟩

theorem wordsA_at (l : List Nat) (j x : Nat) (h : l[j]? = some x) : (wordsA l)[0 + j]? = some (.int .u32 (x : Int)) := by
  simp [wordsA, h]
theorem block_tc2 (pc : Nat) (ws : List Nat) (vw : Value) (ops : List OpZ) (vo : Value) (m : Mem) (hw : WordsAt m vw ws) (ho : OpsAt m vo ops) (hwl : ws.length ≤ 40) (hol : ops.length ≤ 130) (Q : Value → Mem → Prop)
    (h : ∀ vw' vo' m', WordsAt m' vw' ws → OpsAt m' vo' ops → Mle m.get m'.get → Q (blkV pc vw' vo') m') : TC Try.prog 43 [blkV pc vw vo] m Q := by
  have hf : m.get m.top = .free := m.get_top
  have hf2 : m.get (m.top + 1) = .free := get_top_le (by omega)
  refine block_tc pc ws vw ops vo m hw ho hwl hol m.top (m.top + 1) hf hf2 (by omega) Q (h _ _ _ ?_ ?_ ?_)
  · refine ⟨hw.1, ?_⟩
    by_cases e : ws.length = 0
    · refine .inl ⟨List.length_eq_zero_iff.1 e, ?_⟩
      simp [lstWV, e]
    · refine .inr ⟨m.top, 0, ws.length, false, wordsA ws, by simp [lstWV, e], Nat.le_refl _, ?_, by simp [wordsA], wordsA_at ws⟩
      unfold lstWM
      rw [if_neg e]
      split
      · rw [Mem.get_put, Mset_same]
      · rw [Mem.get_put, Mset_ne _ _ (by omega), Mem.get_put, Mset_same]
  · by_cases e : ops.length = 0
    · refine .inl ⟨List.length_eq_zero_iff.1 e, ?_⟩
      simp [lstWV, e]
    · refine .inr ⟨m.top + 1, 0, ops.length, false, opsA ops, by simp [lstWV, e], Nat.le_refl _, ?_, by rw [opsA_size]; omega, fun j o hj => ?_⟩
      · unfold lstWM
        rw [if_neg e, Mem.get_put, Mset_same]
      · have hjl := (List.getElem?_eq_some_iff.1 hj).1
        rw [Nat.zero_add]
        unfold opsA
        rw [flat_extract opL 6 (fun _ => rfl) ops j hjl]
        rw [List.getElem?_eq_getElem hjl] at hj
        rw [Option.some.inj hj]
  · have h1 : Mle m.get (lstWM m m.top ws.length 1 (wordsA ws)).get := by
      unfold lstWM; split
      · exact mle_rfl
      · exact mle_put hf
    refine mle_tr h1 ?_
    have h2 : (lstWM m m.top ws.length 1 (wordsA ws)).get (m.top + 1) = .free := by
      unfold lstWM; split
      · exact hf2
      · rw [Mem.get_put, Mset_ne _ _ (by omega)]; exact hf2
    generalize lstWM m m.top ws.length 1 (wordsA ws) = m1 at *
    unfold lstWM; split
    · exact mle_rfl
    · exact mle_put h2

theorem lstS_at {m : Mem} {k : Nat} (hf : m.get k = .free) (l : List Sp) : SpsAt (lstSM m k l) (lstSV k l) l ∧ Mle m.get (lstSM m k l).get := by
  unfold lstSM lstSV
  by_cases e : l = []
  · rw [if_pos e, if_pos e]
    exact ⟨.inl ⟨e, rfl⟩, mle_rfl⟩
  · rw [if_neg e, if_neg e]
    refine ⟨.inr ⟨k, 0, l.length, false, flatS l, rfl, Nat.le_refl _, by rw [Mem.get_put, Mset_same], by rw [flatS_size]; omega, fun j s hj => ?_⟩, mle_put hf⟩
    have hjl := (List.getElem?_eq_some_iff.1 hj).1
    rw [Nat.zero_add]
    unfold flatS
    rw [flat_extract spV 3 (fun _ => rfl) l j hjl]
    rw [List.getElem?_eq_getElem hjl] at hj
    rw [Option.some.inj hj]
theorem spans_tc2 (pc : Nat) (hpc : pc < 2 ^ 32) (ws : List Nat) (vw : Value) (ops : List OpZ) (vo : Value) (m : Mem) (hw : WordsAt m vw ws) (ho : OpsAt m vo ops) (Q : Value → Mem → Prop)
    (h : ∀ l v m', (checkQ pc ws ops = false → l = []) → (checkQ pc ws ops = true → SpansR (nmQ ops) l ∧ l.length ≤ 480) → SpsAt m' v l → Mle m.get m'.get → Q v m') : TC Try.prog 42 [blkV pc vw vo] m Q :=
  spans_tc pc hpc ws vw ops vo m hw ho m.top m.get_top Q fun l h1 h2 => h l _ _ h1 h2 (lstS_at m.get_top l).1 (lstS_at m.get_top l).2
theorem rspans_tc2 (pc : Nat) (hpc : pc < 2 ^ 32) (ws : List Nat) (vw : Value) (ops : List OpZ) (vo : Value) (m : Mem) (hw : WordsAt m vw ws) (ho : OpsAt m vo ops) (Q : Value → Mem → Prop)
    (h : ∀ l v m', (checkQ pc ws ops = false → l = []) → (checkQ pc ws ops = true → SpansR (nmQ ops) l ∧ l.length ≤ 480) → SpsAt m' v l → Mle m.get m'.get → Q v m') : TC Try.prog 44 [blkV pc vw vo] m Q :=
  rspans_tc pc hpc ws vw ops vo m hw ho m.top m.get_top Q fun l h1 h2 => h l _ _ h1 h2 (lstS_at m.get_top l).1 (lstS_at m.get_top l).2
theorem list_tc2 (l : List Sp) (v : Value) (m : Mem) (hl : SpsAt m v l) (hlen : l.length ≤ 64) (Q : Value → Mem → Prop) (h : ∀ v' m', SpsAt m' v' l → Mle m.get m'.get → Q v' m') : TC Try.prog 48 [v] m Q :=
  list_tc l v m hl hlen m.top m.get_top Q (h _ _ (lstS_at m.get_top l).1 (lstS_at m.get_top l).2)
theorem assign_tc2 (l : List Sp) (v : Value) (regs : Int) (m : Mem) (hl : SpsAt m v l) (hlen : l.length ≤ 64) (hr : (asRun l (regsQ regs) l.length).2.length = l.length) (Q : Value → Mem → Prop) (h : ∀ v' m', IntsIn m' v' (asRun l (regsQ regs) l.length).2 → Mle m.get m'.get → Q v' m') : TC Try.prog 47 [v, .int .i64 regs] m Q :=
  assign_tc l v regs m hl hlen m.top m.get_top Q (h _ _ (.inr ⟨m.top, by rw [hr], by rw [Mem.get_put, Mset_same]⟩) (mle_put m.get_top))
theorem rassign_tc2 (l : List Sp) (v : Value) (regs : Int) (m : Mem) (hl : SpsAt m v l) (hlen : l.length ≤ 64) (Q : Value → Mem → Prop) (h : ∀ v' m', IntsIn m' v' (assignQ l (regsQ regs)) → Mle m.get m'.get → Q v' m') : TC Try.prog 49 [v, .int .i64 regs] m Q := by
  refine rassign_tc l v regs m hl hlen m.top m.get_top Q (h _ _ ?_ ?_)
  · unfold lstV lstM
    by_cases e : assignQ l (regsQ regs) = []
    · rw [if_pos e, if_pos e]; exact .inl ⟨e, rfl⟩
    · rw [if_neg e, if_neg e]; exact .inr ⟨m.top, rfl, by rw [Mem.get_put, Mset_same]⟩
  · unfold lstM; split
    · exact mle_rfl
    · exact mle_put m.get_top
theorem leave_mle {m m' : Mem} {v : Value} {Q : Value → Mem → Prop} (hv : gnd0 v = true) (hm : Mle m.get m'.get) (h : Q v m) : ∃ m0 v1, Nonempty (Leave m m' v m0 v1) ∧ Q v1 m0 :=
  ⟨m, v, ⟨⟨id, (rnV_id v).symm, okV_gnd0 hv, fun k hk => ⟨rfl, hk⟩, fun k hk => .inl ⟨fun e => by (rw [e] at hk; cases hk), rfl, hm k (fun e => by rw [e] at hk; cases hk)⟩, fun k k' hne _ _ => hne⟩⟩, h⟩

end Go.Lm
/- calquelaw23.AllocAll. -/
set_option linter.unusedSimpArgs false
set_option linter.unusedVariables false
namespace Go.Lm
open Go.Proofs

set_option maxRecDepth 100000 in
set_option maxHeartbeats 8000000 in
theorem alloc_tc (pc : Nat) (hpc : pc < 2 ^ 32) (ws : List Nat) (vw : Value) (ops : List OpZ) (vo : Value) (l : List Sp) (vl : Value) (regs : Int) (m : Mem) (hw : WordsAt m vw ws) (ho : OpsAt m vo ops) (hl : SpsAt m vl l) (hlen : l.length < 2 ^ 63)
    (Q : Value → Mem → Prop) (h : Q (.bool true) m) : TC Try.prog 13 [blkV pc vw vo, vl, .int .i64 regs] m Q := by
  refine TC_fn mixed Try.func13 rfl Try.ntmps13 rfl (by decide) (by simp) ?_
  obtain ⟨ao, co, hvo⟩ := OpsAt_cap ho
  obtain ⟨aw, cw, hvw⟩ := WordsAt_cap hw
  unfold blkV at *
  refine wpc_st fun K hK => ?_
  simp -dsimp
  refine hK _ _ ?_
  clear hK K
  refine wpc_sq fun K hK => ?_
  by_cases hol : 130 < ops.length
  · have hol' : (130 : Int) < (ops.length : Int) := by omega
    simp -dsimp [hvo, hvw, hol, hol', undef]
    refine awake23_tc _ _ ?_
    simp -dsimp
    exact fin_ret rfl (leave_pure (by simp) (by simpa using h))
  by_cases hwl : 40 < ws.length
  · have hwl' : (40 : Int) < (ws.length : Int) := by omega
    have hol' : ¬ (130 : Int) < (ops.length : Int) := by omega
    simp -dsimp [hvo, hvw, hol, hol', hwl, hwl', undef]
    refine awake23_tc _ _ ?_
    simp -dsimp
    exact fin_ret rfl (leave_pure (by simp) (by simpa using h))
  have hwl' : ¬ (40 : Int) < (ws.length : Int) := by omega
  have hol' : ¬ (130 : Int) < (ops.length : Int) := by omega
  simp -dsimp [hvo, hvw, hol, hol', hwl, hwl', undef]
  refine hK _ _ ?_
  clear hK K
  simp only [← hvo, ← hvw]
  refine wpc_sq fun K hK => ?_
  simp -dsimp
  refine draw_gol 3 m.top 24 (.cells false 0 #[.int .u32 pc, vw, vo]) (.agg #[.int .u32 pc, vw, vo]) [0, 1, 3, 0, 15, 31, 63] _ rfl rfl (by decide) (by kernel_rfl) (by kernel_rfl) (by kernel_rfl) (fun e m' K' he hX r => ?_) ?_
  · have h3 := he 3 (by simp [Oper.looksAt, Op.operands])
    simp -dsimp [elook] at h3
    simp -dsimp [h3, hX]
  refine wpoI_cons (by rw [get_loc0]; rfl) ?_
  simp -dsimp
  refine wpoI_cons (by rw [get_loc0]; rfl) ?_
  simp -dsimp
  refine block_tc2 pc ws vw ops vo _ (WordsAt_to hw _) (OpsAt_to ho _) (by omega) (by omega) _ fun vw1 vo1 m1 hw1 ho1 hm1 => ?_
  have hb1 : m1.get m.top = .cells false 0 #[.int .u32 pc, vw, vo] := hm1.cells (by rw [get_loc0]; rfl)
  simp -dsimp
  refine wpoI_cons hb1 ?_
  simp -dsimp
  refine spans_tc2 pc hpc ws vw1 ops vo1 m1 hw1 ho1 _ fun l2 v2 m2 hc2 hs2 hl2 hm2 => ?_
  have hb2 := hm2.cells hb1
  simp -dsimp
  refine wpoI_nil hb2 ?_
  simp -dsimp [hb2]
  have hm02 := mle_tr hm1 hm2
  have hm0 : Mle m.get m2.get := mle_tr (mle_loc m _) hm02
  refine rspans_tc2 pc hpc ws vw ops vo m2 (WordsAt_mle hw hm0) (OpsAt_mle ho hm0) _ fun l3 v3 m3 hc3 hs3 hl3 hm3 => ?_
  have hl2 := SpsAt_mle hl2 hm3
  have hm := mle_tr hm0 hm3
  have hll : l2 = l3 := by
    cases hck : checkQ pc ws ops with
    | false => rw [hc2 hck, hc3 hck]
    | true => exact (hs2 hck).1.unique (hs3 hck).1
  subst hll
  have hlen2 : l2.length ≤ 480 := by
    cases hck : checkQ pc ws ops with
    | false => rw [hc2 hck]; decide
    | true => exact (hs2 hck).2
  clear hc2 hs2 hc3 hs3 hb1 hb2 hw1 ho1 hm1 hm2 hm02 hm0
  obtain ⟨a2, c2, hv2⟩ := SpsAt_cap hl2
  obtain ⟨a3, c3, hv3⟩ := SpsAt_cap hl3
  simp -dsimp
  refine hK _ _ ?_
  clear hK K
  refine wpc_sq fun K hK => ?_
  simp -dsimp [hv2, hv3]
  refine hK _ _ ?_
  clear hK K
  simp only [← hv2, ← hv3]
  refine wpc_sq fun K hK => ?_
  simp -dsimp
  refine loop_by (fun f env m' => ∃ i, f = l2.length - i ∧ i ≤ l2.length ∧ elook env 1 = some vl ∧ elook env 2 = some (.int .i64 regs) ∧ elook env 7 = some v2 ∧ elook env 8 = some v3 ∧ elook env 9 = some (.int .i64 i) ∧ m' = m3) l2.length
    ⟨0, rfl, by omega, by simp -dsimp, by simp -dsimp, by simp -dsimp, by simp -dsimp, by simp -dsimp, rfl⟩ ?_
  rintro f env m' ⟨i, rfl, hi, e1, e2, e7, e8, e9, hm'⟩
  subst hm'
  by_cases hlt : i < l2.length
  · have hlt' : (i : Int) < (l2.length : Int) := by omega
    rcases hl2 with ⟨rfl, _⟩ | ⟨k2, o2, p2, r2, a2, q2, hp2, hg2, hz2, hc2⟩
    · simp at hlt
    rcases hl3 with ⟨rfl, _⟩ | ⟨k3, o3, p3, r3, a3, q3, hp3, hg3, hz3, hc3⟩
    · simp at hlt
    have hkw : IntKind.i64.wrap ((i : Int) + 1) = ((i + 1 : Nat) : Int) := wI64 (by omega) (by omega)
    obtain ⟨c0, c1, c2⟩ := sps_cell hc2 hlt
    obtain ⟨d0, d1, d2⟩ := sps_cell hc3 hlt
    rw [q2] at e7
    rw [q3] at e8
    refine wpc_sq fun K hK => ?_
    simp -dsimp [e7, e9, hlt']
    refine hK _ _ ?_
    clear hK K
    refine wpc_sq fun K hK => ?_
    simp -dsimp
    refine draw_gor (by kernel_rfl) ?_
    simp -dsimp -implicitDefEqProofs [undef, e7, e8, e9, hlt', hg2, hg3, c0, c1, c2, d0, d1, d2]
    refine hK _ _ ?_
    clear hK K
    simp -dsimp [e1, e2, e7, e8, e9, hkw]
    exact ⟨_, by omega, i + 1, rfl, by omega, q2.symm, q3.symm, rfl⟩
  · have hii : i = l2.length := by omega
    subst hii
    have hlt' : ¬ (l2.length : Int) < (l2.length : Int) := by omega
    simp only [hv2] at e7
    simp -dsimp [e7, e9, hlt']
    refine hK _ _ ?_
    clear hK K
    clear e7 e8 e9 hv2 hv3 hl2 hl3
    have hl' := SpsAt_mle hl hm
    refine wpc_sq fun K hK => ?_
    simp -dsimp [e1, e2]
    refine right_tc2 l vl m' hl' hlen _ fun b hb => ?_
    cases b with
    | false =>
      simp -dsimp [undef]
      refine awake23_tc _ _ ?_
      simp -dsimp
      refine hK _ _ ?_
      clear hK K
      simp -dsimp
      exact fin_ret rfl (leave_mle rfl hm h)
    | true =>
      obtain ⟨hr, hl64⟩ := hb rfl
      obtain ⟨_, as1, as2⟩ := asRun_eq hr (regsQ_le regs) l.length (Nat.le_refl _)
      simp -dsimp [undef, e1, e2]
      refine list_tc2 l vl m' hl' hl64 _ fun vl4 m4 hl4 hm4 => ?_
      simp -dsimp [undef, e1, e2]
      refine assign_tc2 l vl4 regs m4 hl4 hl64 (by rw [as1, as2]) _ fun va m5 ha5 hm5 => ?_
      simp -dsimp [undef, e1, e2]
      refine rassign_tc2 l vl regs m5 (SpsAt_mle (SpsAt_mle hl' hm4) hm5) hl64 _ fun vb m6 hb6 hm6 => ?_
      simp -dsimp [undef, e1, e2]
      refine sameints_tc _ _ va vb m6 (IntsIn_mle ha5 hm6) hb6 (by rw [as1, as2]; omega) _ ?_
      have heq : eqInts (asRun l (regsQ regs) l.length).2 (assignQ l (regsQ regs)) = true := by
        rw [as1]
        exact decide_eq_true rfl
      rw [heq]
      simp -dsimp [undef, e1, e2]
      refine awake23_tc _ _ ?_
      simp -dsimp [undef, e1, e2]
      refine hK _ _ ?_
      clear hK K
      simp -dsimp
      exact fin_ret rfl (leave_mle rfl (mle_tr hm (mle_tr hm4 (mle_tr hm5 hm6))) h)
end Go.Lm
/- AllocAll: arguments opened, and the walk. -/
set_option linter.unusedSimpArgs false
set_option linter.unusedVariables false
namespace Go.Lm
open Go.Proofs

def spZ (r : List Int) : Sp := ⟨r.getD 0 0, r.getD 1 0, r.getD 2 0⟩
def opZ (r : List Int) : OpZ := ⟨r.getD 0 0, r.getD 1 0, r.getD 2 0, r.getD 3 0, (r.getD 4 0).toNat, r.getD 5 0⟩
def kSp : List IntKind := [.i64, .i64, .i64]
def kOp : List IntKind := [.i64, .i64, .i64, .i64, .u32, .i64]

theorem RowAt_sps {m : Mem} {v : Value} {len : Nat} {zs : List (List Int)} (h : RowAt m kSp v len zs) : SpsAt m v ((zs.take len).map spZ) := by
  rcases h with ⟨rfl, rfl, rfl⟩ | ⟨k, rfl, hl, hk, hz⟩
  · exact .inl ⟨rfl, rfl⟩
  · have hr := fun r hr => (hz r hr).1
    have hll : ((zs.take len).map spZ).length = len := by simp; omega
    refine .inr ⟨k, 0, zs.length, true, _, by rw [hll], by omega, hk, by rw [rowsC_size hr, Nat.zero_add]; exact Nat.le_refl _, fun j s hj => ?_⟩
    rw [List.getElem?_map, Option.map_eq_some_iff] at hj
    obtain ⟨r, hj, rfl⟩ := hj
    rw [List.getElem?_take] at hj
    split at hj
    · have := rowsC_extract hr hj
      have h3 := hr r (List.mem_of_getElem? hj)
      rw [show kSp.length = 3 from rfl] at this h3
      rw [this]
      match r, h3 with
      | [a, b, c], _ => rfl
    · cases hj
theorem RowAt_ops {m : Mem} {v : Value} {len : Nat} {zs : List (List Int)} (h : RowAt m kOp v len zs) : OpsAt m v ((zs.take len).map opZ) := by
  rcases h with ⟨rfl, rfl, rfl⟩ | ⟨k, rfl, hl, hk, hz⟩
  · exact .inl ⟨rfl, rfl⟩
  · have hr := fun r hr => (hz r hr).1
    have hll : ((zs.take len).map opZ).length = len := by simp; omega
    refine .inr ⟨k, 0, zs.length, true, _, by rw [hll], by omega, hk, by rw [rowsC_size hr, Nat.zero_add]; exact Nat.le_refl _, fun j s hj => ?_⟩
    rw [List.getElem?_map, Option.map_eq_some_iff] at hj
    obtain ⟨r, hj, rfl⟩ := hj
    rw [List.getElem?_take] at hj
    split at hj
    · have := rowsC_extract hr hj
      have h3 := (hz r (List.mem_of_getElem? hj))
      rw [show kOp.length = 6 from rfl] at this h3
      rw [this]
      match r, h3 with
      | [a, b, c, d, e, f], h3 =>
        have h4 := h3.2 4 .u32 rfl
        obtain ⟨n, hn, _⟩ := nat_of_u32 h4
        have hn : e = (n : Int) := hn
        simp [opL, opZ, kOp, hn]
    · cases hj
theorem RowAt_words {m : Mem} {v : Value} {len : Nat} {zs : List (List Int)} (h : RowAt m [.u32] v len zs) : WordsAt m v ((zs.take len).map fun r => (r.getD 0 0).toNat) := by
  rcases h with ⟨rfl, rfl, rfl⟩ | ⟨k, rfl, hl, hk, hz⟩
  · exact ⟨by simp, .inl ⟨rfl, rfl⟩⟩
  · have hr := fun r hr => (hz r hr).1
    have hu : ∀ r ∈ zs, ∃ n : Nat, r = [(n : Int)] ∧ n < 2 ^ 32 := fun r hm => by
      obtain ⟨h1, h2⟩ := hz r hm
      obtain ⟨n, hn, hlt⟩ := nat_of_u32 (h2 0 .u32 rfl)
      match r, h1 with
      | [a], _ => exact ⟨n, by rw [show a = (n : Int) from hn], hlt⟩
    have hll : ((zs.take len).map fun r => (r.getD 0 0).toNat).length = len := by simp; omega
    refine ⟨fun x hx => ?_, .inr ⟨k, 0, zs.length, true, _, by rw [hll], by omega, hk, by rw [rowsC_size hr]; simp, fun j x hj => ?_⟩⟩
    · simp only [List.mem_map] at hx
      obtain ⟨r, hm, rfl⟩ := hx
      obtain ⟨n, rfl, hn⟩ := hu r (List.mem_of_mem_take hm)
      simpa using hn
    · rw [List.getElem?_map, Option.map_eq_some_iff] at hj
      obtain ⟨r, hj, rfl⟩ := hj
      rw [List.getElem?_take] at hj
      split at hj
      · have := rowsC_get (i := j) hr (show 0 < [IntKind.u32].length by decide)
        rw [hj] at this
        obtain ⟨n, rfl, hn⟩ := hu r (List.mem_of_getElem? hj)
        rw [show j * [IntKind.u32].length + 0 = 0 + j by simp] at this
        rw [this]
        simp
      · cases hj

theorem argsRel3 {σ : Sg} {x y z x' y' z' : Value} (h1 : vRel σ x x') (h2 : vRel σ y y') (h3 : vRel σ z z') : argsRel σ [x, y, z] #[x', y', z'] :=
  argsRel_cons h1 (argsRel_cons h2 (argsRel_cons h3 (argsRel_nil _)))
theorem vRel_agg3 {σ : Sg} {x y z x' y' z' : Value} (h1 : sRel σ x x') (h2 : sRel σ y y') (h3 : sRel σ z z') : vRel σ (.agg #[x, y, z]) (.agg #[x', y', z']) := by
  refine ⟨_, rfl, rfl, fun i a b ha hb => ?_⟩
  match i with
  | 0 => simp at ha hb; subst ha; subst hb; exact h1
  | 1 => simp at ha hb; subst ha; subst hb; exact h2
  | 2 => simp at ha hb; subst ha; subst hb; exact h3
  | i + 3 => simp at ha

theorem alloc_walk (W : World) (pc : Int) (hpc : (Lit.int .u32 pc).wf = true) (aw ao asp : Option Addr) (lw cw lo co ls cs : Nat) (zw zo zs : List (List Int)) (hw : RowsArg [.u32] W aw lw cw zw) (ho : RowsArg kOp W ao lo co zo) (hs : RowsArg kSp W asp ls cs zs) (regs : Int) :
    Calls Try.prog 13 #[.agg #[.int .u32 pc, .slice aw lw cw, .slice ao lo co], .slice asp ls cs, .int .i64 regs] W fun e W' => e = .returned (.bool true) ∧ Go.RowKit.Below W.heap.size W W' := by
  obtain ⟨p, rfl, hp⟩ := nat_of_u32 hpc
  obtain ⟨l1, o1, _, _, f1⟩ := rows_arg (by decide) hw
  obtain ⟨l2, o2, _, _, f2⟩ := rows_arg (by decide) ho
  obtain ⟨l3, o3, hlc, hcm, f3⟩ := rows_arg (by decide) hs
  obtain ⟨v1, r1, q1⟩ := f1 [] (l2 ++ l3)
  obtain ⟨v2, r2, q2⟩ := f2 l1 l3
  obtain ⟨v3, r3, q3⟩ := f3 (l1 ++ l2) []
  simp only [List.nil_append, List.append_nil, List.append_assoc] at r1 q1 r2 q2 r3 q3
  have hm : maxLen < 2 ^ 63 := by decide
  refine law_callsL Try.func13 rfl (by decide) (l1 ++ (l2 ++ l3)) (o1.app (o2.app o3)).ok (vs := [blkV p v1 v2, v3, .int .i64 regs]) (argsRel3 (vRel_agg3 (sRel_gnd rfl) r1 r2) (vRel.of_s r3) (vRel_gnd rfl)) ?_
  refine alloc_tc p hp _ v1 _ v2 _ v3 regs _ (RowAt_words q1) (RowAt_ops q2) (RowAt_sps q3) ?_ _ rfl
  rw [List.length_map, List.length_take]
  omega
end Go.Lm
