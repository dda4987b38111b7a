/- Contracts of alloc.Spans and of the document's. -/
import Derived.Test.YtfgcnehjdaiipaaMM
import Derived.Test.YtfgcnehjdaiipaaMO
import Derived.Test.YtfgcnehjdaiipaaMP
import Derived.Test.YtfgcnehjdaiipaaMK
import Derived.Test.YtfgcnehjdaiipaaMN
/- alloc.Spans: what its walk leans on. -/
set_option linter.unusedSimpArgs false
set_option linter.unusedVariables false
namespace Go.Lm
open Go.Proofs

/-- the places that an operation names -/
def nmO (o : OpZ) : List Int := readsQ o ++ [writesO o]
def nmQ (ops : List OpZ) : List (List Int) := ops.map nmO
theorem nmO_len (o : OpZ) : 1 ≤ (nmO o).length ∧ (nmO o).length ≤ 4 := by
  have := readsQ_len o
  unfold nmO
  simp; omega
theorem iRight_names {o : OpZ} {words : Int} {w : List Bool} (h : iRightQ o words w = true) : ∀ p ∈ nmO o, -1 ≤ p ∧ p ≤ 63 := by
  unfold iRightQ at h
  rw [Bool.and_eq_true] at h
  have hr := reads_in h.1
  intro p hp
  unfold nmO at hp
  rw [List.mem_append, List.mem_singleton] at hp
  rcases hp with hp | rfl
  · have := hr p hp; omega
  · unfold writesO
    split
    · rename_i h8
      have hh := h.1
      simp only [iRightH, Bool.and_eq_true] at hh
      obtain ⟨⟨⟨⟨⟨⟨⟨⟨h0, h1⟩, h2⟩, ha⟩, hb⟩, hd⟩, h6⟩, h7⟩, h9⟩ := hh
      rw [h8, Bool.or_true] at hd
      simp only [placeQ, if_true, Bool.and_eq_true, decide_eq_true_eq] at hd
      omega
    · omega
theorem checkL_names {words : Nat} : ∀ {ops : List OpZ} {w : List Bool} {at0 : Int}, checkL words w at0 ops = true → ∀ o ∈ ops, ∀ p ∈ nmO o, -1 ≤ p ∧ p ≤ 63
  | [], _, _, _, o, ho, _, _ => by simp at ho
  | a :: l, w, at0, h, o, ho, p, hp => by
    simp only [checkL, Bool.and_eq_true] at h
    rcases List.mem_cons.1 ho with rfl | ho
    · exact iRight_names h.1.1.1 p hp
    · exact checkL_names h.2 o ho p hp
theorem checkQ_names {pc : Nat} {ws : List Nat} {ops : List OpZ} (h : checkQ pc ws ops = true) : ops.length ≤ 120 ∧ ∀ o ∈ ops, ∀ p ∈ nmO o, -1 ≤ p ∧ p ≤ 63 := by
  unfold checkQ at h
  simp only [Bool.and_eq_true, decide_eq_true_eq] at h
  exact ⟨h.1.2, checkL_names h.2⟩

theorem flatS_append (l : List Sp) (s : Sp) : flatS (l ++ [s]) = flatS l ++ (spV s).toArray := by
  unfold flatS
  simp
theorem flatS_setTo : ∀ (l : List Sp) (k : Nat) (s : Sp) (n : Int), l[k]? = some s → (flatS l).setIfInBounds (k * 3 + 2) (.int .i64 n) = flatS (l.set k { s with to := n })
  | [], k, s, n, h => by simp at h
  | x :: l, 0, s, n, h => by
    simp at h; subst h
    simp [flatS, spV]
  | x :: l, k + 1, s, n, h => by
    have ih := flatS_setTo l k s n (by simpa using h)
    have e : flatS (x :: l) = (spV x).toArray ++ flatS l := by simp [flatS]
    have e2 : flatS ((x :: l).set (k + 1) { s with to := n }) = (spV x).toArray ++ flatS (l.set k { s with to := n }) := by simp [flatS]
    rw [e, e2, ← ih, Array.setIfInBounds_append]
    have h3 : (spV x).toArray.size = 3 := rfl
    rw [h3, if_neg (by omega)]
    congr 2
    omega

/-- where a place's span stands, and one more -/
structure AtOk (A : List Nat) (l : List Sp) : Prop where
  len : A.length = 64
  fw : ∀ (j : Nat) (s : Sp), l[j]? = some s → ∃ p : Nat, s.place = (p : Int) ∧ 1 ≤ p ∧ p ≤ 63 ∧ A.getD p 0 = j + 1
  bw : ∀ p : Nat, p ≤ 63 → A.getD p 0 = 0 ∨ ∃ s, l[A.getD p 0 - 1]? = some s ∧ s.place = (p : Int)
theorem AtOk.nil : AtOk (List.replicate 64 0) [] := by
  refine ⟨by simp, fun j s h => by simp at h, fun p hp => .inl ?_⟩
  rw [List.getD_eq_getElem?_getD, List.getElem?_replicate, if_pos (by omega)]; rfl
theorem AtOk.setTo {A : List Nat} {l : List Sp} (h : AtOk A l) {k : Nat} {s : Sp} (hk : l[k]? = some s) (n : Int) : AtOk A (l.set k { s with to := n }) := by
  have key : ∀ (j : Nat) (t : Sp), (l.set k { s with to := n })[j]? = some t → ∃ t', l[j]? = some t' ∧ t'.place = t.place := by
    intro j t ht
    rw [List.getElem?_set] at ht
    split at ht
    · rename_i e
      subst e
      split at ht
      · cases ht; exact ⟨s, hk, rfl⟩
      · cases ht
    · exact ⟨t, ht, rfl⟩
  refine ⟨h.len, fun j t ht => ?_, fun p hp => ?_⟩
  · obtain ⟨t', h1, h2⟩ := key j t ht
    obtain ⟨p, h3⟩ := h.fw j t' h1
    exact ⟨p, by rw [← h2]; exact h3⟩
  · rcases h.bw p hp with h1 | ⟨t, h1, h2⟩
    · exact .inl h1
    · right
      rw [List.getElem?_set]
      split
      · rename_i e
        rw [← e] at h1
        rw [hk] at h1
        cases h1
        have hkl := (List.getElem?_eq_some_iff.1 hk).1
        exact ⟨{ s with to := n }, by simp [hkl], h2⟩
      · exact ⟨t, h1, h2⟩
theorem AtOk.none {A : List Nat} {l : List Sp} (h : AtOk A l) {p : Nat} (hz : A.getD p 0 = 0) : ∀ s ∈ l, s.place ≠ (p : Int) := by
  intro s hs e
  obtain ⟨j, hj⟩ := List.mem_iff_getElem?.1 hs
  obtain ⟨q, h1, _, _, h2⟩ := h.fw j s hj
  have : q = p := by omega
  subst this
  omega
theorem AtOk.fresh {A : List Nat} {l : List Sp} (h : AtOk A l) {p : Nat} (h1 : 1 ≤ p) (h2 : p ≤ 63) (hz : A.getD p 0 = 0) (n : Int) : AtOk (A.set p (l.length + 1)) (l ++ [⟨p, n, n⟩]) := by
  refine ⟨by simp [h.len], fun j s hj => ?_, fun q hq => ?_⟩
  · rw [List.getElem?_append] at hj
    split at hj
    · obtain ⟨q, e1, e2, e3, e4⟩ := h.fw j s hj
      refine ⟨q, e1, e2, e3, ?_⟩
      rw [getD_set, if_neg]
      · exact e4
      · rintro ⟨e, _⟩; subst e; omega
    · rename_i hl
      have : j = l.length := by
        rcases Nat.lt_or_ge j (l.length + 1) with h' | h'
        · omega
        · rw [List.getElem?_eq_none (by simp; omega)] at hj; cases hj
      subst this
      simp at hj
      subst hj
      exact ⟨p, rfl, h1, h2, by rw [getD_set, if_pos ⟨rfl, by rw [h.len]; omega⟩]⟩
  · rw [getD_set]
    split
    · rename_i e
      obtain ⟨rfl, _⟩ := e
      exact .inr ⟨⟨p, n, n⟩, by simp, rfl⟩
    · rcases h.bw q hq with h3 | ⟨s, h3, h4⟩
      · exact .inl h3
      · have := (List.getElem?_eq_some_iff.1 h3).1
        exact .inr ⟨s, by rw [List.getElem?_append_left this]; exact h3, h4⟩
end Go.Lm
/- alloc.Spans. -/
set_option linter.unusedSimpArgs false
set_option linter.unusedVariables false
namespace Go.Lm
open Go.Proofs

theorem ba_get (a : Array UInt8) (i : Nat) : (ByteArray.mk a)[i]? = a[i]? := rfl

set_option maxRecDepth 100000 in
set_option maxHeartbeats 4000000 in
theorem len64z_tc (m : Mem) (Q : Value → Mem → Prop) (h : ∀ n : Int, Q (.int .i64 n) m) : TC Try.prog 188 [.int .u64 0] m Q := by
  refine TC_fn mixed Try.func188 rfl Try.ntmps188 rfl (by decide) (by simp) ?_
  simp -dsimp [ba_get]
  exact fin_ret rfl (leave_pure (by simp) (h 0))
theorem lenz_tc (m : Mem) (Q : Value → Mem → Prop) (h : ∀ n : Int, Q (.int .i64 n) m) : TC Try.prog 160 [.int .u64 0] m Q := by
  refine TC_fn mixed Try.func160 rfl Try.ntmps160 rfl (by decide) (by simp) ?_
  simp -dsimp
  refine len64z_tc _ _ fun n => ?_
  simp -dsimp
  exact fin_ret rfl (leave_pure (by simp) (h n))
theorem insz_tc (f : Value) (m : Mem) (Q) (h : Q (.tuple #[]) m) : TC Try.prog 179 [.slice none 0 0, .int .i64 0, .int .i64 0, f] m Q := by
  refine TC_fn mixed Try.func179 rfl Try.ntmps179 rfl (by decide) (by simp) ?_
  simp -dsimp
  refine loop_by (fun n env m' => elook env 8 = some (.int .i64 1) ∧ elook env 2 = some (.int .i64 0) ∧ m' = { base := m.get, n := m.top, loc := [] }) 0 (by simp -dsimp) ?_
  rintro n env m' ⟨e4, e2, rfl⟩
  simp -dsimp [e4, e2]
  exact fin_end (v := .tuple #[]) (by simp -dsimp) (leave_pure (by simp) h)
set_option maxRecDepth 100000 in
set_option maxHeartbeats 4000000 in
theorem pdqz_tc (n : Int) (f : Value) (m : Mem) (Q) (h : Q (.tuple #[]) m) : TC Try.prog 159 [.slice none 0 0, .int .i64 0, .int .i64 0, .int .i64 n, f] m Q := by
  refine TC_fn mixed Try.func159 rfl Try.ntmps159 rfl (by decide) (by simp) ?_
  simp -dsimp
  refine loop_by (fun k env m' => elook env 0 = some (.slice none 0 0) ∧ elook env 1 = some (.int .i64 0) ∧ elook env 2 = some (.int .i64 0) ∧ elook env 4 = some f ∧ m' = { base := m.get, n := m.top, loc := [] }) 0 (by simp -dsimp) ?_
  rintro k env m' ⟨e0, e1, e2, e4, rfl⟩
  simp -dsimp [e0, e1, e2, e4]
  refine insz_tc _ _ _ ?_
  simp -dsimp
  exact fin_ret (v := .tuple #[]) (by simp -dsimp) (leave_pure (by simp) h)
theorem slsort_nil_tc (m : Mem) (Q) (h : Q (.tuple #[]) m) : TC Try.prog 99 [.slice none 0 0, .func (.func 100) #[] #[]] m Q := by
  refine TC_fn mixed Try.func99 rfl Try.ntmps99 rfl (by decide) (by simp) ?_
  simp -dsimp
  refine lenz_tc _ _ fun n => ?_
  simp -dsimp
  refine pdqz_tc _ _ _ _ ?_
  simp -dsimp
  exact fin_end (v := .tuple #[]) (by simp -dsimp) (leave_pure (by simp) h)

def lstSV (k : Nat) (l : List Sp) : Value := if l = [] then .slice none 0 0 else .slice (some ⟨k, 0, none⟩) l.length l.length
def lstSM (m : Mem) (k : Nat) (l : List Sp) : Mem := if l = [] then m else m.put k (.cells false 3 (flatS l))
/-- a list of spans that is built by append: nil, or one of the call's own objects -/
def LstS (top : Nat) (l : List Sp) (v : Value) (g : List Ob) : Prop :=
  (l = [] ∧ v = .slice none 0 0) ∨ (l ≠ [] ∧ ∃ p, v = .slice (some ⟨top + (p + 2), 0, none⟩) l.length l.length ∧ g[p]? = some (.cells false 3 (flatS l)))
theorem WordsAt_to {m : Mem} {v : Value} {l : List Nat} (h : WordsAt m v l) (loc : List Ob) : WordsAt { base := m.get, n := m.top, loc := loc } v l := WordsAt_enter h loc
theorem OpsAt_to {m : Mem} {v : Value} {l : List OpZ} (h : OpsAt m v l) (loc : List Ob) : OpsAt { base := m.get, n := m.top, loc := loc } v l := by
  rcases h with h | ⟨k, off, cap, ro, c, e, h1, hm, h2, h3⟩
  · exact .inl h
  · exact .inr ⟨k, off, cap, ro, c, e, h1, by rw [get_base _ _ _ (lt_cells hm), hm], h2, h3⟩
theorem OpsAt_cap {m : Mem} {v : Value} {l : List OpZ} (h : OpsAt m v l) : ∃ a cap, v = .slice a l.length cap := by
  rcases h with ⟨rfl, rfl⟩ | ⟨k, off, cap, ro, c, rfl, _⟩
  · exact ⟨_, _, rfl⟩
  · exact ⟨_, _, rfl⟩

end Go.Lm
/- alloc.Spans. -/
set_option linter.unusedSimpArgs false
set_option linter.unusedVariables false
namespace Go.Lm
open Go.Proofs

theorem LstS.app {top : Nat} {l : List Sp} {v : Value} {g : List Ob} (h : LstS top l v g) (x : List Ob) : LstS top l v (g ++ x) := by
  rcases h with h | ⟨h1, p, h2, h3⟩
  · exact .inl h
  · exact .inr ⟨h1, p, h2, by rw [List.getElem?_append_left (List.getElem?_eq_some_iff.1 h3).1]; exact h3⟩
/-- the loop over an operation's names -/
def spI (m : Mem) (Bx : Ob) (nm0 : List (List Int)) (N : List Int) (i olen : Nat) (V : Value) (f : Nat) (env : Env) (m' : Mem) : Prop :=
  ∃ (j : Nat) (l : List Sp) (v : Value) (g : List Ob) (A : List Nat) (q : Nat), f = N.length - j ∧ j ≤ N.length ∧ RawR (nm0 ++ [N.take j]) l ∧ l.length ≤ 4 * i + j ∧ AtOk A l ∧ LstS m.top l v g ∧ g[q]? = some (.cells false 1 (i64A N)) ∧
    elook env 3 = some v ∧ elook env 4 = some (.pointer (some ⟨m.top + 1, 0, none⟩)) ∧ elook env 5 = some (.int .i64 i) ∧ elook env 13 = some V ∧ elook env 14 = some (.int .i64 olen) ∧ elook env 15 = some (.int .i64 i) ∧
    elook env 25 = some (.slice (some ⟨m.top + (q + 2), 0, none⟩) N.length N.length) ∧ elook env 26 = some (.int .i64 N.length) ∧ elook env 27 = some (.int .i64 j) ∧
    m' = { base := m.get, n := m.top, loc := Bx :: arrN A :: g }

theorem y78 : (Array.range 3).map (fun x => [Value.int .i64 0, Value.int .i64 0, Value.int .i64 0][x % 3]?.getD default) = #[.int .i64 0, .int .i64 0, .int .i64 0] := by kernel_rfl
set_option maxRecDepth 100000 in
set_option maxHeartbeats 16000000 in
theorem spans_tc (pc : Nat) (hpc : pc < 2 ^ 32) (ws : List Nat) (vw : Value) (ops : List OpZ) (vo : Value) (m : Mem) (hw : WordsAt m vw ws) (ho : OpsAt m vo ops) (kk : Nat) (hf : m.get kk = .free) (Q : Value → Mem → Prop)
    (h : ∀ l : List Sp, (checkQ pc ws ops = false → l = []) → (checkQ pc ws ops = true → SpansR (nmQ ops) l ∧ l.length ≤ 480) → Q (lstSV kk l) (lstSM m kk l)) :
    TC Try.prog 42 [.agg #[.int .u32 pc, vw, vo]] m Q := by
  refine TC_fn mixed Try.func42 rfl Try.ntmps42 rfl (by decide) (by simp) ?_
  have hck := fun loc Q h => ircheck_tc pc hpc ws vw ops vo { base := m.get, n := m.top, loc := loc } (WordsAt_to hw loc) (OpsAt_to ho loc) Q h
  obtain ⟨ao, co, hlo⟩ := OpsAt_cap ho
  refine wpc_st fun K hK => ?_
  simp -dsimp
  refine hK _ _ ?_
  clear hK K
  cases hq : checkQ pc ws ops
  · have h0 := h [] (fun _ => rfl) (fun e => by rw [hq] at e; cases e)
    rw [hq] at hck
    simp -dsimp
    refine hck _ _ ?_
    simp -dsimp
    exact fin_ret rfl (leave_pure (by simp) h0)
  · rw [hq] at hck
    obtain ⟨hlen, hnm⟩ := checkQ_names hq
    refine wpc_sq fun K hK => ?_
    simp -dsimp
    refine hck _ _ ?_
    simp -dsimp
    refine hK _ _ ?_
    clear hK K hck
    refine wpc_st fun K hK => ?_
    simp -dsimp
    refine hK _ _ ?_
    clear hK K
    refine wpc_st fun K hK => ?_
    simp -dsimp
    refine hK _ _ ?_
    clear hK K
    have hrep : Array.replicate 64 (Value.int .i64 0) = ((List.replicate 64 0).map fun (x : Nat) => Value.int .i64 (x : Int)).toArray := by simp only [List.map_replicate, List.toArray_replicate]; rfl
    simp only [hrep]
    refine wpc_mid (fun env m' => ∃ l v g A, (SpansR (nmQ ops) l → True) ∧ RawR (nmQ ops) l ∧ l.length ≤ 480 ∧ elook env 3 = some v ∧ LstS m.top l v g ∧ m' = { base := m.get, n := m.top, loc := .cells false 0 #[.int .u32 pc, vw, vo] :: A :: g }) ?_ ?_
    · subst hlo
      refine wpc_st fun K hK => ?_
      simp -dsimp
      refine hK _ _ ?_
      clear hK K
      simp -dsimp
      refine loop_by (fun f env m' => ∃ (i : Nat) (l : List Sp) (v : Value) (g : List Ob) (A : List Nat), f = ops.length - i ∧ i ≤ ops.length ∧ RawR ((nmQ ops).take i) l ∧ l.length ≤ 4 * i ∧ AtOk A l ∧
        elook env 3 = some v ∧ LstS m.top l v g ∧ elook env 4 = some (.pointer (some ⟨m.top + 1, 0, none⟩)) ∧ elook env 13 = some (.slice ao ops.length co) ∧ elook env 14 = some (.int .i64 ops.length) ∧ elook env 15 = some (.int .i64 i) ∧
        m' = { base := m.get, n := m.top, loc := .cells false 0 #[.int .u32 pc, vw, .slice ao ops.length co] :: arrN A :: g }) ops.length ⟨0, [], .slice none 0 0, [], List.replicate 64 0, rfl, by omega, by simpa using RawR.nil, by simp, AtOk.nil, by simp -dsimp, .inl ⟨rfl, rfl⟩, by simp -dsimp [arrN]⟩ ?_
      rintro f env m' ⟨i, l, v, g, A, rfl, hi, hraw, hll, hat, e3, hls, e4, e13, e14, e15, rfl⟩
      by_cases hlt : i < ops.length
      · have hlt' : (i : Int) < (ops.length : Int) := by omega
        obtain ⟨o, ho'⟩ : ∃ o, ops[i]? = some o := ⟨ops[i], List.getElem?_eq_getElem hlt⟩
        have hom : o ∈ ops := List.mem_of_getElem? ho'
        have hnmo := hnm o hom
        have hnl := nmO_len o
        have htk : (nmQ ops).take (i + 1) = (nmQ ops).take i ++ [nmO o] := by
          rw [List.take_add_one]
          congr 1
          unfold nmQ
          rw [List.getElem?_map, ho']; rfl
        rcases ho with ⟨e, _⟩ | ⟨k, off, cap, ro, c, e, hcap, hm, hsz, hc⟩
        · rw [e] at hlt; simp at hlt
        simp only [Value.slice.injEq, true_and] at e
        obtain ⟨rfl, rfl⟩ := e
        have htop := lt_cells hm
        have hgt : ∀ os, ({ base := m.get, n := m.top, loc := os } : Mem).get k = .cells ro 6 c := fun os => by rw [get_base _ _ _ htop, hm]
        have hco := hc i o ho'
        have hsz2 : off + i * 6 + 6 ≤ c.size := by
          have : (i + 1) * 6 ≤ co * 6 := Nat.mul_le_mul_right 6 (by omega)
          omega
        refine wpc_st fun K hK => ?_
        simp -dsimp [e14, e15, hlt']
        refine hK _ _ ?_
        clear hK K
        refine wpc_sq fun K hK => ?_
        simp -dsimp
        refine hK _ _ ?_
        clear hK K
        refine wpc_mid (fun env' m' => ∃ (l : List Sp) (v : Value) (g : List Ob) (A : List Nat), RawR ((nmQ ops).take (i + 1)) l ∧ l.length ≤ 4 * (i + 1) ∧ AtOk A l ∧
          elook env' 3 = some v ∧ LstS m.top l v g ∧ elook env' 4 = some (.pointer (some ⟨m.top + 1, 0, none⟩)) ∧ elook env' 13 = some (.slice (some ⟨k, off, none⟩) ops.length co) ∧ elook env' 14 = some (.int .i64 ops.length) ∧ elook env' 15 = some (.int .i64 i) ∧
          m' = { base := m.get, n := m.top, loc := .cells false 0 #[.int .u32 pc, vw, .slice (some ⟨k, off, none⟩) ops.length co] :: arrN A :: g }) ?_ ?_
        · rw [wpc_block]
          refine wpc_st fun K hK => ?_
          simp -dsimp [e13, e15, hlt', hgt, hsz2, hco, opL]
          refine hK _ _ ?_
          clear hK K hgt hm hc hco
          -- the names
          refine wpc_mid (fun env' m' => ∃ (v : Value) (g : List Ob) (q : Nat), elook env' 3 = some v ∧ LstS m.top l v g ∧ elook env' 4 = some (.pointer (some ⟨m.top + 1, 0, none⟩)) ∧ elook env' 5 = some (.int .i64 i) ∧ elook env' 13 = some (.slice (some ⟨k, off, none⟩) ops.length co) ∧ elook env' 14 = some (.int .i64 ops.length) ∧ elook env' 15 = some (.int .i64 i) ∧
            elook env' 25 = some (.slice (some ⟨m.top + (q + 2), 0, none⟩) (nmO o).length (nmO o).length) ∧ elook env' 26 = some (.int .i64 (nmO o).length) ∧ elook env' 27 = some (.int .i64 0) ∧ g[q]? = some (.cells false 1 (i64A (nmO o))) ∧
            m' = { base := m.get, n := m.top, loc := .cells false 0 #[.int .u32 pc, vw, .slice (some ⟨k, off, none⟩) ops.length co] :: arrN A :: g }) ?_ ?_
          · simp -dsimp
            refine draw_gof 4 7 27 0 _ _ _ [0, 1, 0, 7, 15, 31, 63, 0] (by kernel_rfl) rfl (by decide) (by kernel_rfl) ?_
            simp -dsimp -implicitDefEqProofs [e3, e4, e13, e14, e15]
            have hr0 : readsQ o = [] → ∀ (m : Mem) Q, Q (Value.slice none 0 0) m → TC Try.prog 97 [opV o] m Q := fun e m Q h => oreads_tc o m m.top (Mem.get_top m) Q (by rw [e]; exact h)
            have hrN : readsQ o ≠ [] → ∀ (m : Mem) kk, m.get kk = .free → ∀ Q : Value → Mem → Prop, Q (Value.slice (some ⟨kk, 0, none⟩) (readsQ o).length (readsQ o).length) (m.put kk (.cells false 1 (i64A (readsQ o)))) → TC Try.prog 97 [opV o] m Q := fun e m kk hf Q h => oreads_tc o m kk hf Q (by unfold lstV lstM; rw [if_neg e, if_neg e]; exact h)
            have hwr := fun (m : Mem) Q h => owrites_tc o m Q h
            rw [opV] at hr0 hrN hwr
            have hrl := readsQ_len o
            unfold nmO
            generalize readsQ o = rd at *
            generalize writesO o = wo at *
            by_cases hrd : rd = []
            · refine .inl ⟨_, fun m' _ => hr0 hrd m' _ ⟨rfl, rfl⟩, drw_go ?_⟩
              subst hrd
              simp -dsimp -implicitDefEqProofs [e3, e4, e13, e14, e15]
              refine .inl ⟨_, fun m' _ => hwr m' _ ⟨rfl, rfl⟩, drw_go ?_⟩
              simp -dsimp -implicitDefEqProofs [e3, e4, e13, e14, e15, y1]
              exact ⟨hls.app _, rfl⟩
            · refine .inr ⟨_, _, fun m' _ hf => hrN hrd m' _ hf _ ⟨rfl, rfl⟩, drw_go ?_⟩
              simp -dsimp -implicitDefEqProofs [e3, e4, e13, e14, e15, hrd]
              refine .inl ⟨_, fun m' _ => hwr m' _ ⟨rfl, rfl⟩, drw_go ?_⟩
              have hb : ¬ 17592186044416 < (rd.length + 1) * 8 := by omega
              have hnl : ¬ rd.length + 1 ≤ rd.length := by omega
              have htk2 : List.take rd.length (rd.map (Value.int .i64)) = rd.map (Value.int .i64) := List.take_of_length_le (by simp)
              simp -dsimp -implicitDefEqProofs [e3, e4, e13, e14, e15, y1, i64A, hrd, hb, hnl, htk2, List.getElem?_append, List.set_append]
              exact hls.app _
          · clear e3 e4 e13 e14 e15 hls
            rintro env1 m1 ⟨v, g, q, e3, hls, e4, e5, e13, e14, e15, e25, e26, e27, hgq, rfl⟩
            have hnm0 : ((nmQ ops).take i).length = i := by rw [List.length_take]; unfold nmQ; simp; omega
            simp -dsimp
            refine loop_by (spI m (.cells false 0 #[.int .u32 pc, vw, .slice (some ⟨k, off, none⟩) ops.length co]) ((nmQ ops).take i) (nmO o) i ops.length (.slice (some ⟨k, off, none⟩) ops.length co)) (nmO o).length ⟨0, l, v, g, A, q, rfl, by omega, hraw.next, by omega, hat, hls, hgq, by simp -dsimp [e3, e4, e5, e13, e14, e15, e25, e26, e27]⟩ ?_
            clear e3 hls e4 e5 e13 e14 e15 e25 e26 e27 hgq hraw hll hat
            generalize nmO o = N at *
            rintro f env2 m2 ⟨j, l, v, g, A, q, rfl, hj, hraw, hll, hat, hls, hgq, e3, e4, e5, e13, e14, e15, e25, e26, e27, rfl⟩
            by_cases hjl : j < N.length
            · have hjl' : (j : Int) < (N.length : Int) := by omega
              obtain ⟨p, hp⟩ : ∃ p, N[j]? = some p := ⟨N[j], List.getElem?_eq_getElem hjl⟩
              have htk2 : N.take (j + 1) = N.take j ++ [p] := by rw [List.take_add_one, hp]; rfl
              have hp' : (i64A N)[j]? = some (.int .i64 p) := by simp [i64A, hp]
              have hp63 := hnmo p (List.mem_of_getElem? hp)
              have hqg : q < g.length := (List.getElem?_eq_some_iff.1 hgq).1
              have hgq' : g[q]'hqg = .cells false 1 (i64A N) := by rw [List.getElem?_eq_getElem hqg] at hgq; exact Option.some.inj hgq
              have hkw : IntKind.i64.wrap ((j : Int) + 1) = ((j + 1 : Nat) : Int) := wI64 (by omega) (by omega)
              refine wpc_st fun K hK => ?_
              simp -dsimp [e26, e27, hjl']
              refine hK _ _ ?_
              clear hK K
              refine wpc_sq fun K hK => ?_
              simp -dsimp
              refine hK _ _ ?_
              clear hK K
              refine wpc_mid (fun env' m' => ∃ (l : List Sp) (v : Value) (g : List Ob) (A : List Nat), RawR ((nmQ ops).take i ++ [N.take (j + 1)]) l ∧ l.length ≤ 4 * i + (j + 1) ∧ AtOk A l ∧ LstS m.top l v g ∧ g[q]? = some (.cells false 1 (i64A N)) ∧
                elook env' 3 = some v ∧ elook env' 4 = some (.pointer (some ⟨m.top + 1, 0, none⟩)) ∧ elook env' 5 = some (.int .i64 i) ∧ elook env' 13 = some (.slice (some ⟨k, off, none⟩) ops.length co) ∧ elook env' 14 = some (.int .i64 ops.length) ∧ elook env' 15 = some (.int .i64 i) ∧
                elook env' 25 = some (.slice (some ⟨m.top + (q + 2), 0, none⟩) N.length N.length) ∧ elook env' 26 = some (.int .i64 N.length) ∧ elook env' 27 = some (.int .i64 j) ∧
                m' = { base := m.get, n := m.top, loc := .cells false 0 #[.int .u32 pc, vw, .slice (some ⟨k, off, none⟩) ops.length co] :: arrN A :: g }) ?_ ?_
              · rw [wpc_block]
                rw [htk2]
                refine wpc_st fun K hK => ?_
                simp -dsimp [e25, e27, hjl', hqg, hgq', hp']
                refine hK _ _ ?_
                clear hK K
                rw [wpc_block]
                by_cases hp0 : p ≤ 0
                · have hraw' := hraw.skip (p := p) hp0
                  simp -dsimp [hp0, e3, e4, e5, e13, e14, e15, e25, e26, e27]
                  exact ⟨l, hraw', by omega, v, g, A, hat, hls, hgq, rfl, rfl, rfl⟩
                · obtain ⟨pn, rfl⟩ : ∃ pn : Nat, p = pn := ⟨p.toNat, by omega⟩
                  have h1p : 1 ≤ pn := by omega
                  have hpn : pn ≤ 63 := by omega
                  have hpn' : pn < 64 := by omega
                  have hpi : (pn : Int) < 64 := by omega
                  obtain ⟨a, ha⟩ : ∃ a, A[pn]? = some a := ⟨A[pn]'(by rw [hat.len]; exact hpn'), List.getElem?_eq_getElem _⟩
                  have haD : A.getD pn 0 = a := by rw [List.getD_eq_getElem?_getD, ha]; rfl
                  have hag : ∀ h, A[pn]'h = a := fun h => by rw [List.getElem?_eq_getElem h] at ha; exact Option.some.inj ha
                  have hAl := hat.len
                  have hbw := hat.bw pn hpn
                  rw [haD] at hbw
                  have hpz : ¬ pn = 0 := by omega
                  have hpn2 : pn ≤ 63 := by omega
                  refine wpc_st fun K hK => ?_
                  simp -dsimp [hp0, e3, e4, e5, e13, e14, e15, e25, e26, e27]
                  refine hK _ _ ?_
                  clear hK K
                  rcases Nat.eq_zero_or_pos a with rfl | ha1
                  · -- a new span
                    have hno := hat.none haD
                    have hfr := hat.fresh h1p hpn haD (i : Int)
                    have hraw' := hraw.fresh (p := (pn : Int)) (by omega) hno
                    rw [hnm0] at hraw'
                    rcases hls with ⟨rfl, rfl⟩ | ⟨hne, p0, rfl, hg0⟩
                    · simp -dsimp [hpz, e3, e4, e5, e13, e14, e15, e25, e26, e27, arrN, hAl, hpn', hpi, hag, y78, hpn2]
                      refine ⟨_, hraw', by simp; omega, _, _, A.set pn (([] : List Sp).length + 1), hfr, .inr ⟨by simp, g.length + 1, rfl, by simp [flatS, spV]⟩, ?_, rfl, by rw [List.map_set]; rfl, rfl⟩
                      rw [List.getElem?_append_left hqg]; exact hgq
                    · have hpg : p0 < g.length := (List.getElem?_eq_some_iff.1 hg0).1
                      have hpg1 : p0 < g.length + 1 := by omega
                      have hg0' : g[p0]'hpg = .cells false 3 (flatS l) := by rw [List.getElem?_eq_getElem hpg] at hg0; exact Option.some.inj hg0
                      have hb : ¬ 17592186044416 < (l.length + 1) * 24 := by omega
                      have hnl2 : ¬ l.length + 1 ≤ l.length := by omega
                      have hfs := flatS_size l
                      have hex : (flatS l).extract 0 (l.length * 3) = flatS l := Array.extract_eq_self_of_le (by omega)
                      have hqp : q ≠ p0 := fun e => by subst e; rw [hgq] at hg0; simp at hg0
                      simp -dsimp [hpz, e3, e4, e5, e13, e14, e15, e25, e26, e27, arrN, hAl, hpn', hpi, hag, y78, hg0', hne, hb, hpg, hpg1, hnl2, hfs, hex, hpn2, List.getElem?_append, List.set_append]
                      refine ⟨_, hraw', by simp; omega, _, _, A.set pn (l.length + 1), hfr, .inr ⟨by simp, g.length + 1, ?_, ?_⟩, ?_, rfl, by rw [List.map_set]; rfl, rfl⟩
                      · simp
                      · rw [List.getElem?_append_right (by simp)]; simp [flatS_append, spV]
                      · rw [List.getElem?_append_left (by simpa using hqg), List.getElem?_set, if_neg (fun e => hqp e.symm)]; exact hgq
                  · -- it goes on
                    obtain ⟨s, hs, hsp⟩ : ∃ s, l[a - 1]? = some s ∧ s.place = (pn : Int) := by
                      rcases hbw with e | e
                      · omega
                      · exact e
                    have hal : a - 1 < l.length := (List.getElem?_eq_some_iff.1 hs).1
                    have ha0 : ¬ a = 0 := by omega
                    have hraw' : RawR ((nmQ ops).take i ++ [N.take j ++ [(pn : Int)]]) (l.set (a - 1) { s with to := (i : Int) }) := by
                      have := hraw.again hs
                      rw [hnm0] at this
                      rw [← hsp]; exact this
                    have hat' := hat.setTo hs (i : Int)
                    have hset := flatS_setTo l (a - 1) s (i : Int) hs
                    have hfs := flatS_size l
                    have hkwa : IntKind.i64.wrap ((a : Int) - 1) = ((a - 1 : Nat) : Int) := by rw [wI64 (by omega) (by omega)]; omega
                    have hal' : ((a - 1 : Nat) : Int) < (l.length : Int) := by omega
                    rcases hls with ⟨rfl, _⟩ | ⟨hne, p0, rfl, hg0⟩
                    · simp at hs
                    · have hpg : p0 < g.length := (List.getElem?_eq_some_iff.1 hg0).1
                      have hg0' : g[p0]'hpg = .cells false 3 (flatS l) := by rw [List.getElem?_eq_getElem hpg] at hg0; exact Option.some.inj hg0
                      have hqp : q ≠ p0 := fun e => by subst e; rw [hgq] at hg0; simp at hg0
                      have hsz3 : (a - 1) * 3 + 2 < (flatS l).size := by rw [hfs]; omega
                      have hsz4 : (a - 1) * 3 + 2 + 1 ≤ (flatS l).size := by omega
                      have hsz5 : (a - 1) * 3 + 2 + 1 ≤ l.length * 3 := by omega
                      have hsz6 : ¬ (a - 1) * 3 + 2 = 0 := by omega
                      simp -dsimp [hpz, e3, e4, e5, e13, e14, e15, e25, e26, e27, arrN, hAl, hpn', hpi, hag, ha1, hkwa, hal', hg0', hpg, hsz3, hsz4, hsz5, hfs]
                      rw [hset]
                      refine ⟨_, hraw', by simp; omega, _, _, A, hat', .inr ⟨by simpa using hne, p0, rfl, ?_⟩, ?_, by simp, rfl, rfl⟩
                      · rw [List.getElem?_set, if_pos rfl, if_pos hpg]
                      · rw [List.getElem?_set, if_neg (fun e => hqp e.symm)]; exact hgq
              · clear e3 e4 e5 e13 e14 e15 e25 e26 e27
                rintro env3 m3 ⟨l3, v3, g3, A3, hraw3, hll3, hat3, hls3, hgq3, e3, e4, e5, e13, e14, e15, e25, e26, e27, rfl⟩
                simp -dsimp [e27, hkw]
                refine ⟨N.length - (j + 1), by omega, j + 1, l3, v3, g3, A3, q, rfl, by omega, hraw3, by omega, hat3, hls3, hgq3, ?_⟩
                simp -dsimp [e3, e4, e5, e13, e14, e15, e25, e26, e27]
            · have hjn : j = N.length := by omega
              subst hjn
              have hjl' : ¬ (N.length : Int) < (N.length : Int) := by omega
              rw [List.take_length, ← htk] at hraw
              simp -dsimp [e3, e4, e5, e13, e14, e15, e25, e26, e27, hjl']
              exact ⟨l, hraw, by omega, v, g, A, hat, rfl, hls, rfl, rfl⟩
        · rintro env1 m1 ⟨l1, v1, g1, A1, hraw1, hll1, hat1, e3, hls1, e4, e13, e14, e15, rfl⟩
          have hkw : IntKind.i64.wrap ((i : Int) + 1) = ((i + 1 : Nat) : Int) := wI64 (by omega) (by omega)
          simp -dsimp [e15, hkw]
          exact ⟨ops.length - (i + 1), by omega, i + 1, rfl, by omega, l1, hraw1, hll1, v1, g1, A1, hat1, e3, hls1, e4, e13, e14, by omega, rfl, rfl⟩
      · have hi2 : i = ops.length := by omega
        subst hi2
        have hlt' : ¬ (ops.length : Int) < (ops.length : Int) := by omega
        rw [List.take_of_length_le (by unfold nmQ; simp)] at hraw
        simp -dsimp [e14, e15, hlt', e3]
        exact ⟨l, hraw, by omega, hls⟩
    · rintro env m' ⟨l, v, g, A, _, hraw, hll, e3, hls, rfl⟩
      rcases hls with ⟨rfl, rfl⟩ | ⟨hne, p, rfl, hg⟩
      · have hl := h [] (fun e => rfl) (fun _ => ⟨SpansR.of_raw hraw (fun _ => Iff.rfl) (by simp) (by simp), by simp⟩)
        simp -dsimp [e3]
        refine slsort_nil_tc _ _ ?_
        simp -dsimp [e3]
        exact fin_ret rfl (leave_pure (by simp) hl)
      · simp -dsimp [e3]
        refine slsort_tc l _ _ _ (by rw [get_loc]; simp [hg]) (by omega) _ fun l' hperm hsort => ?_
        simp -dsimp [e3]
        have hpl : p < g.length := (List.getElem?_eq_some_iff.1 hg).1
        rw [if_pos hpl]
        have hne' : l' ≠ [] := fun e => hne (by rw [e] at hperm; exact hperm.symm.eq_nil)
        have hl := h l' (fun e => by rw [hq] at e; cases e) (fun _ => ⟨SpansR.of_raw hraw (fun s => hperm.mem_iff) ((hperm.pairwise_iff (fun h => h.symm)).2 hraw.1) hsort, by rw [hperm.length_eq]; exact hll⟩)
        unfold lstSV lstSM at hl
        rw [if_neg hne', if_neg hne', hperm.length_eq] at hl
        exact fin_ret rfl (leave_row_at (i := p + 2) (by simp [hpl]) (flatS_gnd l') hf hl)
end Go.Lm
/- ref23.Spans. -/
set_option linter.unusedSimpArgs false
set_option linter.unusedVariables false
namespace Go.Lm
open Go.Proofs

/-- a list of spans that is built by append: nil, or one of the call's own objects -/
def LstT (top : Nat) (l : List Sp) (v : Value) (g : List Ob) : Prop :=
  (l = [] ∧ v = .slice none 0 0) ∨ (l ≠ [] ∧ ∃ p, v = .slice (some ⟨top + (p + 1), 0, none⟩) l.length l.length ∧ g[p]? = some (.cells false 3 (flatS l)))
theorem LstT.app {top : Nat} {l : List Sp} {v : Value} {g : List Ob} (h : LstT top l v g) (x : List Ob) : LstT top l v (g ++ x) := by
  rcases h with h | ⟨h1, p, h2, h3⟩
  · exact .inl h
  · exact .inr ⟨h1, p, h2, by rw [List.getElem?_append_left (List.getElem?_eq_some_iff.1 h3).1]; exact h3⟩
/-- the outer loop, over the places -/
def rsO (m : Mem) (Bx : Ob) (nm : List (List Int)) (f : Nat) (env : Env) (m' : Mem) : Prop :=
  ∃ (p : Nat) (l : List Sp) (v : Value) (g : List Ob), f = 64 - p ∧ 1 ≤ p ∧ p ≤ 64 ∧ SpBelow nm p l ∧ l.length < p ∧ LstT m.top l v g ∧
    elook env 1 = some (.pointer (some ⟨m.top, 0, none⟩)) ∧ elook env 3 = some v ∧ elook env 4 = some (.int .i64 p) ∧ m' = { base := m.get, n := m.top, loc := Bx :: g }
/-- how far a place's span has come -/
def SpSt (nm : List (List Int)) (s : Sp) : Prop := (s.fr = -1 ∧ s.to = 0 ∧ ∀ (k : Nat) (L : List Int), nm[k]? = some L → s.place ∉ L) ∨ IsSpan nm s
/-- the loop over the operations -/
def rsI (m : Mem) (Bx : Ob) (nm : List (List Int)) (p : Nat) (v : Value) (g0 : List Ob) (f : Nat) (env : Env) (m' : Mem) : Prop :=
  ∃ (i : Nat) (s : Sp) (rs : List Ob), f = nm.length - i ∧ i ≤ nm.length ∧ s.place = (p : Int) ∧ SpSt (nm.take i) s ∧ (s.fr = -1 ∨ 0 ≤ s.fr) ∧
    elook env 1 = some (.pointer (some ⟨m.top, 0, none⟩)) ∧ elook env 3 = some v ∧ elook env 4 = some (.int .i64 p) ∧ elook env 5 = some (.pointer (some ⟨m.top + (g0.length + 1), 0, none⟩)) ∧ elook env 6 = some (.int .i64 i) ∧
    m' = { base := m.get, n := m.top, loc := Bx :: (g0 ++ spO s :: rs) }

/-- an operation's names looked up -/
def rsR (m : Mem) (Bx : Ob) (o : OpZ) (p i : Nat) (v : Value) (g : List Ob) (s : Sp) (rs : List Ob) (env' : Env) (m' : Mem) : Prop :=
  elook env' 1 = some (.pointer (some ⟨m.top, 0, none⟩)) ∧ elook env' 3 = some v ∧ elook env' 4 = some (.int .i64 p) ∧ elook env' 5 = some (.pointer (some ⟨m.top + (g.length + 1), 0, none⟩)) ∧ elook env' 6 = some (.int .i64 i) ∧ elook env' 7 = some (.bool (writesO o == (p : Int))) ∧
  ∃ v8 rs', elook env' 8 = some v8 ∧ ((readsQ o = [] ∧ v8 = .slice none 0 0 ∧ rs' = rs) ∨ (readsQ o ≠ [] ∧ v8 = .slice (some ⟨m.top + (g.length + (rs.length + 1) + 1), 0, none⟩) (readsQ o).length (readsQ o).length ∧ rs' = rs ++ [.cells false 1 (i64A (readsQ o))])) ∧
  m' = { base := m.get, n := m.top, loc := Bx :: (g ++ spO s :: rs') }

theorem spV_len' (s : Sp) : (spV s).length = 3 := rfl
theorem y79 : (Array.range 3).map (fun x => [Value.int .i64 0, Value.int .i64 0, Value.int .i64 0][x % 3]?.getD default) = #[.int .i64 0, .int .i64 0, .int .i64 0] := by kernel_rfl
theorem flatS_extract (L : List Sp) (j : Nat) (t : Sp) (h : L[j]? = some t) : (flatS L).extract (j * 3) (j * 3 + 3) = (spV t).toArray := by
  obtain ⟨h1, h2⟩ := List.getElem?_eq_some_iff.1 h
  unfold flatS
  rw [flat_extract spV 3 (fun _ => rfl) L j h1, h2]
theorem flatS_cell (L : List Sp) (j : Nat) (t : Sp) (h : L[j]? = some t) : (flatS L)[j * 3]? = some (.int .i64 t.place) ∧ (flatS L)[j * 3 + 1]? = some (.int .i64 t.fr) ∧ (flatS L)[j * 3 + 2]? = some (.int .i64 t.to) := by
  have h1 := flatS_extract L j t h
  have hj := (List.getElem?_eq_some_iff.1 h).1
  have hs := flatS_size L
  have key : ∀ d, d < 3 → (flatS L)[j * 3 + d]? = ((spV t).toArray)[d]? := by
    intro d hd
    rw [← h1, Array.getElem?_extract]
    rw [if_pos (by omega)]
  exact ⟨key 0 (by omega), key 1 (by omega), key 2 (by omega)⟩
theorem flatS_put (L : List Sp) (j : Nat) (hj : j < L.length) (t : Sp) : setL (flatS L) (j * 3) (spV t) = flatS (L.set j t) := by
  have hs := flatS_size L
  apply Array.ext_getElem?
  intro i
  rw [setL_get _ _ _ _ (by simp [spV]; omega)]
  have hl3 : (spV t).length = 3 := rfl
  rw [hl3]
  by_cases hi : i < L.length * 3
  · have h1 := flatS_get (L.set j t) i (by simpa using hi)
    have h2 := flatS_get L i hi
    rw [h1, h2]
    have hq : i / 3 < L.length := by omega
    have hr : i % 3 < 3 := Nat.mod_lt _ (by omega)
    split
    · rename_i hc
      have e1 : i / 3 = j := by omega
      have e2 : i - j * 3 = i % 3 := by omega
      rw [e2, e1]
      have : (L.set j t).toArray[j]! = t := by simp [hj]
      rw [this]
      have hr' : i % 3 = 0 ∨ i % 3 = 1 ∨ i % 3 = 2 := by omega
      rcases hr' with e | e | e <;> rw [e] <;> rfl
    · rename_i hc
      have e1 : ¬ j = i / 3 := by omega
      have : (L.set j t).toArray[i / 3]! = L.toArray[i / 3]! := by simp [List.getElem?_set, e1]
      rw [this]
  · rw [if_neg (by omega), Array.getElem?_eq_none (by omega), Array.getElem?_eq_none (by rw [flatS_size]; simp; omega)]

set_option maxRecDepth 100000 in
set_option maxHeartbeats 16000000 in
theorem rspans_tc (pc : Nat) (hpc : pc < 2 ^ 32) (ws : List Nat) (vw : Value) (ops : List OpZ) (vo : Value) (m : Mem) (hw : WordsAt m vw ws) (ho : OpsAt m vo ops) (kk : Nat) (hf : m.get kk = .free) (Q : Value → Mem → Prop)
    (h : ∀ l : List Sp, (checkQ pc ws ops = false → l = []) → (checkQ pc ws ops = true → SpansR (nmQ ops) l ∧ l.length ≤ 480) → Q (lstSV kk l) (lstSM m kk l)) :
    TC Try.prog 44 [.agg #[.int .u32 pc, vw, vo]] m Q := by
  refine TC_fn mixed Try.func44 rfl Try.ntmps44 rfl (by decide) (by simp) ?_
  have hck := fun loc Q h => rcheck_tc pc hpc ws vw ops vo { base := m.get, n := m.top, loc := loc } (WordsAt_to hw loc) (OpsAt_to ho loc) Q h
  obtain ⟨ao, co, hlo⟩ := OpsAt_cap ho
  refine wpc_st fun K hK => ?_
  simp -dsimp
  refine hK _ _ ?_
  clear hK K
  cases hq : checkQ pc ws ops
  · have h0 := h [] (fun _ => rfl) (fun e => by rw [hq] at e; cases e)
    rw [hq] at hck
    simp -dsimp
    refine hck _ _ ?_
    simp -dsimp
    exact fin_ret rfl (leave_pure (by simp) h0)
  · rw [hq] at hck
    obtain ⟨hlen, hnm⟩ := checkQ_names hq
    have hnml : (nmQ ops).length = ops.length := by unfold nmQ; simp
    refine wpc_sq fun K hK => ?_
    simp -dsimp
    refine hck _ _ ?_
    simp -dsimp
    refine hK _ _ ?_
    clear hK K hck
    refine wpc_st fun K hK => ?_
    simp -dsimp
    refine hK _ _ ?_
    clear hK K
    subst hlo
    refine wpc_mid (fun env m' => ∃ l v g, SpansR (nmQ ops) l ∧ l.length ≤ 480 ∧ elook env 3 = some v ∧ LstT m.top l v g ∧ m' = { base := m.get, n := m.top, loc := .cells false 0 #[.int .u32 pc, vw, .slice ao ops.length co] :: g }) ?_ ?_
    · refine wpc_st fun K hK => ?_
      simp -dsimp
      refine hK _ _ ?_
      clear hK K
      simp -dsimp
      refine loop_by (rsO m (.cells false 0 #[.int .u32 pc, vw, .slice ao ops.length co]) (nmQ ops)) 63 ⟨1, [], .slice none 0 0, [], rfl, by omega, by omega, SpBelow.start _, by simp, .inl ⟨rfl, rfl⟩, by simp -dsimp⟩ ?_
      rintro f env m' ⟨p, l, v, g, rfl, hp1, hp64, hsb, hll, hlt, e1, e3, e4, rfl⟩
      by_cases hp : p ≤ 63
      · have hp' : (p : Int) ≤ 63 := by omega
        refine wpc_sq fun K hK => ?_
        simp -dsimp [e4, hp']
        refine hK _ _ ?_
        clear hK K
        refine wpc_mid (fun env' m' => ∃ (l : List Sp) (v : Value) (g : List Ob), SpBelow (nmQ ops) ((p : Int) + 1) l ∧ l.length < p + 1 ∧ LstT m.top l v g ∧
          elook env' 1 = some (.pointer (some ⟨m.top, 0, none⟩)) ∧ elook env' 3 = some v ∧ elook env' 4 = some (.int .i64 p) ∧ m' = { base := m.get, n := m.top, loc := .cells false 0 #[.int .u32 pc, vw, .slice ao ops.length co] :: g }) ?_ ?_
        · rw [wpc_block]
          refine wpc_st fun K hK => ?_
          simp -dsimp [e4]
          refine hK _ _ ?_
          clear hK K
          refine wpc_mid (rsI m (.cells false 0 #[.int .u32 pc, vw, .slice ao ops.length co]) (nmQ ops) p v g 0) ?_ ?_
          · refine wpc_st fun K hK => ?_
            simp -dsimp
            refine hK _ _ ?_
            clear hK K
            simp -dsimp
            refine loop_by (rsI m (.cells false 0 #[.int .u32 pc, vw, .slice ao ops.length co]) (nmQ ops) p v g) (nmQ ops).length ⟨0, ⟨p, -1, 0⟩, [], rfl, by omega, rfl, .inl ⟨rfl, rfl, fun k L h => by simp at h⟩, .inl rfl, by simp -dsimp [e1, e3, e4, spO, spV]⟩ ?_
            clear e1 e3 e4
            rintro f env2 m2 ⟨i, s, rs, rfl, hi, hsp, hst, hfr, e1, e3, e4, e5, e6, rfl⟩
            by_cases hlt2 : i < ops.length
            · have hlt2' : (i : Int) < (ops.length : Int) := by omega
              obtain ⟨o, ho'⟩ : ∃ o, ops[i]? = some o := ⟨ops[i], List.getElem?_eq_getElem hlt2⟩
              have htk : (nmQ ops).take (i + 1) = (nmQ ops).take i ++ [nmO o] := by
                rw [List.take_add_one]
                congr 1
                unfold nmQ
                rw [List.getElem?_map, ho']; rfl
              have hnm0 : ((nmQ ops).take i).length = i := by rw [List.length_take]; omega
              rcases ho with ⟨e, _⟩ | ⟨k, off, cap, ro, c, e, hcap, hm, hsz, hc⟩
              · rw [e] at hlt2; simp at hlt2
              simp only [Value.slice.injEq, true_and] at e
              obtain ⟨rfl, rfl⟩ := e
              have htop := lt_cells hm
              have hgt : ∀ os, ({ base := m.get, n := m.top, loc := os } : Mem).get k = .cells ro 6 c := fun os => by rw [get_base _ _ _ htop, hm]
              have hco := hc i o ho'
              have hsz2 : off + i * 6 + 6 ≤ c.size := by
                have : (i + 1) * 6 ≤ co * 6 := Nat.mul_le_mul_right 6 (by omega)
                omega
              have hwr := fun (m : Mem) Q h => rowrites_tc o m Q h
              have hro := fun (m' : Mem) kk hf Q h => roreads_tc o m' kk hf Q h
              rw [opV] at hwr hro
              have hrl := readsQ_len o
              refine wpc_sq fun K hK => ?_
              simp -dsimp [e1, e6, hlt2']
              refine hK _ _ ?_
              clear hK K
              refine wpc_mid (fun env' m' => ∃ (s : Sp) (rs : List Ob), s.place = (p : Int) ∧ SpSt ((nmQ ops).take (i + 1)) s ∧ (s.fr = -1 ∨ 0 ≤ s.fr) ∧
                elook env' 1 = some (.pointer (some ⟨m.top, 0, none⟩)) ∧ elook env' 3 = some v ∧ elook env' 4 = some (.int .i64 p) ∧ elook env' 5 = some (.pointer (some ⟨m.top + (g.length + 1), 0, none⟩)) ∧ elook env' 6 = some (.int .i64 i) ∧
                m' = { base := m.get, n := m.top, loc := .cells false 0 #[.int .u32 pc, vw, .slice (some ⟨k, off, none⟩) ops.length co] :: (g ++ spO s :: rs) }) ?_ ?_
              · rw [wpc_block]
                refine wpc_st fun K hK => ?_
                simp -dsimp [e1, e6, e4, hlt2', hgt, hsz2, hco, opL]
                refine hwr _ _ ?_
                simp -dsimp [e4]
                refine hK _ _ ?_
                clear hK K hwr
                refine wpc_mid (rsR m (.cells false 0 #[.int .u32 pc, vw, .slice (some ⟨k, off, none⟩) ops.length co]) o p i v g s rs) ?_ ?_
                · have hput : ∀ A row, ({ base := m.get, n := m.top, loc := A :: (g ++ spO s :: rs) } : Mem).put (m.top + (g.length + (rs.length + 1) + 1)) row = { base := m.get, n := m.top, loc := A :: (g ++ spO s :: (rs ++ [row])) } := fun A row => by rw [put_loc, if_neg (by simp)]; simp
                  simp -dsimp [e1, e6, e4, hlt2', hgt, hsz2, hco, opL]
                  refine hro _ (m.top + (g.length + (rs.length + 1) + 1)) (by rw [get_loc]; simp) _ ?_
                  unfold lstV lstM
                  generalize hrd0 : readsQ o = rd at *
                  by_cases hr0 : rd = []
                  · subst hr0
                    simp -dsimp only [if_true]
                    simp -dsimp
                    exact ⟨by simp -dsimp [e1], by simp -dsimp [e3], by simp -dsimp [e4], by simp -dsimp [e5], by simp -dsimp [e6], by simp -dsimp, _, rs, by simp -dsimp, .inl ⟨hrd0, rfl, rfl⟩, rfl⟩
                  · rw [if_neg hr0, if_neg hr0, hput]
                    simp -dsimp
                    exact ⟨by simp -dsimp [e1], by simp -dsimp [e3], by simp -dsimp [e4], by simp -dsimp [e5], by simp -dsimp [e6], by simp -dsimp, .slice (some ⟨m.top + (g.length + (rs.length + 1) + 1), 0, none⟩) rd.length rd.length, rs ++ [.cells false 1 (i64A rd)], by simp -dsimp, .inr ⟨by rw [hrd0]; exact hr0, by rw [hrd0], by rw [hrd0]⟩, rfl⟩
                · clear e1 e3 e4 e5 e6 hro hgt hm hc hco
                  rintro env3 m3 ⟨e1, e3, e4, e5, e6, e7, v8, rs', e8, hv8, rfl⟩
                  have hnd : decide ((p : Int) ∈ nmO o) = ((writesO o == (p : Int)) || (readsQ o).any fun x => x == (p : Int)) := by
                    unfold nmO
                    rw [Bool.eq_iff_iff]
                    simp only [decide_eq_true_eq, List.mem_append, List.mem_singleton, Bool.or_eq_true, beq_iff_eq, List.any_eq_true]
                    constructor
                    · rintro (h | h)
                      · exact .inr ⟨_, h, rfl⟩
                      · exact .inl h.symm
                    · rintro (h | ⟨x, h1, h2⟩)
                      · exact .inr h.symm
                      · subst h2; exact .inl h1
                  refine wpc_mid (fun env' m' => elook env' 1 = some (.pointer (some ⟨m.top, 0, none⟩)) ∧ elook env' 3 = some v ∧ elook env' 4 = some (.int .i64 p) ∧ elook env' 5 = some (.pointer (some ⟨m.top + (g.length + 1), 0, none⟩)) ∧ elook env' 6 = some (.int .i64 i) ∧ elook env' 7 = some (.bool (decide ((p : Int) ∈ nmO o))) ∧
                    m' = { base := m.get, n := m.top, loc := .cells false 0 #[.int .u32 pc, vw, .slice (some ⟨k, off, none⟩) ops.length co] :: (g ++ spO s :: rs') }) ?_ ?_
                  · rw [hnd]
                    generalize readsQ o = rd at *
                    generalize (writesO o == (p : Int)) = b0 at *
                    refine wpc_st fun K hK => ?_
                    simp -dsimp
                    refine hK _ _ ?_
                    clear hK K
                    simp -dsimp
                    rcases hv8 with ⟨rfl, rfl, rfl⟩ | ⟨hr0, rfl, rfl⟩
                    · refine loop_by (fun f env m' => elook env 9 = some (.int .i64 0) ∧ elook env 8 = some (.slice none 0 0) ∧ elook env 1 = some (.pointer (some ⟨m.top, 0, none⟩)) ∧ elook env 3 = some v ∧ elook env 4 = some (.int .i64 p) ∧ elook env 5 = some (.pointer (some ⟨m.top + (g.length + 1), 0, none⟩)) ∧ elook env 6 = some (.int .i64 i) ∧ elook env 7 = some (.bool b0) ∧
                        m' = { base := m.get, n := m.top, loc := .cells false 0 #[.int .u32 pc, vw, .slice (some ⟨k, off, none⟩) ops.length co] :: (g ++ spO s :: rs') }) 0 (by simp -dsimp [e1, e3, e4, e5, e6, e7, e8]) ?_
                      rintro n env m' ⟨e9, e8, e1, e3, e4, e5, e6, e7, rfl⟩
                      simp -dsimp [e9, e8, e1, e3, e4, e5, e6, e7]
                    · refine loop_by (fun f env m' => ∃ j, f = rd.length - j ∧ j ≤ rd.length ∧ elook env 9 = some (.int .i64 j) ∧ elook env 8 = some (.slice (some ⟨m.top + (g.length + (rs.length + 1) + 1), 0, none⟩) rd.length rd.length) ∧ elook env 1 = some (.pointer (some ⟨m.top, 0, none⟩)) ∧ elook env 3 = some v ∧ elook env 4 = some (.int .i64 p) ∧ elook env 5 = some (.pointer (some ⟨m.top + (g.length + 1), 0, none⟩)) ∧ elook env 6 = some (.int .i64 i) ∧
                        elook env 7 = some (.bool (b0 || (rd.take j).any fun x => x == (p : Int))) ∧
                        m' = { base := m.get, n := m.top, loc := .cells false 0 #[.int .u32 pc, vw, .slice (some ⟨k, off, none⟩) ops.length co] :: (g ++ spO s :: (rs ++ [.cells false 1 (i64A rd)])) }) rd.length ⟨0, by omega, by omega, by simp -dsimp [e1, e3, e4, e5, e6, e7, e8]⟩ ?_
                      rintro f env m' ⟨j, rfl, hj, e9, e8, e1, e3, e4, e5, e6, e7, rfl⟩
                      have hgr : ∀ A S x, ({ base := m.get, n := m.top, loc := A :: (g ++ S :: (rs ++ [x])) } : Mem).get (m.top + (g.length + (rs.length + 1) + 1)) = x := fun A S x => by rw [get_loc]; simp
                      by_cases hjl : j < rd.length
                      · have hjl' : (j : Int) < (rd.length : Int) := by omega
                        obtain ⟨x, hx⟩ : ∃ x, rd[j]? = some x := ⟨rd[j], List.getElem?_eq_getElem hjl⟩
                        have hx' : (i64A rd)[j]? = some (.int .i64 x) := by simp [i64A, hx]
                        have hkw3 : IntKind.i64.wrap ((j : Int) + 1) = ((j + 1 : Nat) : Int) := wI64 (by omega) (by omega)
                        have htk3 : ((rd.take (j + 1)).any fun x => x == (p : Int)) = (((rd.take j).any fun x => x == (p : Int)) || (x == (p : Int))) := by
                          rw [List.take_add_one, hx, List.any_append]; simp
                        refine wpc_mid (fun env' m' => elook env' 9 = some (.int .i64 j) ∧ elook env' 8 = some (.slice (some ⟨m.top + (g.length + (rs.length + 1) + 1), 0, none⟩) rd.length rd.length) ∧ elook env' 1 = some (.pointer (some ⟨m.top, 0, none⟩)) ∧ elook env' 3 = some v ∧ elook env' 4 = some (.int .i64 p) ∧ elook env' 5 = some (.pointer (some ⟨m.top + (g.length + 1), 0, none⟩)) ∧ elook env' 6 = some (.int .i64 i) ∧
                          elook env' 7 = elook env 7 ∧ m' = { base := m.get, n := m.top, loc := .cells false 0 #[.int .u32 pc, vw, .slice (some ⟨k, off, none⟩) ops.length co] :: (g ++ spO s :: (rs ++ [.cells false 1 (i64A rd)])) }) ?_ ?_
                        · simp -dsimp [e9, e8, e1, e3, e4, e5, e6, e7, hjl']
                        · rintro env4 m4 ⟨f9, f8, f1, f3, f4, f5, f6, f7, rfl⟩
                          rw [e7] at f7
                          cases hb : (b0 || (rd.take j).any fun x => x == (p : Int))
                          · rw [hb] at f7
                            simp -dsimp [f9, f8, f1, f3, f4, f5, f6, f7, undef, hjl, hjl', hgr, hx', hkw3]
                            refine ⟨rd.length - (j + 1), by omega, j + 1, rfl, by omega, by omega, ?_⟩
                            rw [htk3, ← Bool.or_assoc, hb]; rfl
                          · rw [hb] at f7
                            simp -dsimp [f9, f8, f1, f3, f4, f5, f6, f7, undef, hkw3]
                            refine ⟨rd.length - (j + 1), by omega, j + 1, rfl, by omega, by omega, ?_⟩
                            have : (b0 || (rd.take (j + 1)).any fun x => x == (p : Int)) = true := by rw [htk3, ← Bool.or_assoc, hb]; rfl
                            simpa using this
                      · have hjl' : ¬ (j : Int) < (rd.length : Int) := by omega
                        rw [List.take_of_length_le (by omega)] at e7
                        simp -dsimp [e9, e8, e1, e3, e4, e5, e6, e7, hjl']
                  · clear e1 e3 e4 e5 e6 e7 e8 hv8 hnd
                    rintro env4 m4 ⟨e1, e3, e4, e5, e6, e7, rfl⟩
                    rw [htk]
                    have hgs : ∀ A S rs, ({ base := m.get, n := m.top, loc := A :: (g ++ S :: rs) } : Mem).get (m.top + (g.length + 1)) = S := fun A S rs => by rw [get_loc]; simp
                    by_cases hin : (p : Int) ∈ nmO o
                    · rw [decide_eq_true hin] at e7
                      have hin' : s.place ∈ nmO o := by rw [hsp]; exact hin
                      rcases hst with ⟨hf1, hf2, hno⟩ | hspan
                      · have hneg : s.fr < 0 := by omega
                        have hfirst := isSpan_op_first (p := (p : Int)) (by omega) hin (fun k L hk => by rw [← hsp]; exact hno k L hk)
                        rw [hnm0] at hfirst
                        simp -dsimp [e1, e3, e4, e5, e6, e7, hgs, spO, spV, hneg]
                        exact ⟨⟨p, i, i⟩, rfl, .inr hfirst, .inr (Int.natCast_nonneg i), hsp, rfl, rfl⟩
                      · have hnn : ¬ s.fr < 0 := by
                          obtain ⟨_, a, b, q1, _⟩ := hspan; omega
                        have hlast := isSpan_op_last hspan hin'
                        rw [hnm0] at hlast
                        simp -dsimp [e1, e3, e4, e5, e6, e7, hgs, spO, spV, hnn]
                        exact ⟨{ s with to := (i : Int) }, hsp, .inr hlast, .inr (by show 0 ≤ s.fr; omega), rfl, rfl, rfl⟩
                    · rw [decide_eq_false hin] at e7
                      have hin' : s.place ∉ nmO o := by rw [hsp]; exact hin
                      simp -dsimp [e1, e3, e4, e5, e6, e7, undef]
                      refine ⟨s, hsp, ?_, hfr, rfl⟩
                      rcases hst with ⟨hf1, hf2, hno⟩ | hspan
                      · refine .inl ⟨hf1, hf2, fun k L hk => ?_⟩
                        rw [getElem?_snoc] at hk
                        split at hk
                        · exact hno k L hk
                        · split at hk
                          · cases hk; exact hin'
                          · cases hk
                      · exact .inr ((isSpan_op_no hin').2 hspan)
              · rintro env3 m3 ⟨s3, rs3, hsp3, hst3, hfr3, e1, e3, e4, e5, e6, rfl⟩
                have hkw : IntKind.i64.wrap ((i : Int) + 1) = ((i + 1 : Nat) : Int) := wI64 (by omega) (by omega)
                simp -dsimp [e6, hkw]
                refine ⟨(nmQ ops).length - (i + 1), by omega, i + 1, s3, rs3, rfl, by omega, hsp3, hst3, hfr3, by simp -dsimp [e1], by simp -dsimp [e3], by simp -dsimp [e4], by simp -dsimp [e5], by simp -dsimp, rfl⟩
            · have hi2 : i = ops.length := by omega
              subst hi2
              have hlt' : ¬ (ops.length : Int) < (ops.length : Int) := by omega
              simp -dsimp [e1, e6, hlt']
              refine ⟨ops.length, s, rs, by omega, hi, hsp, hst, hfr, by simp -dsimp [e1], by simp -dsimp [e3], by simp -dsimp [e4], by simp -dsimp [e5], by simp -dsimp [e6], rfl⟩
          · clear e1 e3 e4
            rintro env2 m2 ⟨i, s, rs, hi0, hi, hsp, hst, hfr, e1, e3, e4, e5, e6, rfl⟩
            rw [List.take_of_length_le (by omega)] at hst
            have hgs : ∀ A S rs, ({ base := m.get, n := m.top, loc := A :: (g ++ S :: rs) } : Mem).get (m.top + (g.length + 1)) = S := fun A S rs => by rw [get_loc]; simp
            rcases hst with ⟨hf1, hf2, hno⟩ | hspan
            · have hneg : s.fr < 0 := by omega
              have hsk := hsb.skip fun k L hk => by rw [← hsp]; exact hno k L hk
              simp -dsimp [e1, e3, e4, e5, hgs, spO, spV, hneg]
              exact ⟨l, hsk, by omega, hlt.app _⟩
            · have hnn : ¬ s.fr < 0 := by
                obtain ⟨_, a, b, q1, _⟩ := hspan; omega
              refine wpc_sq fun K hK => ?_
              simp -dsimp [e5, hgs, spO, spV, hnn]
              refine hK _ _ ?_
              clear hK K
              refine wpc_mid (fun env' m' => elook env' 1 = some (.pointer (some ⟨m.top, 0, none⟩)) ∧ elook env' 4 = some (.int .i64 p) ∧ ∃ G, elook env' 3 = some (.slice (some ⟨m.top + (G.length + 1), 0, none⟩) (l.length + 1) (l.length + 1)) ∧
                m' = { base := m.get, n := m.top, loc := .cells false 0 #[.int .u32 pc, vw, .slice ao ops.length co] :: (G ++ [.cells false 3 (flatS (l ++ [s]))]) }) ?_ ?_
              · rcases hlt with ⟨rfl, rfl⟩ | ⟨hne, p0, rfl, hg0⟩
                · simp -dsimp [e1, e3, e4, e5, hgs, spO, spV, y79]
                  exact ⟨g ++ .cells false 0 #[.int .i64 s.place, .int .i64 s.fr, .int .i64 s.to] :: (rs ++ [.cells false 3 #[.int .i64 s.place, .int .i64 s.fr, .int .i64 s.to]]), by simp, by simp [flatS, spV]⟩
                · have hpg : p0 < g.length := (List.getElem?_eq_some_iff.1 hg0).1
                  have hpg1 : p0 < g.length + 1 := by omega
                  have hg0' : g[p0]'hpg = .cells false 3 (flatS l) := by rw [List.getElem?_eq_getElem hpg] at hg0; exact Option.some.inj hg0
                  have hb : ¬ 17592186044416 < (l.length + 1) * 24 := by omega
                  have hnl2 : ¬ l.length + 1 ≤ l.length := by omega
                  have hfs := flatS_size l
                  have hex : (flatS l).extract 0 (l.length * 3) = flatS l := Array.extract_eq_self_of_le (by omega)
                  simp -dsimp [e1, e3, e4, e5, hgs, spO, spV, y79, hg0', hne, hb, hpg, hpg1, hnl2, hfs, hex, List.getElem?_append, List.set_append]
                  refine ⟨g.set p0 .dead ++ .cells false 0 #[.int .i64 s.place, .int .i64 s.fr, .int .i64 s.to] :: (rs ++ [.cells false 3 #[.int .i64 s.place, .int .i64 s.fr, .int .i64 s.to]]), by simp, ?_⟩
                  rw [if_pos (by omega), put_loc, if_neg (by simp)]
                  simp [flatS_append, spV]
              · clear e1 e3 e4 e5 e6 hlt
                rintro env3 m3 ⟨e1, e4, G, e3, rfl⟩
                have hkw0 : IntKind.i64.wrap ((l.length : Int) + 1 - 1) = (l.length : Int) := by rw [wI64 (by omega) (by omega)]; omega
                have hkwl : IntKind.i64.wrap (l.length : Int) = (l.length : Int) := wI64 (by omega) (by omega)
                have hgG : ∀ A x, ({ base := m.get, n := m.top, loc := A :: (G ++ [x]) } : Mem).get (m.top + (G.length + 1)) = x := fun A x => by rw [get_loc]; simp
                have hpG : ∀ A x y, ({ base := m.get, n := m.top, loc := A :: (G ++ [x]) } : Mem).put (m.top + (G.length + 1)) y = { base := m.get, n := m.top, loc := A :: (G ++ [y]) } := fun A x y => by rw [put_loc, if_pos (by simp)]; simp
                refine wpc_st fun K hK => ?_
                simp -dsimp [e3, hkw0, hkwl]
                refine hK _ _ ?_
                clear hK K
                simp -dsimp
                refine loop_by (fun f env' m' => ∃ k, f = k ∧ k ≤ l.length ∧ (∀ (j : Nat) (t : Sp), k ≤ j → l[j]? = some t → s.fr < t.fr) ∧ elook env' 1 = some (.pointer (some ⟨m.top, 0, none⟩)) ∧ elook env' 3 = some (.slice (some ⟨m.top + (G.length + 1), 0, none⟩) (l.length + 1) (l.length + 1)) ∧ elook env' 4 = some (.int .i64 p) ∧ elook env' 10 = some (.int .i64 k) ∧
                  m' = { base := m.get, n := m.top, loc := .cells false 0 #[.int .u32 pc, vw, .slice ao ops.length co] :: (G ++ [.cells false 3 (flatS (l.take k ++ s :: l.drop k))]) }) l.length ⟨l.length, rfl, Nat.le_refl _, fun j t h1 h2 => (by have := (List.getElem?_eq_some_iff.1 h2).1; omega), by simp -dsimp [e1, e3, e4, hkwl]⟩ ?_
                clear e1 e3 e4
                rintro f env4 m4 ⟨k, rfl, hk, hgr, e1, e3, e4, e10, rfl⟩
                have hLl : (l.take f ++ s :: l.drop f).length = l.length + 1 := by simp; omega
                -- where it stays
                have hdone : (f = 0 ∨ ∃ t, l[f - 1]? = some t ∧ t.fr ≤ s.fr) → ∃ (l2 : List Sp), SpBelow (nmQ ops) ((p : Int) + 1) l2 ∧ l2.length < p + 1 ∧ l2 = l.take f ++ s :: l.drop f ∧ l2 ≠ [] ∧ l2.length = l.length + 1 := fun hz => by
                  have := SpBelow.insert (s := s) (by rw [hsp]; exact hsb) hspan hk hgr hz
                  rw [hsp] at this
                  exact ⟨_, this, by rw [hLl]; omega, rfl, by simp, hLl⟩
                rcases Nat.eq_zero_or_pos f with rfl | hf1
                · obtain ⟨l2, a1, a2, a3, a4, a5⟩ := hdone (.inl rfl)
                  rw [← a3]
                  simp -dsimp
                  refine draw_go 14 [0, 1, 3, 7, 7, 31, 63, 127, 7, 7, 519, 1799, 3847, 7943, 16383, 32767] (by kernel_rfl) (by kernel_rfl) ?_
                  simp -dsimp -implicitDefEqProofs [e1, e3, e4, e10, undef]
                  exact ⟨l2, a1, a2, .inr ⟨a4, G.length, by rw [a5], by simp⟩⟩
                · have hl1 : f - 1 < l.length := by omega
                  obtain ⟨t, ht⟩ : ∃ t, l[f - 1]? = some t := ⟨l[f - 1], List.getElem?_eq_getElem hl1⟩
                  have g1 : (l.take f ++ s :: l.drop f)[f]? = some s := by rw [List.getElem?_append_right (by simp; omega)]; simp [Nat.min_eq_left hk]
                  have g2 : (l.take f ++ s :: l.drop f)[f - 1]? = some t := by rw [List.getElem?_append_left (by simp; omega), List.getElem?_take, if_pos (by omega), ht]
                  obtain ⟨q0, q1, q2⟩ := flatS_cell _ _ _ g1
                  obtain ⟨r0, r1, r2⟩ := flatS_cell _ _ _ g2
                  have hfp : (0 : Int) < f := by omega
                  have hfp0 : 0 < f := hf1
                  have hfl' : (f : Int) < (l.length : Int) + 1 := by omega
                  have hkwf : IntKind.i64.wrap ((f : Int) - 1) = ((f - 1 : Nat) : Int) := by rw [wI64 (by omega) (by omega)]; omega
                  have hf1' : ((f - 1 : Nat) : Int) < (l.length : Int) + 1 := by omega
                  by_cases hcm : s.fr < t.fr
                  · have hsw : ((l.take f ++ s :: l.drop f).set f t).set (f - 1) s = l.take (f - 1) ++ s :: l.drop (f - 1) := by
                      have h1 : l.take f = l.take (f - 1) ++ [t] := by
                        obtain ⟨f', rfl⟩ : ∃ f', f = f' + 1 := ⟨f - 1, by omega⟩
                        rw [List.take_add_one]
                        simp only [Nat.add_sub_cancel] at ht ⊢
                        rw [ht]; rfl
                      have h2 : l.drop (f - 1) = t :: l.drop f := by
                        rw [List.drop_eq_getElem_cons hl1]
                        rw [List.getElem?_eq_getElem hl1] at ht
                        rw [Option.some.inj ht, Nat.sub_add_cancel hf1]
                      rw [h2, List.set_append_right _ _ (by simp; omega)]
                      rw [show f - (l.take f).length = 0 by simp; omega, List.set_cons_zero, h1, List.append_assoc, List.set_append_right _ _ (by simp; omega)]
                      rw [show f - 1 - (l.take (f - 1)).length = 0 by simp; omega]
                      rfl
                    have hp1 := flatS_put (l.take f ++ s :: l.drop f) f (by omega) t
                    have hp2 := flatS_put ((l.take f ++ s :: l.drop f).set f t) (f - 1) (by simp; omega) s
                    rw [hsw] at hp2
                    have x1 := flatS_extract _ _ _ g1
                    have x2 := flatS_extract _ _ _ g2
                    have hsz := flatS_size (l.take f ++ s :: l.drop f)
                    have hsz2 := flatS_size ((l.take f ++ s :: l.drop f).set f t)
                    rw [hLl] at hsz
                    rw [List.length_set, hLl] at hsz2
                    generalize l.take f ++ s :: l.drop f = Lk at *
                    generalize Lk.set f t = Lm at *
                    have hz1 : ¬ f * 3 = 0 := by omega
                    have hz2 : ¬ 3 = (l.length + 1) * 3 := by omega
                    have b1 : f * 3 + 3 ≤ (l.length + 1) * 3 := by omega
                    have b2 : (f - 1) * 3 + 3 ≤ (l.length + 1) * 3 := by omega
                    refine wpc_sq fun K hK => ?_
                    simp -dsimp
                    refine draw_go 14 [0, 1, 3, 7, 7, 31, 63, 127, 7, 7, 519, 1799, 3847, 7943, 16383, 32767] (by kernel_rfl) (by kernel_rfl) ?_
                    simp -dsimp -implicitDefEqProofs [e1, e3, e4, e10, undef, hfp, hfp0, hfl', hkwf, hf1', hgG, q1, r1, hcm]
                    refine hK _ _ ?_
                    clear hK K
                    refine wpc_sq fun K hK => ?_
                    simp -dsimp
                    refine draw_gom 15 [2, 3, 4] [0, 0, 0, 0, 8, 0, 0, 64, 224, 480, 0, 0, 3072, 7168, 16355, 32739, 65535, 131071] (by kernel_rfl) (by kernel_rfl) ?_
                    simp -dsimp -implicitDefEqProofs [e1, e3, e4, e10, hfl', hkwf, hf1', hgG, x1, x2, hsz, hsz2, b1, b2, spV_len', hp1, hp2, hz1, hz2]
                    refine hK _ _ ?_
                    clear hK K
                    simp -dsimp [e1, e3, e4, e10, hkwf]
                    refine ⟨f - 1, by omega, by omega, fun j t2 hj ht2 => ?_, rfl, rfl⟩
                    by_cases hjf : j = f - 1
                    · subst hjf; rw [ht] at ht2; cases ht2; exact hcm
                    · exact hgr j t2 (by omega) ht2
                  · obtain ⟨l2, a1, a2, a3, a4, a5⟩ := hdone (.inr ⟨t, ht, by omega⟩)
                    rw [← a3] at q1 r1 ⊢
                    simp -dsimp
                    refine draw_go 14 [0, 1, 3, 7, 7, 31, 63, 127, 7, 7, 519, 1799, 3847, 7943, 16383, 32767] (by kernel_rfl) (by kernel_rfl) ?_
                    simp -dsimp -implicitDefEqProofs [e1, e3, e4, e10, undef, hfp, hfp0, hfl', hkwf, hf1', hgG, q1, r1, hcm]
                    exact ⟨l2, a1, a2, .inr ⟨a4, G.length, by rw [a5], by simp⟩⟩
        · rintro env1 m1 ⟨l1, v1, g1, hsb1, hll1, hlt1, e1, e3, e4, rfl⟩
          have hkw : IntKind.i64.wrap ((p : Int) + 1) = ((p + 1 : Nat) : Int) := wI64 (by omega) (by omega)
          simp -dsimp [e4, hkw]
          refine ⟨64 - (p + 1), by omega, p + 1, l1, v1, g1, rfl, by omega, by omega, hsb1, hll1, hlt1, by simp -dsimp [e1], by simp -dsimp [e3], by simp -dsimp, rfl⟩
      · have hp2 : p = 64 := by omega
        subst hp2
        simp -dsimp [e4, e3]
        exact ⟨l, hsb.done fun k L hk q hq => by
          unfold nmQ at hk
          rw [List.getElem?_map] at hk
          obtain ⟨o, ho1, ho2⟩ := Option.map_eq_some_iff.1 hk
          rw [← ho2] at hq
          exact (hnm o (List.mem_of_getElem? ho1) q hq).2, by omega, hlt⟩
    · rintro env m' ⟨l, v, g, hsr, hll, e3, hls, rfl⟩
      have hl := h l (fun e => by rw [hq] at e; cases e) (fun _ => ⟨hsr, hll⟩)
      unfold lstSV lstSM at hl
      rcases hls with ⟨rfl, rfl⟩ | ⟨hne, p, rfl, hg⟩
      · simp -dsimp [e3]
        exact fin_ret rfl (leave_pure (by simp) hl)
      · have hpl : p < g.length := (List.getElem?_eq_some_iff.1 hg).1
        rw [if_neg hne, if_neg hne] at hl
        simp -dsimp [e3]
        exact fin_ret rfl (leave_row_at (i := p + 1) (by simpa using hg) (flatS_gnd l) hf hl)
end Go.Lm
