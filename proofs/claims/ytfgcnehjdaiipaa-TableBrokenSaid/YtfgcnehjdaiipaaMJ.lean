/- The contracts and walks of calquelaw16.TableBroken and TableWords. -/
import Derived.Test.YtfgcnehjdaiipaaMI
/- calquelaw16: awake, TableBroken, TableWords. -/
set_option linter.unusedSimpArgs false
set_option linter.unusedVariables false
namespace Go.Lm
open Go.Proofs

theorem rencQ_lt (i : InsZ) (hi : i.imm < 2 ^ 32) : (rencQ i).1 < 2 ^ 32 := by
  unfold rencQ
  cases hf : rfindQ i.op with
  | none => exact (by decide : (0 : Nat) < 2 ^ 32)
  | some r =>
    have h1 : refTab.all okRow = true := by kernel_rfl
    exact wordQ_lt r (List.all_eq_true.1 h1 r (List.mem_of_find?_eq_some hf)) i hi

def wdQ (op s t d a : Int) (imm : Nat) : Nat := (rencQ ⟨op, s, t, d, a, imm⟩).1
theorem wd_tc (op s t d a : Int) (imm : Nat) (hi : imm < 2 ^ 32) (m : Mem) (Q) (h : Q (.int .u32 (wdQ op s t d a imm : Nat)) m) : TC Try.prog 23 [.int .i64 op, .int .i64 s, .int .i64 t, .int .i64 d, .int .i64 a, .int .u32 imm] m Q :=
  lword_tc op s t d a imm hi m Q h
theorem wd_lt (op s t d a : Int) (imm : Nat) (hi : imm < 2 ^ 32) : wdQ op s t d a imm < 2 ^ 32 := rencQ_lt _ hi

/-- words in the memory's newest row -/
theorem words_row {m : Mem} {k : Nat} {l : List Nat} {c : Array Value} {n cap : Nat} (hm : m.get k = .cells false 1 c) (hc : c = (l.map fun (x : Nat) => Value.int .u32 (x : Int)).toArray) (hn : n = l.length) (hcap : cap = l.length) (hl : ∀ x ∈ l, x < 2 ^ 32) :
    WordsAt m (.slice (some ⟨k, 0, none⟩) n cap) l := by
  subst hn; subst hc; subst hcap
  refine ⟨hl, .inr ⟨k, 0, l.length, false, _, rfl, Nat.le_refl _, hm, by simp, fun j x hx => ?_⟩⟩
  rw [Nat.zero_add, List.getElem?_toArray, List.getElem?_map, hx]; rfl

def awk : List Nat := [wdQ 47 0 8 0 0 3, wdQ 16 0 9 9 2 0, wdQ 1 8 9 8 0 0, wdQ 51 8 8 0 0 16, wdQ 27 8 0 0 0 0, 0]
theorem awk_find : findQ awk = (196624, true) := by kernel_rfl

set_option maxRecDepth 100000 in
set_option maxHeartbeats 4000000 in
theorem tawake_tc (m : Mem) (Q) (h : Q (.bool true) m) : TC Try.prog 32 [] m Q := by
  refine TC_fn mixed Try.func32 rfl Try.ntmps32 rfl (by decide) (by simp) ?_
  have hf := awk_find
  unfold awk at hf
  have l1 := wd_lt 47 0 8 0 0 3 (by decide)
  have l2 := wd_lt 16 0 9 9 2 0 (by decide)
  have l3 := wd_lt 1 8 9 8 0 0 (by decide)
  have l4 := wd_lt 51 8 8 0 0 16 (by decide)
  have l5 := wd_lt 27 8 0 0 0 0 (by decide)
  have c1 := wd_tc 47 0 8 0 0 3 (by decide)
  have c2 := wd_tc 16 0 9 9 2 0 (by decide)
  have c3 := wd_tc 1 8 9 8 0 0 (by decide)
  have c4 := wd_tc 51 8 8 0 0 16 (by decide)
  have c5 := wd_tc 27 8 0 0 0 0 (by decide)
  generalize wdQ 47 0 8 0 0 3 = w1 at *
  generalize wdQ 16 0 9 9 2 0 = w2 at *
  generalize wdQ 1 8 9 8 0 0 = w3 at *
  generalize wdQ 51 8 8 0 0 16 = w4 at *
  generalize wdQ 27 8 0 0 0 0 = w5 at *
  refine wpc_st fun K hK => ?_
  simp -dsimp
  refine hK _ _ ?_
  clear hK K
  refine wpc_st fun K hK => ?_
  simp -dsimp
  refine c1 _ _ ?_
  simp -dsimp
  refine c2 _ _ ?_
  simp -dsimp
  refine c3 _ _ ?_
  simp -dsimp
  refine c4 _ _ ?_
  simp -dsimp
  refine c5 _ _ ?_
  simp -dsimp
  refine find_tc [w1, w2, w3, w4, w5, 0] _ _ (words_row (c := #[.int .u32 w1, .int .u32 w2, .int .u32 w3, .int .u32 w4, .int .u32 w5, .int .u32 0]) (by simp -dsimp; kernel_rfl) rfl rfl rfl (by simp; omega)) _ ?_
  rw [hf]
  simp -dsimp
  refine hK _ _ ?_
  clear hK K
  simp -dsimp
  exact fin_ret rfl (leave_pure (by simp) h)
end Go.Lm
/- calquelaw16.TableBroken. -/
set_option linter.unusedSimpArgs false
set_option linter.unusedVariables false
namespace Go.Lm
open Go.Proofs

def brk (r : Int) : List Nat := [wdQ 47 0 r 0 0 3, wdQ 1 r 20 r 0 0, wdQ 51 r 25 0 0 8, wdQ 27 25 0 0 0 0, 0]
theorem brk_fin : (List.range 7).all (fun q =>
    let r : Int := ((q + 1 : Nat) : Int)
    (findQ (brk r)).2 && !(findQ ((brk r).set 0 (wdQ 37 21 21 r 0 0))).2 && !(findQ ((brk r).set 1 (wdQ 2 r 20 r 0 0))).2 && !(findQ ((brk r).set 2 (wdQ 52 r 25 0 0 8))).2 &&
      !(findQ ((brk r).set 3 (wdQ 28 25 0 31 0 0))).2 && !(findQ ((brk r).set 3 (wdQ 27 24 0 0 0 0))).2 && !(findQ ((brk r).take 3)).2) = true := by kernel_rfl

theorem z5 : (Array.range 5).map (fun x => [Value.int .u32 0][x % 1]?.getD default) = #[.int .u32 0, .int .u32 0, .int .u32 0, .int .u32 0, .int .u32 0] := by kernel_rfl

set_option maxRecDepth 100000 in
set_option maxHeartbeats 8000000 in
theorem broken_tc (how a : Int) (m : Mem) : TC Try.prog 10 [.int .i64 how, .int .i64 a] m (fun v _ => v = .bool true) := by
  refine TC_fn mixed Try.func10 rfl Try.ntmps10 rfl (by decide) (by simp) ?_
  obtain ⟨q, hq, eq⟩ : ∃ q : Nat, q < 7 ∧ a % 7 = (q : Int) := ⟨(a % 7).toNat, by omega, by omega⟩
  obtain ⟨p, hp, ep⟩ : ∃ p : Nat, p < 6 ∧ how % 6 = (p : Int) := ⟨(how % 6).toNat, by omega, by omega⟩
  have hfin := List.all_eq_true.1 brk_fin q (List.mem_range.2 hq)
  simp only [Bool.and_eq_true, Bool.not_eq_true'] at hfin
  obtain ⟨⟨⟨⟨⟨⟨f0, f1⟩, f2⟩, f3⟩, f4⟩, f5⟩, f6⟩ := hfin
  have hr : IntKind.i64.wrap (1 + (q : Int)) = ((q + 1 : Nat) : Int) := by rw [wI64 (by omega) (by omega)]; omega
  have pl1 := fun m Q h => place_tc a 7 (by decide) (by decide) m Q h
  have pl2 := fun m Q h => place_tc how 6 (by decide) (by decide) m Q h
  rw [eq] at pl1
  rw [ep] at pl2
  generalize ((q + 1 : Nat) : Int) = r at *
  unfold brk at f0 f1 f2 f3 f4 f5 f6
  have l1 := wd_lt 47 0 r 0 0 3 (by decide)
  have l2 := wd_lt 1 r 20 r 0 0 (by decide)
  have l3 := wd_lt 51 r 25 0 0 8 (by decide)
  have l4 := wd_lt 27 25 0 0 0 0 (by decide)
  have l5 := wd_lt 37 21 21 r 0 0 (by decide)
  have l6 := wd_lt 2 r 20 r 0 0 (by decide)
  have l7 := wd_lt 52 r 25 0 0 8 (by decide)
  have l8 := wd_lt 28 25 0 31 0 0 (by decide)
  have l9 := wd_lt 27 24 0 0 0 0 (by decide)
  have c1 := wd_tc 47 0 r 0 0 3 (by decide)
  have c2 := wd_tc 1 r 20 r 0 0 (by decide)
  have c3 := wd_tc 51 r 25 0 0 8 (by decide)
  have c4 := wd_tc 27 25 0 0 0 0 (by decide)
  have c5 := wd_tc 37 21 21 r 0 0 (by decide)
  have c6 := wd_tc 2 r 20 r 0 0 (by decide)
  have c7 := wd_tc 52 r 25 0 0 8 (by decide)
  have c8 := wd_tc 28 25 0 31 0 0 (by decide)
  have c9 := wd_tc 27 24 0 0 0 0 (by decide)
  generalize wdQ 47 0 r 0 0 3 = w1 at *
  generalize wdQ 1 r 20 r 0 0 = w2 at *
  generalize wdQ 51 r 25 0 0 8 = w3 at *
  generalize wdQ 27 25 0 0 0 0 = w4 at *
  generalize wdQ 37 21 21 r 0 0 = w5 at *
  generalize wdQ 2 r 20 r 0 0 = w6 at *
  generalize wdQ 52 r 25 0 0 8 = w7 at *
  generalize wdQ 28 25 0 31 0 0 = w8 at *
  generalize wdQ 27 24 0 0 0 0 = w9 at *
  simp only [List.set_cons_zero, List.set_cons_succ, List.take_succ_cons, List.take_zero] at f1 f2 f3 f4 f5 f6
  refine wpc_st fun K hK => ?_
  simp -dsimp -implicitDefEqProofs
  refine hK _ _ ?_
  clear hK K
  refine wpc_st fun K hK => ?_
  simp -dsimp -implicitDefEqProofs
  refine hK _ _ ?_
  clear hK K
  refine wpc_st fun K hK => ?_
  simp -dsimp -implicitDefEqProofs
  refine pl1 _ _ ?_
  simp -dsimp -implicitDefEqProofs [hr]
  refine hK _ _ ?_
  clear hK K
  refine wpc_st fun K hK => ?_
  simp -dsimp -implicitDefEqProofs
  refine c1 _ _ ?_
  simp -dsimp -implicitDefEqProofs
  refine c2 _ _ ?_
  simp -dsimp -implicitDefEqProofs
  refine c3 _ _ ?_
  simp -dsimp -implicitDefEqProofs
  refine c4 _ _ ?_
  simp -dsimp -implicitDefEqProofs [z5]
  refine hK _ _ ?_
  clear hK K
  refine wpc_sq fun K hK => ?_
  simp -dsimp -implicitDefEqProofs
  refine find_tc [w1, w2, w3, w4, 0] _ _ (words_row (c := #[.int .u32 w1, .int .u32 w2, .int .u32 w3, .int .u32 w4, .int .u32 0]) (by simp -dsimp -implicitDefEqProofs) rfl rfl rfl (by simp; omega)) _ ?_
  rw [f0]
  simp -dsimp -implicitDefEqProofs
  refine hK _ _ ?_
  clear hK K
  refine wpc_mid (fun env m' => ∃ (l : List Nat) (v : Value), (findQ l).2 = false ∧ elook env 7 = some v ∧ WordsAt m' v l ∧ ∃ g, m' = { base := m.get, n := m.top, loc := g }) ?_ ?_
  · refine wpc_st fun K hK => ?_
    simp -dsimp -implicitDefEqProofs
    refine pl2 _ _ ?_
    simp -dsimp -implicitDefEqProofs
    refine hK _ _ ?_
    clear hK K
    have hpc : p = 0 ∨ p = 1 ∨ p = 2 ∨ p = 3 ∨ p = 4 ∨ p = 5 := by omega
    rcases hpc with rfl | rfl | rfl | rfl | rfl | rfl
    · simp -dsimp -implicitDefEqProofs
      refine c5 _ _ ?_
      simp -dsimp -implicitDefEqProofs
      exact ⟨_, f1, words_row (c := #[.int .u32 w5, .int .u32 w2, .int .u32 w3, .int .u32 w4, .int .u32 0]) (by simp -dsimp -implicitDefEqProofs) rfl rfl rfl (by simp; omega)⟩
    · simp -dsimp -implicitDefEqProofs
      refine c6 _ _ ?_
      simp -dsimp -implicitDefEqProofs
      exact ⟨_, f2, words_row (c := #[.int .u32 w1, .int .u32 w6, .int .u32 w3, .int .u32 w4, .int .u32 0]) (by simp -dsimp -implicitDefEqProofs) rfl rfl rfl (by simp; omega)⟩
    · simp -dsimp -implicitDefEqProofs
      refine c7 _ _ ?_
      simp -dsimp -implicitDefEqProofs
      exact ⟨_, f3, words_row (c := #[.int .u32 w1, .int .u32 w2, .int .u32 w7, .int .u32 w4, .int .u32 0]) (by simp -dsimp -implicitDefEqProofs) rfl rfl rfl (by simp; omega)⟩
    · simp -dsimp -implicitDefEqProofs
      refine c8 _ _ ?_
      simp -dsimp -implicitDefEqProofs
      exact ⟨_, f4, words_row (c := #[.int .u32 w1, .int .u32 w2, .int .u32 w3, .int .u32 w8, .int .u32 0]) (by simp -dsimp -implicitDefEqProofs) rfl rfl rfl (by simp; omega)⟩
    · simp -dsimp -implicitDefEqProofs
      refine c9 _ _ ?_
      simp -dsimp -implicitDefEqProofs
      exact ⟨_, f5, words_row (c := #[.int .u32 w1, .int .u32 w2, .int .u32 w3, .int .u32 w9, .int .u32 0]) (by simp -dsimp -implicitDefEqProofs) rfl rfl rfl (by simp; omega)⟩
    · simp -dsimp -implicitDefEqProofs
      refine ⟨[w1, w2, w3], f6, by simp; omega, .inr ⟨m.top, 0, 5, false, #[.int .u32 w1, .int .u32 w2, .int .u32 w3, .int .u32 w4, .int .u32 0], rfl, by simp, by simp -dsimp, by simp, fun j x hx => ?_⟩⟩
      match j, hx with
      | 0, hx => simp at hx ⊢; rw [hx]
      | 1, hx => simp at hx ⊢; rw [hx]
      | 2, hx => simp at hx ⊢; rw [hx]
      | j + 3, hx => simp at hx
  rintro env m' ⟨l, v, hf, e7, hW, g, rfl⟩
  refine wpc_st fun K hK => ?_
  simp -dsimp -implicitDefEqProofs [e7]
  refine find_tc l v _ hW _ ?_
  rw [hf]
  simp -dsimp -implicitDefEqProofs
  refine hK _ _ ?_
  clear hK K
  refine wpc_st fun K hK => ?_
  simp -dsimp -implicitDefEqProofs
  refine tawake_tc _ _ ?_
  simp -dsimp -implicitDefEqProofs
  refine hK _ _ ?_
  clear hK K
  simp -dsimp -implicitDefEqProofs
  exact fin_ret rfl (leave_pure (by simp) rfl)
end Go.Lm
/- calquelaw16.TableWords. -/
set_option linter.unusedSimpArgs false
set_option linter.unusedVariables false
namespace Go.Lm
open Go.Proofs

/-- A slice of whole numbers that came in. -/
def IntsAt (m : Mem) (v : Value) (n : Nat) : Prop :=
  (n = 0 ∧ v = .slice none 0 0) ∨ ∃ k off cap ro c, v = .slice (some ⟨k, off, none⟩) n cap ∧ n ≤ cap ∧ m.get k = .cells ro 1 c ∧ ∀ (j : Nat), j < n → ∃ z : Int, c[off + j]? = some (.int .i64 z)

/-- A list of words that a call has made: nil, or a row of its own that is full. -/
def MadeW (top : Nat) (g : List Ob) (v : Value) (l : List Nat) : Prop :=
  (∀ x ∈ l, x < 2 ^ 32) ∧ ((l = [] ∧ v = .slice none 0 0) ∨
  (l ≠ [] ∧ ∃ p, v = .slice (some ⟨top + p, 0, none⟩) l.length l.length ∧ g[p]? = some (.cells false 1 (l.map fun (x : Nat) => Value.int .u32 (x : Int)).toArray)))

theorem MadeW.at {B : Nat → Ob} {top : Nat} {g : List Ob} {v : Value} {l : List Nat} (h : MadeW top g v l) : WordsAt { base := B, n := top, loc := g } v l := by
  obtain ⟨h1, h2⟩ := h
  refine ⟨h1, ?_⟩
  rcases h2 with h2 | ⟨h2, p, h3, h4⟩
  · exact .inl h2
  · refine .inr ⟨top + p, 0, l.length, false, _, h3, Nat.le_refl _, by rw [get_loc, h4]; rfl, by simp, fun j x hx => ?_⟩
    rw [Nat.zero_add, List.getElem?_toArray, List.getElem?_map, hx]; rfl

theorem z2 : (Array.range 2).map (fun x => [Value.int .u32 0][x % 1]?.getD default) = #[.int .u32 0, .int .u32 0] := by kernel_rfl
theorem z1 : (Array.range 1).map (fun x => [Value.int .u32 0][x % 1]?.getD default) = #[.int .u32 0] := by kernel_rfl

def wordsI (m : Mem) (v0 : Value) (n0 : Nat) (r : Int) (n : Nat) (env : Env) (m' : Mem) : Prop :=
  ∃ k, k ≤ n0 ∧ k ≤ 12 ∧ n = 12 - k ∧ elook env 0 = some v0 ∧ elook env 1 = some (.int .i64 r) ∧ elook env 6 = some (.int .i64 k) ∧
  ∃ (l : List Nat) (v : Value) (g : List Ob), l.length = k ∧ elook env 5 = some v ∧ MadeW m.top g v l ∧ m' = { base := m.get, n := m.top, loc := g }

theorem u32_nat (x : Int) : ∃ c : Nat, IntKind.u32.wrap x = (c : Int) ∧ c < 2 ^ 32 := by
  refine ⟨(x % 4294967296).toNat, ?_, by omega⟩
  simp [IntKind.wrap, IntKind.bits, IntKind.signed]
  omega

set_option maxRecDepth 100000 in
set_option maxHeartbeats 8000000 in
theorem twords_tc (v0 : Value) (n0 : Nat) (r : Int) (m : Mem) (h0 : IntsAt m v0 n0) (hn0 : n0 < 2 ^ 63) : TC Try.prog 9 [v0, .int .i64 r] m (fun v _ => v = .bool true) := by
  refine TC_fn mixed Try.func9 rfl Try.ntmps9 rfl (by decide) (by simp) ?_
  refine wpc_st fun K hK => ?_
  simp -dsimp
  refine hK _ _ ?_
  clear hK K
  refine wpc_st fun K hK => ?_
  simp -dsimp
  refine hK _ _ ?_
  clear hK K
  refine wpc_mid (fun env m' => ∃ n, wordsI m v0 n0 r n env m') ?_ ?_
  · refine wpc_st fun K hK => ?_
    simp -dsimp
    refine hK _ _ ?_
    clear hK K
    simp -dsimp
    refine loop_by (wordsI m v0 n0 r) 12 ?_ ?_
    · refine ⟨0, by omega, by omega, rfl, ?_⟩
      simp -dsimp
      exact ⟨fun x hx => absurd hx (by simp), .inl ⟨rfl, rfl⟩⟩
    rintro n env m' ⟨k, hk, hk12, rfl, e0, e1, e6, l, v, g, hl, e5, hM, rfl⟩
    by_cases hkk : k < n0 ∧ k < 12
    · obtain ⟨hkn, hkt⟩ := hkk
      have hkn' : (k : Int) < n0 := by omega
      have hkt' : (k : Int) < 12 := by omega
      have hkw1 : IntKind.i64.wrap ((k : Int) + 1) = ((k + 1 : Nat) : Int) := wI64 (by omega) (by omega)
      rcases h0 with ⟨h00, _⟩ | ⟨k0, off, cap, ro, c, rfl, hcap, hm, hc⟩
      · omega
      have htop := lt_cells hm
      obtain ⟨z, hz⟩ := hc k hkn
      refine wpc_sq fun K hK => ?_
      simp -dsimp [e0, e6, hkn', hkt']
      refine hK _ _ ?_
      clear hK K
      refine wpc_mid (fun env' m' => elook env' 0 = elook env 0 ∧ elook env' 1 = elook env 1 ∧ elook env' 6 = elook env 6 ∧
        ∃ (l : List Nat) (v : Value) (g : List Ob), l.length = k + 1 ∧ elook env' 5 = some v ∧ MadeW m.top g v l ∧ m' = { base := m.get, n := m.top, loc := g }) ?_ ?_
      · rw [wpc_block]
        refine wpc_st fun K hK => ?_
        simp -dsimp [e0, e6, hkn', get_base, htop, hm, hz]
        refine place_tc _ _ (by decide) (by decide) _ _ ?_
        simp -dsimp
        refine hK _ _ ?_
        clear hK K
        obtain ⟨N, hN⟩ : ∃ N : Nat, z % 16777216 = (N : Int) := ⟨(z % 16777216).toNat, by omega⟩
        rw [hN]
        refine wpc_mid (fun env' m' => elook env' 0 = elook env 0 ∧ elook env' 1 = elook env 1 ∧ elook env' 5 = elook env 5 ∧ elook env' 6 = elook env 6 ∧ elook env' 7 = some (.int .i64 N) ∧ (∃ s t d : Int, elook env' 8 = some (.int .i64 s) ∧ elook env' 9 = some (.int .i64 t) ∧ elook env' 10 = some (.int .i64 d)) ∧
          m' = { base := m.get, n := m.top, loc := g }) ?_ ?_
        · simp -dsimp
        rintro env2 m2 ⟨q0, q1, q5, q6, q7, ⟨s, t, d, q8, q9, q10⟩, rfl⟩
        rw [e0] at q0; rw [e1] at q1; rw [e5] at q5; rw [e6] at q6
        obtain ⟨u, hu, hu32⟩ := u32_nat (iand .i64 (ishr .i64 (N : Int) 9) 1023)
        refine wpc_st fun K hK => ?_
        simp -dsimp [q7, hu]
        refine hK _ _ ?_
        clear hK K
        have l1 := wd_lt 47 0 t 0 0 u hu32
        have l2 := wd_lt 40 s t 0 0 u hu32
        have l3 := wd_lt 45 s t 0 0 u hu32
        have l4 := wd_lt 1 s t d 0 0 (by decide)
        have l5 := wd_lt 9 s t d 0 0 (by decide)
        have l6 := wd_lt 51 s t 0 0 u hu32
        have l7 := wd_lt 16 0 t d 2 0 (by decide)
        have l8 := wd_lt 1 s 5 d 0 0 (by decide)
        have c1 := wd_tc 47 0 t 0 0 u hu32
        have c2 := wd_tc 40 s t 0 0 u hu32
        have c3 := wd_tc 45 s t 0 0 u hu32
        have c4 := wd_tc 1 s t d 0 0 (by decide)
        have c5 := wd_tc 9 s t d 0 0 (by decide)
        have c6 := wd_tc 51 s t 0 0 u hu32
        have c7 := wd_tc 16 0 t d 2 0 (by decide)
        have c8 := wd_tc 1 s 5 d 0 0 (by decide)
        generalize wdQ 47 0 t 0 0 u = w1 at *
        generalize wdQ 40 s t 0 0 u = w2 at *
        generalize wdQ 45 s t 0 0 u = w3 at *
        generalize wdQ 1 s t d 0 0 = w4 at *
        generalize wdQ 9 s t d 0 0 = w5 at *
        generalize wdQ 51 s t 0 0 u = w6 at *
        generalize wdQ 16 0 t d 2 0 = w7 at *
        generalize wdQ 1 s 5 d 0 0 = w8 at *
        simp -dsimp [q5, q7, q8, q9, q10]
        refine c1 _ _ ?_
        simp -dsimp [q5, q7, q8, q9, q10]
        refine c2 _ _ ?_
        simp -dsimp [q5, q7, q8, q9, q10]
        refine c3 _ _ ?_
        simp -dsimp [q5, q7, q8, q9, q10]
        refine c4 _ _ ?_
        simp -dsimp [q5, q7, q8, q9, q10]
        refine c5 _ _ ?_
        simp -dsimp [q5, q7, q8, q9, q10]
        refine c6 _ _ ?_
        simp -dsimp [q5, q7, q8, q9, q10]
        refine c7 _ _ ?_
        simp -dsimp [q5, q7, q8, q9, q10]
        refine c8 _ _ ?_
        obtain ⟨x, j, hj8, hx32, htm, hxj⟩ : ∃ (x j : Nat), j < 8 ∧ x < 2 ^ 32 ∧ (N : Int).tmod 8 = (j : Int) ∧ ([Value.int .u32 w1, .int .u32 w2, .int .u32 w3, .int .u32 w4, .int .u32 w5, .int .u32 w6, .int .u32 w7, .int .u32 w8] : List Value)[j]? = some (.int .u32 (x : Nat)) := by
          have hj : N % 8 = 0 ∨ N % 8 = 1 ∨ N % 8 = 2 ∨ N % 8 = 3 ∨ N % 8 = 4 ∨ N % 8 = 5 ∨ N % 8 = 6 ∨ N % 8 = 7 := by omega
          have ht : (N : Int).tmod 8 = ((N % 8 : Nat) : Int) := by rw [Int.tmod_eq_emod_of_nonneg (by omega)]; omega
          rcases hj with hj | hj | hj | hj | hj | hj | hj | hj <;> rw [hj] at ht
          · exact ⟨w1, 0, by decide, l1, ht, rfl⟩
          · exact ⟨w2, 1, by decide, l2, ht, rfl⟩
          · exact ⟨w3, 2, by decide, l3, ht, rfl⟩
          · exact ⟨w4, 3, by decide, l4, ht, rfl⟩
          · exact ⟨w5, 4, by decide, l5, ht, rfl⟩
          · exact ⟨w6, 5, by decide, l6, ht, rfl⟩
          · exact ⟨w7, 6, by decide, l7, ht, rfl⟩
          · exact ⟨w8, 7, by decide, l8, ht, rfl⟩
        have hj8' : (j : Int) < 8 := by omega
        have hj8'' : j + 1 ≤ 8 := by omega
        obtain ⟨hM1, hM2⟩ := hM
        rcases hM2 with ⟨rfl, rfl⟩ | ⟨hne, p, rfl, hg⟩
        · simp -dsimp [q0, q1, q5, q6, q7, htm, hj8', hxj, z1, e0, e1, e6]
          refine ⟨[x], by simp at hl ⊢; omega, fun y hy => ?_, .inr ⟨by simp, g.length + 1, rfl, by simp⟩⟩
          simp at hy; subst hy; exact hx32
        · have hpg : p < g.length := (List.getElem?_eq_some_iff.1 hg).1
          have hpg1 : p < g.length + 1 := by omega
          have hg' : g[p]'hpg = .cells false 1 (l.map fun (x : Nat) => Value.int .u32 (x : Int)).toArray := by
            rw [List.getElem?_eq_getElem hpg] at hg; exact Option.some.inj hg
          have hb : ¬ 17592186044416 < (l.length + 1) * 4 := by omega
          have hnl : ¬ l.length + 1 ≤ l.length := by omega
          have htk : List.take l.length (l.map fun (x : Nat) => Value.int .u32 (x : Int)) = l.map fun (x : Nat) => Value.int .u32 (x : Int) := List.take_of_length_le (by simp)
          simp -dsimp [q0, q1, q5, q6, q7, htm, hj8', hxj, z1, e0, e1, e6, hg', hne, hb, hpg, hpg1, hnl, htk, List.getElem?_append, List.set_append]
          refine ⟨l ++ [x], by simp; omega, ?_⟩
          refine ⟨fun y hy => ?_, .inr ⟨by simp, g.length + 1, by simp, by simp⟩⟩
          rcases List.mem_append.1 hy with hy | hy
          · exact hM1 y hy
          · simp at hy; subst hy; exact hx32
      rintro env' m' ⟨q0, q1, q6, l2, v2, g2, hl2, q5, hM2, rfl⟩
      rw [e0] at q0; rw [e1] at q1; rw [e6] at q6
      simp -dsimp [q6, hkw1]
      refine ⟨12 - (k + 1), by omega, k + 1, by omega, by omega, rfl, ?_⟩
      simp -dsimp [q0, q1, q5]
      exact ⟨l2, hl2, hM2⟩
    · have hfin : wordsI m v0 n0 r (12 - k) env { base := m.get, n := m.top, loc := g } := ⟨k, hk, hk12, rfl, e0, e1, e6, l, v, g, hl, e5, hM, rfl⟩
      by_cases hkn : k < n0
      · have hkn' : (k : Int) < n0 := by omega
        have hkt' : ¬ (k : Int) < 12 := by omega
        rcases h0 with ⟨h00, _⟩ | ⟨k0, off, cap, ro, c, rfl, hcap, hm, hc⟩
        · omega
        simp -dsimp [e0, e6, hkn', hkt']
        refine ⟨0, k, hk, by omega, by omega, ?_⟩
        simp -dsimp [e0, e1, e6, e5]
        exact ⟨l, hl, hM⟩
      · have hkn' : ¬ (k : Int) < n0 := by omega
        rcases h0 with ⟨h00, rfl⟩ | ⟨k0, off, cap, ro, c, rfl, hcap, hm, hc⟩
        · subst h00
          have hkn' : ¬ (k : Int) < 0 := by omega
          simp -dsimp [e0, e6, hkn']
          refine ⟨12 - k, k, hk, by omega, by omega, ?_⟩
          simp -dsimp [e0, e1, e6, e5]
          exact ⟨l, hl, hM⟩
        · simp -dsimp [e0, e6, hkn']
          refine ⟨12 - k, k, hk, by omega, by omega, ?_⟩
          simp -dsimp [e0, e1, e6, e5]
          exact ⟨l, hl, hM⟩
  rintro env m' ⟨n, k, hk, hk12, rfl, e0, e1, e6, l, v, g, hl, e5, hM, rfl⟩
  have pl := fun m Q h => place_tc r 3 (by decide) (by decide) m Q h
  obtain ⟨q, hq, eq⟩ : ∃ q : Nat, q < 3 ∧ r % 3 = (q : Int) := ⟨(r % 3).toNat, by omega, by omega⟩
  rw [eq] at pl
  have hw8 : IntKind.i64.wrap (8 + (q : Int)) = ((8 + q : Nat) : Int) := by rw [wI64 (by omega) (by omega)]; omega
  generalize ((8 + q : Nat) : Int) = r1 at *
  have c1 := wd_tc 27 r1 0 0 0 0 (by decide)
  have l1 := wd_lt 27 r1 0 0 0 0 (by decide)
  generalize wdQ 27 r1 0 0 0 0 = w1 at *
  obtain ⟨hM1, hM2⟩ := hM
  refine wpc_mid (fun env' m' => ∃ (l : List Nat) (v : Value) (g : List Ob), elook env' 5 = some v ∧ MadeW m.top g v l ∧ m' = { base := m.get, n := m.top, loc := g }) ?_ ?_
  · rcases hM2 with ⟨rfl, rfl⟩ | ⟨hne, p, rfl, hg⟩
    · simp -dsimp [e5, e1]
      refine pl _ _ ?_
      simp -dsimp [e5, e1, hw8]
      refine c1 _ _ ?_
      simp -dsimp [e5, e1, z2]
      refine ⟨[w1, 0], fun y hy => ?_, .inr ⟨by simp, g.length + 1, rfl, by simp⟩⟩
      simp at hy; omega
    · have hpg : p < g.length := (List.getElem?_eq_some_iff.1 hg).1
      have hpg1 : p < g.length + 1 := by omega
      have hg' : g[p]'hpg = .cells false 1 (l.map fun (x : Nat) => Value.int .u32 (x : Int)).toArray := by
        rw [List.getElem?_eq_getElem hpg] at hg; exact Option.some.inj hg
      have hb : ¬ 17592186044416 < (l.length + 2) * 4 := by omega
      have hnl : ¬ l.length + 2 ≤ l.length := by omega
      have htk : List.take l.length (l.map fun (x : Nat) => Value.int .u32 (x : Int)) = l.map fun (x : Nat) => Value.int .u32 (x : Int) := List.take_of_length_le (by simp)
      simp -dsimp [e5, e1]
      refine pl _ _ ?_
      simp -dsimp [e5, e1, hw8]
      refine c1 _ _ ?_
      simp -dsimp [e5, e1, z2, hg', hne, hb, hpg, hpg1, hnl, htk, List.getElem?_append, List.set_append]
      refine ⟨l ++ [w1, 0], ?_⟩
      refine ⟨fun y hy => ?_, .inr ⟨by simp, g.length + 1, by simp, by simp⟩⟩
      rcases List.mem_append.1 hy with hy | hy
      · exact hM1 y hy
      · simp at hy; omega
  clear e0 e1 e5 e6 hM1 hM2 hl hk12 hk
  rintro env' m' ⟨l, v, g, e5, hM, rfl⟩
  have hW := hM.at (B := m.get)
  have f1 := find_tc l v _ hW
  have f2 := rtfind_tc l v _ hW
  generalize findQ l = F at f1 f2
  obtain ⟨a, b⟩ := F
  simp only at f1 f2
  refine wpc_st fun K hK => ?_
  simp -dsimp [e5]
  refine f1 _ ?_
  simp -dsimp [e5]
  refine hK _ _ ?_
  clear hK K
  refine wpc_st fun K hK => ?_
  simp -dsimp [e5]
  refine f2 _ ?_
  simp -dsimp [e5]
  refine hK _ _ ?_
  clear hK K
  refine wpc_st fun K hK => ?_
  simp -dsimp
  refine tawake_tc _ _ ?_
  simp -dsimp
  refine hK _ _ ?_
  clear hK K
  simp -dsimp
  exact fin_ret rfl (leave_pure (by simp) rfl)
end Go.Lm
/- calquelaw16: TableBroken, TableWords: their walks. -/
set_option linter.unusedSimpArgs false
set_option linter.unusedVariables false
namespace Go.Lm
open Go.Proofs

theorem broken_walk (W : World) (a0 a1 : Int) : Calls Try.prog 10 #[.int .i64 a0, .int .i64 a1] W fun e W' => e = .returned (.bool true) ∧ Go.RowKit.Below W.heap.size W W' := by
  refine law_calls Try.func10 rfl (by decide) (vs := [.int .i64 a0, .int .i64 a1]) (fun v hv => ?_) (broken_tc a0 a1 _)
  simp only [List.mem_cons, List.mem_nil_iff, or_false] at hv
  rcases hv with rfl | rfl <;> exact vRel_gnd rfl

theorem ints_at {x : Addr} {zs : List Int} {len : Nat} (h : len ≤ zs.length) : IntsAt (memL [(rowPl x zs.length, intsO .i64 zs)]) (.slice (some ⟨0, 0, none⟩) len zs.length) len := by
  refine .inr ⟨0, 0, zs.length, true, (zs.map (Value.int .i64)).toArray, rfl, h, ?_, fun j hj => ?_⟩
  · rw [memL_get]; rfl
  · refine ⟨zs[j]'(by omega), ?_⟩
    rw [Nat.zero_add, List.getElem?_toArray, List.getElem?_map, List.getElem?_eq_getElem (by omega)]; rfl

theorem twords_walk (W : World) (a : Option Addr) (len cap : Nat) (zs : List Int) (w : IntsArg .i64 W a len cap zs) (r : Int) :
    Calls Try.prog 9 #[.slice a len cap, .int .i64 r] W fun e W' => e = .returned (.bool true) ∧ Go.RowKit.Below W.heap.size W W' := by
  rcases w with ⟨rfl, rfl, rfl, rfl⟩ | ⟨x, rfl, hx, hb, hl, hm, hz, hc, -⟩
  · refine law_calls Try.func9 rfl (by decide) (vs := [.slice none 0 0, .int .i64 r]) (fun v hv => ?_) (twords_tc _ 0 r _ (.inl ⟨rfl, rfl⟩) (by decide))
    simp only [List.mem_cons, List.mem_nil_iff, or_false] at hv
    rcases hv with rfl | rfl <;> exact vRel_gnd rfl
  · subst hz
    obtain ⟨h1, h2⟩ := ints_arg hb hx hl rfl hc
    have hlen : len < 2 ^ 63 := by
      have : maxLen < 2 ^ 63 := by decide
      omega
    exact law_callsL Try.func9 rfl (by decide) _ h1 (argsRel_cons h2 (argsRel_cons (vRel_gnd rfl) (argsRel_nil _))) (twords_tc _ len r _ (ints_at hl) hlen)
end Go.Lm
