/- The contract of calquelaw08.InsTable. -/
import Derived.Test.YtfgcnehjdaiipaaME
import Derived.Test.YtfgcnehjdaiipaaMB
/- calquelaw08.InsTable. Written by gen_c19.py. -/
set_option linter.unusedSimpArgs false
set_option linter.unusedVariables false
namespace Go.Lm
open Go.Proofs

/-- the instruction of a row with all of its fields full -/
def fullQ (form op : Nat) : InsM :=
  match form with
  | 68 => ⟨op, 31, 30, 30, 0, 0⟩
  | 88 => ⟨op, 31, 30, 30, 0, 0⟩
  | 89 => ⟨op, 31, 30, 30, 0, 0⟩
  | 72 => ⟨op, 0, 30, 30, 29, 0⟩
  | 77 => ⟨op, 31, 30, 0, 0, 0⟩
  | 70 => ⟨op, 0, 0, 30, 0, 0⟩
  | 76 => ⟨op, 31, 0, 0, 0, 0⟩
  | 71 => ⟨op, 31, 0, 30, 0, 0⟩
  | 84 => ⟨op, 31, 30, 0, 0, 1023⟩
  | 67 => ⟨op, 0, 0, 0, 0, 1048575⟩
  | 73 => ⟨op, 31, 30, 0, 0, 4294934528⟩
  | 80 => ⟨op, 31, 30, 0, 0, 4294934528⟩
  | 85 => ⟨op, 31, 30, 0, 0, 65535⟩
  | 86 => ⟨op, 0, 30, 0, 0, 32769⟩
  | 66 => ⟨op, 31, 30, 0, 0, 4294836224⟩
  | 90 => ⟨op, 31, 0, 0, 0, 131068⟩
  | 82 => ⟨op, 31, 0, 0, 0, 131068⟩
  | 74 => ⟨op, 0, 0, 0, 0, 268435452⟩
  | _ => ⟨op, 0, 0, 0, 0, 268435452⟩

def tabM (m : Mem) (l : List Ob) (x : InsM) : Mem := { base := m.get, n := m.top, loc := .cells false 5 refA :: (l ++ [.cells false 0 #[.int .i64 x.op, .int .i64 x.s, .int .i64 x.t, .int .i64 x.d, .int .i64 x.a, .int .u32 x.imm]]) }
theorem refA_fm (k : Nat) (hk : k < 69) : refA[k * 5 + 1]? = some (.int .u8 ((rrowK k).2.1 : Nat)) := refA_get k 1 hk (by decide)

set_option maxRecDepth 100000 in
set_option maxHeartbeats 4000000 in
theorem tab_sw0 (k : Nat) (hk : k < 69) (hf : (rrowK k).2.1 = 68 ∨ (rrowK k).2.1 = 88 ∨ (rrowK k).2.1 = 89 ∨ (rrowK k).2.1 = 72 ∨ (rrowK k).2.1 = 77) (m : Mem) (l : List Ob) (env : Env) (e1 : elook env 1 = some (.slice (some ⟨m.top, 0, none⟩) 69 69)) (e2 : elook env 2 = some (.int .i64 k))
    (e3 : elook env 3 = some (.pointer (some ⟨m.top + (l.length + 1), 0, none⟩))) (R : Ex → Env → Mem → Prop)
    (hR : ∀ env', elook env' 1 = elook env 1 → elook env' 2 = elook env 2 → elook env' 3 = elook env 3 → R .normal env' (tabM m l (fullQ (rrowK k).2.1 (rrowK k).1))) :
    wpc Try.prog 137 (cpick (fbody Try.f8) [1, 1, 0, 1, 0, 0, 1, 0, 0, 1, 0]) env (tabM m l ⟨(rrowK k).1, 31, 30, 30, 29, 0⟩) R := by
  have hkk' : (k : Int) < 69 := by omega
  have hf1 := refA_fm k hk
  have hf0 := refA_op k hk
  refine wpc_part (b := _) rfl ?_
  generalize (rrowK k).2.1 = form at hf1 hf hR
  generalize (rrowK k).1 = op at hf0 hR
  rcases hf with rfl | rfl | rfl | rfl | rfl
  all_goals
    simp only [tabM, fullQ] at hR ⊢
    simp -dsimp [e1, e2, e3, hkk', hf1, hf0]
    exact hR _ (by simp -dsimp) (by simp -dsimp) (by simp -dsimp)

set_option maxRecDepth 100000 in
set_option maxHeartbeats 4000000 in
theorem tab_sw1 (k : Nat) (hk : k < 69) (hf : (rrowK k).2.1 = 70 ∨ (rrowK k).2.1 = 76 ∨ (rrowK k).2.1 = 71 ∨ (rrowK k).2.1 = 84) (m : Mem) (l : List Ob) (env : Env) (e1 : elook env 1 = some (.slice (some ⟨m.top, 0, none⟩) 69 69)) (e2 : elook env 2 = some (.int .i64 k))
    (e3 : elook env 3 = some (.pointer (some ⟨m.top + (l.length + 1), 0, none⟩))) (R : Ex → Env → Mem → Prop)
    (hR : ∀ env', elook env' 1 = elook env 1 → elook env' 2 = elook env 2 → elook env' 3 = elook env 3 → R .normal env' (tabM m l (fullQ (rrowK k).2.1 (rrowK k).1))) :
    wpc Try.prog 137 (cpick (fbody Try.f8) [1, 1, 0, 1, 0, 0, 1, 0, 0, 1, 0]) env (tabM m l ⟨(rrowK k).1, 31, 30, 30, 29, 0⟩) R := by
  have hkk' : (k : Int) < 69 := by omega
  have hf1 := refA_fm k hk
  have hf0 := refA_op k hk
  refine wpc_part (b := _) rfl ?_
  generalize (rrowK k).2.1 = form at hf1 hf hR
  generalize (rrowK k).1 = op at hf0 hR
  rcases hf with rfl | rfl | rfl | rfl
  all_goals
    simp only [tabM, fullQ] at hR ⊢
    simp -dsimp [e1, e2, e3, hkk', hf1, hf0]
    exact hR _ (by simp -dsimp) (by simp -dsimp) (by simp -dsimp)

set_option maxRecDepth 100000 in
set_option maxHeartbeats 4000000 in
theorem tab_sw2 (k : Nat) (hk : k < 69) (hf : (rrowK k).2.1 = 67 ∨ (rrowK k).2.1 = 73 ∨ (rrowK k).2.1 = 80 ∨ (rrowK k).2.1 = 85) (m : Mem) (l : List Ob) (env : Env) (e1 : elook env 1 = some (.slice (some ⟨m.top, 0, none⟩) 69 69)) (e2 : elook env 2 = some (.int .i64 k))
    (e3 : elook env 3 = some (.pointer (some ⟨m.top + (l.length + 1), 0, none⟩))) (R : Ex → Env → Mem → Prop)
    (hR : ∀ env', elook env' 1 = elook env 1 → elook env' 2 = elook env 2 → elook env' 3 = elook env 3 → R .normal env' (tabM m l (fullQ (rrowK k).2.1 (rrowK k).1))) :
    wpc Try.prog 137 (cpick (fbody Try.f8) [1, 1, 0, 1, 0, 0, 1, 0, 0, 1, 0]) env (tabM m l ⟨(rrowK k).1, 31, 30, 30, 29, 0⟩) R := by
  have hkk' : (k : Int) < 69 := by omega
  have hf1 := refA_fm k hk
  have hf0 := refA_op k hk
  refine wpc_part (b := _) rfl ?_
  generalize (rrowK k).2.1 = form at hf1 hf hR
  generalize (rrowK k).1 = op at hf0 hR
  rcases hf with rfl | rfl | rfl | rfl
  all_goals
    simp only [tabM, fullQ] at hR ⊢
    simp -dsimp [e1, e2, e3, hkk', hf1, hf0]
    exact hR _ (by simp -dsimp) (by simp -dsimp) (by simp -dsimp)

set_option maxRecDepth 100000 in
set_option maxHeartbeats 4000000 in
theorem tab_sw3 (k : Nat) (hk : k < 69) (hf : (rrowK k).2.1 = 86 ∨ (rrowK k).2.1 = 66 ∨ (rrowK k).2.1 = 90 ∨ (rrowK k).2.1 = 82 ∨ (rrowK k).2.1 = 74) (m : Mem) (l : List Ob) (env : Env) (e1 : elook env 1 = some (.slice (some ⟨m.top, 0, none⟩) 69 69)) (e2 : elook env 2 = some (.int .i64 k))
    (e3 : elook env 3 = some (.pointer (some ⟨m.top + (l.length + 1), 0, none⟩))) (R : Ex → Env → Mem → Prop)
    (hR : ∀ env', elook env' 1 = elook env 1 → elook env' 2 = elook env 2 → elook env' 3 = elook env 3 → R .normal env' (tabM m l (fullQ (rrowK k).2.1 (rrowK k).1))) :
    wpc Try.prog 137 (cpick (fbody Try.f8) [1, 1, 0, 1, 0, 0, 1, 0, 0, 1, 0]) env (tabM m l ⟨(rrowK k).1, 31, 30, 30, 29, 0⟩) R := by
  have hkk' : (k : Int) < 69 := by omega
  have hf1 := refA_fm k hk
  have hf0 := refA_op k hk
  refine wpc_part (b := _) rfl ?_
  generalize (rrowK k).2.1 = form at hf1 hf hR
  generalize (rrowK k).1 = op at hf0 hR
  rcases hf with rfl | rfl | rfl | rfl | rfl
  all_goals
    simp only [tabM, fullQ] at hR ⊢
    simp -dsimp [e1, e2, e3, hkk', hf1, hf0]
    exact hR _ (by simp -dsimp) (by simp -dsimp) (by simp -dsimp)

theorem tab_sw (k : Nat) (hk : k < 69) (m : Mem) (l : List Ob) (env : Env) (e1 : elook env 1 = some (.slice (some ⟨m.top, 0, none⟩) 69 69)) (e2 : elook env 2 = some (.int .i64 k))
    (e3 : elook env 3 = some (.pointer (some ⟨m.top + (l.length + 1), 0, none⟩))) (R : Ex → Env → Mem → Prop)
    (hR : ∀ env', elook env' 1 = elook env 1 → elook env' 2 = elook env 2 → elook env' 3 = elook env 3 → R .normal env' (tabM m l (fullQ (rrowK k).2.1 (rrowK k).1))) :
    wpc Try.prog 137 (cpick (fbody Try.f8) [1, 1, 0, 1, 0, 0, 1, 0, 0, 1, 0]) env (tabM m l ⟨(rrowK k).1, 31, 30, 30, 29, 0⟩) R := by
  have h := okForm_cases (rrowK_form k)
  have h' : ((rrowK k).2.1 = 68 ∨ (rrowK k).2.1 = 88 ∨ (rrowK k).2.1 = 89 ∨ (rrowK k).2.1 = 72 ∨ (rrowK k).2.1 = 77) ∨ ((rrowK k).2.1 = 70 ∨ (rrowK k).2.1 = 76 ∨ (rrowK k).2.1 = 71 ∨ (rrowK k).2.1 = 84) ∨ ((rrowK k).2.1 = 67 ∨ (rrowK k).2.1 = 73 ∨ (rrowK k).2.1 = 80 ∨ (rrowK k).2.1 = 85) ∨ ((rrowK k).2.1 = 86 ∨ (rrowK k).2.1 = 66 ∨ (rrowK k).2.1 = 90 ∨ (rrowK k).2.1 = 82 ∨ (rrowK k).2.1 = 74) := by omega
  rcases h' with h | h | h | h
  · exact tab_sw0 k hk h m l env e1 e2 e3 R hR
  · exact tab_sw1 k hk h m l env e1 e2 e3 R hR
  · exact tab_sw2 k hk h m l env e1 e2 e3 R hR
  · exact tab_sw3 k hk h m l env e1 e2 e3 R hR
end Go.Lm
/- calquelaw08.InsTable. -/
set_option linter.unusedSimpArgs false
set_option linter.unusedVariables false
namespace Go.Lm
open Go.Proofs

set_option maxRecDepth 100000 in
theorem all_tc (m : Mem) (Q) (h : Q (.slice (some ⟨m.top, 0, none⟩) 69 69) (m.put m.top (.cells false 5 refA))) : TC Try.prog 29 [] m Q := by
  refine TC_fn mixed Try.func29 rfl Try.ntmps29 rfl (by decide) (by simp) ?_
  refine wpc_st fun K hK => ?_
  simp -dsimp
  refine hK _ _ ?_
  clear hK K
  refine wpc_st fun K hK => ?_
  simp -dsimp
  refine table_tc _ _ ?_
  simp -dsimp
  refine hK _ _ ?_
  clear hK K
  have he : refA.extract 0 345 = refA := by rw [← refA_size, Array.extract_size]
  simp -dsimp [he]
  refine fin_ret rfl (leave_row (i := 1) rfl (fun x hx => ?_) h)
  have hg : refA.all gnd0 = true := by kernel_rfl
  exact Array.all_eq_true_iff_forall_mem.1 hg x hx

theorem full_fin : (List.range 69).all (fun k => decide ((encQ (toZ (fullQ (rrowK k).2.1 (rrowK k).1))).2 = 0) && decide (nameQ ((rrowK k).1 : Int) = (rrowK k).2.2.2.2)) = true := by kernel_rfl
theorem full_row {k : Nat} (hk : k < 69) : nameQ ((rrowK k).1 : Int) = (rrowK k).2.2.2.2 ∧ ∃ w, w < 2 ^ 32 ∧ encQ (toZ (fullQ (rrowK k).2.1 (rrowK k).1)) = (w, 0) ∧ decQ w = fullQ (rrowK k).2.1 (rrowK k).1 := by
  have h := List.all_eq_true.1 full_fin k (List.mem_range.2 hk)
  simp only [Bool.and_eq_true, decide_eq_true_eq] at h
  obtain ⟨h1, h2⟩ := h
  refine ⟨h2, ?_⟩
  obtain ⟨_, w, h3, h4, h5⟩ := enc_ok (i := toZ (fullQ (rrowK k).2.1 (rrowK k).1)) (fun e => by rw [e] at h1; cases h1)
  refine ⟨w, h3, h4, ?_⟩
  generalize decQ w = D at h5
  generalize fullQ (rrowK k).2.1 (rrowK k).1 = E at h5
  obtain ⟨a1, a2, a3, a4, a5, a6⟩ := D
  obtain ⟨b1, b2, b3, b4, b5, b6⟩ := E
  simp only [toZ, InsZ.mk.injEq] at h5
  obtain ⟨c1, c2, c3, c4, c5, c6⟩ := h5
  have := Int.ofNat_inj.1 c1; have := Int.ofNat_inj.1 c2; have := Int.ofNat_inj.1 c3; have := Int.ofNat_inj.1 c4; have := Int.ofNat_inj.1 c5
  simp only [*]
theorem full_imm (k : Nat) : (fullQ (rrowK k).2.1 (rrowK k).1).imm < 2 ^ 32 := by
  unfold fullQ
  split <;> (dsimp only; decide)

def tabI (m : Mem) (n : Nat) (env : Env) (m' : Mem) : Prop :=
  ∃ k, k ≤ 69 ∧ n = 69 - k ∧ elook env 1 = some (.slice (some ⟨m.top, 0, none⟩) 69 69) ∧ elook env 2 = some (.int .i64 k) ∧ ∃ l, m' = { base := m.get, n := m.top, loc := .cells false 5 refA :: l }

set_option maxRecDepth 100000 in
set_option maxHeartbeats 4000000 in
theorem insTable_tc (m : Mem) : TC Try.prog 8 [] m (fun v _ => v = .bool true) := by
  refine TC_fn mixed Try.func8 rfl Try.ntmps8 rfl (by decide) (by simp) ?_
  refine wpc_st fun K hK => ?_
  simp -dsimp -implicitDefEqProofs
  refine hK _ _ ?_
  clear hK K
  refine wpc_st fun K hK => ?_
  simp -dsimp -implicitDefEqProofs
  refine all_tc _ _ ?_
  simp -dsimp -implicitDefEqProofs
  refine hK _ _ ?_
  clear hK K
  refine wpc_mid (fun env m' => ∃ n, tabI m n env m' ∧ elook env 2 = some (.int .i64 69)) ?_ ?_
  · refine wpc_st fun K hK => ?_
    simp -dsimp -implicitDefEqProofs
    refine hK _ _ ?_
    clear hK K
    simp -dsimp -implicitDefEqProofs
    refine loop_by (tabI m) 69 ?_ ?_
    · refine ⟨0, by decide, rfl, ?_⟩
      simp -dsimp -implicitDefEqProofs
    rintro n env m' ⟨k, hk, rfl, e1, e2, l, rfl⟩
    by_cases hkk : k < 69
    · have hkk' : (k : Int) < 69 := by omega
      refine wpc_sq fun K hK => ?_
      simp -dsimp -implicitDefEqProofs [e1, e2, hkk']
      refine hK _ _ ?_
      clear hK K
      refine wpc_sq fun K hK => ?_
      obtain ⟨hnm, w, hw, he, hd⟩ := full_row hkk
      have himm := full_imm k
      have hf0 := refA_op k hkk
      have hf4 := refA_nm k hkk
      have c1 : ∀ m Q, Q (.tuple #[.int .u32 (w : Nat), .int .i64 ((0 : Nat) : Int)]) m → TC Try.prog 24 [insV (fullQ (rrowK k).2.1 (rrowK k).1)] m Q := fun m Q h => enc_tcG (toZ (fullQ (rrowK k).2.1 (rrowK k).1)) himm he m Q h
      have c2 := dec_tcG w hw hd
      have c3 := rdec_tcG w hw hd
      have c4 : ∀ m Q, Q (.string (rrowK k).2.2.2.2) m → TC Try.prog 22 [.int .i64 ((rrowK k).1 : Int)] m Q := fun m Q h => name_tc _ m Q (by rw [hnm]; exact h)
      have hsw := tab_sw k hkk
      clear he hd hnm
      generalize rrowK k = r at *
      generalize fullQ r.2.1 r.1 = X at *
      obtain ⟨op, form, o, f, nm⟩ := r
      obtain ⟨x1, x2, x3, x4, x5, x6⟩ := X
      simp only at hf0 hf4 himm c1 c2 c3 c4 hsw
      rw [wpc_block]
      refine wpc_st fun K2 hK2 => ?_
      simp -dsimp -implicitDefEqProofs [e1, e2, hkk', hf0]
      refine hK2 _ _ ?_
      clear hK2 K2
      refine env_cut fun env' he' => ?_
      have g1 := he' 1
      have g2 := he' 2
      have g3 := he' 3
      simp -dsimp -implicitDefEqProofs [e1, e2] at g1 g2 g3
      clear he'
      refine wpc_sq fun K2 hK2 => ?_
      refine hsw m l env' g1 g2 g3 _ fun env2 q1 q2 q3 => ?_
      rw [g1] at q1
      rw [g2] at q2
      rw [g3] at q3
      clear g1 g2 g3 env'
      refine hK2 _ _ ?_
      clear hK2 K2
      refine wpc_st fun K2 hK2 => ?_
      simp only [tabM, insV] at c1 ⊢
      simp -dsimp -implicitDefEqProofs [q1, q2, q3]
      refine c1 _ _ ?_
      simp -dsimp -implicitDefEqProofs [q1, q2, q3]
      refine hK2 _ _ ?_
      clear hK2 K2
      simp -dsimp -implicitDefEqProofs [q1, q2, q3, insV]
      refine draw_go 26 [0, 1, 3, 7, 15, 7, 63, 127, 255, 511, 511, 2047, 4095, 8191, 16383, 511, 511, 98815, 229887, 492031, 1048575, 2097151, 4194303, 8388607, 16777215, 8388607, 67108863, 134217727] (by kernel_rfl) (by kernel_rfl) ?_
      simp -dsimp -implicitDefEqProofs [q1, q2, q3]
      refine .inl ⟨_, fun m' _ => c2 _ _ ⟨rfl, rfl⟩, drw_go ?_⟩
      simp -dsimp -implicitDefEqProofs [q1, q2, q3, hkk', hf0, hf4, insV]
      refine .inl ⟨_, fun m' _ => c4 _ _ ⟨rfl, rfl⟩, drw_go ?_⟩
      simp -dsimp -implicitDefEqProofs [q1, q2, q3, hkk', hf0, hf4, insV]
      refine .inl ⟨_, fun m' _ => c3 _ _ ⟨rfl, rfl⟩, drw_go ?_⟩
      simp -dsimp -implicitDefEqProofs [q1, q2, q3, hkk', hf0, hf4, insV]
      refine hK _ _ ?_
      clear hK K
      simp -dsimp -implicitDefEqProofs [q1, q2, q3]
      refine ⟨69 - (k + 1), by omega, k + 1, by omega, rfl, ?_⟩
      simp -dsimp -implicitDefEqProofs [q1, q2, q3]
      exact wI64 (by omega) (by omega)
    · have hk9 : k = 69 := by omega
      have hkk' : ¬ (k : Int) < 69 := by omega
      simp -dsimp -implicitDefEqProofs [e1, e2, hkk']
      refine ⟨⟨0, k, hk, by omega, ?_⟩, ?_⟩
      · simp -dsimp -implicitDefEqProofs [e1, e2]
      · simp -dsimp -implicitDefEqProofs [e2, hk9]
  rintro env m' ⟨n, ⟨k, hk, rfl, e1, e2, l, rfl⟩, e2'⟩
  simp -dsimp -implicitDefEqProofs [e1]
  refine awake_tc _ _ ?_
  simp -dsimp -implicitDefEqProofs
  exact fin_ret rfl (leave_pure (by simp) rfl)
end Go.Lm
