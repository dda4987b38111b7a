/- Contracts of the document's Field, Sext, fits, cut, Decode, Name, word. -/
import Derived.Test.YtfgcnehjdaiipaaMC
/- calqueref01, calqueref08: contracts. -/
set_option linter.unusedSimpArgs false
set_option linter.unusedVariables false
namespace Go.Lm
open Go.Proofs

theorem rField_tc (w : Nat) (hw : w < 2 ^ 32) (at_ n : Nat) (ha : at_ ≤ 31) (hn : at_ + n ≤ 32) (m : Mem) (Q) (h : Q (.int .u32 ((fl w at_ n : Nat) : Int)) m) :
   TC Try.prog 131 [.int .u32 w, .int .i64 at_, .int .i64 n] m Q := by
  refine TC_fn mixed Try.func131 rfl Try.ntmps131 rfl (by decide) (by simp) ?_
  have h3 : ((if 0 < at_ then (at_ : Int) else 0)) = at_ := by split <;> omega
  have h5 : ((if 0 < n then (n : Int) else 0)) = n := by split <;> omega
  have h6 : IntKind.i64.wrap (32 - (at_ : Int)) = 32 - (at_ : Int) := wI64 (by omega) (by omega)
  have h1 : ¬ (31 : Int) < at_ := by omega
  have h4 : ¬ (32 - (at_ : Int) < n) := by omega
  have h7 : IntKind.u64.wrap (at_ : Int) = at_ := wU64 (by omega) (by omega)
  have h8 : IntKind.u64.wrap (n : Int) = n := wU64 (by omega) (by omega)
  have h9 : ¬ (at_ : Int) < 0 := by omega
  have h10 : ¬ (n : Int) < 0 := by omega
  simp -dsimp [h1, h4, h6, h7, h8, h9, h10]
  rw [fld_val w hw at_ n ha (by omega)]
  exact fin_ret rfl (leave_pure (by simp) h)

theorem rSext16_tc (w : Nat) (m : Mem) (Q) (h : Q (.int .u32 ((sxt 16 w : Nat) : Int)) m) :
   TC Try.prog 132 [.int .u32 w, .int .i64 16] m Q := by
  refine TC_fn mixed Try.func132 rfl Try.ntmps132 rfl (by decide) (by simp) ?_
  simp -dsimp
  rw [sxt16_val w]
  exact fin_ret rfl (leave_pure (by simp) h)

/-- the document's table: number, form, opcode, field, name -/
def refTab : List (Nat × Nat × Nat × Nat × ByteArray) := [(1, 68, 0, 33, ⟨#[97, 100, 100, 117]⟩),
  (2, 68, 0, 35, ⟨#[115, 117, 98, 117]⟩),
  (3, 68, 0, 36, ⟨#[97, 110, 100]⟩),
  (4, 68, 0, 37, ⟨#[111, 114]⟩),
  (5, 68, 0, 38, ⟨#[120, 111, 114]⟩),
  (6, 68, 0, 39, ⟨#[110, 111, 114]⟩),
  (7, 68, 0, 42, ⟨#[115, 108, 116]⟩),
  (8, 68, 0, 43, ⟨#[115, 108, 116, 117]⟩),
  (9, 68, 0, 32, ⟨#[97, 100, 100]⟩),
  (10, 68, 0, 34, ⟨#[115, 117, 98]⟩),
  (11, 68, 0, 4, ⟨#[115, 108, 108, 118]⟩),
  (12, 68, 0, 6, ⟨#[115, 114, 108, 118]⟩),
  (13, 68, 0, 7, ⟨#[115, 114, 97, 118]⟩),
  (14, 68, 0, 10, ⟨#[109, 111, 118, 122]⟩),
  (15, 68, 0, 11, ⟨#[109, 111, 118, 110]⟩),
  (16, 72, 0, 0, ⟨#[115, 108, 108]⟩),
  (17, 72, 0, 2, ⟨#[115, 114, 108]⟩),
  (18, 72, 0, 3, ⟨#[115, 114, 97]⟩),
  (19, 77, 0, 24, ⟨#[109, 117, 108, 116]⟩),
  (20, 77, 0, 25, ⟨#[109, 117, 108, 116, 117]⟩),
  (21, 77, 0, 26, ⟨#[100, 105, 118]⟩),
  (22, 77, 0, 27, ⟨#[100, 105, 118, 117]⟩),
  (23, 70, 0, 16, ⟨#[109, 102, 104, 105]⟩),
  (24, 70, 0, 18, ⟨#[109, 102, 108, 111]⟩),
  (25, 76, 0, 17, ⟨#[109, 116, 104, 105]⟩),
  (26, 76, 0, 19, ⟨#[109, 116, 108, 111]⟩),
  (27, 76, 0, 8, ⟨#[106, 114]⟩),
  (28, 71, 0, 9, ⟨#[106, 97, 108, 114]⟩),
  (29, 84, 0, 48, ⟨#[116, 103, 101]⟩),
  (30, 84, 0, 49, ⟨#[116, 103, 101, 117]⟩),
  (31, 84, 0, 50, ⟨#[116, 108, 116]⟩),
  (32, 84, 0, 51, ⟨#[116, 108, 116, 117]⟩),
  (33, 84, 0, 52, ⟨#[116, 101, 113]⟩),
  (34, 84, 0, 54, ⟨#[116, 110, 101]⟩),
  (35, 67, 0, 12, ⟨#[115, 121, 115, 99, 97, 108, 108]⟩),
  (36, 67, 0, 13, ⟨#[98, 114, 101, 97, 107]⟩),
  (37, 88, 28, 2, ⟨#[109, 117, 108]⟩),
  (38, 89, 28, 32, ⟨#[99, 108, 122]⟩),
  (39, 89, 28, 33, ⟨#[99, 108, 111]⟩),
  (40, 73, 9, 0, ⟨#[97, 100, 100, 105, 117]⟩),
  (41, 73, 8, 0, ⟨#[97, 100, 100, 105]⟩),
  (42, 73, 10, 0, ⟨#[115, 108, 116, 105]⟩),
  (43, 73, 11, 0, ⟨#[115, 108, 116, 105, 117]⟩),
  (44, 85, 12, 0, ⟨#[97, 110, 100, 105]⟩),
  (45, 85, 13, 0, ⟨#[111, 114, 105]⟩),
  (46, 85, 14, 0, ⟨#[120, 111, 114, 105]⟩),
  (47, 86, 15, 0, ⟨#[108, 117, 105]⟩),
  (48, 80, 32, 0, ⟨#[108, 98]⟩),
  (49, 80, 33, 0, ⟨#[108, 104]⟩),
  (50, 80, 34, 0, ⟨#[108, 119, 108]⟩),
  (51, 80, 35, 0, ⟨#[108, 119]⟩),
  (52, 80, 36, 0, ⟨#[108, 98, 117]⟩),
  (53, 80, 37, 0, ⟨#[108, 104, 117]⟩),
  (54, 80, 38, 0, ⟨#[108, 119, 114]⟩),
  (55, 80, 40, 0, ⟨#[115, 98]⟩),
  (56, 80, 41, 0, ⟨#[115, 104]⟩),
  (57, 80, 42, 0, ⟨#[115, 119, 108]⟩),
  (58, 80, 43, 0, ⟨#[115, 119]⟩),
  (59, 80, 46, 0, ⟨#[115, 119, 114]⟩),
  (60, 66, 4, 0, ⟨#[98, 101, 113]⟩),
  (61, 66, 5, 0, ⟨#[98, 110, 101]⟩),
  (62, 90, 6, 0, ⟨#[98, 108, 101, 122]⟩),
  (63, 90, 7, 0, ⟨#[98, 103, 116, 122]⟩),
  (64, 82, 1, 0, ⟨#[98, 108, 116, 122]⟩),
  (65, 82, 1, 1, ⟨#[98, 103, 101, 122]⟩),
  (66, 82, 1, 16, ⟨#[98, 108, 116, 122, 97, 108]⟩),
  (67, 82, 1, 17, ⟨#[98, 103, 101, 122, 97, 108]⟩),
  (68, 74, 2, 0, ⟨#[106]⟩),
  (69, 74, 3, 0, ⟨#[106, 97, 108]⟩)]

abbrev RRow := Nat × Nat × Nat × Nat × ByteArray
def rrowVal (r : RRow) : List Value := [.int .i64 r.1, .int .u8 r.2.1, .int .i64 r.2.2.1, .int .i64 r.2.2.2.1, .string r.2.2.2.2]
def refA : Array Value := (refTab.flatMap rrowVal).toArray
@[simp] theorem refA_size : refA.size = 345 := by kernel_rfl

set_option maxRecDepth 100000 in
theorem table_tc (m : Mem) (Q) (h : Q (.agg refA) m) : TC Try.prog 71 [] m Q := by
  refine TC_fn mixed Try.func71 rfl Try.ntmps71 rfl (by decide) (by simp) ?_
  refine wpc_st fun K hK => ?_
  simp -dsimp
  refine hK _ _ ?_
  clear hK K
  refine wpc_st fun K hK => ?_
  refine wpo_table_store 70 0 117 (.agg refA) (ptr0 m.top) { val := undef, mods := [(m.top, .cells false 0 refA)] } (by kernel_rfl) rfl (by kernel_rfl) (by simp [refA_size]) ?_
  intro env' h1 h2
  have h0 := h2 0 (by kernel_rfl)
  clear h2
  refine hK _ _ ?_
  simp -dsimp
  refine fin_ret (v := .agg refA) ?_ (leave_pure (okV_gnd (by kernel_rfl)) h)
  simp [h0]
end Go.Lm
/- calqueref08.fits, form by form. -/
set_option linter.unusedSimpArgs false
set_option linter.unusedVariables false
namespace Go.Lm
open Go.Proofs

/-- what is asked of a form's word, but for its opcode -/
def fitF (form F w : Nat) : Bool :=
  match form with
  | 68 => decide (fl w 0 6 = F) && decide (fl w 6 5 = 0)
  | 72 => decide (fl w 0 6 = F) && decide (fl w 21 5 = 0)
  | 77 => decide (fl w 0 6 = F) && decide (fl w 11 5 = 0) && decide (fl w 6 5 = 0)
  | 70 => decide (fl w 0 6 = F) && decide (fl w 21 5 = 0) && decide (fl w 16 5 = 0) && decide (fl w 6 5 = 0)
  | 76 => decide (fl w 0 6 = F) && decide (fl w 16 5 = 0) && decide (fl w 11 5 = 0) && decide (fl w 6 5 = 0)
  | 71 => decide (fl w 0 6 = F) && decide (fl w 16 5 = 0) && decide (fl w 6 5 = 0)
  | 84 => decide (fl w 0 6 = F)
  | 67 => decide (fl w 0 6 = F)
  | 88 => decide (fl w 0 6 = F) && decide (fl w 6 5 = 0)
  | 89 => decide (fl w 0 6 = F) && decide (fl w 6 5 = 0) && decide (fl w 16 5 = fl w 11 5)
  | 73 => true
  | 85 => true
  | 86 => decide (fl w 21 5 = 0)
  | 80 => true
  | 66 => true
  | 90 => decide (fl w 16 5 = 0)
  | 82 => decide (fl w 16 5 = F)
  | 74 => true
  | _ => true

def fitQ (r : RRow) (w : Nat) : Bool := decide (fl w 26 6 = r.2.2.1) && fitF r.2.1 r.2.2.2.1 w
def rrowV (r : RRow) : Value := .agg (rrowVal r).toArray

theorem beq_nat0 (n : Nat) : ((n : Int) == 0) = decide (n = 0) := by
  rw [Bool.eq_iff_iff]; simp
theorem beq_nat (a b : Nat) : ((a : Int) == (b : Int)) = decide (a = b) := by
  rw [Bool.eq_iff_iff]; simp; omega

theorem shr26 (w : Nat) (hw : w < 2 ^ 32) : ishr .u32 (w : Int) 26 = ((fl w 26 6 : Nat) : Int) := by
  have := ishr_nat .u32 (a := w) (n := 26) (by decide)
  rw [show ((26 : Nat) : Int) = (26 : Int) from rfl] at this
  rw [this]
  have : w / 2 ^ 26 = fl w 26 6 := by unfold fl; omega
  rw [this]
theorem fl_i64 (w at_ n : Nat) (h : n ≤ 32 := by decide) : IntKind.i64.wrap ((fl w at_ n : Nat) : Int) = fl w at_ n := by
  have := fl_lt w at_ n h
  exact wI64 (by omega) (by omega)

set_option maxRecDepth 100000 in
set_option maxHeartbeats 4000000 in
theorem fits_68 (w : Nat) (hw : w < 2 ^ 32) (op O F : Nat) (nm : ByteArray) (m : Mem) (Q) (h : Q (.bool (fitQ (op, 68, O, F, nm) w)) m) : TC Try.prog 73 [rrowV (op, 68, O, F, nm), .int .u32 w] m Q := by
  have hg : fitQ (op, 68, O, F, nm) w = (decide (fl w 26 6 = O) && (decide (fl w 0 6 = F) && decide (fl w 6 5 = 0))) := by simp [fitQ, fitF]
  rw [hg] at h
  clear hg
  refine TC_fn mixed Try.func73 rfl Try.ntmps73 rfl (by decide) (by simp) ?_
  refine wpc_st fun K hK => ?_
  simp -dsimp [rrowV, rrowVal]
  refine hK _ _ ?_
  clear hK K
  refine wpc_st fun K hK => ?_
  simp -dsimp
  refine rField_tc w hw 21 5 (by decide) (by decide) _ _ ?_
  simp -dsimp
  refine rField_tc w hw 16 5 (by decide) (by decide) _ _ ?_
  simp -dsimp
  refine rField_tc w hw 11 5 (by decide) (by decide) _ _ ?_
  simp -dsimp
  refine rField_tc w hw 6 5 (by decide) (by decide) _ _ ?_
  simp -dsimp
  refine rField_tc w hw 0 6 (by decide) (by decide) _ _ ?_
  simp -dsimp [fl_i64]
  refine hK _ _ ?_
  clear hK K

  refine env_cut fun env he => ?_
  have e1 := he 1
  have e2 := he 2
  have e4 := he 4
  have e5 := he 5
  have e6 := he 6
  have e7 := he 7
  have e8 := he 8
  have e9 := he 9
  clear he
  simp -dsimp at e1 e2 e4 e5 e6 e7 e8 e9
  have hOi : ((fl w 26 6 : Nat) : Int) = (O : Int) ↔ fl w 26 6 = O := by omega
  have hFi : ((fl w 0 6 : Nat) : Int) = (F : Int) ↔ fl w 0 6 = F := by omega
  have hTi : ((fl w 16 5 : Nat) : Int) = (F : Int) ↔ fl w 16 5 = F := by omega
  have hDi : ((fl w 16 5 : Nat) : Int) = ((fl w 11 5 : Nat) : Int) ↔ fl w 16 5 = fl w 11 5 := by omega
  by_cases hO : fl w 26 6 = O
  · rw [decide_eq_true hO, Bool.true_and] at h
    subst hO
    refine wpc_sq fun K hK => ?_
    simp -dsimp [shr26 w hw, fl_i64, e1, e2, e4, e5, e6, e7, e8, e9]
    refine hK _ _ ?_
    clear hK K
    by_cases hfF : fl w 0 6 = F <;> by_cases ha0 : fl w 6 5 = 0
    all_goals
      simp only [hfF, ha0, decide_true, decide_false, Bool.true_and, Bool.and_true, Bool.false_and, Bool.and_false] at h
      simp -dsimp [beq_nat0, beq_nat, hFi, hTi, hDi, fl_i64, hfF, ha0, e1, e2, e4, e5, e6, e7, e8, e9]
      first | exact fin_ret rfl (leave_pure (by simp) h) | trace_state
  · rw [decide_eq_false hO, Bool.false_and] at h
    simp -dsimp [shr26 w hw, fl_i64, hOi, hO, e1, e2, e4, e5, e6, e7, e8, e9]
    exact fin_ret rfl (leave_pure (by simp) h)

set_option maxRecDepth 100000 in
set_option maxHeartbeats 4000000 in
theorem fits_72 (w : Nat) (hw : w < 2 ^ 32) (op O F : Nat) (nm : ByteArray) (m : Mem) (Q) (h : Q (.bool (fitQ (op, 72, O, F, nm) w)) m) : TC Try.prog 73 [rrowV (op, 72, O, F, nm), .int .u32 w] m Q := by
  have hg : fitQ (op, 72, O, F, nm) w = (decide (fl w 26 6 = O) && (decide (fl w 0 6 = F) && decide (fl w 21 5 = 0))) := by simp [fitQ, fitF]
  rw [hg] at h
  clear hg
  refine TC_fn mixed Try.func73 rfl Try.ntmps73 rfl (by decide) (by simp) ?_
  refine wpc_st fun K hK => ?_
  simp -dsimp [rrowV, rrowVal]
  refine hK _ _ ?_
  clear hK K
  refine wpc_st fun K hK => ?_
  simp -dsimp
  refine rField_tc w hw 21 5 (by decide) (by decide) _ _ ?_
  simp -dsimp
  refine rField_tc w hw 16 5 (by decide) (by decide) _ _ ?_
  simp -dsimp
  refine rField_tc w hw 11 5 (by decide) (by decide) _ _ ?_
  simp -dsimp
  refine rField_tc w hw 6 5 (by decide) (by decide) _ _ ?_
  simp -dsimp
  refine rField_tc w hw 0 6 (by decide) (by decide) _ _ ?_
  simp -dsimp [fl_i64]
  refine hK _ _ ?_
  clear hK K

  refine env_cut fun env he => ?_
  have e1 := he 1
  have e2 := he 2
  have e4 := he 4
  have e5 := he 5
  have e6 := he 6
  have e7 := he 7
  have e8 := he 8
  have e9 := he 9
  clear he
  simp -dsimp at e1 e2 e4 e5 e6 e7 e8 e9
  have hOi : ((fl w 26 6 : Nat) : Int) = (O : Int) ↔ fl w 26 6 = O := by omega
  have hFi : ((fl w 0 6 : Nat) : Int) = (F : Int) ↔ fl w 0 6 = F := by omega
  have hTi : ((fl w 16 5 : Nat) : Int) = (F : Int) ↔ fl w 16 5 = F := by omega
  have hDi : ((fl w 16 5 : Nat) : Int) = ((fl w 11 5 : Nat) : Int) ↔ fl w 16 5 = fl w 11 5 := by omega
  by_cases hO : fl w 26 6 = O
  · rw [decide_eq_true hO, Bool.true_and] at h
    subst hO
    refine wpc_sq fun K hK => ?_
    simp -dsimp [shr26 w hw, fl_i64, e1, e2, e4, e5, e6, e7, e8, e9]
    refine hK _ _ ?_
    clear hK K
    by_cases hfF : fl w 0 6 = F <;> by_cases hs0 : fl w 21 5 = 0
    all_goals
      simp only [hfF, hs0, decide_true, decide_false, Bool.true_and, Bool.and_true, Bool.false_and, Bool.and_false] at h
      simp -dsimp [beq_nat0, beq_nat, hFi, hTi, hDi, fl_i64, hfF, hs0, e1, e2, e4, e5, e6, e7, e8, e9]
      first | exact fin_ret rfl (leave_pure (by simp) h) | trace_state
  · rw [decide_eq_false hO, Bool.false_and] at h
    simp -dsimp [shr26 w hw, fl_i64, hOi, hO, e1, e2, e4, e5, e6, e7, e8, e9]
    exact fin_ret rfl (leave_pure (by simp) h)

set_option maxRecDepth 100000 in
set_option maxHeartbeats 4000000 in
theorem fits_77 (w : Nat) (hw : w < 2 ^ 32) (op O F : Nat) (nm : ByteArray) (m : Mem) (Q) (h : Q (.bool (fitQ (op, 77, O, F, nm) w)) m) : TC Try.prog 73 [rrowV (op, 77, O, F, nm), .int .u32 w] m Q := by
  have hg : fitQ (op, 77, O, F, nm) w = (decide (fl w 26 6 = O) && (decide (fl w 0 6 = F) && decide (fl w 11 5 = 0) && decide (fl w 6 5 = 0))) := by simp [fitQ, fitF]
  rw [hg] at h
  clear hg
  refine TC_fn mixed Try.func73 rfl Try.ntmps73 rfl (by decide) (by simp) ?_
  refine wpc_st fun K hK => ?_
  simp -dsimp [rrowV, rrowVal]
  refine hK _ _ ?_
  clear hK K
  refine wpc_st fun K hK => ?_
  simp -dsimp
  refine rField_tc w hw 21 5 (by decide) (by decide) _ _ ?_
  simp -dsimp
  refine rField_tc w hw 16 5 (by decide) (by decide) _ _ ?_
  simp -dsimp
  refine rField_tc w hw 11 5 (by decide) (by decide) _ _ ?_
  simp -dsimp
  refine rField_tc w hw 6 5 (by decide) (by decide) _ _ ?_
  simp -dsimp
  refine rField_tc w hw 0 6 (by decide) (by decide) _ _ ?_
  simp -dsimp [fl_i64]
  refine hK _ _ ?_
  clear hK K

  refine env_cut fun env he => ?_
  have e1 := he 1
  have e2 := he 2
  have e4 := he 4
  have e5 := he 5
  have e6 := he 6
  have e7 := he 7
  have e8 := he 8
  have e9 := he 9
  clear he
  simp -dsimp at e1 e2 e4 e5 e6 e7 e8 e9
  have hOi : ((fl w 26 6 : Nat) : Int) = (O : Int) ↔ fl w 26 6 = O := by omega
  have hFi : ((fl w 0 6 : Nat) : Int) = (F : Int) ↔ fl w 0 6 = F := by omega
  have hTi : ((fl w 16 5 : Nat) : Int) = (F : Int) ↔ fl w 16 5 = F := by omega
  have hDi : ((fl w 16 5 : Nat) : Int) = ((fl w 11 5 : Nat) : Int) ↔ fl w 16 5 = fl w 11 5 := by omega
  by_cases hO : fl w 26 6 = O
  · rw [decide_eq_true hO, Bool.true_and] at h
    subst hO
    refine wpc_sq fun K hK => ?_
    simp -dsimp [shr26 w hw, fl_i64, e1, e2, e4, e5, e6, e7, e8, e9]
    refine hK _ _ ?_
    clear hK K
    by_cases hfF : fl w 0 6 = F <;> by_cases hd0 : fl w 11 5 = 0 <;> by_cases ha0 : fl w 6 5 = 0
    all_goals
      simp only [hfF, hd0, ha0, decide_true, decide_false, Bool.true_and, Bool.and_true, Bool.false_and, Bool.and_false] at h
      simp -dsimp [beq_nat0, beq_nat, hFi, hTi, hDi, fl_i64, hfF, hd0, ha0, e1, e2, e4, e5, e6, e7, e8, e9]
      first | exact fin_ret rfl (leave_pure (by simp) h) | trace_state
  · rw [decide_eq_false hO, Bool.false_and] at h
    simp -dsimp [shr26 w hw, fl_i64, hOi, hO, e1, e2, e4, e5, e6, e7, e8, e9]
    exact fin_ret rfl (leave_pure (by simp) h)

set_option maxRecDepth 100000 in
set_option maxHeartbeats 4000000 in
theorem fits_70 (w : Nat) (hw : w < 2 ^ 32) (op O F : Nat) (nm : ByteArray) (m : Mem) (Q) (h : Q (.bool (fitQ (op, 70, O, F, nm) w)) m) : TC Try.prog 73 [rrowV (op, 70, O, F, nm), .int .u32 w] m Q := by
  have hg : fitQ (op, 70, O, F, nm) w = (decide (fl w 26 6 = O) && (decide (fl w 0 6 = F) && decide (fl w 21 5 = 0) && decide (fl w 16 5 = 0) && decide (fl w 6 5 = 0))) := by simp [fitQ, fitF]
  rw [hg] at h
  clear hg
  refine TC_fn mixed Try.func73 rfl Try.ntmps73 rfl (by decide) (by simp) ?_
  refine wpc_st fun K hK => ?_
  simp -dsimp [rrowV, rrowVal]
  refine hK _ _ ?_
  clear hK K
  refine wpc_st fun K hK => ?_
  simp -dsimp
  refine rField_tc w hw 21 5 (by decide) (by decide) _ _ ?_
  simp -dsimp
  refine rField_tc w hw 16 5 (by decide) (by decide) _ _ ?_
  simp -dsimp
  refine rField_tc w hw 11 5 (by decide) (by decide) _ _ ?_
  simp -dsimp
  refine rField_tc w hw 6 5 (by decide) (by decide) _ _ ?_
  simp -dsimp
  refine rField_tc w hw 0 6 (by decide) (by decide) _ _ ?_
  simp -dsimp [fl_i64]
  refine hK _ _ ?_
  clear hK K

  refine env_cut fun env he => ?_
  have e1 := he 1
  have e2 := he 2
  have e4 := he 4
  have e5 := he 5
  have e6 := he 6
  have e7 := he 7
  have e8 := he 8
  have e9 := he 9
  clear he
  simp -dsimp at e1 e2 e4 e5 e6 e7 e8 e9
  have hOi : ((fl w 26 6 : Nat) : Int) = (O : Int) ↔ fl w 26 6 = O := by omega
  have hFi : ((fl w 0 6 : Nat) : Int) = (F : Int) ↔ fl w 0 6 = F := by omega
  have hTi : ((fl w 16 5 : Nat) : Int) = (F : Int) ↔ fl w 16 5 = F := by omega
  have hDi : ((fl w 16 5 : Nat) : Int) = ((fl w 11 5 : Nat) : Int) ↔ fl w 16 5 = fl w 11 5 := by omega
  by_cases hO : fl w 26 6 = O
  · rw [decide_eq_true hO, Bool.true_and] at h
    subst hO
    refine wpc_sq fun K hK => ?_
    simp -dsimp [shr26 w hw, fl_i64, e1, e2, e4, e5, e6, e7, e8, e9]
    refine hK _ _ ?_
    clear hK K
    by_cases hfF : fl w 0 6 = F <;> by_cases hs0 : fl w 21 5 = 0 <;> by_cases ht0 : fl w 16 5 = 0 <;> by_cases ha0 : fl w 6 5 = 0
    all_goals
      simp only [hfF, hs0, ht0, ha0, decide_true, decide_false, Bool.true_and, Bool.and_true, Bool.false_and, Bool.and_false] at h
      simp -dsimp [beq_nat0, beq_nat, hFi, hTi, hDi, fl_i64, hfF, hs0, ht0, ha0, e1, e2, e4, e5, e6, e7, e8, e9]
      first | exact fin_ret rfl (leave_pure (by simp) h) | trace_state
  · rw [decide_eq_false hO, Bool.false_and] at h
    simp -dsimp [shr26 w hw, fl_i64, hOi, hO, e1, e2, e4, e5, e6, e7, e8, e9]
    exact fin_ret rfl (leave_pure (by simp) h)

set_option maxRecDepth 100000 in
set_option maxHeartbeats 4000000 in
theorem fits_76 (w : Nat) (hw : w < 2 ^ 32) (op O F : Nat) (nm : ByteArray) (m : Mem) (Q) (h : Q (.bool (fitQ (op, 76, O, F, nm) w)) m) : TC Try.prog 73 [rrowV (op, 76, O, F, nm), .int .u32 w] m Q := by
  have hg : fitQ (op, 76, O, F, nm) w = (decide (fl w 26 6 = O) && (decide (fl w 0 6 = F) && decide (fl w 16 5 = 0) && decide (fl w 11 5 = 0) && decide (fl w 6 5 = 0))) := by simp [fitQ, fitF]
  rw [hg] at h
  clear hg
  refine TC_fn mixed Try.func73 rfl Try.ntmps73 rfl (by decide) (by simp) ?_
  refine wpc_st fun K hK => ?_
  simp -dsimp [rrowV, rrowVal]
  refine hK _ _ ?_
  clear hK K
  refine wpc_st fun K hK => ?_
  simp -dsimp
  refine rField_tc w hw 21 5 (by decide) (by decide) _ _ ?_
  simp -dsimp
  refine rField_tc w hw 16 5 (by decide) (by decide) _ _ ?_
  simp -dsimp
  refine rField_tc w hw 11 5 (by decide) (by decide) _ _ ?_
  simp -dsimp
  refine rField_tc w hw 6 5 (by decide) (by decide) _ _ ?_
  simp -dsimp
  refine rField_tc w hw 0 6 (by decide) (by decide) _ _ ?_
  simp -dsimp [fl_i64]
  refine hK _ _ ?_
  clear hK K

  refine env_cut fun env he => ?_
  have e1 := he 1
  have e2 := he 2
  have e4 := he 4
  have e5 := he 5
  have e6 := he 6
  have e7 := he 7
  have e8 := he 8
  have e9 := he 9
  clear he
  simp -dsimp at e1 e2 e4 e5 e6 e7 e8 e9
  have hOi : ((fl w 26 6 : Nat) : Int) = (O : Int) ↔ fl w 26 6 = O := by omega
  have hFi : ((fl w 0 6 : Nat) : Int) = (F : Int) ↔ fl w 0 6 = F := by omega
  have hTi : ((fl w 16 5 : Nat) : Int) = (F : Int) ↔ fl w 16 5 = F := by omega
  have hDi : ((fl w 16 5 : Nat) : Int) = ((fl w 11 5 : Nat) : Int) ↔ fl w 16 5 = fl w 11 5 := by omega
  by_cases hO : fl w 26 6 = O
  · rw [decide_eq_true hO, Bool.true_and] at h
    subst hO
    refine wpc_sq fun K hK => ?_
    simp -dsimp [shr26 w hw, fl_i64, e1, e2, e4, e5, e6, e7, e8, e9]
    refine hK _ _ ?_
    clear hK K
    by_cases hfF : fl w 0 6 = F <;> by_cases ht0 : fl w 16 5 = 0 <;> by_cases hd0 : fl w 11 5 = 0 <;> by_cases ha0 : fl w 6 5 = 0
    all_goals
      simp only [hfF, ht0, hd0, ha0, decide_true, decide_false, Bool.true_and, Bool.and_true, Bool.false_and, Bool.and_false] at h
      simp -dsimp [beq_nat0, beq_nat, hFi, hTi, hDi, fl_i64, hfF, ht0, hd0, ha0, e1, e2, e4, e5, e6, e7, e8, e9]
      first | exact fin_ret rfl (leave_pure (by simp) h) | trace_state
  · rw [decide_eq_false hO, Bool.false_and] at h
    simp -dsimp [shr26 w hw, fl_i64, hOi, hO, e1, e2, e4, e5, e6, e7, e8, e9]
    exact fin_ret rfl (leave_pure (by simp) h)

set_option maxRecDepth 100000 in
set_option maxHeartbeats 4000000 in
theorem fits_71 (w : Nat) (hw : w < 2 ^ 32) (op O F : Nat) (nm : ByteArray) (m : Mem) (Q) (h : Q (.bool (fitQ (op, 71, O, F, nm) w)) m) : TC Try.prog 73 [rrowV (op, 71, O, F, nm), .int .u32 w] m Q := by
  have hg : fitQ (op, 71, O, F, nm) w = (decide (fl w 26 6 = O) && (decide (fl w 0 6 = F) && decide (fl w 16 5 = 0) && decide (fl w 6 5 = 0))) := by simp [fitQ, fitF]
  rw [hg] at h
  clear hg
  refine TC_fn mixed Try.func73 rfl Try.ntmps73 rfl (by decide) (by simp) ?_
  refine wpc_st fun K hK => ?_
  simp -dsimp [rrowV, rrowVal]
  refine hK _ _ ?_
  clear hK K
  refine wpc_st fun K hK => ?_
  simp -dsimp
  refine rField_tc w hw 21 5 (by decide) (by decide) _ _ ?_
  simp -dsimp
  refine rField_tc w hw 16 5 (by decide) (by decide) _ _ ?_
  simp -dsimp
  refine rField_tc w hw 11 5 (by decide) (by decide) _ _ ?_
  simp -dsimp
  refine rField_tc w hw 6 5 (by decide) (by decide) _ _ ?_
  simp -dsimp
  refine rField_tc w hw 0 6 (by decide) (by decide) _ _ ?_
  simp -dsimp [fl_i64]
  refine hK _ _ ?_
  clear hK K

  refine env_cut fun env he => ?_
  have e1 := he 1
  have e2 := he 2
  have e4 := he 4
  have e5 := he 5
  have e6 := he 6
  have e7 := he 7
  have e8 := he 8
  have e9 := he 9
  clear he
  simp -dsimp at e1 e2 e4 e5 e6 e7 e8 e9
  have hOi : ((fl w 26 6 : Nat) : Int) = (O : Int) ↔ fl w 26 6 = O := by omega
  have hFi : ((fl w 0 6 : Nat) : Int) = (F : Int) ↔ fl w 0 6 = F := by omega
  have hTi : ((fl w 16 5 : Nat) : Int) = (F : Int) ↔ fl w 16 5 = F := by omega
  have hDi : ((fl w 16 5 : Nat) : Int) = ((fl w 11 5 : Nat) : Int) ↔ fl w 16 5 = fl w 11 5 := by omega
  by_cases hO : fl w 26 6 = O
  · rw [decide_eq_true hO, Bool.true_and] at h
    subst hO
    refine wpc_sq fun K hK => ?_
    simp -dsimp [shr26 w hw, fl_i64, e1, e2, e4, e5, e6, e7, e8, e9]
    refine hK _ _ ?_
    clear hK K
    by_cases hfF : fl w 0 6 = F <;> by_cases ht0 : fl w 16 5 = 0 <;> by_cases ha0 : fl w 6 5 = 0
    all_goals
      simp only [hfF, ht0, ha0, decide_true, decide_false, Bool.true_and, Bool.and_true, Bool.false_and, Bool.and_false] at h
      simp -dsimp [beq_nat0, beq_nat, hFi, hTi, hDi, fl_i64, hfF, ht0, ha0, e1, e2, e4, e5, e6, e7, e8, e9]
      first | exact fin_ret rfl (leave_pure (by simp) h) | trace_state
  · rw [decide_eq_false hO, Bool.false_and] at h
    simp -dsimp [shr26 w hw, fl_i64, hOi, hO, e1, e2, e4, e5, e6, e7, e8, e9]
    exact fin_ret rfl (leave_pure (by simp) h)

set_option maxRecDepth 100000 in
set_option maxHeartbeats 4000000 in
theorem fits_84 (w : Nat) (hw : w < 2 ^ 32) (op O F : Nat) (nm : ByteArray) (m : Mem) (Q) (h : Q (.bool (fitQ (op, 84, O, F, nm) w)) m) : TC Try.prog 73 [rrowV (op, 84, O, F, nm), .int .u32 w] m Q := by
  have hg : fitQ (op, 84, O, F, nm) w = (decide (fl w 26 6 = O) && (decide (fl w 0 6 = F))) := by simp [fitQ, fitF]
  rw [hg] at h
  clear hg
  refine TC_fn mixed Try.func73 rfl Try.ntmps73 rfl (by decide) (by simp) ?_
  refine wpc_st fun K hK => ?_
  simp -dsimp [rrowV, rrowVal]
  refine hK _ _ ?_
  clear hK K
  refine wpc_st fun K hK => ?_
  simp -dsimp
  refine rField_tc w hw 21 5 (by decide) (by decide) _ _ ?_
  simp -dsimp
  refine rField_tc w hw 16 5 (by decide) (by decide) _ _ ?_
  simp -dsimp
  refine rField_tc w hw 11 5 (by decide) (by decide) _ _ ?_
  simp -dsimp
  refine rField_tc w hw 6 5 (by decide) (by decide) _ _ ?_
  simp -dsimp
  refine rField_tc w hw 0 6 (by decide) (by decide) _ _ ?_
  simp -dsimp [fl_i64]
  refine hK _ _ ?_
  clear hK K

  refine env_cut fun env he => ?_
  have e1 := he 1
  have e2 := he 2
  have e4 := he 4
  have e5 := he 5
  have e6 := he 6
  have e7 := he 7
  have e8 := he 8
  have e9 := he 9
  clear he
  simp -dsimp at e1 e2 e4 e5 e6 e7 e8 e9
  have hOi : ((fl w 26 6 : Nat) : Int) = (O : Int) ↔ fl w 26 6 = O := by omega
  have hFi : ((fl w 0 6 : Nat) : Int) = (F : Int) ↔ fl w 0 6 = F := by omega
  have hTi : ((fl w 16 5 : Nat) : Int) = (F : Int) ↔ fl w 16 5 = F := by omega
  have hDi : ((fl w 16 5 : Nat) : Int) = ((fl w 11 5 : Nat) : Int) ↔ fl w 16 5 = fl w 11 5 := by omega
  by_cases hO : fl w 26 6 = O
  · rw [decide_eq_true hO, Bool.true_and] at h
    subst hO
    refine wpc_sq fun K hK => ?_
    simp -dsimp [shr26 w hw, fl_i64, e1, e2, e4, e5, e6, e7, e8, e9]
    refine hK _ _ ?_
    clear hK K
    simp -dsimp [beq_nat0, beq_nat, fl_i64, e1, e2, e4, e5, e6, e7, e8, e9]
    exact fin_ret rfl (leave_pure (by simp) h)
  · rw [decide_eq_false hO, Bool.false_and] at h
    simp -dsimp [shr26 w hw, fl_i64, hOi, hO, e1, e2, e4, e5, e6, e7, e8, e9]
    exact fin_ret rfl (leave_pure (by simp) h)

set_option maxRecDepth 100000 in
set_option maxHeartbeats 4000000 in
theorem fits_67 (w : Nat) (hw : w < 2 ^ 32) (op O F : Nat) (nm : ByteArray) (m : Mem) (Q) (h : Q (.bool (fitQ (op, 67, O, F, nm) w)) m) : TC Try.prog 73 [rrowV (op, 67, O, F, nm), .int .u32 w] m Q := by
  have hg : fitQ (op, 67, O, F, nm) w = (decide (fl w 26 6 = O) && (decide (fl w 0 6 = F))) := by simp [fitQ, fitF]
  rw [hg] at h
  clear hg
  refine TC_fn mixed Try.func73 rfl Try.ntmps73 rfl (by decide) (by simp) ?_
  refine wpc_st fun K hK => ?_
  simp -dsimp [rrowV, rrowVal]
  refine hK _ _ ?_
  clear hK K
  refine wpc_st fun K hK => ?_
  simp -dsimp
  refine rField_tc w hw 21 5 (by decide) (by decide) _ _ ?_
  simp -dsimp
  refine rField_tc w hw 16 5 (by decide) (by decide) _ _ ?_
  simp -dsimp
  refine rField_tc w hw 11 5 (by decide) (by decide) _ _ ?_
  simp -dsimp
  refine rField_tc w hw 6 5 (by decide) (by decide) _ _ ?_
  simp -dsimp
  refine rField_tc w hw 0 6 (by decide) (by decide) _ _ ?_
  simp -dsimp [fl_i64]
  refine hK _ _ ?_
  clear hK K

  refine env_cut fun env he => ?_
  have e1 := he 1
  have e2 := he 2
  have e4 := he 4
  have e5 := he 5
  have e6 := he 6
  have e7 := he 7
  have e8 := he 8
  have e9 := he 9
  clear he
  simp -dsimp at e1 e2 e4 e5 e6 e7 e8 e9
  have hOi : ((fl w 26 6 : Nat) : Int) = (O : Int) ↔ fl w 26 6 = O := by omega
  have hFi : ((fl w 0 6 : Nat) : Int) = (F : Int) ↔ fl w 0 6 = F := by omega
  have hTi : ((fl w 16 5 : Nat) : Int) = (F : Int) ↔ fl w 16 5 = F := by omega
  have hDi : ((fl w 16 5 : Nat) : Int) = ((fl w 11 5 : Nat) : Int) ↔ fl w 16 5 = fl w 11 5 := by omega
  by_cases hO : fl w 26 6 = O
  · rw [decide_eq_true hO, Bool.true_and] at h
    subst hO
    refine wpc_sq fun K hK => ?_
    simp -dsimp [shr26 w hw, fl_i64, e1, e2, e4, e5, e6, e7, e8, e9]
    refine hK _ _ ?_
    clear hK K
    simp -dsimp [beq_nat0, beq_nat, fl_i64, e1, e2, e4, e5, e6, e7, e8, e9]
    exact fin_ret rfl (leave_pure (by simp) h)
  · rw [decide_eq_false hO, Bool.false_and] at h
    simp -dsimp [shr26 w hw, fl_i64, hOi, hO, e1, e2, e4, e5, e6, e7, e8, e9]
    exact fin_ret rfl (leave_pure (by simp) h)

set_option maxRecDepth 100000 in
set_option maxHeartbeats 4000000 in
theorem fits_88 (w : Nat) (hw : w < 2 ^ 32) (op O F : Nat) (nm : ByteArray) (m : Mem) (Q) (h : Q (.bool (fitQ (op, 88, O, F, nm) w)) m) : TC Try.prog 73 [rrowV (op, 88, O, F, nm), .int .u32 w] m Q := by
  have hg : fitQ (op, 88, O, F, nm) w = (decide (fl w 26 6 = O) && (decide (fl w 0 6 = F) && decide (fl w 6 5 = 0))) := by simp [fitQ, fitF]
  rw [hg] at h
  clear hg
  refine TC_fn mixed Try.func73 rfl Try.ntmps73 rfl (by decide) (by simp) ?_
  refine wpc_st fun K hK => ?_
  simp -dsimp [rrowV, rrowVal]
  refine hK _ _ ?_
  clear hK K
  refine wpc_st fun K hK => ?_
  simp -dsimp
  refine rField_tc w hw 21 5 (by decide) (by decide) _ _ ?_
  simp -dsimp
  refine rField_tc w hw 16 5 (by decide) (by decide) _ _ ?_
  simp -dsimp
  refine rField_tc w hw 11 5 (by decide) (by decide) _ _ ?_
  simp -dsimp
  refine rField_tc w hw 6 5 (by decide) (by decide) _ _ ?_
  simp -dsimp
  refine rField_tc w hw 0 6 (by decide) (by decide) _ _ ?_
  simp -dsimp [fl_i64]
  refine hK _ _ ?_
  clear hK K

  refine env_cut fun env he => ?_
  have e1 := he 1
  have e2 := he 2
  have e4 := he 4
  have e5 := he 5
  have e6 := he 6
  have e7 := he 7
  have e8 := he 8
  have e9 := he 9
  clear he
  simp -dsimp at e1 e2 e4 e5 e6 e7 e8 e9
  have hOi : ((fl w 26 6 : Nat) : Int) = (O : Int) ↔ fl w 26 6 = O := by omega
  have hFi : ((fl w 0 6 : Nat) : Int) = (F : Int) ↔ fl w 0 6 = F := by omega
  have hTi : ((fl w 16 5 : Nat) : Int) = (F : Int) ↔ fl w 16 5 = F := by omega
  have hDi : ((fl w 16 5 : Nat) : Int) = ((fl w 11 5 : Nat) : Int) ↔ fl w 16 5 = fl w 11 5 := by omega
  by_cases hO : fl w 26 6 = O
  · rw [decide_eq_true hO, Bool.true_and] at h
    subst hO
    refine wpc_sq fun K hK => ?_
    simp -dsimp [shr26 w hw, fl_i64, e1, e2, e4, e5, e6, e7, e8, e9]
    refine hK _ _ ?_
    clear hK K
    by_cases hfF : fl w 0 6 = F <;> by_cases ha0 : fl w 6 5 = 0
    all_goals
      simp only [hfF, ha0, decide_true, decide_false, Bool.true_and, Bool.and_true, Bool.false_and, Bool.and_false] at h
      simp -dsimp [beq_nat0, beq_nat, hFi, hTi, hDi, fl_i64, hfF, ha0, e1, e2, e4, e5, e6, e7, e8, e9]
      first | exact fin_ret rfl (leave_pure (by simp) h) | trace_state
  · rw [decide_eq_false hO, Bool.false_and] at h
    simp -dsimp [shr26 w hw, fl_i64, hOi, hO, e1, e2, e4, e5, e6, e7, e8, e9]
    exact fin_ret rfl (leave_pure (by simp) h)

set_option maxRecDepth 100000 in
set_option maxHeartbeats 4000000 in
theorem fits_89 (w : Nat) (hw : w < 2 ^ 32) (op O F : Nat) (nm : ByteArray) (m : Mem) (Q) (h : Q (.bool (fitQ (op, 89, O, F, nm) w)) m) : TC Try.prog 73 [rrowV (op, 89, O, F, nm), .int .u32 w] m Q := by
  have hg : fitQ (op, 89, O, F, nm) w = (decide (fl w 26 6 = O) && (decide (fl w 0 6 = F) && decide (fl w 6 5 = 0) && decide (fl w 16 5 = fl w 11 5))) := by simp [fitQ, fitF]
  rw [hg] at h
  clear hg
  refine TC_fn mixed Try.func73 rfl Try.ntmps73 rfl (by decide) (by simp) ?_
  refine wpc_st fun K hK => ?_
  simp -dsimp [rrowV, rrowVal]
  refine hK _ _ ?_
  clear hK K
  refine wpc_st fun K hK => ?_
  simp -dsimp
  refine rField_tc w hw 21 5 (by decide) (by decide) _ _ ?_
  simp -dsimp
  refine rField_tc w hw 16 5 (by decide) (by decide) _ _ ?_
  simp -dsimp
  refine rField_tc w hw 11 5 (by decide) (by decide) _ _ ?_
  simp -dsimp
  refine rField_tc w hw 6 5 (by decide) (by decide) _ _ ?_
  simp -dsimp
  refine rField_tc w hw 0 6 (by decide) (by decide) _ _ ?_
  simp -dsimp [fl_i64]
  refine hK _ _ ?_
  clear hK K

  refine env_cut fun env he => ?_
  have e1 := he 1
  have e2 := he 2
  have e4 := he 4
  have e5 := he 5
  have e6 := he 6
  have e7 := he 7
  have e8 := he 8
  have e9 := he 9
  clear he
  simp -dsimp at e1 e2 e4 e5 e6 e7 e8 e9
  have hOi : ((fl w 26 6 : Nat) : Int) = (O : Int) ↔ fl w 26 6 = O := by omega
  have hFi : ((fl w 0 6 : Nat) : Int) = (F : Int) ↔ fl w 0 6 = F := by omega
  have hTi : ((fl w 16 5 : Nat) : Int) = (F : Int) ↔ fl w 16 5 = F := by omega
  have hDi : ((fl w 16 5 : Nat) : Int) = ((fl w 11 5 : Nat) : Int) ↔ fl w 16 5 = fl w 11 5 := by omega
  by_cases hO : fl w 26 6 = O
  · rw [decide_eq_true hO, Bool.true_and] at h
    subst hO
    refine wpc_sq fun K hK => ?_
    simp -dsimp [shr26 w hw, fl_i64, e1, e2, e4, e5, e6, e7, e8, e9]
    refine hK _ _ ?_
    clear hK K
    by_cases hfF : fl w 0 6 = F <;> by_cases ha0 : fl w 6 5 = 0 <;> by_cases htd : fl w 16 5 = fl w 11 5
    all_goals
      simp only [hfF, ha0, htd, decide_true, decide_false, Bool.true_and, Bool.and_true, Bool.false_and, Bool.and_false] at h
      simp -dsimp [beq_nat0, beq_nat, hFi, hTi, hDi, fl_i64, hfF, ha0, htd, e1, e2, e4, e5, e6, e7, e8, e9]
      first | exact fin_ret rfl (leave_pure (by simp) h) | trace_state
  · rw [decide_eq_false hO, Bool.false_and] at h
    simp -dsimp [shr26 w hw, fl_i64, hOi, hO, e1, e2, e4, e5, e6, e7, e8, e9]
    exact fin_ret rfl (leave_pure (by simp) h)

set_option maxRecDepth 100000 in
set_option maxHeartbeats 4000000 in
theorem fits_73 (w : Nat) (hw : w < 2 ^ 32) (op O F : Nat) (nm : ByteArray) (m : Mem) (Q) (h : Q (.bool (fitQ (op, 73, O, F, nm) w)) m) : TC Try.prog 73 [rrowV (op, 73, O, F, nm), .int .u32 w] m Q := by
  have hg : fitQ (op, 73, O, F, nm) w = (decide (fl w 26 6 = O) && (true)) := by simp [fitQ, fitF]
  rw [hg] at h
  clear hg
  refine TC_fn mixed Try.func73 rfl Try.ntmps73 rfl (by decide) (by simp) ?_
  refine wpc_st fun K hK => ?_
  simp -dsimp [rrowV, rrowVal]
  refine hK _ _ ?_
  clear hK K
  refine wpc_st fun K hK => ?_
  simp -dsimp
  refine rField_tc w hw 21 5 (by decide) (by decide) _ _ ?_
  simp -dsimp
  refine rField_tc w hw 16 5 (by decide) (by decide) _ _ ?_
  simp -dsimp
  refine rField_tc w hw 11 5 (by decide) (by decide) _ _ ?_
  simp -dsimp
  refine rField_tc w hw 6 5 (by decide) (by decide) _ _ ?_
  simp -dsimp
  refine rField_tc w hw 0 6 (by decide) (by decide) _ _ ?_
  simp -dsimp [fl_i64]
  refine hK _ _ ?_
  clear hK K

  refine env_cut fun env he => ?_
  have e1 := he 1
  have e2 := he 2
  have e4 := he 4
  have e5 := he 5
  have e6 := he 6
  have e7 := he 7
  have e8 := he 8
  have e9 := he 9
  clear he
  simp -dsimp at e1 e2 e4 e5 e6 e7 e8 e9
  have hOi : ((fl w 26 6 : Nat) : Int) = (O : Int) ↔ fl w 26 6 = O := by omega
  have hFi : ((fl w 0 6 : Nat) : Int) = (F : Int) ↔ fl w 0 6 = F := by omega
  have hTi : ((fl w 16 5 : Nat) : Int) = (F : Int) ↔ fl w 16 5 = F := by omega
  have hDi : ((fl w 16 5 : Nat) : Int) = ((fl w 11 5 : Nat) : Int) ↔ fl w 16 5 = fl w 11 5 := by omega
  by_cases hO : fl w 26 6 = O
  · rw [decide_eq_true hO, Bool.true_and] at h
    subst hO
    refine wpc_sq fun K hK => ?_
    simp -dsimp [shr26 w hw, fl_i64, e1, e2, e4, e5, e6, e7, e8, e9]
    refine hK _ _ ?_
    clear hK K
    simp -dsimp [e1, e2, e4, e5, e6, e7, e8, e9]
    exact fin_ret rfl (leave_pure (by simp) h)
  · rw [decide_eq_false hO, Bool.false_and] at h
    simp -dsimp [shr26 w hw, fl_i64, hOi, hO, e1, e2, e4, e5, e6, e7, e8, e9]
    exact fin_ret rfl (leave_pure (by simp) h)

set_option maxRecDepth 100000 in
set_option maxHeartbeats 4000000 in
theorem fits_85 (w : Nat) (hw : w < 2 ^ 32) (op O F : Nat) (nm : ByteArray) (m : Mem) (Q) (h : Q (.bool (fitQ (op, 85, O, F, nm) w)) m) : TC Try.prog 73 [rrowV (op, 85, O, F, nm), .int .u32 w] m Q := by
  have hg : fitQ (op, 85, O, F, nm) w = (decide (fl w 26 6 = O) && (true)) := by simp [fitQ, fitF]
  rw [hg] at h
  clear hg
  refine TC_fn mixed Try.func73 rfl Try.ntmps73 rfl (by decide) (by simp) ?_
  refine wpc_st fun K hK => ?_
  simp -dsimp [rrowV, rrowVal]
  refine hK _ _ ?_
  clear hK K
  refine wpc_st fun K hK => ?_
  simp -dsimp
  refine rField_tc w hw 21 5 (by decide) (by decide) _ _ ?_
  simp -dsimp
  refine rField_tc w hw 16 5 (by decide) (by decide) _ _ ?_
  simp -dsimp
  refine rField_tc w hw 11 5 (by decide) (by decide) _ _ ?_
  simp -dsimp
  refine rField_tc w hw 6 5 (by decide) (by decide) _ _ ?_
  simp -dsimp
  refine rField_tc w hw 0 6 (by decide) (by decide) _ _ ?_
  simp -dsimp [fl_i64]
  refine hK _ _ ?_
  clear hK K

  refine env_cut fun env he => ?_
  have e1 := he 1
  have e2 := he 2
  have e4 := he 4
  have e5 := he 5
  have e6 := he 6
  have e7 := he 7
  have e8 := he 8
  have e9 := he 9
  clear he
  simp -dsimp at e1 e2 e4 e5 e6 e7 e8 e9
  have hOi : ((fl w 26 6 : Nat) : Int) = (O : Int) ↔ fl w 26 6 = O := by omega
  have hFi : ((fl w 0 6 : Nat) : Int) = (F : Int) ↔ fl w 0 6 = F := by omega
  have hTi : ((fl w 16 5 : Nat) : Int) = (F : Int) ↔ fl w 16 5 = F := by omega
  have hDi : ((fl w 16 5 : Nat) : Int) = ((fl w 11 5 : Nat) : Int) ↔ fl w 16 5 = fl w 11 5 := by omega
  by_cases hO : fl w 26 6 = O
  · rw [decide_eq_true hO, Bool.true_and] at h
    subst hO
    refine wpc_sq fun K hK => ?_
    simp -dsimp [shr26 w hw, fl_i64, e1, e2, e4, e5, e6, e7, e8, e9]
    refine hK _ _ ?_
    clear hK K
    simp -dsimp [e1, e2, e4, e5, e6, e7, e8, e9]
    exact fin_ret rfl (leave_pure (by simp) h)
  · rw [decide_eq_false hO, Bool.false_and] at h
    simp -dsimp [shr26 w hw, fl_i64, hOi, hO, e1, e2, e4, e5, e6, e7, e8, e9]
    exact fin_ret rfl (leave_pure (by simp) h)

set_option maxRecDepth 100000 in
set_option maxHeartbeats 4000000 in
theorem fits_86 (w : Nat) (hw : w < 2 ^ 32) (op O F : Nat) (nm : ByteArray) (m : Mem) (Q) (h : Q (.bool (fitQ (op, 86, O, F, nm) w)) m) : TC Try.prog 73 [rrowV (op, 86, O, F, nm), .int .u32 w] m Q := by
  have hg : fitQ (op, 86, O, F, nm) w = (decide (fl w 26 6 = O) && (decide (fl w 21 5 = 0))) := by simp [fitQ, fitF]
  rw [hg] at h
  clear hg
  refine TC_fn mixed Try.func73 rfl Try.ntmps73 rfl (by decide) (by simp) ?_
  refine wpc_st fun K hK => ?_
  simp -dsimp [rrowV, rrowVal]
  refine hK _ _ ?_
  clear hK K
  refine wpc_st fun K hK => ?_
  simp -dsimp
  refine rField_tc w hw 21 5 (by decide) (by decide) _ _ ?_
  simp -dsimp
  refine rField_tc w hw 16 5 (by decide) (by decide) _ _ ?_
  simp -dsimp
  refine rField_tc w hw 11 5 (by decide) (by decide) _ _ ?_
  simp -dsimp
  refine rField_tc w hw 6 5 (by decide) (by decide) _ _ ?_
  simp -dsimp
  refine rField_tc w hw 0 6 (by decide) (by decide) _ _ ?_
  simp -dsimp [fl_i64]
  refine hK _ _ ?_
  clear hK K

  refine env_cut fun env he => ?_
  have e1 := he 1
  have e2 := he 2
  have e4 := he 4
  have e5 := he 5
  have e6 := he 6
  have e7 := he 7
  have e8 := he 8
  have e9 := he 9
  clear he
  simp -dsimp at e1 e2 e4 e5 e6 e7 e8 e9
  have hOi : ((fl w 26 6 : Nat) : Int) = (O : Int) ↔ fl w 26 6 = O := by omega
  have hFi : ((fl w 0 6 : Nat) : Int) = (F : Int) ↔ fl w 0 6 = F := by omega
  have hTi : ((fl w 16 5 : Nat) : Int) = (F : Int) ↔ fl w 16 5 = F := by omega
  have hDi : ((fl w 16 5 : Nat) : Int) = ((fl w 11 5 : Nat) : Int) ↔ fl w 16 5 = fl w 11 5 := by omega
  by_cases hO : fl w 26 6 = O
  · rw [decide_eq_true hO, Bool.true_and] at h
    subst hO
    refine wpc_sq fun K hK => ?_
    simp -dsimp [shr26 w hw, fl_i64, e1, e2, e4, e5, e6, e7, e8, e9]
    refine hK _ _ ?_
    clear hK K
    simp -dsimp [beq_nat0, beq_nat, fl_i64, e1, e2, e4, e5, e6, e7, e8, e9]
    exact fin_ret rfl (leave_pure (by simp) h)
  · rw [decide_eq_false hO, Bool.false_and] at h
    simp -dsimp [shr26 w hw, fl_i64, hOi, hO, e1, e2, e4, e5, e6, e7, e8, e9]
    exact fin_ret rfl (leave_pure (by simp) h)

set_option maxRecDepth 100000 in
set_option maxHeartbeats 4000000 in
theorem fits_80 (w : Nat) (hw : w < 2 ^ 32) (op O F : Nat) (nm : ByteArray) (m : Mem) (Q) (h : Q (.bool (fitQ (op, 80, O, F, nm) w)) m) : TC Try.prog 73 [rrowV (op, 80, O, F, nm), .int .u32 w] m Q := by
  have hg : fitQ (op, 80, O, F, nm) w = (decide (fl w 26 6 = O) && (true)) := by simp [fitQ, fitF]
  rw [hg] at h
  clear hg
  refine TC_fn mixed Try.func73 rfl Try.ntmps73 rfl (by decide) (by simp) ?_
  refine wpc_st fun K hK => ?_
  simp -dsimp [rrowV, rrowVal]
  refine hK _ _ ?_
  clear hK K
  refine wpc_st fun K hK => ?_
  simp -dsimp
  refine rField_tc w hw 21 5 (by decide) (by decide) _ _ ?_
  simp -dsimp
  refine rField_tc w hw 16 5 (by decide) (by decide) _ _ ?_
  simp -dsimp
  refine rField_tc w hw 11 5 (by decide) (by decide) _ _ ?_
  simp -dsimp
  refine rField_tc w hw 6 5 (by decide) (by decide) _ _ ?_
  simp -dsimp
  refine rField_tc w hw 0 6 (by decide) (by decide) _ _ ?_
  simp -dsimp [fl_i64]
  refine hK _ _ ?_
  clear hK K

  refine env_cut fun env he => ?_
  have e1 := he 1
  have e2 := he 2
  have e4 := he 4
  have e5 := he 5
  have e6 := he 6
  have e7 := he 7
  have e8 := he 8
  have e9 := he 9
  clear he
  simp -dsimp at e1 e2 e4 e5 e6 e7 e8 e9
  have hOi : ((fl w 26 6 : Nat) : Int) = (O : Int) ↔ fl w 26 6 = O := by omega
  have hFi : ((fl w 0 6 : Nat) : Int) = (F : Int) ↔ fl w 0 6 = F := by omega
  have hTi : ((fl w 16 5 : Nat) : Int) = (F : Int) ↔ fl w 16 5 = F := by omega
  have hDi : ((fl w 16 5 : Nat) : Int) = ((fl w 11 5 : Nat) : Int) ↔ fl w 16 5 = fl w 11 5 := by omega
  by_cases hO : fl w 26 6 = O
  · rw [decide_eq_true hO, Bool.true_and] at h
    subst hO
    refine wpc_sq fun K hK => ?_
    simp -dsimp [shr26 w hw, fl_i64, e1, e2, e4, e5, e6, e7, e8, e9]
    refine hK _ _ ?_
    clear hK K
    simp -dsimp [e1, e2, e4, e5, e6, e7, e8, e9]
    exact fin_ret rfl (leave_pure (by simp) h)
  · rw [decide_eq_false hO, Bool.false_and] at h
    simp -dsimp [shr26 w hw, fl_i64, hOi, hO, e1, e2, e4, e5, e6, e7, e8, e9]
    exact fin_ret rfl (leave_pure (by simp) h)

set_option maxRecDepth 100000 in
set_option maxHeartbeats 4000000 in
theorem fits_66 (w : Nat) (hw : w < 2 ^ 32) (op O F : Nat) (nm : ByteArray) (m : Mem) (Q) (h : Q (.bool (fitQ (op, 66, O, F, nm) w)) m) : TC Try.prog 73 [rrowV (op, 66, O, F, nm), .int .u32 w] m Q := by
  have hg : fitQ (op, 66, O, F, nm) w = (decide (fl w 26 6 = O) && (true)) := by simp [fitQ, fitF]
  rw [hg] at h
  clear hg
  refine TC_fn mixed Try.func73 rfl Try.ntmps73 rfl (by decide) (by simp) ?_
  refine wpc_st fun K hK => ?_
  simp -dsimp [rrowV, rrowVal]
  refine hK _ _ ?_
  clear hK K
  refine wpc_st fun K hK => ?_
  simp -dsimp
  refine rField_tc w hw 21 5 (by decide) (by decide) _ _ ?_
  simp -dsimp
  refine rField_tc w hw 16 5 (by decide) (by decide) _ _ ?_
  simp -dsimp
  refine rField_tc w hw 11 5 (by decide) (by decide) _ _ ?_
  simp -dsimp
  refine rField_tc w hw 6 5 (by decide) (by decide) _ _ ?_
  simp -dsimp
  refine rField_tc w hw 0 6 (by decide) (by decide) _ _ ?_
  simp -dsimp [fl_i64]
  refine hK _ _ ?_
  clear hK K

  refine env_cut fun env he => ?_
  have e1 := he 1
  have e2 := he 2
  have e4 := he 4
  have e5 := he 5
  have e6 := he 6
  have e7 := he 7
  have e8 := he 8
  have e9 := he 9
  clear he
  simp -dsimp at e1 e2 e4 e5 e6 e7 e8 e9
  have hOi : ((fl w 26 6 : Nat) : Int) = (O : Int) ↔ fl w 26 6 = O := by omega
  have hFi : ((fl w 0 6 : Nat) : Int) = (F : Int) ↔ fl w 0 6 = F := by omega
  have hTi : ((fl w 16 5 : Nat) : Int) = (F : Int) ↔ fl w 16 5 = F := by omega
  have hDi : ((fl w 16 5 : Nat) : Int) = ((fl w 11 5 : Nat) : Int) ↔ fl w 16 5 = fl w 11 5 := by omega
  by_cases hO : fl w 26 6 = O
  · rw [decide_eq_true hO, Bool.true_and] at h
    subst hO
    refine wpc_sq fun K hK => ?_
    simp -dsimp [shr26 w hw, fl_i64, e1, e2, e4, e5, e6, e7, e8, e9]
    refine hK _ _ ?_
    clear hK K
    simp -dsimp [e1, e2, e4, e5, e6, e7, e8, e9]
    exact fin_ret rfl (leave_pure (by simp) h)
  · rw [decide_eq_false hO, Bool.false_and] at h
    simp -dsimp [shr26 w hw, fl_i64, hOi, hO, e1, e2, e4, e5, e6, e7, e8, e9]
    exact fin_ret rfl (leave_pure (by simp) h)

set_option maxRecDepth 100000 in
set_option maxHeartbeats 4000000 in
theorem fits_90 (w : Nat) (hw : w < 2 ^ 32) (op O F : Nat) (nm : ByteArray) (m : Mem) (Q) (h : Q (.bool (fitQ (op, 90, O, F, nm) w)) m) : TC Try.prog 73 [rrowV (op, 90, O, F, nm), .int .u32 w] m Q := by
  have hg : fitQ (op, 90, O, F, nm) w = (decide (fl w 26 6 = O) && (decide (fl w 16 5 = 0))) := by simp [fitQ, fitF]
  rw [hg] at h
  clear hg
  refine TC_fn mixed Try.func73 rfl Try.ntmps73 rfl (by decide) (by simp) ?_
  refine wpc_st fun K hK => ?_
  simp -dsimp [rrowV, rrowVal]
  refine hK _ _ ?_
  clear hK K
  refine wpc_st fun K hK => ?_
  simp -dsimp
  refine rField_tc w hw 21 5 (by decide) (by decide) _ _ ?_
  simp -dsimp
  refine rField_tc w hw 16 5 (by decide) (by decide) _ _ ?_
  simp -dsimp
  refine rField_tc w hw 11 5 (by decide) (by decide) _ _ ?_
  simp -dsimp
  refine rField_tc w hw 6 5 (by decide) (by decide) _ _ ?_
  simp -dsimp
  refine rField_tc w hw 0 6 (by decide) (by decide) _ _ ?_
  simp -dsimp [fl_i64]
  refine hK _ _ ?_
  clear hK K

  refine env_cut fun env he => ?_
  have e1 := he 1
  have e2 := he 2
  have e4 := he 4
  have e5 := he 5
  have e6 := he 6
  have e7 := he 7
  have e8 := he 8
  have e9 := he 9
  clear he
  simp -dsimp at e1 e2 e4 e5 e6 e7 e8 e9
  have hOi : ((fl w 26 6 : Nat) : Int) = (O : Int) ↔ fl w 26 6 = O := by omega
  have hFi : ((fl w 0 6 : Nat) : Int) = (F : Int) ↔ fl w 0 6 = F := by omega
  have hTi : ((fl w 16 5 : Nat) : Int) = (F : Int) ↔ fl w 16 5 = F := by omega
  have hDi : ((fl w 16 5 : Nat) : Int) = ((fl w 11 5 : Nat) : Int) ↔ fl w 16 5 = fl w 11 5 := by omega
  by_cases hO : fl w 26 6 = O
  · rw [decide_eq_true hO, Bool.true_and] at h
    subst hO
    refine wpc_sq fun K hK => ?_
    simp -dsimp [shr26 w hw, fl_i64, e1, e2, e4, e5, e6, e7, e8, e9]
    refine hK _ _ ?_
    clear hK K
    simp -dsimp [beq_nat0, beq_nat, fl_i64, e1, e2, e4, e5, e6, e7, e8, e9]
    exact fin_ret rfl (leave_pure (by simp) h)
  · rw [decide_eq_false hO, Bool.false_and] at h
    simp -dsimp [shr26 w hw, fl_i64, hOi, hO, e1, e2, e4, e5, e6, e7, e8, e9]
    exact fin_ret rfl (leave_pure (by simp) h)

set_option maxRecDepth 100000 in
set_option maxHeartbeats 4000000 in
theorem fits_82 (w : Nat) (hw : w < 2 ^ 32) (op O F : Nat) (nm : ByteArray) (m : Mem) (Q) (h : Q (.bool (fitQ (op, 82, O, F, nm) w)) m) : TC Try.prog 73 [rrowV (op, 82, O, F, nm), .int .u32 w] m Q := by
  have hg : fitQ (op, 82, O, F, nm) w = (decide (fl w 26 6 = O) && (decide (fl w 16 5 = F))) := by simp [fitQ, fitF]
  rw [hg] at h
  clear hg
  refine TC_fn mixed Try.func73 rfl Try.ntmps73 rfl (by decide) (by simp) ?_
  refine wpc_st fun K hK => ?_
  simp -dsimp [rrowV, rrowVal]
  refine hK _ _ ?_
  clear hK K
  refine wpc_st fun K hK => ?_
  simp -dsimp
  refine rField_tc w hw 21 5 (by decide) (by decide) _ _ ?_
  simp -dsimp
  refine rField_tc w hw 16 5 (by decide) (by decide) _ _ ?_
  simp -dsimp
  refine rField_tc w hw 11 5 (by decide) (by decide) _ _ ?_
  simp -dsimp
  refine rField_tc w hw 6 5 (by decide) (by decide) _ _ ?_
  simp -dsimp
  refine rField_tc w hw 0 6 (by decide) (by decide) _ _ ?_
  simp -dsimp [fl_i64]
  refine hK _ _ ?_
  clear hK K

  refine env_cut fun env he => ?_
  have e1 := he 1
  have e2 := he 2
  have e4 := he 4
  have e5 := he 5
  have e6 := he 6
  have e7 := he 7
  have e8 := he 8
  have e9 := he 9
  clear he
  simp -dsimp at e1 e2 e4 e5 e6 e7 e8 e9
  have hOi : ((fl w 26 6 : Nat) : Int) = (O : Int) ↔ fl w 26 6 = O := by omega
  have hFi : ((fl w 0 6 : Nat) : Int) = (F : Int) ↔ fl w 0 6 = F := by omega
  have hTi : ((fl w 16 5 : Nat) : Int) = (F : Int) ↔ fl w 16 5 = F := by omega
  have hDi : ((fl w 16 5 : Nat) : Int) = ((fl w 11 5 : Nat) : Int) ↔ fl w 16 5 = fl w 11 5 := by omega
  by_cases hO : fl w 26 6 = O
  · rw [decide_eq_true hO, Bool.true_and] at h
    subst hO
    refine wpc_sq fun K hK => ?_
    simp -dsimp [shr26 w hw, fl_i64, e1, e2, e4, e5, e6, e7, e8, e9]
    refine hK _ _ ?_
    clear hK K
    simp -dsimp [beq_nat0, beq_nat, fl_i64, e1, e2, e4, e5, e6, e7, e8, e9]
    exact fin_ret rfl (leave_pure (by simp) h)
  · rw [decide_eq_false hO, Bool.false_and] at h
    simp -dsimp [shr26 w hw, fl_i64, hOi, hO, e1, e2, e4, e5, e6, e7, e8, e9]
    exact fin_ret rfl (leave_pure (by simp) h)

set_option maxRecDepth 100000 in
set_option maxHeartbeats 4000000 in
theorem fits_74 (w : Nat) (hw : w < 2 ^ 32) (op O F : Nat) (nm : ByteArray) (m : Mem) (Q) (h : Q (.bool (fitQ (op, 74, O, F, nm) w)) m) : TC Try.prog 73 [rrowV (op, 74, O, F, nm), .int .u32 w] m Q := by
  have hg : fitQ (op, 74, O, F, nm) w = (decide (fl w 26 6 = O) && (true)) := by simp [fitQ, fitF]
  rw [hg] at h
  clear hg
  refine TC_fn mixed Try.func73 rfl Try.ntmps73 rfl (by decide) (by simp) ?_
  refine wpc_st fun K hK => ?_
  simp -dsimp [rrowV, rrowVal]
  refine hK _ _ ?_
  clear hK K
  refine wpc_st fun K hK => ?_
  simp -dsimp
  refine rField_tc w hw 21 5 (by decide) (by decide) _ _ ?_
  simp -dsimp
  refine rField_tc w hw 16 5 (by decide) (by decide) _ _ ?_
  simp -dsimp
  refine rField_tc w hw 11 5 (by decide) (by decide) _ _ ?_
  simp -dsimp
  refine rField_tc w hw 6 5 (by decide) (by decide) _ _ ?_
  simp -dsimp
  refine rField_tc w hw 0 6 (by decide) (by decide) _ _ ?_
  simp -dsimp [fl_i64]
  refine hK _ _ ?_
  clear hK K

  refine env_cut fun env he => ?_
  have e1 := he 1
  have e2 := he 2
  have e4 := he 4
  have e5 := he 5
  have e6 := he 6
  have e7 := he 7
  have e8 := he 8
  have e9 := he 9
  clear he
  simp -dsimp at e1 e2 e4 e5 e6 e7 e8 e9
  have hOi : ((fl w 26 6 : Nat) : Int) = (O : Int) ↔ fl w 26 6 = O := by omega
  have hFi : ((fl w 0 6 : Nat) : Int) = (F : Int) ↔ fl w 0 6 = F := by omega
  have hTi : ((fl w 16 5 : Nat) : Int) = (F : Int) ↔ fl w 16 5 = F := by omega
  have hDi : ((fl w 16 5 : Nat) : Int) = ((fl w 11 5 : Nat) : Int) ↔ fl w 16 5 = fl w 11 5 := by omega
  by_cases hO : fl w 26 6 = O
  · rw [decide_eq_true hO, Bool.true_and] at h
    subst hO
    refine wpc_sq fun K hK => ?_
    simp -dsimp [shr26 w hw, fl_i64, e1, e2, e4, e5, e6, e7, e8, e9]
    refine hK _ _ ?_
    clear hK K
    simp -dsimp [e1, e2, e4, e5, e6, e7, e8, e9]
    exact fin_ret rfl (leave_pure (by simp) h)
  · rw [decide_eq_false hO, Bool.false_and] at h
    simp -dsimp [shr26 w hw, fl_i64, hOi, hO, e1, e2, e4, e5, e6, e7, e8, e9]
    exact fin_ret rfl (leave_pure (by simp) h)

end Go.Lm
/- calqueref08.cut, form by form. -/
set_option linter.unusedSimpArgs false
set_option linter.unusedVariables false
namespace Go.Lm
open Go.Proofs

/-- what a form's word says -/
def cutQ (op form w : Nat) : InsM :=
  match form with
  | 68 => ⟨op, fl w 21 5, fl w 16 5, fl w 11 5, 0, 0⟩
  | 88 => ⟨op, fl w 21 5, fl w 16 5, fl w 11 5, 0, 0⟩
  | 89 => ⟨op, fl w 21 5, fl w 16 5, fl w 11 5, 0, 0⟩
  | 72 => ⟨op, 0, fl w 16 5, fl w 11 5, fl w 6 5, 0⟩
  | 77 => ⟨op, fl w 21 5, fl w 16 5, 0, 0, 0⟩
  | 70 => ⟨op, 0, 0, fl w 11 5, 0, 0⟩
  | 76 => ⟨op, fl w 21 5, 0, 0, 0, 0⟩
  | 71 => ⟨op, fl w 21 5, 0, fl w 11 5, 0, 0⟩
  | 84 => ⟨op, fl w 21 5, fl w 16 5, 0, 0, fl w 6 10⟩
  | 67 => ⟨op, 0, 0, 0, 0, fl w 6 20⟩
  | 73 => ⟨op, fl w 21 5, fl w 16 5, 0, 0, sxt 16 w⟩
  | 80 => ⟨op, fl w 21 5, fl w 16 5, 0, 0, sxt 16 w⟩
  | 85 => ⟨op, fl w 21 5, fl w 16 5, 0, 0, fl w 0 16⟩
  | 86 => ⟨op, 0, fl w 16 5, 0, 0, fl w 0 16⟩
  | 66 => ⟨op, fl w 21 5, fl w 16 5, 0, 0, sxt 16 w * 4 % 2 ^ 32⟩
  | 90 => ⟨op, fl w 21 5, 0, 0, 0, sxt 16 w * 4 % 2 ^ 32⟩
  | 82 => ⟨op, fl w 21 5, 0, 0, 0, sxt 16 w * 4 % 2 ^ 32⟩
  | 74 => ⟨op, 0, 0, 0, 0, fl w 0 26 * 4 % 2 ^ 32⟩
  | _ => ⟨op, 0, 0, 0, 0, 0⟩

theorem and16 (w : Nat) (hw : w < 2 ^ 32) : iand .u32 (w : Int) 65535 = ((fl w 0 16 : Nat) : Int) := by
  have := iand_mask .u32 16 (a := w) (c := 65535) hw rfl (by decide)
  rw [show ((65535 : Nat) : Int) = (65535 : Int) from rfl] at this
  rw [this]
  have : w % 2 ^ 16 = fl w 0 16 := by unfold fl; omega
  rw [this]
theorem times4 (n : Nat) : IntKind.u32.wrap ((n : Int) * 4) = ((n * 4 % 2 ^ 32 : Nat) : Int) := by
  rw [show (n : Int) * 4 = ((n * 4 : Nat) : Int) by omega, wrap_u32_nat]

set_option maxRecDepth 100000 in
set_option maxHeartbeats 4000000 in
theorem cut_68 (w : Nat) (hw : w < 2 ^ 32) (op O F : Nat) (nm : ByteArray) (m : Mem) (Q) (h : Q (insV (cutQ op 68 w)) m) : TC Try.prog 74 [rrowV (op, 68, O, F, nm), .int .u32 w] m Q := by
  change Q (insV ⟨op, fl w 21 5, fl w 16 5, fl w 11 5, 0, 0⟩) m at h
  refine TC_fn mixed Try.func74 rfl Try.ntmps74 rfl (by decide) (by simp) ?_
  refine wpc_st fun K hK => ?_
  simp -dsimp [rrowV, rrowVal]
  refine hK _ _ ?_
  clear hK K
  refine wpc_st fun K hK => ?_
  simp -dsimp
  refine hK _ _ ?_
  clear hK K
  refine wpc_st fun K hK => ?_
  simp -dsimp
  refine rField_tc w hw 21 5 (by decide) (by decide) _ _ ?_
  simp -dsimp [fl_i64]
  refine rField_tc w hw 16 5 (by decide) (by decide) _ _ ?_
  simp -dsimp [fl_i64]
  refine rField_tc w hw 11 5 (by decide) (by decide) _ _ ?_
  simp -dsimp [fl_i64]
  refine hK _ _ ?_
  clear hK K
  refine wpc_st fun K hK => ?_
  simp -dsimp
  refine rSext16_tc w _ _ ?_
  simp -dsimp
  refine hK _ _ ?_
  clear hK K
  refine env_cut fun env he => ?_
  have e1 := he 1
  have e2 := he 2
  have e4 := he 4
  have e5 := he 5
  have e6 := he 6
  have e7 := he 7
  have e8 := he 8
  have e9 := he 9
  clear he
  simp -dsimp at e1 e2 e4 e5 e6 e7 e8 e9
  refine wpc_sq fun K hK => ?_
  simp -dsimp [and16 w hw, times4, fl_i64, e1, e2, e4, e5, e6, e7, e8, e9]
  refine hK _ _ ?_
  clear hK K
  simp -dsimp [e1, e2, e4, e5, e6, e7, e8, e9]
  exact fin_ret (v := insV _) (by simp -dsimp [e4]; rfl) (leave_pure (by simp [insV]) h)

set_option maxRecDepth 100000 in
set_option maxHeartbeats 4000000 in
theorem cut_88 (w : Nat) (hw : w < 2 ^ 32) (op O F : Nat) (nm : ByteArray) (m : Mem) (Q) (h : Q (insV (cutQ op 88 w)) m) : TC Try.prog 74 [rrowV (op, 88, O, F, nm), .int .u32 w] m Q := by
  change Q (insV ⟨op, fl w 21 5, fl w 16 5, fl w 11 5, 0, 0⟩) m at h
  refine TC_fn mixed Try.func74 rfl Try.ntmps74 rfl (by decide) (by simp) ?_
  refine wpc_st fun K hK => ?_
  simp -dsimp [rrowV, rrowVal]
  refine hK _ _ ?_
  clear hK K
  refine wpc_st fun K hK => ?_
  simp -dsimp
  refine hK _ _ ?_
  clear hK K
  refine wpc_st fun K hK => ?_
  simp -dsimp
  refine rField_tc w hw 21 5 (by decide) (by decide) _ _ ?_
  simp -dsimp [fl_i64]
  refine rField_tc w hw 16 5 (by decide) (by decide) _ _ ?_
  simp -dsimp [fl_i64]
  refine rField_tc w hw 11 5 (by decide) (by decide) _ _ ?_
  simp -dsimp [fl_i64]
  refine hK _ _ ?_
  clear hK K
  refine wpc_st fun K hK => ?_
  simp -dsimp
  refine rSext16_tc w _ _ ?_
  simp -dsimp
  refine hK _ _ ?_
  clear hK K
  refine env_cut fun env he => ?_
  have e1 := he 1
  have e2 := he 2
  have e4 := he 4
  have e5 := he 5
  have e6 := he 6
  have e7 := he 7
  have e8 := he 8
  have e9 := he 9
  clear he
  simp -dsimp at e1 e2 e4 e5 e6 e7 e8 e9
  refine wpc_sq fun K hK => ?_
  simp -dsimp [and16 w hw, times4, fl_i64, e1, e2, e4, e5, e6, e7, e8, e9]
  refine hK _ _ ?_
  clear hK K
  simp -dsimp [e1, e2, e4, e5, e6, e7, e8, e9]
  exact fin_ret (v := insV _) (by simp -dsimp [e4]; rfl) (leave_pure (by simp [insV]) h)

set_option maxRecDepth 100000 in
set_option maxHeartbeats 4000000 in
theorem cut_89 (w : Nat) (hw : w < 2 ^ 32) (op O F : Nat) (nm : ByteArray) (m : Mem) (Q) (h : Q (insV (cutQ op 89 w)) m) : TC Try.prog 74 [rrowV (op, 89, O, F, nm), .int .u32 w] m Q := by
  change Q (insV ⟨op, fl w 21 5, fl w 16 5, fl w 11 5, 0, 0⟩) m at h
  refine TC_fn mixed Try.func74 rfl Try.ntmps74 rfl (by decide) (by simp) ?_
  refine wpc_st fun K hK => ?_
  simp -dsimp [rrowV, rrowVal]
  refine hK _ _ ?_
  clear hK K
  refine wpc_st fun K hK => ?_
  simp -dsimp
  refine hK _ _ ?_
  clear hK K
  refine wpc_st fun K hK => ?_
  simp -dsimp
  refine rField_tc w hw 21 5 (by decide) (by decide) _ _ ?_
  simp -dsimp [fl_i64]
  refine rField_tc w hw 16 5 (by decide) (by decide) _ _ ?_
  simp -dsimp [fl_i64]
  refine rField_tc w hw 11 5 (by decide) (by decide) _ _ ?_
  simp -dsimp [fl_i64]
  refine hK _ _ ?_
  clear hK K
  refine wpc_st fun K hK => ?_
  simp -dsimp
  refine rSext16_tc w _ _ ?_
  simp -dsimp
  refine hK _ _ ?_
  clear hK K
  refine env_cut fun env he => ?_
  have e1 := he 1
  have e2 := he 2
  have e4 := he 4
  have e5 := he 5
  have e6 := he 6
  have e7 := he 7
  have e8 := he 8
  have e9 := he 9
  clear he
  simp -dsimp at e1 e2 e4 e5 e6 e7 e8 e9
  refine wpc_sq fun K hK => ?_
  simp -dsimp [and16 w hw, times4, fl_i64, e1, e2, e4, e5, e6, e7, e8, e9]
  refine hK _ _ ?_
  clear hK K
  simp -dsimp [e1, e2, e4, e5, e6, e7, e8, e9]
  exact fin_ret (v := insV _) (by simp -dsimp [e4]; rfl) (leave_pure (by simp [insV]) h)

set_option maxRecDepth 100000 in
set_option maxHeartbeats 4000000 in
theorem cut_72 (w : Nat) (hw : w < 2 ^ 32) (op O F : Nat) (nm : ByteArray) (m : Mem) (Q) (h : Q (insV (cutQ op 72 w)) m) : TC Try.prog 74 [rrowV (op, 72, O, F, nm), .int .u32 w] m Q := by
  change Q (insV ⟨op, 0, fl w 16 5, fl w 11 5, fl w 6 5, 0⟩) m at h
  refine TC_fn mixed Try.func74 rfl Try.ntmps74 rfl (by decide) (by simp) ?_
  refine wpc_st fun K hK => ?_
  simp -dsimp [rrowV, rrowVal]
  refine hK _ _ ?_
  clear hK K
  refine wpc_st fun K hK => ?_
  simp -dsimp
  refine hK _ _ ?_
  clear hK K
  refine wpc_st fun K hK => ?_
  simp -dsimp
  refine rField_tc w hw 21 5 (by decide) (by decide) _ _ ?_
  simp -dsimp [fl_i64]
  refine rField_tc w hw 16 5 (by decide) (by decide) _ _ ?_
  simp -dsimp [fl_i64]
  refine rField_tc w hw 11 5 (by decide) (by decide) _ _ ?_
  simp -dsimp [fl_i64]
  refine hK _ _ ?_
  clear hK K
  refine wpc_st fun K hK => ?_
  simp -dsimp
  refine rSext16_tc w _ _ ?_
  simp -dsimp
  refine hK _ _ ?_
  clear hK K
  refine env_cut fun env he => ?_
  have e1 := he 1
  have e2 := he 2
  have e4 := he 4
  have e5 := he 5
  have e6 := he 6
  have e7 := he 7
  have e8 := he 8
  have e9 := he 9
  clear he
  simp -dsimp at e1 e2 e4 e5 e6 e7 e8 e9
  refine wpc_sq fun K hK => ?_
  simp -dsimp [and16 w hw, times4, fl_i64, e1, e2, e4, e5, e6, e7, e8, e9]
  refine rField_tc w hw 6 5 (by decide) (by decide) _ _ ?_
  simp -dsimp [and16 w hw, times4, fl_i64, e1, e2, e4, e5, e6, e7, e8, e9]
  refine hK _ _ ?_
  clear hK K
  simp -dsimp [e1, e2, e4, e5, e6, e7, e8, e9]
  exact fin_ret (v := insV _) (by simp -dsimp [e4]; rfl) (leave_pure (by simp [insV]) h)

set_option maxRecDepth 100000 in
set_option maxHeartbeats 4000000 in
theorem cut_77 (w : Nat) (hw : w < 2 ^ 32) (op O F : Nat) (nm : ByteArray) (m : Mem) (Q) (h : Q (insV (cutQ op 77 w)) m) : TC Try.prog 74 [rrowV (op, 77, O, F, nm), .int .u32 w] m Q := by
  change Q (insV ⟨op, fl w 21 5, fl w 16 5, 0, 0, 0⟩) m at h
  refine TC_fn mixed Try.func74 rfl Try.ntmps74 rfl (by decide) (by simp) ?_
  refine wpc_st fun K hK => ?_
  simp -dsimp [rrowV, rrowVal]
  refine hK _ _ ?_
  clear hK K
  refine wpc_st fun K hK => ?_
  simp -dsimp
  refine hK _ _ ?_
  clear hK K
  refine wpc_st fun K hK => ?_
  simp -dsimp
  refine rField_tc w hw 21 5 (by decide) (by decide) _ _ ?_
  simp -dsimp [fl_i64]
  refine rField_tc w hw 16 5 (by decide) (by decide) _ _ ?_
  simp -dsimp [fl_i64]
  refine rField_tc w hw 11 5 (by decide) (by decide) _ _ ?_
  simp -dsimp [fl_i64]
  refine hK _ _ ?_
  clear hK K
  refine wpc_st fun K hK => ?_
  simp -dsimp
  refine rSext16_tc w _ _ ?_
  simp -dsimp
  refine hK _ _ ?_
  clear hK K
  refine env_cut fun env he => ?_
  have e1 := he 1
  have e2 := he 2
  have e4 := he 4
  have e5 := he 5
  have e6 := he 6
  have e7 := he 7
  have e8 := he 8
  have e9 := he 9
  clear he
  simp -dsimp at e1 e2 e4 e5 e6 e7 e8 e9
  refine wpc_sq fun K hK => ?_
  simp -dsimp [and16 w hw, times4, fl_i64, e1, e2, e4, e5, e6, e7, e8, e9]
  refine hK _ _ ?_
  clear hK K
  simp -dsimp [e1, e2, e4, e5, e6, e7, e8, e9]
  exact fin_ret (v := insV _) (by simp -dsimp [e4]; rfl) (leave_pure (by simp [insV]) h)

set_option maxRecDepth 100000 in
set_option maxHeartbeats 4000000 in
theorem cut_70 (w : Nat) (hw : w < 2 ^ 32) (op O F : Nat) (nm : ByteArray) (m : Mem) (Q) (h : Q (insV (cutQ op 70 w)) m) : TC Try.prog 74 [rrowV (op, 70, O, F, nm), .int .u32 w] m Q := by
  change Q (insV ⟨op, 0, 0, fl w 11 5, 0, 0⟩) m at h
  refine TC_fn mixed Try.func74 rfl Try.ntmps74 rfl (by decide) (by simp) ?_
  refine wpc_st fun K hK => ?_
  simp -dsimp [rrowV, rrowVal]
  refine hK _ _ ?_
  clear hK K
  refine wpc_st fun K hK => ?_
  simp -dsimp
  refine hK _ _ ?_
  clear hK K
  refine wpc_st fun K hK => ?_
  simp -dsimp
  refine rField_tc w hw 21 5 (by decide) (by decide) _ _ ?_
  simp -dsimp [fl_i64]
  refine rField_tc w hw 16 5 (by decide) (by decide) _ _ ?_
  simp -dsimp [fl_i64]
  refine rField_tc w hw 11 5 (by decide) (by decide) _ _ ?_
  simp -dsimp [fl_i64]
  refine hK _ _ ?_
  clear hK K
  refine wpc_st fun K hK => ?_
  simp -dsimp
  refine rSext16_tc w _ _ ?_
  simp -dsimp
  refine hK _ _ ?_
  clear hK K
  refine env_cut fun env he => ?_
  have e1 := he 1
  have e2 := he 2
  have e4 := he 4
  have e5 := he 5
  have e6 := he 6
  have e7 := he 7
  have e8 := he 8
  have e9 := he 9
  clear he
  simp -dsimp at e1 e2 e4 e5 e6 e7 e8 e9
  refine wpc_sq fun K hK => ?_
  simp -dsimp [and16 w hw, times4, fl_i64, e1, e2, e4, e5, e6, e7, e8, e9]
  refine hK _ _ ?_
  clear hK K
  simp -dsimp [e1, e2, e4, e5, e6, e7, e8, e9]
  exact fin_ret (v := insV _) (by simp -dsimp [e4]; rfl) (leave_pure (by simp [insV]) h)

set_option maxRecDepth 100000 in
set_option maxHeartbeats 4000000 in
theorem cut_76 (w : Nat) (hw : w < 2 ^ 32) (op O F : Nat) (nm : ByteArray) (m : Mem) (Q) (h : Q (insV (cutQ op 76 w)) m) : TC Try.prog 74 [rrowV (op, 76, O, F, nm), .int .u32 w] m Q := by
  change Q (insV ⟨op, fl w 21 5, 0, 0, 0, 0⟩) m at h
  refine TC_fn mixed Try.func74 rfl Try.ntmps74 rfl (by decide) (by simp) ?_
  refine wpc_st fun K hK => ?_
  simp -dsimp [rrowV, rrowVal]
  refine hK _ _ ?_
  clear hK K
  refine wpc_st fun K hK => ?_
  simp -dsimp
  refine hK _ _ ?_
  clear hK K
  refine wpc_st fun K hK => ?_
  simp -dsimp
  refine rField_tc w hw 21 5 (by decide) (by decide) _ _ ?_
  simp -dsimp [fl_i64]
  refine rField_tc w hw 16 5 (by decide) (by decide) _ _ ?_
  simp -dsimp [fl_i64]
  refine rField_tc w hw 11 5 (by decide) (by decide) _ _ ?_
  simp -dsimp [fl_i64]
  refine hK _ _ ?_
  clear hK K
  refine wpc_st fun K hK => ?_
  simp -dsimp
  refine rSext16_tc w _ _ ?_
  simp -dsimp
  refine hK _ _ ?_
  clear hK K
  refine env_cut fun env he => ?_
  have e1 := he 1
  have e2 := he 2
  have e4 := he 4
  have e5 := he 5
  have e6 := he 6
  have e7 := he 7
  have e8 := he 8
  have e9 := he 9
  clear he
  simp -dsimp at e1 e2 e4 e5 e6 e7 e8 e9
  refine wpc_sq fun K hK => ?_
  simp -dsimp [and16 w hw, times4, fl_i64, e1, e2, e4, e5, e6, e7, e8, e9]
  refine hK _ _ ?_
  clear hK K
  simp -dsimp [e1, e2, e4, e5, e6, e7, e8, e9]
  exact fin_ret (v := insV _) (by simp -dsimp [e4]; rfl) (leave_pure (by simp [insV]) h)

set_option maxRecDepth 100000 in
set_option maxHeartbeats 4000000 in
theorem cut_71 (w : Nat) (hw : w < 2 ^ 32) (op O F : Nat) (nm : ByteArray) (m : Mem) (Q) (h : Q (insV (cutQ op 71 w)) m) : TC Try.prog 74 [rrowV (op, 71, O, F, nm), .int .u32 w] m Q := by
  change Q (insV ⟨op, fl w 21 5, 0, fl w 11 5, 0, 0⟩) m at h
  refine TC_fn mixed Try.func74 rfl Try.ntmps74 rfl (by decide) (by simp) ?_
  refine wpc_st fun K hK => ?_
  simp -dsimp [rrowV, rrowVal]
  refine hK _ _ ?_
  clear hK K
  refine wpc_st fun K hK => ?_
  simp -dsimp
  refine hK _ _ ?_
  clear hK K
  refine wpc_st fun K hK => ?_
  simp -dsimp
  refine rField_tc w hw 21 5 (by decide) (by decide) _ _ ?_
  simp -dsimp [fl_i64]
  refine rField_tc w hw 16 5 (by decide) (by decide) _ _ ?_
  simp -dsimp [fl_i64]
  refine rField_tc w hw 11 5 (by decide) (by decide) _ _ ?_
  simp -dsimp [fl_i64]
  refine hK _ _ ?_
  clear hK K
  refine wpc_st fun K hK => ?_
  simp -dsimp
  refine rSext16_tc w _ _ ?_
  simp -dsimp
  refine hK _ _ ?_
  clear hK K
  refine env_cut fun env he => ?_
  have e1 := he 1
  have e2 := he 2
  have e4 := he 4
  have e5 := he 5
  have e6 := he 6
  have e7 := he 7
  have e8 := he 8
  have e9 := he 9
  clear he
  simp -dsimp at e1 e2 e4 e5 e6 e7 e8 e9
  refine wpc_sq fun K hK => ?_
  simp -dsimp [and16 w hw, times4, fl_i64, e1, e2, e4, e5, e6, e7, e8, e9]
  refine hK _ _ ?_
  clear hK K
  simp -dsimp [e1, e2, e4, e5, e6, e7, e8, e9]
  exact fin_ret (v := insV _) (by simp -dsimp [e4]; rfl) (leave_pure (by simp [insV]) h)

set_option maxRecDepth 100000 in
set_option maxHeartbeats 4000000 in
theorem cut_84 (w : Nat) (hw : w < 2 ^ 32) (op O F : Nat) (nm : ByteArray) (m : Mem) (Q) (h : Q (insV (cutQ op 84 w)) m) : TC Try.prog 74 [rrowV (op, 84, O, F, nm), .int .u32 w] m Q := by
  change Q (insV ⟨op, fl w 21 5, fl w 16 5, 0, 0, fl w 6 10⟩) m at h
  refine TC_fn mixed Try.func74 rfl Try.ntmps74 rfl (by decide) (by simp) ?_
  refine wpc_st fun K hK => ?_
  simp -dsimp [rrowV, rrowVal]
  refine hK _ _ ?_
  clear hK K
  refine wpc_st fun K hK => ?_
  simp -dsimp
  refine hK _ _ ?_
  clear hK K
  refine wpc_st fun K hK => ?_
  simp -dsimp
  refine rField_tc w hw 21 5 (by decide) (by decide) _ _ ?_
  simp -dsimp [fl_i64]
  refine rField_tc w hw 16 5 (by decide) (by decide) _ _ ?_
  simp -dsimp [fl_i64]
  refine rField_tc w hw 11 5 (by decide) (by decide) _ _ ?_
  simp -dsimp [fl_i64]
  refine hK _ _ ?_
  clear hK K
  refine wpc_st fun K hK => ?_
  simp -dsimp
  refine rSext16_tc w _ _ ?_
  simp -dsimp
  refine hK _ _ ?_
  clear hK K
  refine env_cut fun env he => ?_
  have e1 := he 1
  have e2 := he 2
  have e4 := he 4
  have e5 := he 5
  have e6 := he 6
  have e7 := he 7
  have e8 := he 8
  have e9 := he 9
  clear he
  simp -dsimp at e1 e2 e4 e5 e6 e7 e8 e9
  refine wpc_sq fun K hK => ?_
  simp -dsimp [and16 w hw, times4, fl_i64, e1, e2, e4, e5, e6, e7, e8, e9]
  refine rField_tc w hw 6 10 (by decide) (by decide) _ _ ?_
  simp -dsimp [and16 w hw, times4, fl_i64, e1, e2, e4, e5, e6, e7, e8, e9]
  refine hK _ _ ?_
  clear hK K
  simp -dsimp [e1, e2, e4, e5, e6, e7, e8, e9]
  exact fin_ret (v := insV _) (by simp -dsimp [e4]; rfl) (leave_pure (by simp [insV]) h)

set_option maxRecDepth 100000 in
set_option maxHeartbeats 4000000 in
theorem cut_67 (w : Nat) (hw : w < 2 ^ 32) (op O F : Nat) (nm : ByteArray) (m : Mem) (Q) (h : Q (insV (cutQ op 67 w)) m) : TC Try.prog 74 [rrowV (op, 67, O, F, nm), .int .u32 w] m Q := by
  change Q (insV ⟨op, 0, 0, 0, 0, fl w 6 20⟩) m at h
  refine TC_fn mixed Try.func74 rfl Try.ntmps74 rfl (by decide) (by simp) ?_
  refine wpc_st fun K hK => ?_
  simp -dsimp [rrowV, rrowVal]
  refine hK _ _ ?_
  clear hK K
  refine wpc_st fun K hK => ?_
  simp -dsimp
  refine hK _ _ ?_
  clear hK K
  refine wpc_st fun K hK => ?_
  simp -dsimp
  refine rField_tc w hw 21 5 (by decide) (by decide) _ _ ?_
  simp -dsimp [fl_i64]
  refine rField_tc w hw 16 5 (by decide) (by decide) _ _ ?_
  simp -dsimp [fl_i64]
  refine rField_tc w hw 11 5 (by decide) (by decide) _ _ ?_
  simp -dsimp [fl_i64]
  refine hK _ _ ?_
  clear hK K
  refine wpc_st fun K hK => ?_
  simp -dsimp
  refine rSext16_tc w _ _ ?_
  simp -dsimp
  refine hK _ _ ?_
  clear hK K
  refine env_cut fun env he => ?_
  have e1 := he 1
  have e2 := he 2
  have e4 := he 4
  have e5 := he 5
  have e6 := he 6
  have e7 := he 7
  have e8 := he 8
  have e9 := he 9
  clear he
  simp -dsimp at e1 e2 e4 e5 e6 e7 e8 e9
  refine wpc_sq fun K hK => ?_
  simp -dsimp [and16 w hw, times4, fl_i64, e1, e2, e4, e5, e6, e7, e8, e9]
  refine rField_tc w hw 6 20 (by decide) (by decide) _ _ ?_
  simp -dsimp [and16 w hw, times4, fl_i64, e1, e2, e4, e5, e6, e7, e8, e9]
  refine hK _ _ ?_
  clear hK K
  simp -dsimp [e1, e2, e4, e5, e6, e7, e8, e9]
  exact fin_ret (v := insV _) (by simp -dsimp [e4]; rfl) (leave_pure (by simp [insV]) h)

set_option maxRecDepth 100000 in
set_option maxHeartbeats 4000000 in
theorem cut_73 (w : Nat) (hw : w < 2 ^ 32) (op O F : Nat) (nm : ByteArray) (m : Mem) (Q) (h : Q (insV (cutQ op 73 w)) m) : TC Try.prog 74 [rrowV (op, 73, O, F, nm), .int .u32 w] m Q := by
  change Q (insV ⟨op, fl w 21 5, fl w 16 5, 0, 0, sxt 16 w⟩) m at h
  refine TC_fn mixed Try.func74 rfl Try.ntmps74 rfl (by decide) (by simp) ?_
  refine wpc_st fun K hK => ?_
  simp -dsimp [rrowV, rrowVal]
  refine hK _ _ ?_
  clear hK K
  refine wpc_st fun K hK => ?_
  simp -dsimp
  refine hK _ _ ?_
  clear hK K
  refine wpc_st fun K hK => ?_
  simp -dsimp
  refine rField_tc w hw 21 5 (by decide) (by decide) _ _ ?_
  simp -dsimp [fl_i64]
  refine rField_tc w hw 16 5 (by decide) (by decide) _ _ ?_
  simp -dsimp [fl_i64]
  refine rField_tc w hw 11 5 (by decide) (by decide) _ _ ?_
  simp -dsimp [fl_i64]
  refine hK _ _ ?_
  clear hK K
  refine wpc_st fun K hK => ?_
  simp -dsimp
  refine rSext16_tc w _ _ ?_
  simp -dsimp
  refine hK _ _ ?_
  clear hK K
  refine env_cut fun env he => ?_
  have e1 := he 1
  have e2 := he 2
  have e4 := he 4
  have e5 := he 5
  have e6 := he 6
  have e7 := he 7
  have e8 := he 8
  have e9 := he 9
  clear he
  simp -dsimp at e1 e2 e4 e5 e6 e7 e8 e9
  refine wpc_sq fun K hK => ?_
  simp -dsimp [and16 w hw, times4, fl_i64, e1, e2, e4, e5, e6, e7, e8, e9]
  refine hK _ _ ?_
  clear hK K
  simp -dsimp [e1, e2, e4, e5, e6, e7, e8, e9]
  exact fin_ret (v := insV _) (by simp -dsimp [e4]; rfl) (leave_pure (by simp [insV]) h)

set_option maxRecDepth 100000 in
set_option maxHeartbeats 4000000 in
theorem cut_80 (w : Nat) (hw : w < 2 ^ 32) (op O F : Nat) (nm : ByteArray) (m : Mem) (Q) (h : Q (insV (cutQ op 80 w)) m) : TC Try.prog 74 [rrowV (op, 80, O, F, nm), .int .u32 w] m Q := by
  change Q (insV ⟨op, fl w 21 5, fl w 16 5, 0, 0, sxt 16 w⟩) m at h
  refine TC_fn mixed Try.func74 rfl Try.ntmps74 rfl (by decide) (by simp) ?_
  refine wpc_st fun K hK => ?_
  simp -dsimp [rrowV, rrowVal]
  refine hK _ _ ?_
  clear hK K
  refine wpc_st fun K hK => ?_
  simp -dsimp
  refine hK _ _ ?_
  clear hK K
  refine wpc_st fun K hK => ?_
  simp -dsimp
  refine rField_tc w hw 21 5 (by decide) (by decide) _ _ ?_
  simp -dsimp [fl_i64]
  refine rField_tc w hw 16 5 (by decide) (by decide) _ _ ?_
  simp -dsimp [fl_i64]
  refine rField_tc w hw 11 5 (by decide) (by decide) _ _ ?_
  simp -dsimp [fl_i64]
  refine hK _ _ ?_
  clear hK K
  refine wpc_st fun K hK => ?_
  simp -dsimp
  refine rSext16_tc w _ _ ?_
  simp -dsimp
  refine hK _ _ ?_
  clear hK K
  refine env_cut fun env he => ?_
  have e1 := he 1
  have e2 := he 2
  have e4 := he 4
  have e5 := he 5
  have e6 := he 6
  have e7 := he 7
  have e8 := he 8
  have e9 := he 9
  clear he
  simp -dsimp at e1 e2 e4 e5 e6 e7 e8 e9
  refine wpc_sq fun K hK => ?_
  simp -dsimp [and16 w hw, times4, fl_i64, e1, e2, e4, e5, e6, e7, e8, e9]
  refine hK _ _ ?_
  clear hK K
  simp -dsimp [e1, e2, e4, e5, e6, e7, e8, e9]
  exact fin_ret (v := insV _) (by simp -dsimp [e4]; rfl) (leave_pure (by simp [insV]) h)

set_option maxRecDepth 100000 in
set_option maxHeartbeats 4000000 in
theorem cut_85 (w : Nat) (hw : w < 2 ^ 32) (op O F : Nat) (nm : ByteArray) (m : Mem) (Q) (h : Q (insV (cutQ op 85 w)) m) : TC Try.prog 74 [rrowV (op, 85, O, F, nm), .int .u32 w] m Q := by
  change Q (insV ⟨op, fl w 21 5, fl w 16 5, 0, 0, fl w 0 16⟩) m at h
  refine TC_fn mixed Try.func74 rfl Try.ntmps74 rfl (by decide) (by simp) ?_
  refine wpc_st fun K hK => ?_
  simp -dsimp [rrowV, rrowVal]
  refine hK _ _ ?_
  clear hK K
  refine wpc_st fun K hK => ?_
  simp -dsimp
  refine hK _ _ ?_
  clear hK K
  refine wpc_st fun K hK => ?_
  simp -dsimp
  refine rField_tc w hw 21 5 (by decide) (by decide) _ _ ?_
  simp -dsimp [fl_i64]
  refine rField_tc w hw 16 5 (by decide) (by decide) _ _ ?_
  simp -dsimp [fl_i64]
  refine rField_tc w hw 11 5 (by decide) (by decide) _ _ ?_
  simp -dsimp [fl_i64]
  refine hK _ _ ?_
  clear hK K
  refine wpc_st fun K hK => ?_
  simp -dsimp
  refine rSext16_tc w _ _ ?_
  simp -dsimp
  refine hK _ _ ?_
  clear hK K
  refine env_cut fun env he => ?_
  have e1 := he 1
  have e2 := he 2
  have e4 := he 4
  have e5 := he 5
  have e6 := he 6
  have e7 := he 7
  have e8 := he 8
  have e9 := he 9
  clear he
  simp -dsimp at e1 e2 e4 e5 e6 e7 e8 e9
  refine wpc_sq fun K hK => ?_
  simp -dsimp [and16 w hw, times4, fl_i64, e1, e2, e4, e5, e6, e7, e8, e9]
  refine hK _ _ ?_
  clear hK K
  simp -dsimp [e1, e2, e4, e5, e6, e7, e8, e9]
  exact fin_ret (v := insV _) (by simp -dsimp [e4]; rfl) (leave_pure (by simp [insV]) h)

set_option maxRecDepth 100000 in
set_option maxHeartbeats 4000000 in
theorem cut_86 (w : Nat) (hw : w < 2 ^ 32) (op O F : Nat) (nm : ByteArray) (m : Mem) (Q) (h : Q (insV (cutQ op 86 w)) m) : TC Try.prog 74 [rrowV (op, 86, O, F, nm), .int .u32 w] m Q := by
  change Q (insV ⟨op, 0, fl w 16 5, 0, 0, fl w 0 16⟩) m at h
  refine TC_fn mixed Try.func74 rfl Try.ntmps74 rfl (by decide) (by simp) ?_
  refine wpc_st fun K hK => ?_
  simp -dsimp [rrowV, rrowVal]
  refine hK _ _ ?_
  clear hK K
  refine wpc_st fun K hK => ?_
  simp -dsimp
  refine hK _ _ ?_
  clear hK K
  refine wpc_st fun K hK => ?_
  simp -dsimp
  refine rField_tc w hw 21 5 (by decide) (by decide) _ _ ?_
  simp -dsimp [fl_i64]
  refine rField_tc w hw 16 5 (by decide) (by decide) _ _ ?_
  simp -dsimp [fl_i64]
  refine rField_tc w hw 11 5 (by decide) (by decide) _ _ ?_
  simp -dsimp [fl_i64]
  refine hK _ _ ?_
  clear hK K
  refine wpc_st fun K hK => ?_
  simp -dsimp
  refine rSext16_tc w _ _ ?_
  simp -dsimp
  refine hK _ _ ?_
  clear hK K
  refine env_cut fun env he => ?_
  have e1 := he 1
  have e2 := he 2
  have e4 := he 4
  have e5 := he 5
  have e6 := he 6
  have e7 := he 7
  have e8 := he 8
  have e9 := he 9
  clear he
  simp -dsimp at e1 e2 e4 e5 e6 e7 e8 e9
  refine wpc_sq fun K hK => ?_
  simp -dsimp [and16 w hw, times4, fl_i64, e1, e2, e4, e5, e6, e7, e8, e9]
  refine hK _ _ ?_
  clear hK K
  simp -dsimp [e1, e2, e4, e5, e6, e7, e8, e9]
  exact fin_ret (v := insV _) (by simp -dsimp [e4]; rfl) (leave_pure (by simp [insV]) h)

set_option maxRecDepth 100000 in
set_option maxHeartbeats 4000000 in
theorem cut_66 (w : Nat) (hw : w < 2 ^ 32) (op O F : Nat) (nm : ByteArray) (m : Mem) (Q) (h : Q (insV (cutQ op 66 w)) m) : TC Try.prog 74 [rrowV (op, 66, O, F, nm), .int .u32 w] m Q := by
  change Q (insV ⟨op, fl w 21 5, fl w 16 5, 0, 0, sxt 16 w * 4 % 2 ^ 32⟩) m at h
  refine TC_fn mixed Try.func74 rfl Try.ntmps74 rfl (by decide) (by simp) ?_
  refine wpc_st fun K hK => ?_
  simp -dsimp [rrowV, rrowVal]
  refine hK _ _ ?_
  clear hK K
  refine wpc_st fun K hK => ?_
  simp -dsimp
  refine hK _ _ ?_
  clear hK K
  refine wpc_st fun K hK => ?_
  simp -dsimp
  refine rField_tc w hw 21 5 (by decide) (by decide) _ _ ?_
  simp -dsimp [fl_i64]
  refine rField_tc w hw 16 5 (by decide) (by decide) _ _ ?_
  simp -dsimp [fl_i64]
  refine rField_tc w hw 11 5 (by decide) (by decide) _ _ ?_
  simp -dsimp [fl_i64]
  refine hK _ _ ?_
  clear hK K
  refine wpc_st fun K hK => ?_
  simp -dsimp
  refine rSext16_tc w _ _ ?_
  simp -dsimp
  refine hK _ _ ?_
  clear hK K
  refine env_cut fun env he => ?_
  have e1 := he 1
  have e2 := he 2
  have e4 := he 4
  have e5 := he 5
  have e6 := he 6
  have e7 := he 7
  have e8 := he 8
  have e9 := he 9
  clear he
  simp -dsimp at e1 e2 e4 e5 e6 e7 e8 e9
  refine wpc_sq fun K hK => ?_
  simp -dsimp [and16 w hw, times4, fl_i64, e1, e2, e4, e5, e6, e7, e8, e9]
  refine hK _ _ ?_
  clear hK K
  simp -dsimp [e1, e2, e4, e5, e6, e7, e8, e9]
  exact fin_ret (v := insV _) (by simp -dsimp [e4]; rfl) (leave_pure (by simp [insV]) h)

set_option maxRecDepth 100000 in
set_option maxHeartbeats 4000000 in
theorem cut_90 (w : Nat) (hw : w < 2 ^ 32) (op O F : Nat) (nm : ByteArray) (m : Mem) (Q) (h : Q (insV (cutQ op 90 w)) m) : TC Try.prog 74 [rrowV (op, 90, O, F, nm), .int .u32 w] m Q := by
  change Q (insV ⟨op, fl w 21 5, 0, 0, 0, sxt 16 w * 4 % 2 ^ 32⟩) m at h
  refine TC_fn mixed Try.func74 rfl Try.ntmps74 rfl (by decide) (by simp) ?_
  refine wpc_st fun K hK => ?_
  simp -dsimp [rrowV, rrowVal]
  refine hK _ _ ?_
  clear hK K
  refine wpc_st fun K hK => ?_
  simp -dsimp
  refine hK _ _ ?_
  clear hK K
  refine wpc_st fun K hK => ?_
  simp -dsimp
  refine rField_tc w hw 21 5 (by decide) (by decide) _ _ ?_
  simp -dsimp [fl_i64]
  refine rField_tc w hw 16 5 (by decide) (by decide) _ _ ?_
  simp -dsimp [fl_i64]
  refine rField_tc w hw 11 5 (by decide) (by decide) _ _ ?_
  simp -dsimp [fl_i64]
  refine hK _ _ ?_
  clear hK K
  refine wpc_st fun K hK => ?_
  simp -dsimp
  refine rSext16_tc w _ _ ?_
  simp -dsimp
  refine hK _ _ ?_
  clear hK K
  refine env_cut fun env he => ?_
  have e1 := he 1
  have e2 := he 2
  have e4 := he 4
  have e5 := he 5
  have e6 := he 6
  have e7 := he 7
  have e8 := he 8
  have e9 := he 9
  clear he
  simp -dsimp at e1 e2 e4 e5 e6 e7 e8 e9
  refine wpc_sq fun K hK => ?_
  simp -dsimp [and16 w hw, times4, fl_i64, e1, e2, e4, e5, e6, e7, e8, e9]
  refine hK _ _ ?_
  clear hK K
  simp -dsimp [e1, e2, e4, e5, e6, e7, e8, e9]
  exact fin_ret (v := insV _) (by simp -dsimp [e4]; rfl) (leave_pure (by simp [insV]) h)

set_option maxRecDepth 100000 in
set_option maxHeartbeats 4000000 in
theorem cut_82 (w : Nat) (hw : w < 2 ^ 32) (op O F : Nat) (nm : ByteArray) (m : Mem) (Q) (h : Q (insV (cutQ op 82 w)) m) : TC Try.prog 74 [rrowV (op, 82, O, F, nm), .int .u32 w] m Q := by
  change Q (insV ⟨op, fl w 21 5, 0, 0, 0, sxt 16 w * 4 % 2 ^ 32⟩) m at h
  refine TC_fn mixed Try.func74 rfl Try.ntmps74 rfl (by decide) (by simp) ?_
  refine wpc_st fun K hK => ?_
  simp -dsimp [rrowV, rrowVal]
  refine hK _ _ ?_
  clear hK K
  refine wpc_st fun K hK => ?_
  simp -dsimp
  refine hK _ _ ?_
  clear hK K
  refine wpc_st fun K hK => ?_
  simp -dsimp
  refine rField_tc w hw 21 5 (by decide) (by decide) _ _ ?_
  simp -dsimp [fl_i64]
  refine rField_tc w hw 16 5 (by decide) (by decide) _ _ ?_
  simp -dsimp [fl_i64]
  refine rField_tc w hw 11 5 (by decide) (by decide) _ _ ?_
  simp -dsimp [fl_i64]
  refine hK _ _ ?_
  clear hK K
  refine wpc_st fun K hK => ?_
  simp -dsimp
  refine rSext16_tc w _ _ ?_
  simp -dsimp
  refine hK _ _ ?_
  clear hK K
  refine env_cut fun env he => ?_
  have e1 := he 1
  have e2 := he 2
  have e4 := he 4
  have e5 := he 5
  have e6 := he 6
  have e7 := he 7
  have e8 := he 8
  have e9 := he 9
  clear he
  simp -dsimp at e1 e2 e4 e5 e6 e7 e8 e9
  refine wpc_sq fun K hK => ?_
  simp -dsimp [and16 w hw, times4, fl_i64, e1, e2, e4, e5, e6, e7, e8, e9]
  refine hK _ _ ?_
  clear hK K
  simp -dsimp [e1, e2, e4, e5, e6, e7, e8, e9]
  exact fin_ret (v := insV _) (by simp -dsimp [e4]; rfl) (leave_pure (by simp [insV]) h)

set_option maxRecDepth 100000 in
set_option maxHeartbeats 4000000 in
theorem cut_74 (w : Nat) (hw : w < 2 ^ 32) (op O F : Nat) (nm : ByteArray) (m : Mem) (Q) (h : Q (insV (cutQ op 74 w)) m) : TC Try.prog 74 [rrowV (op, 74, O, F, nm), .int .u32 w] m Q := by
  change Q (insV ⟨op, 0, 0, 0, 0, fl w 0 26 * 4 % 2 ^ 32⟩) m at h
  refine TC_fn mixed Try.func74 rfl Try.ntmps74 rfl (by decide) (by simp) ?_
  refine wpc_st fun K hK => ?_
  simp -dsimp [rrowV, rrowVal]
  refine hK _ _ ?_
  clear hK K
  refine wpc_st fun K hK => ?_
  simp -dsimp
  refine hK _ _ ?_
  clear hK K
  refine wpc_st fun K hK => ?_
  simp -dsimp
  refine rField_tc w hw 21 5 (by decide) (by decide) _ _ ?_
  simp -dsimp [fl_i64]
  refine rField_tc w hw 16 5 (by decide) (by decide) _ _ ?_
  simp -dsimp [fl_i64]
  refine rField_tc w hw 11 5 (by decide) (by decide) _ _ ?_
  simp -dsimp [fl_i64]
  refine hK _ _ ?_
  clear hK K
  refine wpc_st fun K hK => ?_
  simp -dsimp
  refine rSext16_tc w _ _ ?_
  simp -dsimp
  refine hK _ _ ?_
  clear hK K
  refine env_cut fun env he => ?_
  have e1 := he 1
  have e2 := he 2
  have e4 := he 4
  have e5 := he 5
  have e6 := he 6
  have e7 := he 7
  have e8 := he 8
  have e9 := he 9
  clear he
  simp -dsimp at e1 e2 e4 e5 e6 e7 e8 e9
  refine wpc_sq fun K hK => ?_
  simp -dsimp [and16 w hw, times4, fl_i64, e1, e2, e4, e5, e6, e7, e8, e9]
  refine rField_tc w hw 0 26 (by decide) (by decide) _ _ ?_
  simp -dsimp [and16 w hw, times4, fl_i64, e1, e2, e4, e5, e6, e7, e8, e9]
  refine hK _ _ ?_
  clear hK K
  simp -dsimp [e1, e2, e4, e5, e6, e7, e8, e9]
  exact fin_ret (v := insV _) (by simp -dsimp [e4]; rfl) (leave_pure (by simp [insV]) h)

end Go.Lm
/- calqueref08.fits, cut: joined; Decode, Name. -/
set_option linter.unusedSimpArgs false
set_option linter.unusedVariables false
namespace Go.Lm
open Go.Proofs

def okForm (f : Nat) : Bool := [68, 72, 77, 70, 76, 71, 84, 67, 88, 89, 73, 85, 86, 80, 66, 90, 82, 74].contains f
theorem okForm_cases {f : Nat} (h : okForm f = true) : f = 68 ∨ f = 72 ∨ f = 77 ∨ f = 70 ∨ f = 76 ∨ f = 71 ∨ f = 84 ∨ f = 67 ∨ f = 88 ∨ f = 89 ∨ f = 73 ∨ f = 85 ∨ f = 86 ∨ f = 80 ∨ f = 66 ∨ f = 90 ∨ f = 82 ∨ f = 74 := by
  simpa [okForm] using h

theorem fits_tc (r : RRow) (hr : okForm r.2.1 = true) (w : Nat) (hw : w < 2 ^ 32) (m : Mem) (Q) (h : Q (.bool (fitQ r w)) m) : TC Try.prog 73 [rrowV r, .int .u32 w] m Q := by
  obtain ⟨op, form, O, F, nm⟩ := r
  rcases okForm_cases hr with rfl | rfl | rfl | rfl | rfl | rfl | rfl | rfl | rfl | rfl | rfl | rfl | rfl | rfl | rfl | rfl | rfl | rfl
  · exact fits_68 w hw op O F nm m Q h
  · exact fits_72 w hw op O F nm m Q h
  · exact fits_77 w hw op O F nm m Q h
  · exact fits_70 w hw op O F nm m Q h
  · exact fits_76 w hw op O F nm m Q h
  · exact fits_71 w hw op O F nm m Q h
  · exact fits_84 w hw op O F nm m Q h
  · exact fits_67 w hw op O F nm m Q h
  · exact fits_88 w hw op O F nm m Q h
  · exact fits_89 w hw op O F nm m Q h
  · exact fits_73 w hw op O F nm m Q h
  · exact fits_85 w hw op O F nm m Q h
  · exact fits_86 w hw op O F nm m Q h
  · exact fits_80 w hw op O F nm m Q h
  · exact fits_66 w hw op O F nm m Q h
  · exact fits_90 w hw op O F nm m Q h
  · exact fits_82 w hw op O F nm m Q h
  · exact fits_74 w hw op O F nm m Q h

theorem cut_tc (r : RRow) (hr : okForm r.2.1 = true) (w : Nat) (hw : w < 2 ^ 32) (m : Mem) (Q) (h : Q (insV (cutQ r.1 r.2.1 w)) m) : TC Try.prog 74 [rrowV r, .int .u32 w] m Q := by
  obtain ⟨op, form, O, F, nm⟩ := r
  rcases okForm_cases hr with rfl | rfl | rfl | rfl | rfl | rfl | rfl | rfl | rfl | rfl | rfl | rfl | rfl | rfl | rfl | rfl | rfl | rfl
  · exact cut_68 w hw op O F nm m Q h
  · exact cut_72 w hw op O F nm m Q h
  · exact cut_77 w hw op O F nm m Q h
  · exact cut_70 w hw op O F nm m Q h
  · exact cut_76 w hw op O F nm m Q h
  · exact cut_71 w hw op O F nm m Q h
  · exact cut_84 w hw op O F nm m Q h
  · exact cut_67 w hw op O F nm m Q h
  · exact cut_88 w hw op O F nm m Q h
  · exact cut_89 w hw op O F nm m Q h
  · exact cut_73 w hw op O F nm m Q h
  · exact cut_85 w hw op O F nm m Q h
  · exact cut_86 w hw op O F nm m Q h
  · exact cut_80 w hw op O F nm m Q h
  · exact cut_66 w hw op O F nm m Q h
  · exact cut_90 w hw op O F nm m Q h
  · exact cut_82 w hw op O F nm m Q h
  · exact cut_74 w hw op O F nm m Q h

def noRRow : RRow := (0, 68, 0, 0, .empty)
def rrowK (k : Nat) : RRow := (refTab[k]?).getD noRRow
theorem refA_at (k : Nat) (hk : k < 69) : refA.extract (k * 5) (k * 5 + 5) = (rrowVal (rrowK k)).toArray := by
  have := flat_extract rrowVal 5 (fun _ => rfl) refTab k hk
  rw [rrowK, List.getElem?_eq_getElem hk]
  exact this
theorem rrowK_form (k : Nat) : okForm (rrowK k).2.1 = true := by
  have h : refTab.all (fun r => okForm r.2.1) = true := by kernel_rfl
  unfold rrowK
  cases hk : refTab[k]? with
  | none => rfl
  | some r => exact List.all_eq_true.1 h r (List.mem_of_getElem? hk)
theorem rrowK_eq (k : Nat) (hk : k < refTab.length) : rrowK k = refTab[k] := by
  rw [rrowK, List.getElem?_eq_getElem hk]; rfl
theorem ref_some {p : RRow → Bool} {k : Nat} (hk : k < 69) (hm : p (rrowK k) = true) (hno : ∀ j, j < k → p (rrowK j) = false) : refTab.find? p = some (rrowK k) := by
  rw [List.find?_eq_some_iff_getElem]
  refine ⟨hm, k, hk, (rrowK_eq k _).symm, fun j hj => ?_⟩
  rw [← rrowK_eq j, hno j hj]; rfl
theorem ref_none {p : RRow → Bool} (hno : ∀ j, j < 69 → p (rrowK j) = false) : refTab.find? p = none := by
  rw [List.find?_eq_none]
  intro r hr
  obtain ⟨j, hj, rfl⟩ := List.getElem_of_mem hr
  rw [← rrowK_eq j, hno j hj]; simp

def rofQ (w : Nat) : Option RRow := refTab.find? fun r => fitQ r w
def rdecQ (w : Nat) : InsM := match rofQ w with | none => noIns | some r => cutQ r.1 r.2.1 w

def rdecI (w : Nat) (m : Mem) (n : Nat) (env : Env) (m' : Mem) : Prop :=
  ∃ k, k ≤ 69 ∧ n = 69 - k ∧ (∀ j, j < k → fitQ (rrowK j) w = false) ∧ elook env 0 = some (.int .u32 w) ∧ elook env 2 = some (.pointer (some ⟨m.top, 0, none⟩)) ∧ elook env 3 = some (.pointer (some ⟨m.top + 1, 0, none⟩)) ∧
  elook env 4 = some (.int .i64 k) ∧ m' = { base := m.get, n := m.top, loc := [.cells false 0 #[.int .i64 0, .int .i64 0, .int .i64 0, .int .i64 0, .int .i64 0, .int .u32 0], .cells false 0 refA] }

set_option maxRecDepth 100000 in
set_option maxHeartbeats 4000000 in
theorem rdec_tc (w : Nat) (hw : w < 2 ^ 32) (m : Mem) (Q) (h : Q (insV (rdecQ w)) m) : TC Try.prog 26 [.int .u32 w] m Q := by
  refine TC_fn mixed Try.func26 rfl Try.ntmps26 rfl (by decide) (by simp) ?_
  refine wpc_st fun K hK => ?_
  simp -dsimp
  refine hK _ _ ?_
  clear hK K
  refine wpc_st fun K hK => ?_
  simp -dsimp
  refine table_tc _ _ ?_
  simp -dsimp
  refine hK _ _ ?_
  clear hK K
  refine wpc_mid (fun env m' => ∃ n, rofQ w = none ∧ rdecI w m n env m') ?_ ?_
  · refine wpc_st fun K hK => ?_
    simp -dsimp
    refine hK _ _ ?_
    clear hK K
    simp -dsimp
    refine loop_by (rdecI w m) 69 ?_ ?_
    · refine ⟨0, by decide, rfl, fun j hj => absurd hj (Nat.not_lt_zero _), ?_⟩
      simp -dsimp
    rintro n env m' ⟨k, hk, rfl, hno, e0, e2, e3, e4, rfl⟩
    by_cases hkk : k < 69
    · have hkk' : (k : Int) < 69 := by omega
      have hb : k * 5 + 5 ≤ 345 := by omega
      simp -dsimp [e0, e2, e3, e4, hkk', hb, refA_at k hkk]
      refine fits_tc (rrowK k) (rrowK_form k) w hw _ _ ?_
      simp -dsimp [e0, e2, e3, e4, hkk', hb, refA_at k hkk]
      by_cases hm : fitQ (rrowK k) w = true
      · rw [if_pos hm]
        refine cut_tc (rrowK k) (rrowK_form k) w hw _ _ ?_
        simp -dsimp [e0, e2, e3, e4, insV]
        refine fin_ret (v := insV (cutQ (rrowK k).1 (rrowK k).2.1 w)) (by simp -dsimp [e2]; rfl) (leave_pure (by simp [insV]) ?_)
        have : rofQ w = some (rrowK k) := ref_some hkk hm hno
        rw [rdecQ, this] at h
        exact h
      · rw [if_neg hm]
        refine ⟨69 - (k + 1), by omega, k + 1, by omega, rfl, ?_, ?_⟩
        · intro j hj
          by_cases hjk : j = k
          · subst hjk; simpa using hm
          · exact hno j (by omega)
        simp -dsimp [e0, e2, e3, e4]
        exact wI64 (by omega) (by omega)
    · have hk9 : k = 69 := by omega
      have hkk' : ¬ (k : Int) < 69 := by omega
      simp -dsimp [e0, e2, e3, e4, hkk']
      refine ⟨ref_none (hk9 ▸ hno), 0, 69, by decide, rfl, hk9 ▸ hno, ?_⟩
      simp -dsimp [e0, e2, e3, e4, hk9]
  rintro env m' ⟨n, hno, k, hk, rfl, -, e0, e2, e3, e4, rfl⟩
  simp -dsimp [e2]
  refine fin_ret (v := insV noIns) (by simp -dsimp [e2]; rfl) (leave_pure (by simp [insV]) ?_)
  rw [rdecQ, hno] at h
  exact h
end Go.Lm
/- calqueref08.Name. -/
set_option linter.unusedSimpArgs false
set_option linter.unusedVariables false
namespace Go.Lm
open Go.Proofs

theorem refA_get (k j : Nat) (hk : k < 69) (hj : j < 5) : refA[k * 5 + j]? = (rrowVal (rrowK k))[j]? := by
  have h := congrArg (fun a : Array Value => a[j]?) (refA_at k hk)
  simp only [List.getElem?_toArray] at h
  rw [← h, Array.getElem?_extract]
  rw [if_pos (by rw [refA_size]; omega)]
theorem refA_op (k : Nat) (hk : k < 69) : refA[k * 5]? = some (.int .i64 ((rrowK k).1 : Nat)) := refA_get k 0 hk (by decide)
theorem refA_nm (k : Nat) (hk : k < 69) : refA[k * 5 + 4]? = some (.string (rrowK k).2.2.2.2) := refA_get k 4 hk (by decide)

def rfindQ (n : Int) : Option RRow := refTab.find? fun r => decide ((r.1 : Int) = n)
def rnameQ (n : Int) : ByteArray := match rfindQ n with | none => ⟨#[]⟩ | some r => r.2.2.2.2

def rnameI (n : Int) (m : Mem) (f : Nat) (env : Env) (m' : Mem) : Prop :=
  ∃ k, k ≤ 69 ∧ f = 69 - k ∧ (∀ j, j < k → decide (((rrowK j).1 : Int) = n) = false) ∧ elook env 0 = some (.int .i64 n) ∧ elook env 3 = some (.pointer (some ⟨m.top, 0, none⟩)) ∧
  elook env 4 = some (.int .i64 k) ∧ m' = { base := m.get, n := m.top, loc := [.cells false 0 refA] }

set_option maxRecDepth 100000 in
set_option maxHeartbeats 4000000 in
theorem rname_tc (n : Int) (m : Mem) (Q) (h : Q (.string (rnameQ n)) m) : TC Try.prog 27 [.int .i64 n] m Q := by
  refine TC_fn mixed Try.func27 rfl Try.ntmps27 rfl (by decide) (by simp) ?_
  refine wpc_st fun K hK => ?_
  simp -dsimp
  refine hK _ _ ?_
  clear hK K
  refine wpc_st fun K hK => ?_
  simp -dsimp
  refine table_tc _ _ ?_
  simp -dsimp
  refine hK _ _ ?_
  clear hK K
  refine wpc_mid (fun env m' => ∃ f, rfindQ n = none ∧ rnameI n m f env m') ?_ ?_
  · refine wpc_st fun K hK => ?_
    simp -dsimp
    refine hK _ _ ?_
    clear hK K
    simp -dsimp
    refine loop_by (rnameI n m) 69 ?_ ?_
    · refine ⟨0, by decide, rfl, fun j hj => absurd hj (Nat.not_lt_zero _), ?_⟩
      simp -dsimp
    rintro f env m' ⟨k, hk, rfl, hno, e0, e3, e4, rfl⟩
    by_cases hkk : k < 69
    · have hkk' : (k : Int) < 69 := by omega
      have hb : k * 5 + 5 ≤ 345 := by omega
      by_cases hm : ((rrowK k).1 : Int) = n
      · subst hm
        simp -dsimp [e0, e3, e4, hkk', hb, refA_op k hkk, refA_nm k hkk]
        refine fin_ret rfl (leave_pure (by simp) ?_)
        have : rfindQ ((rrowK k).1 : Int) = some (rrowK k) := ref_some (p := fun r => decide ((r.1 : Int) = ((rrowK k).1 : Int))) hkk (by simp) hno
        rw [rnameQ, this] at h
        exact h
      · simp -dsimp [e0, e3, e4, hkk', hb, refA_op k hkk, refA_nm k hkk, hm]
        refine ⟨69 - (k + 1), by omega, k + 1, by omega, rfl, ?_, ?_⟩
        · intro j hj
          by_cases hjk : j = k
          · subst hjk; simpa using hm
          · exact hno j (by omega)
        simp -dsimp [e0, e3, e4]
        exact wI64 (by omega) (by omega)
    · have hk9 : k = 69 := by omega
      have hkk' : ¬ (k : Int) < 69 := by omega
      simp -dsimp [e0, e3, e4, hkk']
      refine ⟨ref_none (p := fun r => decide ((r.1 : Int) = n)) (hk9 ▸ hno), 0, 69, by decide, rfl, hk9 ▸ hno, ?_⟩
      simp -dsimp [e0, e3, e4, hk9]
  rintro env m' ⟨f, hno, k, hk, rfl, -, e0, e3, e4, rfl⟩
  simp -dsimp
  refine fin_ret rfl (leave_pure (by simp) ?_)
  rw [rnameQ, hno] at h
  exact h
end Go.Lm
/- calqueref08.word. -/
set_option linter.unusedSimpArgs false
set_option linter.unusedVariables false
namespace Go.Lm
open Go.Proofs

/-- an instruction whose fields are any whole numbers -/
structure InsZ where
  op : Int
  s : Int
  t : Int
  d : Int
  a : Int
  imm : Nat

def inI64 (x : Int) : Prop := -9223372036854775808 ≤ x ∧ x ≤ 9223372036854775807
structure InsZ.ok (i : InsZ) : Prop where
  op : inI64 i.op
  s : inI64 i.s
  t : inI64 i.t
  d : inI64 i.d
  a : inI64 i.a
  imm : i.imm < 2 ^ 32
def insZV (i : InsZ) : Value := .agg #[.int .i64 i.op, .int .i64 i.s, .int .i64 i.t, .int .i64 i.d, .int .i64 i.a, .int .u32 i.imm]

/-- the lowest five bits, k places up -/
def sh (x : Int) (k : Nat) : Nat := (x % 32).toNat * 2 ^ k
theorem sh_lt (x : Int) (k : Nat) : sh x k < 32 * 2 ^ k := by
  unfold sh
  have : (x % 32).toNat < 32 := by omega
  exact Nat.mul_lt_mul_of_pos_right this (Nat.two_pow_pos k)

theorem sh_le (x : Int) (k : Nat) : sh x k ≤ 31 * 2 ^ k := by
  unfold sh
  have : (x % 32).toNat ≤ 31 := by omega
  exact Nat.mul_le_mul_right _ this

theorem and31 (x : Int) : iand .i64 x 31 = ((sh x 0 : Nat) : Int) := by
  unfold iand sh
  have e1 : (BitVec.ofInt IntKind.i64.bits x).toNat = (x % 18446744073709551616).toNat := by
    rw [BitVec.toNat_ofInt]; rfl
  have e2 : (BitVec.ofInt IntKind.i64.bits 31).toNat = 2 ^ 5 - 1 := rfl
  rw [BitVec.toNat_and, e1, e2, Nat.and_two_pow_sub_one_eq_mod]
  have : (x % 18446744073709551616).toNat % 2 ^ 5 = (x % 32).toNat * 2 ^ 0 := by omega
  rw [this]
  exact wI64 (by omega) (by omega)
theorem wrap_sh0 (x : Int) : IntKind.u32.wrap ((sh x 0 : Nat) : Int) = ((sh x 0 : Nat) : Int) := by
  have := sh_lt x 0
  exact wU32 (by omega) (by omega)
theorem shl_sh (x : Int) (k : Nat) (hk : k ≤ 26) : ishl .u32 ((sh x 0 : Nat) : Int) ((k : Nat) : Int) = ((sh x k : Nat) : Int) := by
  rw [ishl_nat .u32 (by simp; omega), wrap_u32_nat]
  have h1 : sh x 0 * 2 ^ k = sh x k := by unfold sh; rw [Nat.pow_zero, Nat.mul_one]
  have h2 := sh_lt x k
  have h3 : 2 ^ k ≤ 2 ^ 26 := Nat.pow_le_pow_right (by decide) hk
  rw [h1, Nat.mod_eq_of_lt (by omega)]
theorem shl21 (x : Int) : ishl .u32 ((sh x 0 : Nat) : Int) 21 = ((sh x 21 : Nat) : Int) := shl_sh x 21 (by decide)
theorem shl16 (x : Int) : ishl .u32 ((sh x 0 : Nat) : Int) 16 = ((sh x 16 : Nat) : Int) := shl_sh x 16 (by decide)
theorem shl11 (x : Int) : ishl .u32 ((sh x 0 : Nat) : Int) 11 = ((sh x 11 : Nat) : Int) := shl_sh x 11 (by decide)
theorem shl6 (x : Int) : ishl .u32 ((sh x 0 : Nat) : Int) 6 = ((sh x 6 : Nat) : Int) := shl_sh x 6 (by decide)


theorem shr2 (x : Nat) : ishr .u32 (x : Int) 2 = ((x / 4 : Nat) : Int) := ishr_nat .u32 (a := x) (n := 2) (by decide)
theorem wrapU (x : Int) : IntKind.u32.wrap x = x % 4294967296 := by simp [IntKind.wrap, IntKind.bits, IntKind.signed]
theorem shlU (x : Int) (k : Nat) (h : k ≤ 32 := by decide) : ishl .u32 x (k : Int) = (x * 2 ^ k) % 4294967296 := by
  unfold ishl
  rw [wrapU, Int.toNat_natCast, show min k IntKind.u32.bits = k from Nat.min_eq_left h]
theorem shl26U (x : Int) : ishl .u32 x 26 = (x * 67108864) % 4294967296 := shlU x 26
theorem shl16U (x : Int) : ishl .u32 x 16 = (x * 65536) % 4294967296 := shlU x 16
theorem shl6U (x : Int) : ishl .u32 x 6 = (x * 64) % 4294967296 := shlU x 6
theorem maskU (x n : Nat) (hx : x < 2 ^ 32) (hn : n ≤ 32 := by decide) : iand .u32 (x : Int) ((2 ^ n - 1 : Nat) : Int) = ((x % 2 ^ n : Nat) : Int) := iand_mask .u32 n hx rfl hn
theorem mask10 (x : Nat) (hx : x < 2 ^ 32) : iand .u32 (x : Int) 1023 = ((x % 1024 : Nat) : Int) := maskU x 10 hx
theorem mask20 (x : Nat) (hx : x < 2 ^ 32) : iand .u32 (x : Int) 1048575 = ((x % 1048576 : Nat) : Int) := maskU x 20 hx
theorem mask16 (x : Nat) (hx : x < 2 ^ 32) : iand .u32 (x : Int) 65535 = ((x % 65536 : Nat) : Int) := maskU x 16 hx
theorem mask26 (x : Nat) (hx : x < 2 ^ 32) : iand .u32 (x : Int) 67108863 = ((x % 67108864 : Nat) : Int) := maskU x 26 hx

/-- a form's word, by the fields of an instruction -/
def wordQ (form O F : Nat) (i : InsZ) : Nat :=
  match form with
  | 84 => O * 67108864 + sh i.s 21 + sh i.t 16 + (i.imm % 1024) * 64 + F
  | 67 => O * 67108864 + (i.imm % 1048576) * 64 + F
  | 73 => O * 67108864 + sh i.s 21 + sh i.t 16 + (i.imm % 65536)
  | 85 => O * 67108864 + sh i.s 21 + sh i.t 16 + (i.imm % 65536)
  | 86 => O * 67108864 + sh i.s 21 + sh i.t 16 + (i.imm % 65536)
  | 80 => O * 67108864 + sh i.s 21 + sh i.t 16 + (i.imm % 65536)
  | 66 => O * 67108864 + sh i.s 21 + sh i.t 16 + (i.imm / 4 % 65536)
  | 90 => O * 67108864 + sh i.s 21 + sh i.t 16 + (i.imm / 4 % 65536)
  | 82 => O * 67108864 + sh i.s 21 + F * 65536 + (i.imm / 4 % 65536)
  | 74 => O * 67108864 + (i.imm / 4 % 67108864)
  | _ => O * 67108864 + sh i.s 21 + sh i.t 16 + sh i.d 11 + sh i.a 6 + F

set_option maxRecDepth 100000 in
set_option maxHeartbeats 4000000 in
theorem word_84 (i : InsZ) (hi : i.imm < 2 ^ 32) (op O F : Nat) (hO : O < 64) (hF : F < 64) (nm : ByteArray) (m : Mem) (Q) (h : Q (.int .u32 ((wordQ 84 O F i : Nat) : Int)) m) : TC Try.prog 72 [rrowV (op, 84, O, F, nm), insZV i] m Q := by
  refine TC_fn mixed Try.func72 rfl Try.ntmps72 rfl (by decide) (by simp) ?_
  refine wpc_st fun K hK => ?_
  simp -dsimp [rrowV, rrowVal, insZV]
  refine hK _ _ ?_
  clear hK K
  refine wpc_st fun K hK => ?_
  simp -dsimp
  refine hK _ _ ?_
  clear hK K
  refine wpc_sq fun K hK => ?_
  simp -dsimp
  refine draw_go 23 [0, 1, 3, 7, 15, 0, 32, 96, 224, 480, 0, 1024, 3072, 7168, 15360, 0, 32768, 98304, 229376, 491520, 31, 1049599, 3178495, 8388607] (by kernel_rfl) (by kernel_rfl) ?_
  simp -dsimp [and31, wrap_sh0, shl21, shl16, shl11, shl6]
  refine hK _ _ ?_
  clear hK K
  refine env_cut fun env he => ?_
  have e3 := he 3
  have e2 := he 2
  have e5 := he 5
  have e6 := he 6
  have e7 := he 7
  have e8 := he 8
  have e9 := he 9
  clear he
  simp -dsimp at e2 e3 e5 e6 e7 e8 e9
  have key : ∀ x : Int, x = ((O * 67108864 + sh i.s 21 + sh i.t 16 + (i.imm % 1024) * 64 + F : Nat) : Int) → Q (.int .u32 x) m := fun x e => by rw [e]; exact h
  have bs := sh_le i.s 21
  have bt := sh_le i.t 16
  have bd := sh_le i.d 11
  have ba := sh_le i.a 6
  have hi4 : i.imm / 4 < 2 ^ 32 := by omega
  simp -dsimp [e2, e3, e5, e6, e7, e8, e9]
  refine fin_ret rfl (leave_pure (by simp) (key _ ?_))
  simp only [shr2, mask10 _ hi, mask20 _ hi, mask16 _ hi, mask16 _ hi4, mask26 _ hi4, shl26U, shl16U, shl6U, wrapU]
  omega

set_option maxRecDepth 100000 in
set_option maxHeartbeats 4000000 in
theorem word_67 (i : InsZ) (hi : i.imm < 2 ^ 32) (op O F : Nat) (hO : O < 64) (hF : F < 64) (nm : ByteArray) (m : Mem) (Q) (h : Q (.int .u32 ((wordQ 67 O F i : Nat) : Int)) m) : TC Try.prog 72 [rrowV (op, 67, O, F, nm), insZV i] m Q := by
  refine TC_fn mixed Try.func72 rfl Try.ntmps72 rfl (by decide) (by simp) ?_
  refine wpc_st fun K hK => ?_
  simp -dsimp [rrowV, rrowVal, insZV]
  refine hK _ _ ?_
  clear hK K
  refine wpc_st fun K hK => ?_
  simp -dsimp
  refine hK _ _ ?_
  clear hK K
  refine wpc_sq fun K hK => ?_
  simp -dsimp
  refine draw_go 23 [0, 1, 3, 7, 15, 0, 32, 96, 224, 480, 0, 1024, 3072, 7168, 15360, 0, 32768, 98304, 229376, 491520, 31, 1049599, 3178495, 8388607] (by kernel_rfl) (by kernel_rfl) ?_
  simp -dsimp [and31, wrap_sh0, shl21, shl16, shl11, shl6]
  refine hK _ _ ?_
  clear hK K
  refine env_cut fun env he => ?_
  have e3 := he 3
  have e2 := he 2
  have e5 := he 5
  have e6 := he 6
  have e7 := he 7
  have e8 := he 8
  have e9 := he 9
  clear he
  simp -dsimp at e2 e3 e5 e6 e7 e8 e9
  have key : ∀ x : Int, x = ((O * 67108864 + (i.imm % 1048576) * 64 + F : Nat) : Int) → Q (.int .u32 x) m := fun x e => by rw [e]; exact h
  have bs := sh_le i.s 21
  have bt := sh_le i.t 16
  have bd := sh_le i.d 11
  have ba := sh_le i.a 6
  have hi4 : i.imm / 4 < 2 ^ 32 := by omega
  simp -dsimp [e2, e3, e5, e6, e7, e8, e9]
  refine fin_ret rfl (leave_pure (by simp) (key _ ?_))
  simp only [shr2, mask10 _ hi, mask20 _ hi, mask16 _ hi, mask16 _ hi4, mask26 _ hi4, shl26U, shl16U, shl6U, wrapU]
  omega

set_option maxRecDepth 100000 in
set_option maxHeartbeats 4000000 in
theorem word_73 (i : InsZ) (hi : i.imm < 2 ^ 32) (op O F : Nat) (hO : O < 64) (hF : F < 64) (nm : ByteArray) (m : Mem) (Q) (h : Q (.int .u32 ((wordQ 73 O F i : Nat) : Int)) m) : TC Try.prog 72 [rrowV (op, 73, O, F, nm), insZV i] m Q := by
  refine TC_fn mixed Try.func72 rfl Try.ntmps72 rfl (by decide) (by simp) ?_
  refine wpc_st fun K hK => ?_
  simp -dsimp [rrowV, rrowVal, insZV]
  refine hK _ _ ?_
  clear hK K
  refine wpc_st fun K hK => ?_
  simp -dsimp
  refine hK _ _ ?_
  clear hK K
  refine wpc_sq fun K hK => ?_
  simp -dsimp
  refine draw_go 23 [0, 1, 3, 7, 15, 0, 32, 96, 224, 480, 0, 1024, 3072, 7168, 15360, 0, 32768, 98304, 229376, 491520, 31, 1049599, 3178495, 8388607] (by kernel_rfl) (by kernel_rfl) ?_
  simp -dsimp [and31, wrap_sh0, shl21, shl16, shl11, shl6]
  refine hK _ _ ?_
  clear hK K
  refine env_cut fun env he => ?_
  have e3 := he 3
  have e2 := he 2
  have e5 := he 5
  have e6 := he 6
  have e7 := he 7
  have e8 := he 8
  have e9 := he 9
  clear he
  simp -dsimp at e2 e3 e5 e6 e7 e8 e9
  have key : ∀ x : Int, x = ((O * 67108864 + sh i.s 21 + sh i.t 16 + (i.imm % 65536) : Nat) : Int) → Q (.int .u32 x) m := fun x e => by rw [e]; exact h
  have bs := sh_le i.s 21
  have bt := sh_le i.t 16
  have bd := sh_le i.d 11
  have ba := sh_le i.a 6
  have hi4 : i.imm / 4 < 2 ^ 32 := by omega
  simp -dsimp [e2, e3, e5, e6, e7, e8, e9]
  refine fin_ret rfl (leave_pure (by simp) (key _ ?_))
  simp only [shr2, mask10 _ hi, mask20 _ hi, mask16 _ hi, mask16 _ hi4, mask26 _ hi4, shl26U, shl16U, shl6U, wrapU]
  omega

set_option maxRecDepth 100000 in
set_option maxHeartbeats 4000000 in
theorem word_85 (i : InsZ) (hi : i.imm < 2 ^ 32) (op O F : Nat) (hO : O < 64) (hF : F < 64) (nm : ByteArray) (m : Mem) (Q) (h : Q (.int .u32 ((wordQ 85 O F i : Nat) : Int)) m) : TC Try.prog 72 [rrowV (op, 85, O, F, nm), insZV i] m Q := by
  refine TC_fn mixed Try.func72 rfl Try.ntmps72 rfl (by decide) (by simp) ?_
  refine wpc_st fun K hK => ?_
  simp -dsimp [rrowV, rrowVal, insZV]
  refine hK _ _ ?_
  clear hK K
  refine wpc_st fun K hK => ?_
  simp -dsimp
  refine hK _ _ ?_
  clear hK K
  refine wpc_sq fun K hK => ?_
  simp -dsimp
  refine draw_go 23 [0, 1, 3, 7, 15, 0, 32, 96, 224, 480, 0, 1024, 3072, 7168, 15360, 0, 32768, 98304, 229376, 491520, 31, 1049599, 3178495, 8388607] (by kernel_rfl) (by kernel_rfl) ?_
  simp -dsimp [and31, wrap_sh0, shl21, shl16, shl11, shl6]
  refine hK _ _ ?_
  clear hK K
  refine env_cut fun env he => ?_
  have e3 := he 3
  have e2 := he 2
  have e5 := he 5
  have e6 := he 6
  have e7 := he 7
  have e8 := he 8
  have e9 := he 9
  clear he
  simp -dsimp at e2 e3 e5 e6 e7 e8 e9
  have key : ∀ x : Int, x = ((O * 67108864 + sh i.s 21 + sh i.t 16 + (i.imm % 65536) : Nat) : Int) → Q (.int .u32 x) m := fun x e => by rw [e]; exact h
  have bs := sh_le i.s 21
  have bt := sh_le i.t 16
  have bd := sh_le i.d 11
  have ba := sh_le i.a 6
  have hi4 : i.imm / 4 < 2 ^ 32 := by omega
  simp -dsimp [e2, e3, e5, e6, e7, e8, e9]
  refine fin_ret rfl (leave_pure (by simp) (key _ ?_))
  simp only [shr2, mask10 _ hi, mask20 _ hi, mask16 _ hi, mask16 _ hi4, mask26 _ hi4, shl26U, shl16U, shl6U, wrapU]
  omega

set_option maxRecDepth 100000 in
set_option maxHeartbeats 4000000 in
theorem word_86 (i : InsZ) (hi : i.imm < 2 ^ 32) (op O F : Nat) (hO : O < 64) (hF : F < 64) (nm : ByteArray) (m : Mem) (Q) (h : Q (.int .u32 ((wordQ 86 O F i : Nat) : Int)) m) : TC Try.prog 72 [rrowV (op, 86, O, F, nm), insZV i] m Q := by
  refine TC_fn mixed Try.func72 rfl Try.ntmps72 rfl (by decide) (by simp) ?_
  refine wpc_st fun K hK => ?_
  simp -dsimp [rrowV, rrowVal, insZV]
  refine hK _ _ ?_
  clear hK K
  refine wpc_st fun K hK => ?_
  simp -dsimp
  refine hK _ _ ?_
  clear hK K
  refine wpc_sq fun K hK => ?_
  simp -dsimp
  refine draw_go 23 [0, 1, 3, 7, 15, 0, 32, 96, 224, 480, 0, 1024, 3072, 7168, 15360, 0, 32768, 98304, 229376, 491520, 31, 1049599, 3178495, 8388607] (by kernel_rfl) (by kernel_rfl) ?_
  simp -dsimp [and31, wrap_sh0, shl21, shl16, shl11, shl6]
  refine hK _ _ ?_
  clear hK K
  refine env_cut fun env he => ?_
  have e3 := he 3
  have e2 := he 2
  have e5 := he 5
  have e6 := he 6
  have e7 := he 7
  have e8 := he 8
  have e9 := he 9
  clear he
  simp -dsimp at e2 e3 e5 e6 e7 e8 e9
  have key : ∀ x : Int, x = ((O * 67108864 + sh i.s 21 + sh i.t 16 + (i.imm % 65536) : Nat) : Int) → Q (.int .u32 x) m := fun x e => by rw [e]; exact h
  have bs := sh_le i.s 21
  have bt := sh_le i.t 16
  have bd := sh_le i.d 11
  have ba := sh_le i.a 6
  have hi4 : i.imm / 4 < 2 ^ 32 := by omega
  simp -dsimp [e2, e3, e5, e6, e7, e8, e9]
  refine fin_ret rfl (leave_pure (by simp) (key _ ?_))
  simp only [shr2, mask10 _ hi, mask20 _ hi, mask16 _ hi, mask16 _ hi4, mask26 _ hi4, shl26U, shl16U, shl6U, wrapU]
  omega

set_option maxRecDepth 100000 in
set_option maxHeartbeats 4000000 in
theorem word_80 (i : InsZ) (hi : i.imm < 2 ^ 32) (op O F : Nat) (hO : O < 64) (hF : F < 64) (nm : ByteArray) (m : Mem) (Q) (h : Q (.int .u32 ((wordQ 80 O F i : Nat) : Int)) m) : TC Try.prog 72 [rrowV (op, 80, O, F, nm), insZV i] m Q := by
  refine TC_fn mixed Try.func72 rfl Try.ntmps72 rfl (by decide) (by simp) ?_
  refine wpc_st fun K hK => ?_
  simp -dsimp [rrowV, rrowVal, insZV]
  refine hK _ _ ?_
  clear hK K
  refine wpc_st fun K hK => ?_
  simp -dsimp
  refine hK _ _ ?_
  clear hK K
  refine wpc_sq fun K hK => ?_
  simp -dsimp
  refine draw_go 23 [0, 1, 3, 7, 15, 0, 32, 96, 224, 480, 0, 1024, 3072, 7168, 15360, 0, 32768, 98304, 229376, 491520, 31, 1049599, 3178495, 8388607] (by kernel_rfl) (by kernel_rfl) ?_
  simp -dsimp [and31, wrap_sh0, shl21, shl16, shl11, shl6]
  refine hK _ _ ?_
  clear hK K
  refine env_cut fun env he => ?_
  have e3 := he 3
  have e2 := he 2
  have e5 := he 5
  have e6 := he 6
  have e7 := he 7
  have e8 := he 8
  have e9 := he 9
  clear he
  simp -dsimp at e2 e3 e5 e6 e7 e8 e9
  have key : ∀ x : Int, x = ((O * 67108864 + sh i.s 21 + sh i.t 16 + (i.imm % 65536) : Nat) : Int) → Q (.int .u32 x) m := fun x e => by rw [e]; exact h
  have bs := sh_le i.s 21
  have bt := sh_le i.t 16
  have bd := sh_le i.d 11
  have ba := sh_le i.a 6
  have hi4 : i.imm / 4 < 2 ^ 32 := by omega
  simp -dsimp [e2, e3, e5, e6, e7, e8, e9]
  refine fin_ret rfl (leave_pure (by simp) (key _ ?_))
  simp only [shr2, mask10 _ hi, mask20 _ hi, mask16 _ hi, mask16 _ hi4, mask26 _ hi4, shl26U, shl16U, shl6U, wrapU]
  omega

set_option maxRecDepth 100000 in
set_option maxHeartbeats 4000000 in
theorem word_66 (i : InsZ) (hi : i.imm < 2 ^ 32) (op O F : Nat) (hO : O < 64) (hF : F < 64) (nm : ByteArray) (m : Mem) (Q) (h : Q (.int .u32 ((wordQ 66 O F i : Nat) : Int)) m) : TC Try.prog 72 [rrowV (op, 66, O, F, nm), insZV i] m Q := by
  refine TC_fn mixed Try.func72 rfl Try.ntmps72 rfl (by decide) (by simp) ?_
  refine wpc_st fun K hK => ?_
  simp -dsimp [rrowV, rrowVal, insZV]
  refine hK _ _ ?_
  clear hK K
  refine wpc_st fun K hK => ?_
  simp -dsimp
  refine hK _ _ ?_
  clear hK K
  refine wpc_sq fun K hK => ?_
  simp -dsimp
  refine draw_go 23 [0, 1, 3, 7, 15, 0, 32, 96, 224, 480, 0, 1024, 3072, 7168, 15360, 0, 32768, 98304, 229376, 491520, 31, 1049599, 3178495, 8388607] (by kernel_rfl) (by kernel_rfl) ?_
  simp -dsimp [and31, wrap_sh0, shl21, shl16, shl11, shl6]
  refine hK _ _ ?_
  clear hK K
  refine env_cut fun env he => ?_
  have e3 := he 3
  have e2 := he 2
  have e5 := he 5
  have e6 := he 6
  have e7 := he 7
  have e8 := he 8
  have e9 := he 9
  clear he
  simp -dsimp at e2 e3 e5 e6 e7 e8 e9
  have key : ∀ x : Int, x = ((O * 67108864 + sh i.s 21 + sh i.t 16 + (i.imm / 4 % 65536) : Nat) : Int) → Q (.int .u32 x) m := fun x e => by rw [e]; exact h
  have bs := sh_le i.s 21
  have bt := sh_le i.t 16
  have bd := sh_le i.d 11
  have ba := sh_le i.a 6
  have hi4 : i.imm / 4 < 2 ^ 32 := by omega
  simp -dsimp [e2, e3, e5, e6, e7, e8, e9]
  refine fin_ret rfl (leave_pure (by simp) (key _ ?_))
  simp only [shr2, mask10 _ hi, mask20 _ hi, mask16 _ hi, mask16 _ hi4, mask26 _ hi4, shl26U, shl16U, shl6U, wrapU]
  omega

set_option maxRecDepth 100000 in
set_option maxHeartbeats 4000000 in
theorem word_90 (i : InsZ) (hi : i.imm < 2 ^ 32) (op O F : Nat) (hO : O < 64) (hF : F < 64) (nm : ByteArray) (m : Mem) (Q) (h : Q (.int .u32 ((wordQ 90 O F i : Nat) : Int)) m) : TC Try.prog 72 [rrowV (op, 90, O, F, nm), insZV i] m Q := by
  refine TC_fn mixed Try.func72 rfl Try.ntmps72 rfl (by decide) (by simp) ?_
  refine wpc_st fun K hK => ?_
  simp -dsimp [rrowV, rrowVal, insZV]
  refine hK _ _ ?_
  clear hK K
  refine wpc_st fun K hK => ?_
  simp -dsimp
  refine hK _ _ ?_
  clear hK K
  refine wpc_sq fun K hK => ?_
  simp -dsimp
  refine draw_go 23 [0, 1, 3, 7, 15, 0, 32, 96, 224, 480, 0, 1024, 3072, 7168, 15360, 0, 32768, 98304, 229376, 491520, 31, 1049599, 3178495, 8388607] (by kernel_rfl) (by kernel_rfl) ?_
  simp -dsimp [and31, wrap_sh0, shl21, shl16, shl11, shl6]
  refine hK _ _ ?_
  clear hK K
  refine env_cut fun env he => ?_
  have e3 := he 3
  have e2 := he 2
  have e5 := he 5
  have e6 := he 6
  have e7 := he 7
  have e8 := he 8
  have e9 := he 9
  clear he
  simp -dsimp at e2 e3 e5 e6 e7 e8 e9
  have key : ∀ x : Int, x = ((O * 67108864 + sh i.s 21 + sh i.t 16 + (i.imm / 4 % 65536) : Nat) : Int) → Q (.int .u32 x) m := fun x e => by rw [e]; exact h
  have bs := sh_le i.s 21
  have bt := sh_le i.t 16
  have bd := sh_le i.d 11
  have ba := sh_le i.a 6
  have hi4 : i.imm / 4 < 2 ^ 32 := by omega
  simp -dsimp [e2, e3, e5, e6, e7, e8, e9]
  refine fin_ret rfl (leave_pure (by simp) (key _ ?_))
  simp only [shr2, mask10 _ hi, mask20 _ hi, mask16 _ hi, mask16 _ hi4, mask26 _ hi4, shl26U, shl16U, shl6U, wrapU]
  omega

set_option maxRecDepth 100000 in
set_option maxHeartbeats 4000000 in
theorem word_82 (i : InsZ) (hi : i.imm < 2 ^ 32) (op O F : Nat) (hO : O < 64) (hF : F < 32) (nm : ByteArray) (m : Mem) (Q) (h : Q (.int .u32 ((wordQ 82 O F i : Nat) : Int)) m) : TC Try.prog 72 [rrowV (op, 82, O, F, nm), insZV i] m Q := by
  refine TC_fn mixed Try.func72 rfl Try.ntmps72 rfl (by decide) (by simp) ?_
  refine wpc_st fun K hK => ?_
  simp -dsimp [rrowV, rrowVal, insZV]
  refine hK _ _ ?_
  clear hK K
  refine wpc_st fun K hK => ?_
  simp -dsimp
  refine hK _ _ ?_
  clear hK K
  refine wpc_sq fun K hK => ?_
  simp -dsimp
  refine draw_go 23 [0, 1, 3, 7, 15, 0, 32, 96, 224, 480, 0, 1024, 3072, 7168, 15360, 0, 32768, 98304, 229376, 491520, 31, 1049599, 3178495, 8388607] (by kernel_rfl) (by kernel_rfl) ?_
  simp -dsimp [and31, wrap_sh0, shl21, shl16, shl11, shl6]
  refine hK _ _ ?_
  clear hK K
  refine env_cut fun env he => ?_
  have e3 := he 3
  have e2 := he 2
  have e5 := he 5
  have e6 := he 6
  have e7 := he 7
  have e8 := he 8
  have e9 := he 9
  clear he
  simp -dsimp at e2 e3 e5 e6 e7 e8 e9
  have key : ∀ x : Int, x = ((O * 67108864 + sh i.s 21 + F * 65536 + (i.imm / 4 % 65536) : Nat) : Int) → Q (.int .u32 x) m := fun x e => by rw [e]; exact h
  have bs := sh_le i.s 21
  have bt := sh_le i.t 16
  have bd := sh_le i.d 11
  have ba := sh_le i.a 6
  have hi4 : i.imm / 4 < 2 ^ 32 := by omega
  simp -dsimp [e2, e3, e5, e6, e7, e8, e9]
  refine fin_ret rfl (leave_pure (by simp) (key _ ?_))
  simp only [shr2, mask10 _ hi, mask20 _ hi, mask16 _ hi, mask16 _ hi4, mask26 _ hi4, shl26U, shl16U, shl6U, wrapU]
  omega

set_option maxRecDepth 100000 in
set_option maxHeartbeats 4000000 in
theorem word_74 (i : InsZ) (hi : i.imm < 2 ^ 32) (op O F : Nat) (hO : O < 64) (hF : F < 64) (nm : ByteArray) (m : Mem) (Q) (h : Q (.int .u32 ((wordQ 74 O F i : Nat) : Int)) m) : TC Try.prog 72 [rrowV (op, 74, O, F, nm), insZV i] m Q := by
  refine TC_fn mixed Try.func72 rfl Try.ntmps72 rfl (by decide) (by simp) ?_
  refine wpc_st fun K hK => ?_
  simp -dsimp [rrowV, rrowVal, insZV]
  refine hK _ _ ?_
  clear hK K
  refine wpc_st fun K hK => ?_
  simp -dsimp
  refine hK _ _ ?_
  clear hK K
  refine wpc_sq fun K hK => ?_
  simp -dsimp
  refine draw_go 23 [0, 1, 3, 7, 15, 0, 32, 96, 224, 480, 0, 1024, 3072, 7168, 15360, 0, 32768, 98304, 229376, 491520, 31, 1049599, 3178495, 8388607] (by kernel_rfl) (by kernel_rfl) ?_
  simp -dsimp [and31, wrap_sh0, shl21, shl16, shl11, shl6]
  refine hK _ _ ?_
  clear hK K
  refine env_cut fun env he => ?_
  have e3 := he 3
  have e2 := he 2
  have e5 := he 5
  have e6 := he 6
  have e7 := he 7
  have e8 := he 8
  have e9 := he 9
  clear he
  simp -dsimp at e2 e3 e5 e6 e7 e8 e9
  have key : ∀ x : Int, x = ((O * 67108864 + (i.imm / 4 % 67108864) : Nat) : Int) → Q (.int .u32 x) m := fun x e => by rw [e]; exact h
  have bs := sh_le i.s 21
  have bt := sh_le i.t 16
  have bd := sh_le i.d 11
  have ba := sh_le i.a 6
  have hi4 : i.imm / 4 < 2 ^ 32 := by omega
  simp -dsimp [e2, e3, e5, e6, e7, e8, e9]
  refine fin_ret rfl (leave_pure (by simp) (key _ ?_))
  simp only [shr2, mask10 _ hi, mask20 _ hi, mask16 _ hi, mask16 _ hi4, mask26 _ hi4, shl26U, shl16U, shl6U, wrapU]
  omega

set_option maxRecDepth 100000 in
set_option maxHeartbeats 4000000 in
theorem word_68 (i : InsZ) (hi : i.imm < 2 ^ 32) (op O F : Nat) (hO : O < 64) (hF : F < 64) (nm : ByteArray) (m : Mem) (Q) (h : Q (.int .u32 ((wordQ 68 O F i : Nat) : Int)) m) : TC Try.prog 72 [rrowV (op, 68, O, F, nm), insZV i] m Q := by
  refine TC_fn mixed Try.func72 rfl Try.ntmps72 rfl (by decide) (by simp) ?_
  refine wpc_st fun K hK => ?_
  simp -dsimp [rrowV, rrowVal, insZV]
  refine hK _ _ ?_
  clear hK K
  refine wpc_st fun K hK => ?_
  simp -dsimp
  refine hK _ _ ?_
  clear hK K
  refine wpc_sq fun K hK => ?_
  simp -dsimp
  refine draw_go 23 [0, 1, 3, 7, 15, 0, 32, 96, 224, 480, 0, 1024, 3072, 7168, 15360, 0, 32768, 98304, 229376, 491520, 31, 1049599, 3178495, 8388607] (by kernel_rfl) (by kernel_rfl) ?_
  simp -dsimp [and31, wrap_sh0, shl21, shl16, shl11, shl6]
  refine hK _ _ ?_
  clear hK K
  refine env_cut fun env he => ?_
  have e3 := he 3
  have e2 := he 2
  have e5 := he 5
  have e6 := he 6
  have e7 := he 7
  have e8 := he 8
  have e9 := he 9
  clear he
  simp -dsimp at e2 e3 e5 e6 e7 e8 e9
  have key : ∀ x : Int, x = ((O * 67108864 + sh i.s 21 + sh i.t 16 + sh i.d 11 + sh i.a 6 + F : Nat) : Int) → Q (.int .u32 x) m := fun x e => by rw [e]; exact h
  have bs := sh_le i.s 21
  have bt := sh_le i.t 16
  have bd := sh_le i.d 11
  have ba := sh_le i.a 6
  have hi4 : i.imm / 4 < 2 ^ 32 := by omega
  simp -dsimp [e2, e3, e5, e6, e7, e8, e9]
  refine fin_ret rfl (leave_pure (by simp) (key _ ?_))
  simp only [shr2, mask10 _ hi, mask20 _ hi, mask16 _ hi, mask16 _ hi4, mask26 _ hi4, shl26U, shl16U, shl6U, wrapU]
  omega

set_option maxRecDepth 100000 in
set_option maxHeartbeats 4000000 in
theorem word_72 (i : InsZ) (hi : i.imm < 2 ^ 32) (op O F : Nat) (hO : O < 64) (hF : F < 64) (nm : ByteArray) (m : Mem) (Q) (h : Q (.int .u32 ((wordQ 72 O F i : Nat) : Int)) m) : TC Try.prog 72 [rrowV (op, 72, O, F, nm), insZV i] m Q := by
  refine TC_fn mixed Try.func72 rfl Try.ntmps72 rfl (by decide) (by simp) ?_
  refine wpc_st fun K hK => ?_
  simp -dsimp [rrowV, rrowVal, insZV]
  refine hK _ _ ?_
  clear hK K
  refine wpc_st fun K hK => ?_
  simp -dsimp
  refine hK _ _ ?_
  clear hK K
  refine wpc_sq fun K hK => ?_
  simp -dsimp
  refine draw_go 23 [0, 1, 3, 7, 15, 0, 32, 96, 224, 480, 0, 1024, 3072, 7168, 15360, 0, 32768, 98304, 229376, 491520, 31, 1049599, 3178495, 8388607] (by kernel_rfl) (by kernel_rfl) ?_
  simp -dsimp [and31, wrap_sh0, shl21, shl16, shl11, shl6]
  refine hK _ _ ?_
  clear hK K
  refine env_cut fun env he => ?_
  have e3 := he 3
  have e2 := he 2
  have e5 := he 5
  have e6 := he 6
  have e7 := he 7
  have e8 := he 8
  have e9 := he 9
  clear he
  simp -dsimp at e2 e3 e5 e6 e7 e8 e9
  have key : ∀ x : Int, x = ((O * 67108864 + sh i.s 21 + sh i.t 16 + sh i.d 11 + sh i.a 6 + F : Nat) : Int) → Q (.int .u32 x) m := fun x e => by rw [e]; exact h
  have bs := sh_le i.s 21
  have bt := sh_le i.t 16
  have bd := sh_le i.d 11
  have ba := sh_le i.a 6
  have hi4 : i.imm / 4 < 2 ^ 32 := by omega
  simp -dsimp [e2, e3, e5, e6, e7, e8, e9]
  refine fin_ret rfl (leave_pure (by simp) (key _ ?_))
  simp only [shr2, mask10 _ hi, mask20 _ hi, mask16 _ hi, mask16 _ hi4, mask26 _ hi4, shl26U, shl16U, shl6U, wrapU]
  omega

set_option maxRecDepth 100000 in
set_option maxHeartbeats 4000000 in
theorem word_77 (i : InsZ) (hi : i.imm < 2 ^ 32) (op O F : Nat) (hO : O < 64) (hF : F < 64) (nm : ByteArray) (m : Mem) (Q) (h : Q (.int .u32 ((wordQ 77 O F i : Nat) : Int)) m) : TC Try.prog 72 [rrowV (op, 77, O, F, nm), insZV i] m Q := by
  refine TC_fn mixed Try.func72 rfl Try.ntmps72 rfl (by decide) (by simp) ?_
  refine wpc_st fun K hK => ?_
  simp -dsimp [rrowV, rrowVal, insZV]
  refine hK _ _ ?_
  clear hK K
  refine wpc_st fun K hK => ?_
  simp -dsimp
  refine hK _ _ ?_
  clear hK K
  refine wpc_sq fun K hK => ?_
  simp -dsimp
  refine draw_go 23 [0, 1, 3, 7, 15, 0, 32, 96, 224, 480, 0, 1024, 3072, 7168, 15360, 0, 32768, 98304, 229376, 491520, 31, 1049599, 3178495, 8388607] (by kernel_rfl) (by kernel_rfl) ?_
  simp -dsimp [and31, wrap_sh0, shl21, shl16, shl11, shl6]
  refine hK _ _ ?_
  clear hK K
  refine env_cut fun env he => ?_
  have e3 := he 3
  have e2 := he 2
  have e5 := he 5
  have e6 := he 6
  have e7 := he 7
  have e8 := he 8
  have e9 := he 9
  clear he
  simp -dsimp at e2 e3 e5 e6 e7 e8 e9
  have key : ∀ x : Int, x = ((O * 67108864 + sh i.s 21 + sh i.t 16 + sh i.d 11 + sh i.a 6 + F : Nat) : Int) → Q (.int .u32 x) m := fun x e => by rw [e]; exact h
  have bs := sh_le i.s 21
  have bt := sh_le i.t 16
  have bd := sh_le i.d 11
  have ba := sh_le i.a 6
  have hi4 : i.imm / 4 < 2 ^ 32 := by omega
  simp -dsimp [e2, e3, e5, e6, e7, e8, e9]
  refine fin_ret rfl (leave_pure (by simp) (key _ ?_))
  simp only [shr2, mask10 _ hi, mask20 _ hi, mask16 _ hi, mask16 _ hi4, mask26 _ hi4, shl26U, shl16U, shl6U, wrapU]
  omega

set_option maxRecDepth 100000 in
set_option maxHeartbeats 4000000 in
theorem word_70 (i : InsZ) (hi : i.imm < 2 ^ 32) (op O F : Nat) (hO : O < 64) (hF : F < 64) (nm : ByteArray) (m : Mem) (Q) (h : Q (.int .u32 ((wordQ 70 O F i : Nat) : Int)) m) : TC Try.prog 72 [rrowV (op, 70, O, F, nm), insZV i] m Q := by
  refine TC_fn mixed Try.func72 rfl Try.ntmps72 rfl (by decide) (by simp) ?_
  refine wpc_st fun K hK => ?_
  simp -dsimp [rrowV, rrowVal, insZV]
  refine hK _ _ ?_
  clear hK K
  refine wpc_st fun K hK => ?_
  simp -dsimp
  refine hK _ _ ?_
  clear hK K
  refine wpc_sq fun K hK => ?_
  simp -dsimp
  refine draw_go 23 [0, 1, 3, 7, 15, 0, 32, 96, 224, 480, 0, 1024, 3072, 7168, 15360, 0, 32768, 98304, 229376, 491520, 31, 1049599, 3178495, 8388607] (by kernel_rfl) (by kernel_rfl) ?_
  simp -dsimp [and31, wrap_sh0, shl21, shl16, shl11, shl6]
  refine hK _ _ ?_
  clear hK K
  refine env_cut fun env he => ?_
  have e3 := he 3
  have e2 := he 2
  have e5 := he 5
  have e6 := he 6
  have e7 := he 7
  have e8 := he 8
  have e9 := he 9
  clear he
  simp -dsimp at e2 e3 e5 e6 e7 e8 e9
  have key : ∀ x : Int, x = ((O * 67108864 + sh i.s 21 + sh i.t 16 + sh i.d 11 + sh i.a 6 + F : Nat) : Int) → Q (.int .u32 x) m := fun x e => by rw [e]; exact h
  have bs := sh_le i.s 21
  have bt := sh_le i.t 16
  have bd := sh_le i.d 11
  have ba := sh_le i.a 6
  have hi4 : i.imm / 4 < 2 ^ 32 := by omega
  simp -dsimp [e2, e3, e5, e6, e7, e8, e9]
  refine fin_ret rfl (leave_pure (by simp) (key _ ?_))
  simp only [shr2, mask10 _ hi, mask20 _ hi, mask16 _ hi, mask16 _ hi4, mask26 _ hi4, shl26U, shl16U, shl6U, wrapU]
  omega

set_option maxRecDepth 100000 in
set_option maxHeartbeats 4000000 in
theorem word_76 (i : InsZ) (hi : i.imm < 2 ^ 32) (op O F : Nat) (hO : O < 64) (hF : F < 64) (nm : ByteArray) (m : Mem) (Q) (h : Q (.int .u32 ((wordQ 76 O F i : Nat) : Int)) m) : TC Try.prog 72 [rrowV (op, 76, O, F, nm), insZV i] m Q := by
  refine TC_fn mixed Try.func72 rfl Try.ntmps72 rfl (by decide) (by simp) ?_
  refine wpc_st fun K hK => ?_
  simp -dsimp [rrowV, rrowVal, insZV]
  refine hK _ _ ?_
  clear hK K
  refine wpc_st fun K hK => ?_
  simp -dsimp
  refine hK _ _ ?_
  clear hK K
  refine wpc_sq fun K hK => ?_
  simp -dsimp
  refine draw_go 23 [0, 1, 3, 7, 15, 0, 32, 96, 224, 480, 0, 1024, 3072, 7168, 15360, 0, 32768, 98304, 229376, 491520, 31, 1049599, 3178495, 8388607] (by kernel_rfl) (by kernel_rfl) ?_
  simp -dsimp [and31, wrap_sh0, shl21, shl16, shl11, shl6]
  refine hK _ _ ?_
  clear hK K
  refine env_cut fun env he => ?_
  have e3 := he 3
  have e2 := he 2
  have e5 := he 5
  have e6 := he 6
  have e7 := he 7
  have e8 := he 8
  have e9 := he 9
  clear he
  simp -dsimp at e2 e3 e5 e6 e7 e8 e9
  have key : ∀ x : Int, x = ((O * 67108864 + sh i.s 21 + sh i.t 16 + sh i.d 11 + sh i.a 6 + F : Nat) : Int) → Q (.int .u32 x) m := fun x e => by rw [e]; exact h
  have bs := sh_le i.s 21
  have bt := sh_le i.t 16
  have bd := sh_le i.d 11
  have ba := sh_le i.a 6
  have hi4 : i.imm / 4 < 2 ^ 32 := by omega
  simp -dsimp [e2, e3, e5, e6, e7, e8, e9]
  refine fin_ret rfl (leave_pure (by simp) (key _ ?_))
  simp only [shr2, mask10 _ hi, mask20 _ hi, mask16 _ hi, mask16 _ hi4, mask26 _ hi4, shl26U, shl16U, shl6U, wrapU]
  omega

set_option maxRecDepth 100000 in
set_option maxHeartbeats 4000000 in
theorem word_71 (i : InsZ) (hi : i.imm < 2 ^ 32) (op O F : Nat) (hO : O < 64) (hF : F < 64) (nm : ByteArray) (m : Mem) (Q) (h : Q (.int .u32 ((wordQ 71 O F i : Nat) : Int)) m) : TC Try.prog 72 [rrowV (op, 71, O, F, nm), insZV i] m Q := by
  refine TC_fn mixed Try.func72 rfl Try.ntmps72 rfl (by decide) (by simp) ?_
  refine wpc_st fun K hK => ?_
  simp -dsimp [rrowV, rrowVal, insZV]
  refine hK _ _ ?_
  clear hK K
  refine wpc_st fun K hK => ?_
  simp -dsimp
  refine hK _ _ ?_
  clear hK K
  refine wpc_sq fun K hK => ?_
  simp -dsimp
  refine draw_go 23 [0, 1, 3, 7, 15, 0, 32, 96, 224, 480, 0, 1024, 3072, 7168, 15360, 0, 32768, 98304, 229376, 491520, 31, 1049599, 3178495, 8388607] (by kernel_rfl) (by kernel_rfl) ?_
  simp -dsimp [and31, wrap_sh0, shl21, shl16, shl11, shl6]
  refine hK _ _ ?_
  clear hK K
  refine env_cut fun env he => ?_
  have e3 := he 3
  have e2 := he 2
  have e5 := he 5
  have e6 := he 6
  have e7 := he 7
  have e8 := he 8
  have e9 := he 9
  clear he
  simp -dsimp at e2 e3 e5 e6 e7 e8 e9
  have key : ∀ x : Int, x = ((O * 67108864 + sh i.s 21 + sh i.t 16 + sh i.d 11 + sh i.a 6 + F : Nat) : Int) → Q (.int .u32 x) m := fun x e => by rw [e]; exact h
  have bs := sh_le i.s 21
  have bt := sh_le i.t 16
  have bd := sh_le i.d 11
  have ba := sh_le i.a 6
  have hi4 : i.imm / 4 < 2 ^ 32 := by omega
  simp -dsimp [e2, e3, e5, e6, e7, e8, e9]
  refine fin_ret rfl (leave_pure (by simp) (key _ ?_))
  simp only [shr2, mask10 _ hi, mask20 _ hi, mask16 _ hi, mask16 _ hi4, mask26 _ hi4, shl26U, shl16U, shl6U, wrapU]
  omega

set_option maxRecDepth 100000 in
set_option maxHeartbeats 4000000 in
theorem word_88 (i : InsZ) (hi : i.imm < 2 ^ 32) (op O F : Nat) (hO : O < 64) (hF : F < 64) (nm : ByteArray) (m : Mem) (Q) (h : Q (.int .u32 ((wordQ 88 O F i : Nat) : Int)) m) : TC Try.prog 72 [rrowV (op, 88, O, F, nm), insZV i] m Q := by
  refine TC_fn mixed Try.func72 rfl Try.ntmps72 rfl (by decide) (by simp) ?_
  refine wpc_st fun K hK => ?_
  simp -dsimp [rrowV, rrowVal, insZV]
  refine hK _ _ ?_
  clear hK K
  refine wpc_st fun K hK => ?_
  simp -dsimp
  refine hK _ _ ?_
  clear hK K
  refine wpc_sq fun K hK => ?_
  simp -dsimp
  refine draw_go 23 [0, 1, 3, 7, 15, 0, 32, 96, 224, 480, 0, 1024, 3072, 7168, 15360, 0, 32768, 98304, 229376, 491520, 31, 1049599, 3178495, 8388607] (by kernel_rfl) (by kernel_rfl) ?_
  simp -dsimp [and31, wrap_sh0, shl21, shl16, shl11, shl6]
  refine hK _ _ ?_
  clear hK K
  refine env_cut fun env he => ?_
  have e3 := he 3
  have e2 := he 2
  have e5 := he 5
  have e6 := he 6
  have e7 := he 7
  have e8 := he 8
  have e9 := he 9
  clear he
  simp -dsimp at e2 e3 e5 e6 e7 e8 e9
  have key : ∀ x : Int, x = ((O * 67108864 + sh i.s 21 + sh i.t 16 + sh i.d 11 + sh i.a 6 + F : Nat) : Int) → Q (.int .u32 x) m := fun x e => by rw [e]; exact h
  have bs := sh_le i.s 21
  have bt := sh_le i.t 16
  have bd := sh_le i.d 11
  have ba := sh_le i.a 6
  have hi4 : i.imm / 4 < 2 ^ 32 := by omega
  simp -dsimp [e2, e3, e5, e6, e7, e8, e9]
  refine fin_ret rfl (leave_pure (by simp) (key _ ?_))
  simp only [shr2, mask10 _ hi, mask20 _ hi, mask16 _ hi, mask16 _ hi4, mask26 _ hi4, shl26U, shl16U, shl6U, wrapU]
  omega

set_option maxRecDepth 100000 in
set_option maxHeartbeats 4000000 in
theorem word_89 (i : InsZ) (hi : i.imm < 2 ^ 32) (op O F : Nat) (hO : O < 64) (hF : F < 64) (nm : ByteArray) (m : Mem) (Q) (h : Q (.int .u32 ((wordQ 89 O F i : Nat) : Int)) m) : TC Try.prog 72 [rrowV (op, 89, O, F, nm), insZV i] m Q := by
  refine TC_fn mixed Try.func72 rfl Try.ntmps72 rfl (by decide) (by simp) ?_
  refine wpc_st fun K hK => ?_
  simp -dsimp [rrowV, rrowVal, insZV]
  refine hK _ _ ?_
  clear hK K
  refine wpc_st fun K hK => ?_
  simp -dsimp
  refine hK _ _ ?_
  clear hK K
  refine wpc_sq fun K hK => ?_
  simp -dsimp
  refine draw_go 23 [0, 1, 3, 7, 15, 0, 32, 96, 224, 480, 0, 1024, 3072, 7168, 15360, 0, 32768, 98304, 229376, 491520, 31, 1049599, 3178495, 8388607] (by kernel_rfl) (by kernel_rfl) ?_
  simp -dsimp [and31, wrap_sh0, shl21, shl16, shl11, shl6]
  refine hK _ _ ?_
  clear hK K
  refine env_cut fun env he => ?_
  have e3 := he 3
  have e2 := he 2
  have e5 := he 5
  have e6 := he 6
  have e7 := he 7
  have e8 := he 8
  have e9 := he 9
  clear he
  simp -dsimp at e2 e3 e5 e6 e7 e8 e9
  have key : ∀ x : Int, x = ((O * 67108864 + sh i.s 21 + sh i.t 16 + sh i.d 11 + sh i.a 6 + F : Nat) : Int) → Q (.int .u32 x) m := fun x e => by rw [e]; exact h
  have bs := sh_le i.s 21
  have bt := sh_le i.t 16
  have bd := sh_le i.d 11
  have ba := sh_le i.a 6
  have hi4 : i.imm / 4 < 2 ^ 32 := by omega
  simp -dsimp [e2, e3, e5, e6, e7, e8, e9]
  refine fin_ret rfl (leave_pure (by simp) (key _ ?_))
  simp only [shr2, mask10 _ hi, mask20 _ hi, mask16 _ hi, mask16 _ hi4, mask26 _ hi4, shl26U, shl16U, shl6U, wrapU]
  omega

end Go.Lm
/- calqueref08.word: joined; Encode. -/
set_option linter.unusedSimpArgs false
set_option linter.unusedVariables false
namespace Go.Lm
open Go.Proofs

def okRow (r : RRow) : Bool := okForm r.2.1 && decide (r.2.2.1 < 64) && decide (r.2.2.2.1 < 64) && (r.2.1 != 82 || decide (r.2.2.2.1 < 32))
theorem rrowK_ok (k : Nat) : okRow (rrowK k) = true := by
  have h : refTab.all okRow = true := by kernel_rfl
  unfold rrowK
  cases hk : refTab[k]? with
  | none => rfl
  | some r => exact List.all_eq_true.1 h r (List.mem_of_getElem? hk)

theorem word_tc (r : RRow) (hr : okRow r = true) (i : InsZ) (hi : i.imm < 2 ^ 32) (m : Mem) (Q) (h : Q (.int .u32 ((wordQ r.2.1 r.2.2.1 r.2.2.2.1 i : Nat) : Int)) m) : TC Try.prog 72 [rrowV r, insZV i] m Q := by
  obtain ⟨op, form, O, F, nm⟩ := r
  simp only [okRow, Bool.and_eq_true, decide_eq_true_eq] at hr
  obtain ⟨⟨⟨h1, hO⟩, hF⟩, h2⟩ := hr
  rcases okForm_cases h1 with rfl | rfl | rfl | rfl | rfl | rfl | rfl | rfl | rfl | rfl | rfl | rfl | rfl | rfl | rfl | rfl | rfl | rfl
  · exact word_68 i hi op O F hO hF nm m Q h
  · exact word_72 i hi op O F hO hF nm m Q h
  · exact word_77 i hi op O F hO hF nm m Q h
  · exact word_70 i hi op O F hO hF nm m Q h
  · exact word_76 i hi op O F hO hF nm m Q h
  · exact word_71 i hi op O F hO hF nm m Q h
  · exact word_84 i hi op O F hO hF nm m Q h
  · exact word_67 i hi op O F hO hF nm m Q h
  · exact word_88 i hi op O F hO hF nm m Q h
  · exact word_89 i hi op O F hO hF nm m Q h
  · exact word_73 i hi op O F hO hF nm m Q h
  · exact word_85 i hi op O F hO hF nm m Q h
  · exact word_86 i hi op O F hO hF nm m Q h
  · exact word_80 i hi op O F hO hF nm m Q h
  · exact word_66 i hi op O F hO hF nm m Q h
  · exact word_90 i hi op O F hO hF nm m Q h
  · exact word_82 i hi op O F hO (by simpa using h2) nm m Q h
  · exact word_74 i hi op O F hO hF nm m Q h
end Go.Lm
