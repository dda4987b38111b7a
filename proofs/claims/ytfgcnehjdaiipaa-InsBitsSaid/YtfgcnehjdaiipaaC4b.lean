/- ins.Decode, form by form. -/
import Derived.Test.YtfgcnehjdaiipaaC4
set_option linter.unusedSimpArgs false
namespace Go.Lm
open Go.Proofs

set_option maxRecDepth 100000 in
set_option maxHeartbeats 4000000 in
theorem dec_6 (w : Nat) (hw : w < 2 ^ 32) (m : Mem) (Q) (h : Q (insV (decQ w)) m) (op : Nat) (nm : ByteArray) (code : Nat) (ho : ofQ w = some (op, 6, nm, code)) : TC Try.prog 18 [.int .u32 w] m Q := by
  refine TC_fn mixed Try.func18 rfl Try.ntmps18 rfl (by decide) (by simp) ?_
  refine wpc_st fun K hK => ?_
  simp -dsimp
  refine hK _ _ ?_
  clear hK K
  refine wpc_st fun K hK => ?_
  simp -dsimp
  refine of_tc w hw _ _ ?_
  simp -dsimp
  simp -dsimp [ho, rowV, rowVal]
  rw [decQ, ho] at h
  refine hK _ _ ?_
  clear hK K
  refine wpc_sq fun K hK => ?_
  simp -dsimp
  refine hK _ _ ?_
  clear hK K
  refine wpc_st fun K hK => ?_
  simp -dsimp
  refine Field_tc w hw 21 5 (by decide) (by decide) _ _ ?_
  simp -dsimp
  refine Field_tc w hw 16 5 (by decide) (by decide) _ _ ?_
  simp -dsimp
  refine Field_tc w hw 11 5 (by decide) (by decide) _ _ ?_
  simp -dsimp
  refine Field_tc w hw 6 5 (by decide) (by decide) _ _ ?_
  simp -dsimp
  refine hK _ _ ?_
  clear hK K
  refine wpc_st fun K hK => ?_
  simp -dsimp
  refine Field_tc w hw 0 16 (by decide) (by decide) _ _ ?_
  simp -dsimp
  refine hK _ _ ?_
  clear hK K
  refine wpc_st fun K hK => ?_
  simp -dsimp
  refine Sext16_tc _ _ _ ?_
  simp -dsimp
  refine hK _ _ ?_
  clear hK K
  refine wpc_st fun K hK => ?_
  simp -dsimp
  refine hK _ _ ?_
  clear hK K
  refine wpc_st fun K hK => ?_
  simp -dsimp
  refine hK _ _ ?_
  clear hK K
  refine wpc_st fun K hK => ?_
  simp -dsimp
  refine hK _ _ ?_
  clear hK K
  refine wpc_st fun K hK => ?_
  simp -dsimp
  refine hK _ _ ?_
  clear hK K
  refine wpc_sq fun K hK => ?_
  refine env_cut fun env he => ?_
  have e0 := he 0
  have e2 := he 2
  have e3 := he 3
  have e5 := he 5
  have e6 := he 6
  have e7 := he 7
  have e8 := he 8
  have e9 := he 9
  have e10 := he 10
  have e11 := he 11
  have e12 := he 12
  have e13 := he 13
  have e14 := he 14
  have e15 := he 15
  have e16 := he 16
  have e17 := he 17
  clear he
  simp -dsimp at e0 e2 e3 e5 e6 e7 e8 e9 e10 e11 e12 e13 e14 e15 e16 e17
  have hs := fl_lt w 21 5
  have ht := fl_lt w 16 5
  have hd := fl_lt w 11 5
  have ha := fl_lt w 6 5
  have hst := Nat.or_lt_two_pow hs ht
  have htd := Nat.or_lt_two_pow ht hd
  have hxd := Nat.xor_lt_two_pow ht hd
  simp -dsimp [e0, e2, e3, e5, e6, e7, e8, e9, e10, e11, e12, e13, e14, e15, e16, e17]
  refine set_tc _ _ _ _ _ (fl_lt w 21 5) _ _ ((get_loc _ _ _ _).trans rfl) (by simp) (by simp [gnd0]) ?_
  simp -dsimp [e0, e2, e3, e5, e6, e7, e8, e9, e10, e11, e12, e13, e14, e15, e16, e17]
  refine set_tc _ _ _ _ _ (fl_lt w 16 5) _ _ ((get_loc _ _ _ _).trans rfl) (by simp) (by simp [gnd0]) ?_
  simp -dsimp [e0, e2, e3, e5, e6, e7, e8, e9, e10, e11, e12, e13, e14, e15, e16, e17]
  refine Field_tc w hw 6 10 (by decide) (by decide) _ _ ?_
  simp -dsimp [e0, e2, e3, e5, e6, e7, e8, e9, e10, e11, e12, e13, e14, e15, e16, e17]
  refine hK _ _ ?_
  clear hK K
  simp -dsimp [e0, e2, e3, e5, e6, e7, e8, e9, e10, e11, e12, e13, e14, e15, e16, e17]
  change Q (insV ⟨op, fl w 21 5, fl w 16 5, 0, 0, fl w 6 10⟩) m at h
  exact fin_ret (v := insV _) (by simp -dsimp [e2]; rfl) (leave_pure (by simp [insV]) h)

set_option maxRecDepth 100000 in
set_option maxHeartbeats 4000000 in
theorem dec_7 (w : Nat) (hw : w < 2 ^ 32) (m : Mem) (Q) (h : Q (insV (decQ w)) m) (op : Nat) (nm : ByteArray) (code : Nat) (ho : ofQ w = some (op, 7, nm, code)) : TC Try.prog 18 [.int .u32 w] m Q := by
  refine TC_fn mixed Try.func18 rfl Try.ntmps18 rfl (by decide) (by simp) ?_
  refine wpc_st fun K hK => ?_
  simp -dsimp
  refine hK _ _ ?_
  clear hK K
  refine wpc_st fun K hK => ?_
  simp -dsimp
  refine of_tc w hw _ _ ?_
  simp -dsimp
  simp -dsimp [ho, rowV, rowVal]
  rw [decQ, ho] at h
  refine hK _ _ ?_
  clear hK K
  refine wpc_sq fun K hK => ?_
  simp -dsimp
  refine hK _ _ ?_
  clear hK K
  refine wpc_st fun K hK => ?_
  simp -dsimp
  refine Field_tc w hw 21 5 (by decide) (by decide) _ _ ?_
  simp -dsimp
  refine Field_tc w hw 16 5 (by decide) (by decide) _ _ ?_
  simp -dsimp
  refine Field_tc w hw 11 5 (by decide) (by decide) _ _ ?_
  simp -dsimp
  refine Field_tc w hw 6 5 (by decide) (by decide) _ _ ?_
  simp -dsimp
  refine hK _ _ ?_
  clear hK K
  refine wpc_st fun K hK => ?_
  simp -dsimp
  refine Field_tc w hw 0 16 (by decide) (by decide) _ _ ?_
  simp -dsimp
  refine hK _ _ ?_
  clear hK K
  refine wpc_st fun K hK => ?_
  simp -dsimp
  refine Sext16_tc _ _ _ ?_
  simp -dsimp
  refine hK _ _ ?_
  clear hK K
  refine wpc_st fun K hK => ?_
  simp -dsimp
  refine hK _ _ ?_
  clear hK K
  refine wpc_st fun K hK => ?_
  simp -dsimp
  refine hK _ _ ?_
  clear hK K
  refine wpc_st fun K hK => ?_
  simp -dsimp
  refine hK _ _ ?_
  clear hK K
  refine wpc_st fun K hK => ?_
  simp -dsimp
  refine hK _ _ ?_
  clear hK K
  refine wpc_sq fun K hK => ?_
  refine env_cut fun env he => ?_
  have e0 := he 0
  have e2 := he 2
  have e3 := he 3
  have e5 := he 5
  have e6 := he 6
  have e7 := he 7
  have e8 := he 8
  have e9 := he 9
  have e10 := he 10
  have e11 := he 11
  have e12 := he 12
  have e13 := he 13
  have e14 := he 14
  have e15 := he 15
  have e16 := he 16
  have e17 := he 17
  clear he
  simp -dsimp at e0 e2 e3 e5 e6 e7 e8 e9 e10 e11 e12 e13 e14 e15 e16 e17
  have hs := fl_lt w 21 5
  have ht := fl_lt w 16 5
  have hd := fl_lt w 11 5
  have ha := fl_lt w 6 5
  have hst := Nat.or_lt_two_pow hs ht
  have htd := Nat.or_lt_two_pow ht hd
  have hxd := Nat.xor_lt_two_pow ht hd
  simp -dsimp [e0, e2, e3, e5, e6, e7, e8, e9, e10, e11, e12, e13, e14, e15, e16, e17]
  refine Field_tc w hw 6 20 (by decide) (by decide) _ _ ?_
  simp -dsimp [e0, e2, e3, e5, e6, e7, e8, e9, e10, e11, e12, e13, e14, e15, e16, e17]
  refine hK _ _ ?_
  clear hK K
  simp -dsimp [e0, e2, e3, e5, e6, e7, e8, e9, e10, e11, e12, e13, e14, e15, e16, e17]
  change Q (insV ⟨op, 0, 0, 0, 0, fl w 6 20⟩) m at h
  exact fin_ret (v := insV _) (by simp -dsimp [e2]; rfl) (leave_pure (by simp [insV]) h)

set_option maxRecDepth 100000 in
set_option maxHeartbeats 4000000 in
theorem dec_8 (w : Nat) (hw : w < 2 ^ 32) (m : Mem) (Q) (h : Q (insV (decQ w)) m) (op : Nat) (nm : ByteArray) (code : Nat) (ho : ofQ w = some (op, 8, nm, code)) : TC Try.prog 18 [.int .u32 w] m Q := by
  refine TC_fn mixed Try.func18 rfl Try.ntmps18 rfl (by decide) (by simp) ?_
  refine wpc_st fun K hK => ?_
  simp -dsimp
  refine hK _ _ ?_
  clear hK K
  refine wpc_st fun K hK => ?_
  simp -dsimp
  refine of_tc w hw _ _ ?_
  simp -dsimp
  simp -dsimp [ho, rowV, rowVal]
  rw [decQ, ho] at h
  refine hK _ _ ?_
  clear hK K
  refine wpc_sq fun K hK => ?_
  simp -dsimp
  refine hK _ _ ?_
  clear hK K
  refine wpc_st fun K hK => ?_
  simp -dsimp
  refine Field_tc w hw 21 5 (by decide) (by decide) _ _ ?_
  simp -dsimp
  refine Field_tc w hw 16 5 (by decide) (by decide) _ _ ?_
  simp -dsimp
  refine Field_tc w hw 11 5 (by decide) (by decide) _ _ ?_
  simp -dsimp
  refine Field_tc w hw 6 5 (by decide) (by decide) _ _ ?_
  simp -dsimp
  refine hK _ _ ?_
  clear hK K
  refine wpc_st fun K hK => ?_
  simp -dsimp
  refine Field_tc w hw 0 16 (by decide) (by decide) _ _ ?_
  simp -dsimp
  refine hK _ _ ?_
  clear hK K
  refine wpc_st fun K hK => ?_
  simp -dsimp
  refine Sext16_tc _ _ _ ?_
  simp -dsimp
  refine hK _ _ ?_
  clear hK K
  refine wpc_st fun K hK => ?_
  simp -dsimp
  refine hK _ _ ?_
  clear hK K
  refine wpc_st fun K hK => ?_
  simp -dsimp
  refine hK _ _ ?_
  clear hK K
  refine wpc_st fun K hK => ?_
  simp -dsimp
  refine hK _ _ ?_
  clear hK K
  refine wpc_st fun K hK => ?_
  simp -dsimp
  refine hK _ _ ?_
  clear hK K
  refine wpc_sq fun K hK => ?_
  refine env_cut fun env he => ?_
  have e0 := he 0
  have e2 := he 2
  have e3 := he 3
  have e5 := he 5
  have e6 := he 6
  have e7 := he 7
  have e8 := he 8
  have e9 := he 9
  have e10 := he 10
  have e11 := he 11
  have e12 := he 12
  have e13 := he 13
  have e14 := he 14
  have e15 := he 15
  have e16 := he 16
  have e17 := he 17
  clear he
  simp -dsimp at e0 e2 e3 e5 e6 e7 e8 e9 e10 e11 e12 e13 e14 e15 e16 e17
  have hs := fl_lt w 21 5
  have ht := fl_lt w 16 5
  have hd := fl_lt w 11 5
  have ha := fl_lt w 6 5
  have hst := Nat.or_lt_two_pow hs ht
  have htd := Nat.or_lt_two_pow ht hd
  have hxd := Nat.xor_lt_two_pow ht hd
  simp -dsimp [e0, e2, e3, e5, e6, e7, e8, e9, e10, e11, e12, e13, e14, e15, e16, e17]
  refine set_tc _ _ _ _ _ (fl_lt w 21 5) _ _ ((get_loc _ _ _ _).trans rfl) (by simp) (by simp [gnd0]) ?_
  simp -dsimp [e0, e2, e3, e5, e6, e7, e8, e9, e10, e11, e12, e13, e14, e15, e16, e17]
  refine set_tc _ _ _ _ _ (fl_lt w 16 5) _ _ ((get_loc _ _ _ _).trans rfl) (by simp) (by simp [gnd0]) ?_
  simp -dsimp [e0, e2, e3, e5, e6, e7, e8, e9, e10, e11, e12, e13, e14, e15, e16, e17]
  refine set_tc _ _ _ _ _ (fl_lt w 11 5) _ _ ((get_loc _ _ _ _).trans rfl) (by simp) (by simp [gnd0]) ?_
  simp -dsimp [e0, e2, e3, e5, e6, e7, e8, e9, e10, e11, e12, e13, e14, e15, e16, e17]
  refine hK _ _ ?_
  clear hK K
  simp -dsimp [e0, e2, e3, e5, e6, e7, e8, e9, e10, e11, e12, e13, e14, e15, e16, e17]
  change Q (insV (if fl w 6 5 = 0 then ⟨op, fl w 21 5, fl w 16 5, fl w 11 5, 0, 0⟩ else noIns)) m at h
  by_cases hz : fl w 6 5 = 0
  · rw [if_pos hz] at h
    rw [if_pos hz]
    exact fin_ret (v := insV _) (by simp -dsimp [e2]; rfl) (leave_pure (by simp [insV]) h)
  · rw [if_neg hz] at h
    rw [if_neg (by omega)]
    exact fin_ret (v := insV noIns) (by simp -dsimp [e2]; rfl) (leave_pure (by simp [insV]) h)

set_option maxRecDepth 100000 in
set_option maxHeartbeats 4000000 in
theorem dec_9 (w : Nat) (hw : w < 2 ^ 32) (m : Mem) (Q) (h : Q (insV (decQ w)) m) (op : Nat) (nm : ByteArray) (code : Nat) (ho : ofQ w = some (op, 9, nm, code)) : TC Try.prog 18 [.int .u32 w] m Q := by
  refine TC_fn mixed Try.func18 rfl Try.ntmps18 rfl (by decide) (by simp) ?_
  refine wpc_st fun K hK => ?_
  simp -dsimp
  refine hK _ _ ?_
  clear hK K
  refine wpc_st fun K hK => ?_
  simp -dsimp
  refine of_tc w hw _ _ ?_
  simp -dsimp
  simp -dsimp [ho, rowV, rowVal]
  rw [decQ, ho] at h
  refine hK _ _ ?_
  clear hK K
  refine wpc_sq fun K hK => ?_
  simp -dsimp
  refine hK _ _ ?_
  clear hK K
  refine wpc_st fun K hK => ?_
  simp -dsimp
  refine Field_tc w hw 21 5 (by decide) (by decide) _ _ ?_
  simp -dsimp
  refine Field_tc w hw 16 5 (by decide) (by decide) _ _ ?_
  simp -dsimp
  refine Field_tc w hw 11 5 (by decide) (by decide) _ _ ?_
  simp -dsimp
  refine Field_tc w hw 6 5 (by decide) (by decide) _ _ ?_
  simp -dsimp
  refine hK _ _ ?_
  clear hK K
  refine wpc_st fun K hK => ?_
  simp -dsimp
  refine Field_tc w hw 0 16 (by decide) (by decide) _ _ ?_
  simp -dsimp
  refine hK _ _ ?_
  clear hK K
  refine wpc_st fun K hK => ?_
  simp -dsimp
  refine Sext16_tc _ _ _ ?_
  simp -dsimp
  refine hK _ _ ?_
  clear hK K
  refine wpc_st fun K hK => ?_
  simp -dsimp
  refine hK _ _ ?_
  clear hK K
  refine wpc_st fun K hK => ?_
  simp -dsimp
  refine hK _ _ ?_
  clear hK K
  refine wpc_st fun K hK => ?_
  simp -dsimp
  refine hK _ _ ?_
  clear hK K
  refine wpc_st fun K hK => ?_
  simp -dsimp
  refine hK _ _ ?_
  clear hK K
  refine wpc_sq fun K hK => ?_
  refine env_cut fun env he => ?_
  have e0 := he 0
  have e2 := he 2
  have e3 := he 3
  have e5 := he 5
  have e6 := he 6
  have e7 := he 7
  have e8 := he 8
  have e9 := he 9
  have e10 := he 10
  have e11 := he 11
  have e12 := he 12
  have e13 := he 13
  have e14 := he 14
  have e15 := he 15
  have e16 := he 16
  have e17 := he 17
  clear he
  simp -dsimp at e0 e2 e3 e5 e6 e7 e8 e9 e10 e11 e12 e13 e14 e15 e16 e17
  have hs := fl_lt w 21 5
  have ht := fl_lt w 16 5
  have hd := fl_lt w 11 5
  have ha := fl_lt w 6 5
  have hst := Nat.or_lt_two_pow hs ht
  have htd := Nat.or_lt_two_pow ht hd
  have hxd := Nat.xor_lt_two_pow ht hd
  simp -dsimp [e0, e2, e3, e5, e6, e7, e8, e9, e10, e11, e12, e13, e14, e15, e16, e17]
  refine set_tc _ _ _ _ _ (fl_lt w 21 5) _ _ ((get_loc _ _ _ _).trans rfl) (by simp) (by simp [gnd0]) ?_
  simp -dsimp [e0, e2, e3, e5, e6, e7, e8, e9, e10, e11, e12, e13, e14, e15, e16, e17]
  refine set_tc _ _ _ _ _ (fl_lt w 16 5) _ _ ((get_loc _ _ _ _).trans rfl) (by simp) (by simp [gnd0]) ?_
  simp -dsimp [e0, e2, e3, e5, e6, e7, e8, e9, e10, e11, e12, e13, e14, e15, e16, e17]
  refine set_tc _ _ _ _ _ (fl_lt w 11 5) _ _ ((get_loc _ _ _ _).trans rfl) (by simp) (by simp [gnd0]) ?_
  simp -dsimp [e0, e2, e3, e5, e6, e7, e8, e9, e10, e11, e12, e13, e14, e15, e16, e17]
  refine hK _ _ ?_
  clear hK K
  simp -dsimp [e0, e2, e3, e5, e6, e7, e8, e9, e10, e11, e12, e13, e14, e15, e16, e17]
  rw [ixor_nat .u32 ht hd, ior_nat .u32 ha hxd]
  change Q (insV (if fl w 6 5 ||| (fl w 16 5 ^^^ fl w 11 5) = 0 then ⟨op, fl w 21 5, fl w 16 5, fl w 11 5, 0, 0⟩ else noIns)) m at h
  by_cases hz : fl w 6 5 ||| (fl w 16 5 ^^^ fl w 11 5) = 0
  · rw [if_pos hz] at h
    rw [if_pos (by rw [hz]; rfl)]
    exact fin_ret (v := insV _) (by simp -dsimp [e2]; rfl) (leave_pure (by simp [insV]) h)
  · rw [if_neg hz] at h
    rw [if_neg (by omega)]
    exact fin_ret (v := insV noIns) (by simp -dsimp [e2]; rfl) (leave_pure (by simp [insV]) h)

set_option maxRecDepth 100000 in
set_option maxHeartbeats 4000000 in
theorem dec_10 (w : Nat) (hw : w < 2 ^ 32) (m : Mem) (Q) (h : Q (insV (decQ w)) m) (op : Nat) (nm : ByteArray) (code : Nat) (ho : ofQ w = some (op, 10, nm, code)) : TC Try.prog 18 [.int .u32 w] m Q := by
  refine TC_fn mixed Try.func18 rfl Try.ntmps18 rfl (by decide) (by simp) ?_
  refine wpc_st fun K hK => ?_
  simp -dsimp
  refine hK _ _ ?_
  clear hK K
  refine wpc_st fun K hK => ?_
  simp -dsimp
  refine of_tc w hw _ _ ?_
  simp -dsimp
  simp -dsimp [ho, rowV, rowVal]
  rw [decQ, ho] at h
  refine hK _ _ ?_
  clear hK K
  refine wpc_sq fun K hK => ?_
  simp -dsimp
  refine hK _ _ ?_
  clear hK K
  refine wpc_st fun K hK => ?_
  simp -dsimp
  refine Field_tc w hw 21 5 (by decide) (by decide) _ _ ?_
  simp -dsimp
  refine Field_tc w hw 16 5 (by decide) (by decide) _ _ ?_
  simp -dsimp
  refine Field_tc w hw 11 5 (by decide) (by decide) _ _ ?_
  simp -dsimp
  refine Field_tc w hw 6 5 (by decide) (by decide) _ _ ?_
  simp -dsimp
  refine hK _ _ ?_
  clear hK K
  refine wpc_st fun K hK => ?_
  simp -dsimp
  refine Field_tc w hw 0 16 (by decide) (by decide) _ _ ?_
  simp -dsimp
  refine hK _ _ ?_
  clear hK K
  refine wpc_st fun K hK => ?_
  simp -dsimp
  refine Sext16_tc _ _ _ ?_
  simp -dsimp
  refine hK _ _ ?_
  clear hK K
  refine wpc_st fun K hK => ?_
  simp -dsimp
  refine hK _ _ ?_
  clear hK K
  refine wpc_st fun K hK => ?_
  simp -dsimp
  refine hK _ _ ?_
  clear hK K
  refine wpc_st fun K hK => ?_
  simp -dsimp
  refine hK _ _ ?_
  clear hK K
  refine wpc_st fun K hK => ?_
  simp -dsimp
  refine hK _ _ ?_
  clear hK K
  refine wpc_sq fun K hK => ?_
  refine env_cut fun env he => ?_
  have e0 := he 0
  have e2 := he 2
  have e3 := he 3
  have e5 := he 5
  have e6 := he 6
  have e7 := he 7
  have e8 := he 8
  have e9 := he 9
  have e10 := he 10
  have e11 := he 11
  have e12 := he 12
  have e13 := he 13
  have e14 := he 14
  have e15 := he 15
  have e16 := he 16
  have e17 := he 17
  clear he
  simp -dsimp at e0 e2 e3 e5 e6 e7 e8 e9 e10 e11 e12 e13 e14 e15 e16 e17
  have hs := fl_lt w 21 5
  have ht := fl_lt w 16 5
  have hd := fl_lt w 11 5
  have ha := fl_lt w 6 5
  have hst := Nat.or_lt_two_pow hs ht
  have htd := Nat.or_lt_two_pow ht hd
  have hxd := Nat.xor_lt_two_pow ht hd
  simp -dsimp [e0, e2, e3, e5, e6, e7, e8, e9, e10, e11, e12, e13, e14, e15, e16, e17]
  refine set_tc _ _ _ _ _ (fl_lt w 21 5) _ _ ((get_loc _ _ _ _).trans rfl) (by simp) (by simp [gnd0]) ?_
  simp -dsimp [e0, e2, e3, e5, e6, e7, e8, e9, e10, e11, e12, e13, e14, e15, e16, e17]
  refine set_tc _ _ _ _ _ (fl_lt w 16 5) _ _ ((get_loc _ _ _ _).trans rfl) (by simp) (by simp [gnd0]) ?_
  simp -dsimp [e0, e2, e3, e5, e6, e7, e8, e9, e10, e11, e12, e13, e14, e15, e16, e17]
  refine hK _ _ ?_
  clear hK K
  simp -dsimp [e0, e2, e3, e5, e6, e7, e8, e9, e10, e11, e12, e13, e14, e15, e16, e17]
  change Q (insV ⟨op, fl w 21 5, fl w 16 5, 0, 0, sxt 16 (fl w 0 16)⟩) m at h
  exact fin_ret (v := insV _) (by simp -dsimp [e2]; rfl) (leave_pure (by simp [insV]) h)

set_option maxRecDepth 100000 in
set_option maxHeartbeats 4000000 in
theorem dec_11 (w : Nat) (hw : w < 2 ^ 32) (m : Mem) (Q) (h : Q (insV (decQ w)) m) (op : Nat) (nm : ByteArray) (code : Nat) (ho : ofQ w = some (op, 11, nm, code)) : TC Try.prog 18 [.int .u32 w] m Q := by
  refine TC_fn mixed Try.func18 rfl Try.ntmps18 rfl (by decide) (by simp) ?_
  refine wpc_st fun K hK => ?_
  simp -dsimp
  refine hK _ _ ?_
  clear hK K
  refine wpc_st fun K hK => ?_
  simp -dsimp
  refine of_tc w hw _ _ ?_
  simp -dsimp
  simp -dsimp [ho, rowV, rowVal]
  rw [decQ, ho] at h
  refine hK _ _ ?_
  clear hK K
  refine wpc_sq fun K hK => ?_
  simp -dsimp
  refine hK _ _ ?_
  clear hK K
  refine wpc_st fun K hK => ?_
  simp -dsimp
  refine Field_tc w hw 21 5 (by decide) (by decide) _ _ ?_
  simp -dsimp
  refine Field_tc w hw 16 5 (by decide) (by decide) _ _ ?_
  simp -dsimp
  refine Field_tc w hw 11 5 (by decide) (by decide) _ _ ?_
  simp -dsimp
  refine Field_tc w hw 6 5 (by decide) (by decide) _ _ ?_
  simp -dsimp
  refine hK _ _ ?_
  clear hK K
  refine wpc_st fun K hK => ?_
  simp -dsimp
  refine Field_tc w hw 0 16 (by decide) (by decide) _ _ ?_
  simp -dsimp
  refine hK _ _ ?_
  clear hK K
  refine wpc_st fun K hK => ?_
  simp -dsimp
  refine Sext16_tc _ _ _ ?_
  simp -dsimp
  refine hK _ _ ?_
  clear hK K
  refine wpc_st fun K hK => ?_
  simp -dsimp
  refine hK _ _ ?_
  clear hK K
  refine wpc_st fun K hK => ?_
  simp -dsimp
  refine hK _ _ ?_
  clear hK K
  refine wpc_st fun K hK => ?_
  simp -dsimp
  refine hK _ _ ?_
  clear hK K
  refine wpc_st fun K hK => ?_
  simp -dsimp
  refine hK _ _ ?_
  clear hK K
  refine wpc_sq fun K hK => ?_
  refine env_cut fun env he => ?_
  have e0 := he 0
  have e2 := he 2
  have e3 := he 3
  have e5 := he 5
  have e6 := he 6
  have e7 := he 7
  have e8 := he 8
  have e9 := he 9
  have e10 := he 10
  have e11 := he 11
  have e12 := he 12
  have e13 := he 13
  have e14 := he 14
  have e15 := he 15
  have e16 := he 16
  have e17 := he 17
  clear he
  simp -dsimp at e0 e2 e3 e5 e6 e7 e8 e9 e10 e11 e12 e13 e14 e15 e16 e17
  have hs := fl_lt w 21 5
  have ht := fl_lt w 16 5
  have hd := fl_lt w 11 5
  have ha := fl_lt w 6 5
  have hst := Nat.or_lt_two_pow hs ht
  have htd := Nat.or_lt_two_pow ht hd
  have hxd := Nat.xor_lt_two_pow ht hd
  simp -dsimp [e0, e2, e3, e5, e6, e7, e8, e9, e10, e11, e12, e13, e14, e15, e16, e17]
  refine set_tc _ _ _ _ _ (fl_lt w 21 5) _ _ ((get_loc _ _ _ _).trans rfl) (by simp) (by simp [gnd0]) ?_
  simp -dsimp [e0, e2, e3, e5, e6, e7, e8, e9, e10, e11, e12, e13, e14, e15, e16, e17]
  refine set_tc _ _ _ _ _ (fl_lt w 16 5) _ _ ((get_loc _ _ _ _).trans rfl) (by simp) (by simp [gnd0]) ?_
  simp -dsimp [e0, e2, e3, e5, e6, e7, e8, e9, e10, e11, e12, e13, e14, e15, e16, e17]
  refine hK _ _ ?_
  clear hK K
  simp -dsimp [e0, e2, e3, e5, e6, e7, e8, e9, e10, e11, e12, e13, e14, e15, e16, e17]
  change Q (insV ⟨op, fl w 21 5, fl w 16 5, 0, 0, fl w 0 16⟩) m at h
  exact fin_ret (v := insV _) (by simp -dsimp [e2]; rfl) (leave_pure (by simp [insV]) h)

end Go.Lm
