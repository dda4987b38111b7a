/- Contracts of slices.SortFunc over spans, of cmp.Compare and cmp.Or. -/
import Derived.Test.YtfgcnehjdaiipaaTA
import Derived.Test.YtfgcnehjdaiipaaMK
import Derived.Test.YtfgcnehjdaiipaaMN
import Derived.Shelf.SlSortCmp.WholeK
import Derived.Test.YtfgcnehjdaiipaaProg
/- cmp.Compare, cmp.Or. -/
set_option linter.unusedSimpArgs false
set_option linter.unusedVariables false
namespace Go.Lm
open Go.Proofs

def cmpQ (a b : Int) : Int := if a < b then -1 else if b < a then 1 else 0
def orQ (a b : Int) : Int := if a = 0 then b else a

theorem isNaN_tc (a : Int) (m : Mem) (Q) (h : Q (.bool false) m) : TC Try.prog 161 [.int .i64 a] m Q := by
  refine TC_fn mixed Try.func161 rfl Try.ntmps161 rfl (by decide) (by simp) ?_
  simp -dsimp
  exact fin_ret rfl (leave_pure (by simp) h)

set_option maxHeartbeats 2000000 in
theorem compare_tc (a b : Int) (m : Mem) (Q) (h : Q (.int .i64 (cmpQ a b)) m) : TC Try.prog 102 [.int .i64 a, .int .i64 b] m Q := by
  refine TC_fn mixed Try.func102 rfl Try.ntmps102 rfl (by decide) (by simp) ?_
  unfold cmpQ at h
  by_cases h1 : a < b
  · rw [if_pos h1] at h
    simp -dsimp
    refine isNaN_tc _ _ _ ?_
    simp -dsimp
    refine isNaN_tc _ _ _ ?_
    simp -dsimp [h1]
    exact fin_ret rfl (leave_pure (by simp) h)
  · rw [if_neg h1] at h
    by_cases h2 : b < a
    · rw [if_pos h2] at h
      simp -dsimp
      refine isNaN_tc _ _ _ ?_
      simp -dsimp
      refine isNaN_tc _ _ _ ?_
      simp -dsimp [h1, h2]
      exact fin_ret rfl (leave_pure (by simp) h)
    · rw [if_neg h2] at h
      simp -dsimp
      refine isNaN_tc _ _ _ ?_
      simp -dsimp
      refine isNaN_tc _ _ _ ?_
      simp -dsimp [h1, h2]
      exact fin_ret rfl (leave_pure (by simp) h)

set_option maxHeartbeats 2000000 in
/-- two numbers in a row -/
theorem or2_tc (a b : Int) (k : Nat) (m : Mem) (hm : m.get k = .cells false 1 #[.int .i64 a, .int .i64 b]) (Q) (h : Q (.int .i64 (orQ a b)) m) : TC Try.prog 101 [.slice (some ⟨k, 0, none⟩) 2 2] m Q := by
  refine TC_fn mixed Try.func101 rfl Try.ntmps101 rfl (by decide) (by simp) ?_
  have htop := lt_cells hm
  have hgt : ∀ os, ({ base := m.get, n := m.top, loc := os } : Mem).get k = .cells false 1 #[.int .i64 a, .int .i64 b] := fun os => by rw [get_base _ _ _ htop, hm]
  unfold orQ at h
  simp -dsimp
  refine loop_by (fun n env m' => (n = 2 ∧ elook env 8 = some (.int .i64 0) ∨ n = 1 ∧ a = 0 ∧ elook env 8 = some (.int .i64 1) ∨ n = 0 ∧ a = 0 ∧ b = 0 ∧ elook env 8 = some (.int .i64 2)) ∧ elook env 7 = some (.int .i64 2) ∧ elook env 6 = some (.slice (some ⟨k, 0, none⟩) 2 2) ∧ elook env 3 = some (.int .i64 0) ∧ m' = { base := m.get, n := m.top, loc := [] }) 2 (by simp -dsimp) ?_
  rintro n env m' ⟨hc, e7, e6, e3, rfl⟩
  rcases hc with ⟨rfl, e8⟩ | ⟨rfl, rfl, e8⟩ | ⟨rfl, rfl, rfl, e8⟩
  · by_cases ha : a = 0
    · subst ha
      simp -dsimp [e8, e7, e6, e3, hgt]
    · rw [if_neg ha] at h
      simp -dsimp [e8, e7, e6, e3, hgt, ha]
      exact fin_ret rfl (leave_pure (by simp) h)
  · rw [if_pos rfl] at h
    by_cases hb : b = 0
    · subst hb
      simp -dsimp [e8, e7, e6, e3, hgt]
    · simp -dsimp [e8, e7, e6, e3, hgt, hb]
      exact fin_ret rfl (leave_pure (by simp) h)
  · rw [if_pos rfl] at h
    simp -dsimp [e8, e7, e6, e3, hgt]
    exact fin_ret rfl (leave_pure (by simp) h)
end Go.Lm
/- slices.SortFunc at the spans: the laying of its contract. Written by gen_s1.py. -/
namespace Go.Proofs
open Go.Shelf Go.RowKit Go.Lib Go.Sort

def Try.sortSp_ren : Go.Shelf.Ren := ⟨(fun | 6 => 99 | 15 => 160 | 14 => 159 | 28 => 187 | 29 => 188 | 20 => 179 | 21 => 180 | 22 => 181 | 23 => 182 | 24 => 183 | 25 => 184 | 26 => 185 | 27 => 186 | 46 => 189 | 47 => 190 | 48 => 191 | 49 => 192 | 50 => 193 | 57 => 194 | n => n),
  (fun | 22 => 72 | 24 => 77 | 25 => 144 | 3 => 3 | 39 => 27 | 0 => 0 | 53 => 22 | 55 => 190 | 4 => 4 | 46 => 244 | 45 => 243 | 50 => 248 | 5 => 5 | 9 => 9 | 66 => 251 | 70 => 110 | 76 => 256 | 77 => 257 | n => n), fun n => n⟩
theorem Try.sortSp : SlLaysF0.n6 Try.prog Try.sortSp_ren := {
  mixed := by kernel_rfl
  f6 := ⟨Try.f99.name, by decide, by kernel_rfl⟩
  f14 := ⟨Try.f159.name, by decide, by kernel_rfl⟩
  f15 := by kernel_rfl
  f20 := ⟨Try.f179.name, by decide, by kernel_rfl⟩
  f21 := ⟨Try.f180.name, by decide, by kernel_rfl⟩
  f22 := ⟨Try.f181.name, by decide, by kernel_rfl⟩
  f23 := ⟨Try.f182.name, by decide, by kernel_rfl⟩
  f24 := ⟨Try.f183.name, by decide, by kernel_rfl⟩
  f25 := ⟨Try.f184.name, by decide, by kernel_rfl⟩
  f26 := ⟨Try.f185.name, by decide, by kernel_rfl⟩
  f27 := ⟨Try.f186.name, by decide, by kernel_rfl⟩
  f28 := by kernel_rfl
  f29 := by kernel_rfl
  f46 := ⟨Try.f189.name, by decide, by kernel_rfl⟩
  f47 := by kernel_rfl
  f48 := by kernel_rfl
  f49 := ⟨Try.f192.name, by decide, by kernel_rfl⟩
  f50 := ⟨Try.f193.name, by decide, by kernel_rfl⟩
  f57 := ⟨Try.f194.name, by decide, by kernel_rfl⟩
  t0 := by kernel_rfl
  a0 := fun w => by kernel_rfl
  z0 := fun w => by kernel_rfl
  v0 := fun w => by kernel_rfl
  t3 := by kernel_rfl
  a3 := fun w => by kernel_rfl
  z3 := fun w => by kernel_rfl
  v3 := fun w => by kernel_rfl
  t4 := by kernel_rfl
  a4 := fun w => by kernel_rfl
  z4 := fun w => by kernel_rfl
  v4 := fun w => by kernel_rfl
  t5 := by kernel_rfl
  a5 := fun w => by kernel_rfl
  z5 := fun w => by kernel_rfl
  v5 := fun w => by kernel_rfl
  t9 := by kernel_rfl
  a9 := fun w => by kernel_rfl
  z9 := fun w => by kernel_rfl
  v9 := fun w => by kernel_rfl
  t22 := by kernel_rfl
  a22 := fun w => by kernel_rfl
  z22 := fun w => by kernel_rfl
  v22 := fun w => by kernel_rfl
  t25 := by kernel_rfl
  a25 := fun w => by kernel_rfl
  z25 := fun w => by kernel_rfl
  v25 := fun w => by kernel_rfl
  t39 := by kernel_rfl
  a39 := fun w => by kernel_rfl
  z39 := fun w => by kernel_rfl
  v39 := fun w => by kernel_rfl
  t45 := by kernel_rfl
  a45 := fun w => by kernel_rfl
  z45 := fun w => by kernel_rfl
  v45 := fun w => by kernel_rfl
  t46 := by kernel_rfl
  a46 := fun w => by kernel_rfl
  z46 := fun w => by kernel_rfl
  v46 := fun w => by kernel_rfl
  t50 := by kernel_rfl
  a50 := fun w => by kernel_rfl
  z50 := fun w => by kernel_rfl
  v50 := fun w => by kernel_rfl
  t53 := by kernel_rfl
  a53 := fun w => by kernel_rfl
  z53 := fun w => by kernel_rfl
  v53 := fun w => by kernel_rfl
  t55 := by kernel_rfl
  a55 := fun w => by kernel_rfl
  z55 := fun w => by kernel_rfl
  v55 := fun w => by kernel_rfl
  t66 := by kernel_rfl
  a66 := fun w => by kernel_rfl
  z66 := fun w => by kernel_rfl
  v66 := fun w => by kernel_rfl
  t70 := by kernel_rfl
  a70 := fun w => by kernel_rfl
  z70 := fun w => by kernel_rfl
  v70 := fun w => by kernel_rfl
  t76 := by kernel_rfl
  a76 := fun w => by kernel_rfl
  z76 := fun w => by kernel_rfl
  v76 := fun w => by kernel_rfl
  t77 := by kernel_rfl
  a77 := fun w => by kernel_rfl
  z77 := fun w => by kernel_rfl
  v77 := fun w => by kernel_rfl
}
end Go.Proofs
/- A call that owns nothing: what lies behind it, as an equation of worlds; a row sorted in place. -/
namespace Go.Lm
open Go.Sort

/-- Nothing of the world's was owned: new blocks and draws alone. -/
theorem grown_of_fr {σ σ' : Sg} {m m' : Nat → Ob} {w w' : World} (hno : ∀ k, (m k).rw = false) (h : Fr σ m w σ' m' w') : ∃ q os', w' = grow (w.drewN q) os' := by
  refine ⟨w'.drawn - w.drawn, w'.heap.extract w.heap.size w'.heap.size, ?_⟩
  have hos := h.os
  simp only [Prod.mk.injEq] at hos
  have hh : w'.heap = w.heap ++ w'.heap.extract w.heap.size w'.heap.size := by
    apply Array.ext_getElem?
    intro i
    rw [Array.getElem?_append]
    split
    · rename_i hi
      refine h.keep i hi ?_
      rintro ⟨j, p, _, _, hrw⟩
      rw [hno j] at hrw; cases hrw
    · rename_i hi
      rw [Array.getElem?_extract]
      split
      · rw [Nat.add_sub_cancel' (by omega)]
      · rename_i h2
        rw [Array.getElem?_eq_none (by have := h.size; omega)]
  have hd := h.dr
  have ho := h.out
  cases w
  cases w'
  simp only [grow, World.drewN] at *
  simp only [World.mk.injEq]
  refine ⟨hh, hos.2, by omega, hos.1, ho⟩

theorem calls_grown_of_TC {P : Program} {g : FuncId} {vs : List Value} {rs : Array Value} {m : Mem} {σ : Sg} {w : World}
    (hR : Rep σ m.get w) (ha : argsRel σ vs rs) (hno : ∀ k, (m.get k).rw = false)
    (hcode : (callFunc g rs).run P w = .ok (.enter g rs) w)
    {Q : Value → Mem → Prop} (h : TC P g vs m Q) :
    Calls P g rs w fun e w' => ∃ v rv m' σ', e = .returned rv ∧ Q v m' ∧ vRel σ' v rv ∧ ∃ q os', w' = grow (w.drewN q) os' := by
  rcases h σ w rs hR ha with ⟨_, h2⟩ | ⟨rv, w', h1, _⟩
  · refine h2.mono fun e w' ⟨v, rv, m', σ', h1, h2, h3, h4, h5⟩ => ⟨v, rv, m', σ', h1, h2, h4, grown_of_fr hno h5⟩
  · rw [hcode] at h1; cases h1
end Go.Lm
/- slices.SortFunc at spans. -/
set_option linter.unusedSimpArgs false
set_option linter.unusedVariables false
namespace Go.Lm
open Go.Proofs Go.Sort

def spV (s : Sp) : List Value := [.int .i64 s.place, .int .i64 s.fr, .int .i64 s.to]
def flatS (l : List Sp) : Array Value := (l.flatMap spV).toArray
theorem flatS_size (l : List Sp) : (flatS l).size = l.length * 3 := by
  unfold flatS
  exact flat_size spV 3 (fun _ => rfl) l
theorem flatS_get : ∀ (l : List Sp) (t : Nat), t < l.length * 3 → (flatS l)[t]? = some ((spV (l.toArray)[t / 3]!)[t % 3]!)
  | [], t, h => by simp at h
  | s :: l, t, h => by
    simp only [List.length_cons] at h
    have e : flatS (s :: l) = (spV s).toArray ++ flatS l := by simp [flatS]
    rw [e, Array.getElem?_append]
    split
    · rename_i h3
      simp only [spV, List.size_toArray, List.length_cons, List.length_nil] at h3
      have h4 : t / 3 = 0 := by omega
      have h5 : t % 3 = t := by omega
      rw [h4, h5]
      have h0 : t = 0 ∨ t = 1 ∨ t = 2 := by omega
      rcases h0 with rfl | rfl | rfl <;> simp [spV]
    · rename_i h3
      simp only [spV, List.size_toArray, List.length_cons, List.length_nil] at h3 ⊢
      have := flatS_get l (t - 3) (by omega)
      rw [this]
      have h4 : t / 3 = (t - 3) / 3 + 1 := by omega
      have h5 : t % 3 = (t - 3) % 3 := by omega
      rw [h4, h5]
      have h6 : (s :: l).toArray[(t - 3) / 3 + 1]! = l.toArray[(t - 3) / 3]! := by
        simp
      rw [h6]
      rfl
theorem flatS_gnd (l : List Sp) : ∀ x ∈ flatS l, gnd0 x = true := by
  intro x hx
  simp only [flatS, List.mem_toArray, List.mem_flatMap] at hx
  obtain ⟨s, _, hx⟩ := hx
  simp only [spV, List.mem_cons, List.not_mem_nil, or_false] at hx
  rcases hx with rfl | rfl | rfl <;> rfl

/-- what the comparison says -/
def spCf (x y : Sp) : Int := orQ (cmpQ x.fr y.fr) (cmpQ x.place y.place)
instance (a b : Sp) : Decidable (spLt a b) := by unfold spLt; infer_instance
theorem spCf_lt (x y : Sp) : ltOf spCf x y = decide (spLt x y) := by
  unfold ltOf spCf orQ cmpQ
  rw [Bool.eq_iff_iff]
  simp only [decide_eq_true_eq, spLt]
  by_cases h1 : x.fr < y.fr
  · simp [h1]
  · by_cases h2 : y.fr < x.fr
    · simp [h1, h2]; omega
    · by_cases h3 : x.place < y.place
      · simp [h1, h2, h3]; omega
      · by_cases h4 : y.place < x.place
        · simp [h1, h2, h3, h4]
        · simp [h1, h2, h3, h4]
theorem spSWO : SWO (ltOf spCf) where
  irrefl x := by rw [spCf_lt]; simp [spLt]
  trans x y z h1 h2 := by
    simp only [spCf_lt, decide_eq_true_eq] at *
    exact spLt_trans h1 h2
  ntrans x y z h1 h2 := by
    simp only [spCf_lt, decide_eq_false_iff_not] at *
    unfold spLt at *
    omega

theorem y2 : (Array.range 2).map (fun x => [Value.int .i64 0][x % 1]?.getD default) = #[.int .i64 0, .int .i64 0] := by kernel_rfl

set_option maxRecDepth 100000 in
set_option maxHeartbeats 4000000 in
theorem spcmp_tc (x y : Sp) (m : Mem) (Q) (h : Q (.int .i64 (spCf x y)) m) : TC Try.prog 100 [.agg (spV x).toArray, .agg (spV y).toArray] m Q := by
  refine TC_fn mixed Try.func100 rfl Try.ntmps100 rfl (by decide) (by simp) ?_
  obtain ⟨p, f, t⟩ := x
  obtain ⟨p', f', t'⟩ := y
  unfold spCf at h
  simp only at h
  refine wpc_st fun K hK => ?_
  simp -dsimp [spV]
  refine hK _ _ ?_
  clear hK K
  refine wpc_sq fun K hK => ?_
  simp -dsimp
  refine draw_go 9 [0, 1, 0, 4, 15, 0, 32, 0, 128, 511, 1023, 2047, 4095] (by kernel_rfl) (by kernel_rfl) ?_
  simp -dsimp -implicitDefEqProofs
  refine .inl ⟨_, fun m' _ => compare_tc _ _ _ _ ⟨rfl, rfl⟩, drw_go ?_⟩
  simp -dsimp -implicitDefEqProofs
  refine compare_tc _ _ _ _ ?_
  simp -dsimp -implicitDefEqProofs [y2]
  refine or2_tc (cmpQ f f') (cmpQ p p') (m.top + 2) _ (by simp [get_loc]) _ ?_
  simp -dsimp -implicitDefEqProofs
  refine hK _ _ ?_
  simp -dsimp
  exact fin_ret rfl (leave_pure (by simp) h)

/-- the comparison, in any world -/
theorem spcmp_calls (x y : Sp) (w : World) : Calls Try.prog 100 #[.agg (spV x).toArray, .agg (spV y).toArray] w fun e w' => e = .returned (.int .i64 (spCf x y)) ∧ ∃ q os', w' = grow (w.drewN q) os' := by
  have ha : argsRel sg0 [.agg (spV x).toArray, .agg (spV y).toArray] #[.agg (spV x).toArray, .agg (spV y).toArray] :=
    argsRel_cons (vRel_gnd (by simp [spV, gnd, gnd0])) (argsRel_cons (vRel_gnd (by simp [spV, gnd, gnd0])) (argsRel_nil _))
  refine (calls_grown_of_TC (rep0 w) ha (fun k => by rw [mem0_get]; rfl) (enters_of Try.func100 (by kernel_rfl) rfl _ w) (spcmp_tc x y mem0 (fun v m => v = .int .i64 (spCf x y)) rfl)).mono ?_
  rintro e w' ⟨v, rv, m', σ', rfl, rfl, hv, hw⟩
  exact ⟨by rw [show rv = .int .i64 (spCf x y) from hv], hw⟩
end Go.Lm
/- slices.SortFunc at spans: the contract. -/
set_option linter.unusedSimpArgs false
set_option linter.unusedVariables false
namespace Go.Lm
open Go.Proofs Go.Sort

theorem flatK_flatS (d : Array Sp) : flatK spV 3 d = flatS d.toList := by
  apply Array.ext_getElem?
  intro t
  by_cases ht : t < d.size * 3
  · have h1 := flatS_get d.toList t (by simpa using ht)
    rw [h1, Array.getElem?_eq_getElem (by simpa using ht)]
    simp [flatK]
  · rw [Array.getElem?_eq_none (by simp; omega), Array.getElem?_eq_none (by rw [flatS_size]; simp; omega)]

theorem flatS_int (l : List Sp) : ∀ x ∈ flatS l, ∃ n, x = .int .i64 n := by
  intro x hx
  simp only [flatS, List.mem_toArray, List.mem_flatMap] at hx
  obtain ⟨s, _, hx⟩ := hx
  simp only [spV, List.mem_cons, List.not_mem_nil, or_false] at hx
  rcases hx with rfl | rfl | rfl <;> exact ⟨_, rfl⟩
theorem sRel_int {σ : Sg} {x v : Value} (h : ∃ n, x = .int .i64 n) (r : sRel σ x v) : v = x := by
  obtain ⟨n, rfl⟩ := h; exact r

set_option maxHeartbeats 4000000 in
theorem slsort_tc (l : List Sp) (k cap : Nat) (m : Mem) (hm : m.get k = .cells false 3 (flatS l)) (hlen : l.length < 1000) (Q : Value → Mem → Prop)
    (h : ∀ l' : List Sp, l'.Perm l → l'.Pairwise (fun a b => ¬ spLt b a) → Q (.tuple #[]) (m.put k (.cells false 3 (flatS l')))) :
    TC Try.prog 99 [.slice (some ⟨k, 0, none⟩) l.length cap, .func (.func 100) #[] #[]] m Q := by
  intro σ w rs hR ha
  obtain ⟨rs0, rs1, rfl⟩ : ∃ a b, rs = #[a, b] := by
    have h1 := ha.1
    rcases rs with ⟨rs⟩
    match rs, h1 with
    | [a, b], _ => exact ⟨a, b, rfl⟩
  have h0 := ha.2 0 _ rs0 rfl rfl
  have h1 := ha.2 1 _ rs1 rfl rfl
  obtain ⟨fi', ca', rfl, hfi, hca⟩ : ∃ fi' ca', rs1 = .func (.func 100) fi' ca' ∧ aaRel (bRel σ) #[] fi' ∧ aaRel (bRel σ) #[] ca' := h1
  obtain ⟨rfl⟩ : fi' = #[] := Array.eq_empty_of_size_eq_zero hfi.1.symm
  obtain ⟨rfl⟩ : ca' = #[] := Array.eq_empty_of_size_eq_zero hca.1.symm
  obtain ⟨a', c', p, rfl, har, hcr⟩ : ∃ a' c' p, rs0 = .slice (some a') l.length c' ∧ aRel σ ⟨k, 0, none⟩ a' p ∧ cRel p a'.off cap c' := h0
  obtain ⟨_, hsp, hσ, hb, ho⟩ := har
  obtain ⟨ab, ao, asp⟩ := a'
  simp only at hsp hb ho hσ
  subst hsp hb ho
  simp only [Nat.add_zero] at *
  refine .inl ⟨enters_of Try.func99 (by kernel_rfl) rfl _ w, ?_⟩
  obtain ⟨q, hq, he, hcel⟩ := hR.cel k _ _ _ hm
  obtain ⟨hlim, C, T, f, hC, hCs, hfz⟩ := hR.own k _ _ hm p hσ
  have hqp : q = p := by rw [hσ] at hq; cases hq; rfl
  subst hqp
  rw [flatS_size] at hlim
  have hH : HoldsK spV 3 w q.b q.o l.toArray := by
    intro j hj
    rw [size_flatK, List.size_toArray] at hj
    have hx : (flatS l)[j]? = some (id (flatK spV 3 l.toArray)[j]!) := by
      rw [flatK_flatS]
      simp only [id]
      rw [getElem!_pos (flatS l) j (by rw [flatS_size]; exact hj), Array.getElem?_eq_getElem (by rw [flatS_size]; exact hj)]
    obtain ⟨v, hv, hs⟩ := hcel j _ hx
    have hg := flatS_int l _ (Array.mem_of_getElem? hx)
    exact ⟨by rw [hv, sRel_int hg hs], hfz _ (by omega)⟩
  have hcon := AnyQ.slices_SortFunc Try.sortSp 3 (fun w => by kernel_rfl) (fun w => by kernel_rfl) spV (fun _ => rfl) (fun x v hv => by simp only [spV, List.mem_cons, List.not_mem_nil, or_false] at hv; rcases hv with rfl | rfl | rfl <;> rfl) spCf spSWO 100 #[] q.b q.o c' l.toArray w
    (enters_of Try.func100 (by kernel_rfl) rfl) (fun _ _ _ _ x y => spcmp_calls x y _) hH (hR.bnd _ _ hσ) (by simp; omega)
  rw [List.size_toArray] at hcon
  change Calls Try.prog 99 _ _ _ at hcon
  refine hcon.mono ?_
  rintro e w' ⟨rfl, d', n, os, hp, hs, rfl⟩
  have hd' : d'.size = l.length := by have := hp.1; simpa using this
  refine ⟨.tuple #[], .tuple #[], m.put k (.cells false 3 (flatS d'.toList)), σ, rfl, h d'.toList ?_ ?_, ?_⟩
  · have := hp.2.2
    rw [Array.extract_eq_self_of_le (by omega), Array.extract_eq_self_of_le (by simp)] at this
    simpa using this
  · rw [List.pairwise_iff_getElem]
    intro i j hi hj hij
    simp only [Array.length_toList] at hi hj
    have := hs i j (Nat.zero_le _) hij (by omega)
    rw [spCf_lt, getElem!_pos d' i hi, getElem!_pos d' j hj] at this
    simpa using this
  · rw [Mem.get_put]
    have hfs : (flatS d'.toList).size = l.length * 3 := by rw [flatS_size]; simp [hd']
    have hH' : HoldsK spV 3 (putRowK spV 3 (Sort.ahead w n) q.b q.o d') q.b q.o d' := holdsK_putRowK (enc := spV) (k := 3) (w := Sort.ahead w n) (blk := q.b) (off := q.o) (d0 := l.toArray) (d := d') (h0 := hH) (hs := by simpa using hd')
    obtain ⟨r1, f1⟩ := hR.grown (w' := Go.Sort.ahead w n) (fun _ _ => rfl) (Nat.le_refl _) rfl rfl (by simp [Go.Sort.ahead])
    have hblk : (putRowK spV 3 (Sort.ahead w n) q.b q.o d').heap[q.b]? = some (.cells (putCells id q.o (flatK spV 3 d') C) T f) := by
      show ((Sort.ahead w n).heap.modify q.b _)[q.b]? = _
      rw [Array.getElem?_modify, if_pos rfl, show (Sort.ahead w n).heap[q.b]? = some (.cells C T f) from hC]
      rfl
    obtain ⟨r2, f2⟩ := r1.turn (w' := putRowK spV 3 (Sort.ahead w n) q.b q.o d') (o := .cells false 3 (flatS d'.toList)) hσ (by rw [hm]; rfl) ⟨by
        intro ro e c ho
        cases ho
        refine ⟨he, fun j x hx => ⟨x, ?_, ?_⟩⟩
        · have hj : j < (flatS d'.toList).size := (Array.getElem?_eq_some_iff.1 hx).1
          have := (hH' j (by rw [flatK_flatS]; exact hj)).1
          rw [this, flatK_flatS, getElem!_pos _ j hj]
          rw [Array.getElem?_eq_getElem hj] at hx
          exact hx
        · obtain ⟨z, rfl⟩ := flatS_int _ x (Array.mem_of_getElem? hx); rfl, by
        intro e c ho
        cases ho
        refine ⟨by rw [hfs]; exact hlim, _, T, f, hblk, by simpa [putCells] using hCs, fun j hj => ?_⟩
        show (putRow id (Sort.ahead w n) q.b q.o _).frozen? _ = false
        rw [frozen?_putRow]
        exact hfz j hj, by intro es ho; cases ho⟩ (by simp) (fun b hb => by
          show ((Sort.ahead w n).heap.modify q.b _)[b]? = _
          rw [Array.getElem?_modify, if_neg (fun e => hb e.symm)]) (by simp [putRowK]) rfl rfl (Nat.le_refl _)
    obtain ⟨r3, f3⟩ := r2.grown (w' := sortWorldK spV 3 w q.b q.o n d' os) (fun b hb => by
        show ((putRowK spV 3 (Sort.ahead w n) q.b q.o d').heap ++ os)[b]? = _
        rw [Array.getElem?_append, if_pos hb]) (by show _ ≤ (grow _ os).heap.size; rw [size_grow]; omega) rfl rfl (Nat.le_refl _)
    exact ⟨r3, ⟨#[], rfl, aaRel.nil _⟩, f1.trans (f2.trans f3)⟩
end Go.Lm
