/- The operations' soundness, one by one. -/
import Derived.Test.YtfgcnehjdaiipaaL4
import GoSem.Dispatch
namespace Go.Lm

def appM (M : Nat → Ob) : List (Nat × Ob) → Nat → Ob
  | [] => M
  | (i, o) :: r => appM (Mset M i o) r

def appE (M : Nat → Ob) (k : Nat) (e : Eff) : Nat → Ob :=
  match e.new with
  | some o => Mset (appM M e.mods) k o
  | none => appM M e.mods

def RanV (σ : Sg) (M : Nat → Ob) (w : World) (k : Nat) (r : Result Value) (e : Eff) : Prop :=
  ∃ σ' w' rv, r = .ok rv w' ∧ vRel σ' e.val rv ∧ Rep σ' (appE M k e) w' ∧ Fr σ M w σ' (appE M k e) w'

section
variable {P : Program} {σ : Sg} {M : Nat → Ob} {w : World}

theorem ranV_pure (hR : Rep σ M w) {k : Nat} {r : Result Value} {v rv : Value} (h : r = .ok rv w) (hv : vRel σ v rv) : RanV σ M w k r { val := v } :=
  ⟨σ, w, rv, h, hv, hR, .refl _ _ _⟩

theorem add_off (a : Addr) (h : a.spot = none) (n : Nat) : a.add n = ⟨a.block, a.off + n, none⟩ := by
  unfold Addr.add
  split
  · subst_vars; cases a; simp at h; simp [h]
  · rfl

/-- the cells of an object, as the machine has them -/
theorem Rep.at (hR : Rep σ M w) {a a' : Addr} {p : Pl} (ha : aRel σ a a' p) {ro : Bool} {e : Nat} {c : Array Value} (hM : M a.block = .cells ro e c) (i : Nat) (x : Value) (hx : c[a.off + i]? = some x) :
    ∃ v, w.cell? (a'.add i) = some v ∧ sRel σ x v := by
  obtain ⟨q, hq, _, h⟩ := hR.cel _ ro e c hM
  rw [ha.2.2.1] at hq; cases hq
  obtain ⟨v, hv, hs⟩ := h _ _ hx
  refine ⟨v, ?_, hs⟩
  rw [add_off a' ha.2.1, ha.2.2.2.1, ha.2.2.2.2, Nat.add_assoc]
  exact hv

theorem run_load_cell {a : Addr} {v : Value} (h : w.cell? a = some v) : (load a).run P w = .ok v w := by simp [h]

theorem loadCells_sound (hR : Rep σ M w) {a a' : Addr} {p : Pl} (ha : aRel σ a a' p) {ro : Bool} {e : Nat} {c : Array Value} (hM : M a.block = .cells ro e c) (n : Nat) (hn : a.off + n ≤ c.size) :
    ∃ C, (loadCells a' n).run P w = .ok C w ∧ aaRel (sRel σ) (c.extract a.off (a.off + n)) C := by
  have hv : ∀ j, j < n → ∃ v, w.cell? (a'.add j) = some v ∧ sRel σ (c.getD (a.off + j) undef) v := fun j hj => by
    have h1 : c[a.off + j]? = some (c.getD (a.off + j) undef) := by
      rw [Array.getD_eq_getD_getElem?, Array.getElem?_eq_getElem (by omega)]; rfl
    exact hR.at ha hM j _ h1
  refine ⟨((List.range n).map fun j => (w.cell? (a'.add j)).getD undef).toArray, ?_, ?_, ?_⟩
  · exact run_loadCells w a' n _ fun j hj => by obtain ⟨v, h1, _⟩ := hv j hj; simp [h1]
  · simp; omega
  · intro i x y hx hy
    rw [Array.getElem?_extract] at hx
    split at hx
    · rename_i hi
      have hin : i < n := by omega
      obtain ⟨v, h1, h2⟩ := hv i hin
      simp [hin, h1] at hy
      subst hy
      rw [Array.getD_eq_getD_getElem?, hx] at h2
      exact h2
    · cases hx

theorem load_sound (hR : Rep σ M w) {t : TypeId} {v rv x : Value} (hv : vRel σ v rv) (h : lload P M t v = some x) :
    ∃ rx, (Instr.loadAt t rv).run P w = .ok rx w ∧ vRel σ x rx := by
  unfold lload at h
  split at h
  case h_2 => cases h
  rename_i a
  obtain ⟨a', p, rfl, ha⟩ := vRel_ptr hv
  split at h
  case h_2 => cases h
  rename_i ro e c hM
  split at h
  · rename_i hq
    obtain ⟨h1, _⟩ := tyQ_agg_true (w := w) hq
    split at h
    case h_2 => cases h
    rename_i s hs
    split at h
    case isFalse => cases h
    rename_i hsz
    cases h
    obtain ⟨C, h2, h3⟩ := loadCells_sound (P := P) hR ha hM s hsz
    exact ⟨.agg C, by simp [Instr.loadAt, Instr.sureAddr, loadVar, h1, rSize hs, h2], C, rfl, h3⟩
  · rename_i hq
    obtain ⟨h1, _⟩ := tyQ_agg_false (w := w) hq
    obtain ⟨v, h2, h3⟩ := hR.at ha hM 0 x (by simpa using h)
    rw [add_off a' ha.2.1, Nat.add_zero] at h2
    have e1 : (⟨a'.block, a'.off, none⟩ : Addr) = a' := by have := ha.2.1; cases a'; simp at this; simp [this]
    rw [e1] at h2
    exact ⟨v, by simp [Instr.loadAt, Instr.sureAddr, loadVar, h1, h2], vRel.of_s h3⟩
  · cases h

theorem aaRel.mem {R : Value → Value → Prop} {xs ys : Array Value} (r : aaRel R xs ys) {y : Value} (h : y ∈ ys.toList) : ∃ x, R x y := by
  rw [Array.mem_toList_iff] at h
  obtain ⟨i, hi, e⟩ := Array.mem_iff_getElem.1 h
  exact ⟨xs[i]'(r.1 ▸ hi), r.2 i _ _ (Array.getElem?_eq_getElem _) (by rw [← e]; exact Array.getElem?_eq_getElem _)⟩

/-- A row of stores into an owned object. -/
theorem storeCells_sound (hR : Rep σ M w) {a a' : Addr} {p : Pl} (ha : aRel σ a a' p) {e : Nat} {c : Array Value} (hM : M a.block = .cells false e c) (i : Nat) {vs rvs : Array Value} (hv : aaRel (sRel σ) vs rvs)
    (hn : a.off + i + vs.size ≤ c.size) :
    ∃ w', (storeCells (a'.add i) rvs.toList).run P w = .ok () w' ∧ Rep σ (Mset M a.block (.cells false e (setL c (a.off + i) vs.toList))) w' ∧ Fr σ M w σ (Mset M a.block (.cells false e (setL c (a.off + i) vs.toList))) w' := by
  obtain ⟨q, hq, he, hcel⟩ := hR.cel _ _ e c hM
  obtain ⟨hlim, C, T, f, hC, hCs, hfz⟩ := hR.own _ e c hM q hq
  have hqp : q = p := by have := ha.2.2.1; rw [hq] at this; cases this; rfl
  subst hqp
  have hadd : a'.add i = ⟨q.b, q.o + a.off + i, none⟩ := by rw [add_off a' ha.2.1, ha.2.2.2.1, ha.2.2.2.2]
  have hcell : ∀ j x, C[j]? = some x → w.cell? ⟨q.b, j, none⟩ = some x := fun j x hx => by rw [cell_of_row w _ _ _ _ _ hC]; exact hx
  refine ⟨w.setCells q.b (q.o + a.off + i) rvs.toList, ?_, ?_⟩
  · rw [hadd]
    have := run_storeCells_cells (P := P) q.b (q.o + a.off + i) rvs.toList 0 w (fun j hj => ?_) (fun j hj => ?_) (fun v hvm => ?_)
    · simpa using this
    · simp only [Array.length_toList] at hj
      rw [Option.isSome_iff_exists]
      exact ⟨_, hcell _ _ (Array.getElem?_eq_getElem (by have := hv.1; omega))⟩
    · simp only [Array.length_toList] at hj
      exact hfz _ (by have := hv.1; omega)
    · obtain ⟨x, hx⟩ := hv.mem hvm; exact sRel_oneCell hx
  · have hnew := setCells_heap rvs.toList q.b (q.o + a.off + i) w C T f hC
    refine hR.turn hq (by rw [hM]; rfl) ⟨?_, ?_, ?_⟩ (by simp) (fun b hb => setCells_heap_other _ _ _ _ _ hb) (setCells_size _ _ _ _) (setCells_os _ _ _ _) (setCells_out _ _ _ _)
    · intro ro' e' c' ho
      cases ho
      refine ⟨he, fun j x hx => ?_⟩
      rw [setL_get _ _ _ _ (by simpa using hn)] at hx
      simp only [Array.length_toList, Array.getElem?_toList] at hx
      simp only [cell_of_row _ _ _ _ _ _ hnew]
      rw [setL_get _ _ _ _ (by simp; have := hv.1; omega)]
      simp only [Array.length_toList, Array.getElem?_toList]
      by_cases hj : a.off + i ≤ j ∧ j < a.off + i + vs.size
      · rw [if_pos hj] at hx
        obtain ⟨y, hy, hs⟩ := hv.get hx
        exact ⟨y, by rw [if_pos (by have := hv.1; omega), show q.o + j - (q.o + a.off + i) = j - (a.off + i) by omega]; exact hy, hs⟩
      · rw [if_neg hj] at hx
        obtain ⟨y, hy, hs⟩ := hcel j x hx
        rw [cell_of_row _ _ _ _ _ _ hC] at hy
        exact ⟨y, by rw [if_neg (by have := hv.1; omega)]; exact hy, hs⟩
    · intro e' c' ho
      cases ho
      refine ⟨by rw [setL_size]; exact hlim, _, _, _, hnew, by rw [setL_size]; exact hCs, fun j hj => ?_⟩
      have := hfz j hj
      simp only [World.frozen?, hC, hnew] at this ⊢
      exact this
    · intro es ho; cases ho

theorem wr_eq (c : Array Value) (off : Nat) (vs : Array Value) (h : off + vs.size ≤ c.size) : wr c off vs = setL c off vs.toList := by
  unfold wr
  split
  · rename_i hc
    obtain ⟨rfl, hs⟩ := hc
    apply Array.ext_getElem?
    intro i
    rw [setL_get _ _ _ _ (by simpa using h)]
    simp only [Nat.zero_le, Nat.zero_add, true_and, Array.length_toList, Nat.sub_zero, Array.getElem?_toList]
    split
    · rfl
    · rw [Array.getElem?_eq_none (by omega), Array.getElem?_eq_none (by omega)]
  · rfl

theorem store_sound (hR : Rep σ M w) {t : TypeId} {addr ra v rv : Value} {k : Nat} {e : Eff} (hp : vRel σ addr ra) (hv : vRel σ v rv) (h : lstore P M t addr v = some e) :
    ∃ w', (Instr.storeAt t ra rv).run P w = .ok () w' ∧ e.val = undef ∧ Rep σ (appE M k e) w' ∧ Fr σ M w σ (appE M k e) w' := by
  unfold lstore at h
  split at h
  case h_2 => cases h
  rename_i a
  obtain ⟨a', p, rfl, ha⟩ := vRel_ptr hp
  split at h
  case h_2 => cases h
  rename_i ee c hM
  split at h
  case h_2 => cases h
  rename_i vs s hvs hs
  split at h
  case isFalse => cases h
  rename_i hc
  cases h
  rw [wr_eq _ _ _ (by omega)]
  have hr := vRel_cells hv hvs
  obtain ⟨w', h1, h2, h3⟩ := storeCells_sound (P := P) hR ha hM 0 hr (by omega)
  have e1 : a'.add 0 = a' := by simp [Addr.add]
  rw [e1] at h1
  refine ⟨w', ?_, rfl, h2, h3⟩
  have hsz : rv.cells.size = s := by rw [← hr.1]; exact hc.1
  simp [Instr.storeAt, Instr.sureAddr, storeVar, rSize hs, hsz, h1]

theorem fieldAddr_sound {t : TypeId} {v rv x : Value} {f : Nat} (hv : vRel σ v rv) (h : lfieldAddr P t v f = some x) :
    ∃ rx, (Instr.fieldAt t rv f).run P w = .ok rx w ∧ vRel σ x rx := by
  unfold lfieldAddr at h
  split at h
  case h_2 => cases h
  rename_i fs a hq
  obtain ⟨a', p, rfl, ha⟩ := vRel_ptr hv
  obtain ⟨fields, hu, hl, _⟩ := tyQ_struct hq
  split at h
  case h_2 => cases h
  rename_i off ty s hf
  split at h
  case isTrue => cases h
  rename_i hs0
  cases h
  subst hl
  rw [List.getElem?_map] at hf
  cases hfd : fields.toList[f]? with
  | none => rw [hfd] at hf; cases hf
  | some fd =>
    rw [hfd] at hf
    simp only [Option.map_some, Option.some.injEq, Prod.mk.injEq] at hf
    obtain ⟨h1, h2, h3⟩ := hf
    cases hsz : sizeQ P fd.type with
    | none => rw [hsz] at h3; simp at h3; omega
    | some s' =>
      rw [hsz] at h3; simp at h3; subst h3
      rw [Array.getElem?_toList] at hfd
      refine ⟨.pointer (some (a'.add fd.offset)), ?_, a'.add fd.offset, p, rfl, rfl, ?_, ha.2.2.1, ?_, ?_⟩
      · simp [Instr.fieldAt, rUnd hu, hfd, Instr.sureAddr, fieldPlace, rSize hsz, hs0]
      · rw [add_off a' ha.2.1]
      · rw [add_off a' ha.2.1]; exact ha.2.2.2.1
      · rw [add_off a' ha.2.1, ← h1]; simp only []; rw [ha.2.2.2.2]; omega

theorem indexAddr_sound {t : TypeId} {v rv ix rix x : Value} (hv : vRel σ v rv) (hi : vRel σ ix rix) (h : lindexAddr P t v ix = some x) :
    ∃ rx, (Instr.indexAt t rv rix).run P w = .ok rx w ∧ vRel σ x rx := by
  unfold lindexAddr at h
  split at h
  · rename_i n el s a k i hq
    obtain ⟨a', p, rfl, ha⟩ := vRel_ptr hv
    cases vRel_int hi
    obtain ⟨hu, hs⟩ := tyQ_arr hq
    split at h
    case isFalse => cases h
    rename_i hb
    cases h
    refine ⟨.pointer (some (a'.add (i.toNat * s))), ?_, a'.add (i.toNat * s), p, rfl, rfl, ?_, ha.2.2.1, ?_, ?_⟩
    · simp [Instr.indexAt, asIntOf, rUnd hu, Instr.sureAddr, rSize hs, hb]
    · rw [add_off a' ha.2.1]
    · rw [add_off a' ha.2.1]; exact ha.2.2.2.1
    · rw [add_off a' ha.2.1]; simp only []; rw [ha.2.2.2.2]; omega
  · rename_i el s a n c k i hq
    obtain ⟨a', c', p, rfl, ha, _⟩ := vRel_sl hv
    cases vRel_int hi
    obtain ⟨hu, hs⟩ := tyQ_sl hq
    split at h
    case isFalse => cases h
    rename_i hb
    cases h
    refine ⟨.pointer (some (a'.add (i.toNat * s))), ?_, a'.add (i.toNat * s), p, rfl, rfl, ?_, ha.2.2.1, ?_, ?_⟩
    · simp [Instr.indexAt, asIntOf, rUnd hu, rSize hs, hb]
    · rw [add_off a' ha.2.1]
    · rw [add_off a' ha.2.1]; exact ha.2.2.2.1
    · rw [add_off a' ha.2.1]; simp only []; rw [ha.2.2.2.2]; omega
  · cases h

theorem part_sound {t : TypeId} {c C : Array Value} (hc : aaRel (sRel σ) c C) {off : Nat} {x : Value} (h : lpart P t c off = some x) :
    ∃ rx, (part t C off).run P w = .ok rx w ∧ vRel σ x rx ∧ (tyQ P t).isAgg ≠ none := by
  unfold lpart at h
  split at h
  · rename_i hq
    obtain ⟨h1, _⟩ := tyQ_agg_true (w := w) hq
    split at h
    case h_2 => cases h
    rename_i s hs
    cases h
    exact ⟨.agg (C.extract off (off + s)), by simp [part, h1, rSize hs], ⟨_, rfl, hc.extract _ _⟩, by simp [hq]⟩
  · rename_i hq
    obtain ⟨h1, _⟩ := tyQ_agg_false (w := w) hq
    obtain ⟨y, hy, hs⟩ := hc.get h
    exact ⟨y, by simp [part, h1, hy], vRel.of_s hs, by simp [hq]⟩
  · cases h

theorem index_sound {t : TypeId} {v rv ix rix x : Value} (hv : vRel σ v rv) (hi : vRel σ ix rix) (h : lindex P t v ix = some x) :
    ∃ rx, (Instr.index t rv rix).run P w = .ok rx w ∧ vRel σ x rx := by
  unfold lindex at h
  split at h
  · rename_i n el s c k i hq
    obtain ⟨C, rfl, hC⟩ := vRel_agg hv
    cases vRel_int hi
    obtain ⟨hu, hs⟩ := tyQ_arr hq
    split at h
    case isFalse => cases h
    rename_i hb
    obtain ⟨rx, h1, h2, _⟩ := part_sound (w := w) hC h
    exact ⟨rx, by simp [Instr.index, asIntOf, rUnd hu, rSize hs, hb, h1], h2⟩
  · rename_i b k i hq
    cases vRel_string hv
    cases vRel_int hi
    have hu := tyQ_str hq
    split at h
    case isFalse => cases h
    rename_i hb
    split at h
    case h_2 => cases h
    rename_i u hx
    cases h
    exact ⟨.int .u8 u.toNat, by simp [Instr.index, asIntOf, rUnd hu, hb, hx], rfl⟩
  · cases h

theorem field_sound {t : TypeId} {v rv x : Value} {f : Nat} (hv : vRel σ v rv) (h : lfield P t v f = some x) :
    ∃ rx, (Instr.field t rv f).run P w = .ok rx w ∧ vRel σ x rx := by
  unfold lfield at h
  split at h
  case h_2 => cases h
  rename_i fs c hq
  obtain ⟨C, rfl, hC⟩ := vRel_agg hv
  obtain ⟨fields, hu, hl, _⟩ := tyQ_struct hq
  subst hl
  split at h
  case h_2 => cases h
  rename_i off ty s hf
  rw [List.getElem?_map] at hf
  cases hfd : fields.toList[f]? with
  | none => rw [hfd] at hf; cases hf
  | some fd =>
    rw [hfd] at hf
    simp only [Option.map_some, Option.some.injEq, Prod.mk.injEq] at hf
    obtain ⟨h1, h2, h3⟩ := hf
    subst h1; subst h2
    rw [Array.getElem?_toList] at hfd
    obtain ⟨rx, h4, h5, _⟩ := part_sound (w := w) hC h
    exact ⟨rx, by simp [Instr.field, rUnd hu, hfd, asAgg, h4], h5⟩
end

end Go.Lm
