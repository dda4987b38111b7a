/- The soundness of one operation. -/
import Derived.Test.YtfgcnehjdaiipaaL10
namespace Go.Lm

def Ran (σ : Sg) (M : Nat → Ob) (w : World) (k : Nat) (r : Result Next) (e : Eff) : Prop :=
  ∃ σ' w', Rep σ' (appE M k e) w' ∧ Fr σ M w σ' (appE M k e) w' ∧ ((∃ rv, r = .ok (.value rv) w' ∧ vRel σ' e.val rv) ∨ (r = .ok .skip w' ∧ e.val = undef))

section
variable {P : Program} {σ : Sg} {M : Nat → Ob} {w : World}

theorem RanV.ran {k : Nat} {s : Sem Value} {e : Eff} (h : RanV σ M w k (s.run P w) e) : Ran σ M w k ((do pure (Next.value (← s)) : Sem Next).run P w) e := by
  obtain ⟨σ', w', rv, h1, h2, h3, h4⟩ := h
  exact ⟨σ', w', h3, h4, .inl ⟨rv, by simp [h1], h2⟩⟩

theorem ran_pure (hR : Rep σ M w) {k : Nat} {s : Sem Value} {v : Value} (h : ∃ rv, s.run P w = .ok rv w ∧ vRel σ v rv) : Ran σ M w k ((do pure (Next.value (← s)) : Sem Next).run P w) { val := v } := by
  obtain ⟨rv, h1, h2⟩ := h
  exact (ranV_pure hR h1 h2).ran

theorem ran_unit {k : Nat} {s : Sem Unit} {e : Eff} (h : ∃ w', s.run P w = .ok () w' ∧ e.val = undef ∧ Rep σ (appE M k e) w' ∧ Fr σ M w σ (appE M k e) w') : Ran σ M w k ((do s; pure Next.skip : Sem Next).run P w) e := by
  obtain ⟨w', h1, h2, h3, h4⟩ := h
  exact ⟨σ, w', h3, h4, .inr ⟨by simp [h1], h2⟩⟩

theorem evp_sound {env : Env} {a : Act} (r : EnvRel σ env a.tmps) : ∀ {l : List (Nat × Operand)} {vs : List (Nat × Value)}, evp env l = some vs →
    vs.length = (l.map fun x => (x.1, a.eval x.2)).length ∧ ∀ (i : Nat) (x y : Nat × Value), vs[i]? = some x → (l.map fun x => (x.1, a.eval x.2))[i]? = some y → x.1 = y.1 ∧ vRel σ x.2 y.2
  | [], vs, h => by cases h; exact ⟨rfl, fun i v x h => by simp at h⟩
  | (j, x) :: l, vs, h => by
    simp only [evp] at h
    split at h
    · rename_i v vs' h1 h2
      cases h
      obtain ⟨e1, e2⟩ := evp_sound r h2
      refine ⟨by simp at e1; simp [e1], fun i u y hu hy => ?_⟩
      cases i with
      | zero => simp at hu hy; subst hu; subst hy; exact ⟨rfl, ev_sound r h1⟩
      | succ i => simp only [List.map_cons, List.getElem?_cons_succ] at hu hy; exact e2 i u y hu hy
    · cases h

theorem evs_rel {env : Env} {a : Act} (r : EnvRel σ env a.tmps) {l : Array Operand} {vs : List Value} (h : evs env l.toList = some vs) :
    vs.length = (l.map a.eval).size ∧ ∀ (i : Nat) (x y : Value), vs[i]? = some x → (l.map a.eval)[i]? = some y → vRel σ x y := by
  obtain ⟨e1, e2⟩ := evs_sound r h
  refine ⟨by simpa using e1, fun i x y hx hy => ?_⟩
  rw [Array.getElem?_map] at hy
  cases hl : l[i]? with
  | none => rw [hl] at hy; cases hy
  | some o => rw [hl] at hy; cases hy; exact e2 i x o hx (by simpa using hl)

theorem evo_sound {env : Env} {a : Act} (r : EnvRel σ env a.tmps) {o : Option Operand} {n : Option Int} (h : evo env o = some n) : optRel n (o.map a.eval) := by
  cases o with
  | none => cases h; rfl
  | some x =>
    simp only [evo] at h
    split at h
    · rename_i k m he
      cases h
      exact ⟨k, by rw [Option.map_some, vRel_int (ev_sound r he)]⟩
    · cases h

theorem isBasic_b {v rv : Value} (hb : isBasic v = true) (hv : vRel σ v rv) : bRel σ v rv := by
  cases v <;> first | exact hv | cases hb

theorem basics {vs : List Value} {ys : Array Value} (hb : vs.all isBasic = true) (hl : vs.length = ys.size) (h : ∀ (i : Nat) (x y : Value), vs[i]? = some x → ys[i]? = some y → vRel σ x y) : aaRel (bRel σ) vs.toArray ys := by
  refine ⟨by simpa using hl, fun i x y hx hy => ?_⟩
  rw [List.getElem?_toArray] at hx
  exact isBasic_b (List.all_eq_true.1 hb x (List.mem_of_getElem? hx)) (h i x y hx hy)

theorem alloc_sound (hR : Rep σ M w) {k : Nat} (hk : M k = .free) {t : TypeId} {z : Value} (hz : zeroQ P t = some z) :
    RanV σ M w k ((Instr.alloc t true (.tuple #[])).run P w) { val := ptr0 k, new := some (.cells false 0 z.cells) } := by
  have hr := zero_rel (σ := σ) hz
  obtain ⟨h1, h2⟩ := hR.alloc hk t 0 z.cells z.cells (Nat.le_refl _) (fun j x hx => hr.get hx)
  refine ⟨_, _, .pointer (some ⟨w.heap.size, 0, none⟩), ?_, ?_, h1, h2⟩
  · simp [Instr.alloc, rZero hz, newVar, newRow]
  · exact ⟨⟨w.heap.size, 0, none⟩, ⟨w.heap.size, 0, 0, z.cells.size⟩, rfl, rfl, rfl, by simp [Sset], rfl, by simp⟩

theorem box_sound (hR : Rep σ M w) {k : Nat} (hk : M k = .free) {t : TypeId} {v rv : Value} (hv : vRel σ v rv) {c : Array Value} (hc : vcells v = some c) :
    RanV σ M w k ((Instr.box t rv).run P w) { val := ptr0 k, new := some (.cells false 0 c) } := by
  have hr := vRel_cells hv hc
  obtain ⟨h1, h2⟩ := hR.alloc hk t 0 c rv.cells (by rw [hr.1]; exact Nat.le_refl _) (fun j x hx => hr.get hx)
  refine ⟨_, _, .pointer (some ⟨w.heap.size, 0, none⟩), ?_, ?_, h1, h2⟩
  · simp [Instr.box, newVar, newRow]
  · exact ⟨⟨w.heap.size, 0, none⟩, ⟨w.heap.size, 0, 0, rv.cells.size⟩, rfl, rfl, rfl, by simp [Sset], rfl, by simp⟩

theorem call_sound (hR : Rep σ M w) {env : Env} {a : Act} (hE : EnvRel σ env a.tmps) {k : Nat} (hk : M k = .free) {c : Call} {ty : TypeId} {e : Eff} (h : lblt P env M k c = some e) :
    Ran σ M w k ((do let d ← resolve a.eval c ty; invoke d.target d.args : Sem Next).run P w) e := by
  unfold lblt at h
  have hb : ∀ b, c.callee = .builtin b → (do let d ← resolve a.eval c ty; invoke d.target d.args : Sem Next).run P w = (builtin b c.argTypes ty (c.args.map fun | .const _ => true | _ => false) (c.args.map a.eval)).run P w := by
    intro b hb
    simp only [resolve, hb, pure_bind]
    rfl
  split at h
  · rename_i vs hc hvs
    rw [hb _ hc]
    obtain ⟨e1, e2⟩ := evs_rel hE hvs
    exact (append_sound hR hk e1 e2 h).ran
  · rename_i vs hc hvs
    rw [hb _ hc]
    obtain ⟨e1, e2⟩ := evs_rel hE hvs
    exact (copy_sound hR e1 e2 h).ran
  · rename_i vs hc hvs
    rw [hb _ hc]
    obtain ⟨e1, e2⟩ := evs_rel hE hvs
    exact (delete_sound hR e1 e2 h).ran
  · rename_i x r hc hvs
    rw [hb _ hc]
    obtain ⟨e1, e2⟩ := evs_rel hE hvs
    split at h
    case h_2 => cases h
    rename_i t ht
    split at h <;> cases h
    rename_i v hv
    obtain ⟨rx, hrx⟩ : ∃ rx, (c.args.map a.eval)[0]? = some rx := ⟨(c.args.map a.eval)[0]'(by rw [← e1]; simp), Array.getElem?_eq_getElem _⟩
    obtain ⟨g1, n, rfl⟩ := len_sound (P := P) (w := w) (ty := ty) hR ht hrx (e2 0 x rx (by simp) hrx) hv
    exact ran_pure hR ⟨_, g1, rfl⟩
  · rename_i x r hc hvs
    rw [hb _ hc]
    obtain ⟨e1, e2⟩ := evs_rel hE hvs
    split at h <;> cases h
    rename_i v hv
    generalize hrl : (c.args.map a.eval) = ra at e1 e2
    obtain ⟨rx, rr, hl⟩ : ∃ rx rr, ra.toList = rx :: rr := by
      cases hq : ra.toList with
      | nil => have : ra.size = 0 := by rw [← Array.length_toList, hq]; rfl
               rw [this] at e1; simp at e1
      | cons u v => exact ⟨u, v, rfl⟩
    have hx := e2 0 x rx (by simp) (by rw [← Array.getElem?_toList, hl]; simp)
    have hrel : ∀ (j : Nat) (u v : Value), r[j]? = some u → rr[j]? = some v → vRel σ u v := fun j u v hu hv => e2 (j + 1) u v (by simpa using hu) (by rw [← Array.getElem?_toList, hl]; simpa using hv)
    have hlen : r.length = rr.length := by
      have : ra.size = (rx :: rr).length := by rw [← hl]; simp
      rw [this] at e1; simpa using e1
    obtain ⟨k1, n1, rfl⟩ : ∃ k1 n1, x = .int k1 n1 := by
      unfold lmin at hv; split at hv
      · exact ⟨_, _, rfl⟩
      · exact ⟨_, _, rfl⟩
      · cases hv
    cases vRel_int hx
    obtain ⟨g1, k2, n2, rfl⟩ := min_sound (P := P) (w := w) r rr _ v hv hlen hrel
    refine ran_pure (s := Builtin.min_ c.argTypes ty ra) hR ⟨_, ?_, rfl⟩
    simp only [Builtin.min_, hl]
    simpa using g1
  · rename_i x r hc hvs
    rw [hb _ hc]
    obtain ⟨e1, e2⟩ := evs_rel hE hvs
    split at h <;> cases h
    rename_i v hv
    generalize hrl : (c.args.map a.eval) = ra at e1 e2
    obtain ⟨rx, rr, hl⟩ : ∃ rx rr, ra.toList = rx :: rr := by
      cases hq : ra.toList with
      | nil => have : ra.size = 0 := by rw [← Array.length_toList, hq]; rfl
               rw [this] at e1; simp at e1
      | cons u v => exact ⟨u, v, rfl⟩
    have hx := e2 0 x rx (by simp) (by rw [← Array.getElem?_toList, hl]; simp)
    have hrel : ∀ (j : Nat) (u v : Value), r[j]? = some u → rr[j]? = some v → vRel σ u v := fun j u v hu hv => e2 (j + 1) u v (by simpa using hu) (by rw [← Array.getElem?_toList, hl]; simpa using hv)
    have hlen : r.length = rr.length := by
      have : ra.size = (rx :: rr).length := by rw [← hl]; simp
      rw [this] at e1; simpa using e1
    obtain ⟨k1, n1, rfl⟩ : ∃ k1 n1, x = .int k1 n1 := by
      unfold lmin at hv; split at hv
      · exact ⟨_, _, rfl⟩
      · exact ⟨_, _, rfl⟩
      · cases hv
    cases vRel_int hx
    obtain ⟨g1, k2, n2, rfl⟩ := min_sound (P := P) (w := w) r rr _ v hv hlen hrel
    refine ran_pure (s := Builtin.max_ c.argTypes ty ra) hR ⟨_, ?_, rfl⟩
    simp only [Builtin.max_, hl]
    simpa using g1
  · cases h

theorem lop_sound (hR : Rep σ M w) {env : Env} {a : Act} (hE : EnvRel σ env a.tmps) {k : Nat} (hk : M k = .free) (o : Oper) {e : Eff} (h : lop P env M k o.op = some e) :
    Ran σ M w k ((execOp a.eval o).run P w) e := by
  unfold execOp
  cases ho : o.op <;> rw [ho] at h <;> simp only [lop] at h <;> try (cases h; done)
  case move x =>
    split at h <;> cases h
    rename_i v hv
    exact ⟨σ, w, hR, .refl _ _ _, .inl ⟨_, rfl, ev_sound hE hv⟩⟩
  case assign x =>
    split at h <;> cases h
    rename_i v hv
    exact ⟨σ, w, hR, .refl _ _ _, .inl ⟨_, rfl, ev_sound hE hv⟩⟩
  case pick c x y =>
    split at h
    case h_2 => cases h
    rename_i t hc
    split at h <;> cases h
    rename_i v hv
    have hcv := vRel_bool (ev_sound hE hc)
    refine ⟨σ, w, hR, .refl _ _ _, .inl ⟨a.eval (if t then x else y), ?_, ev_sound hE hv⟩⟩
    simp only [hcv, asBool, pure_bind, Sem.run_pure]
    cases t <;> rfl
  case alloc t =>
    split at h <;> cases h
    rename_i z hz
    exact (alloc_sound hR hk hz).ran
  case box t x =>
    split at h
    case h_2 => cases h
    rename_i v hv
    split at h <;> cases h
    rename_i c hc
    exact (box_sound hR hk (ev_sound hE hv) hc).ran
  case build t parts =>
    split at h
    case h_2 => cases h
    rename_i ps hps
    split at h <;> cases h
    rename_i v hv
    obtain ⟨e1, e2⟩ := evp_sound hE hps
    have := build_sound (P := P) (w := w) e1 e2 hv
    refine ran_pure hR ?_
    have he : (parts.map fun x => (x.1, a.eval x.2)) = (parts.toList.map fun x => (x.1, a.eval x.2)).toArray := by rw [← Array.toList_map, Array.toArray_toList]
    show ∃ rv, (Instr.build t (parts.map fun x => (x.1, a.eval x.2))).run P w = .ok rv w ∧ vRel σ v rv
    rw [he]; exact this
  case buildSlice t len parts =>
    split at h
    case h_2 => cases h
    rename_i ps hps
    obtain ⟨e1, e2⟩ := evp_sound hE hps
    have := buildSlice_sound (P := P) hR hk e1 e2 h
    have he : (parts.map fun x => (x.1, a.eval x.2)) = (parts.toList.map fun x => (x.1, a.eval x.2)).toArray := by rw [← Array.toList_map, Array.toArray_toList]
    have he2 : (parts.map fun (i, x) => (i, a.eval x)) = (parts.map fun x => (x.1, a.eval x.2)) := rfl
    rw [← he, ← he2] at this
    exact this.ran
  case load t x =>
    split at h
    case h_2 => cases h
    rename_i p hp
    split at h <;> cases h
    rename_i v hv
    exact ran_pure hR (load_sound hR (ev_sound hE hp) hv)
  case store t x y =>
    split at h
    case h_2 => cases h
    rename_i p v hp hv
    exact ran_unit (store_sound hR (ev_sound hE hp) (ev_sound hE hv) h)
  case nilCheck x =>
    split at h
    · rename_i b hb
      cases h
      have hv := ev_sound hE hb
      obtain ⟨a', p, e1, e2⟩ := vRel_ptr hv
      exact ⟨σ, w, hR, .refl _ _ _, .inl ⟨.pointer (some a'), by simp [e1], by rw [← e1]; exact hv⟩⟩
    · rename_i g fi ca hb
      cases h
      have hv := ev_sound hE hb
      obtain ⟨fi', ca', e1, e2, e3⟩ : ∃ fi' ca', a.eval x = .func (.func g) fi' ca' ∧ aaRel (bRel σ) fi fi' ∧ aaRel (bRel σ) ca ca' := hv
      exact ⟨σ, w, hR, .refl _ _ _, .inl ⟨.func (.func g) fi' ca', by simp [e1], by rw [← e1]; exact ev_sound hE hb⟩⟩
    · cases h
  case binOp op t x y t' =>
    split at h
    case h_2 => cases h
    rename_i u v hu hv
    split at h <;> cases h
    rename_i r hr
    exact ran_pure hR (lbin_sound x y (ev_sound hE hu) (ev_sound hE hv) hr)
  case unOp op t x =>
    split at h
    case h_2 => cases h
    rename_i u hu
    split at h <;> cases h
    rename_i r hr
    exact ran_pure hR (lun_sound (ev_sound hE hu) hr)
  case convert src dst x =>
    split at h
    case h_2 => cases h
    rename_i u hu
    exact (conv_sound hR hk (ev_sound hE hu) h).ran
  case makeFunc fn first captured =>
    split at h
    case h_2 => cases h
    rename_i u v hu hv
    split at h <;> cases h
    rename_i hb
    simp only [Bool.and_eq_true] at hb
    obtain ⟨e1, e2⟩ := evs_rel hE hu
    obtain ⟨e3, e4⟩ := evs_rel hE hv
    exact ran_pure hR ⟨_, rfl, _, _, rfl, basics hb.1 e1 e2, basics hb.2 e3 e4⟩
  case makeMap t r =>
    cases r with
    | some x => cases h
    | none => cases h; exact (makeMap_sound hR hk t).ran
  case makeSlice t l c =>
    split at h
    case h_2 => cases h
    rename_i u v hu hv
    exact (makeSlice_sound hR hk (ev_sound hE hu) (ev_sound hE hv) h).ran
  case slice t x lo hi mx =>
    split at h
    case h_2 => cases h
    rename_i u l hh m hu hl hh' hm
    split at h <;> cases h
    rename_i r hr
    exact ran_pure hR (slice_sound hR (ev_sound hE hu) (evo_sound hE hl) (evo_sound hE hh') (evo_sound hE hm) hr)
  case fieldAddr t x f =>
    split at h
    case h_2 => cases h
    rename_i u hu
    split at h <;> cases h
    rename_i r hr
    exact ran_pure hR (fieldAddr_sound (ev_sound hE hu) hr)
  case field t x f =>
    split at h
    case h_2 => cases h
    rename_i u hu
    split at h <;> cases h
    rename_i r hr
    exact ran_pure hR (field_sound (ev_sound hE hu) hr)
  case indexAddr t x i =>
    split at h
    case h_2 => cases h
    rename_i u j hu hj
    split at h <;> cases h
    rename_i r hr
    exact ran_pure hR (indexAddr_sound (ev_sound hE hu) (ev_sound hE hj) hr)
  case index t x i =>
    split at h
    case h_2 => cases h
    rename_i u j hu hj
    split at h <;> cases h
    rename_i r hr
    exact ran_pure hR (index_sound (ev_sound hE hu) (ev_sound hE hj) hr)
  case lookup t x i ok =>
    split at h
    case h_2 => cases h
    rename_i u j hu hj
    split at h <;> cases h
    rename_i r hr
    exact ran_pure hR (lookup_sound hR (ev_sound hE hu) (ev_sound hE hj) hr)
  case mapUpdate t m i x =>
    split at h
    case h_2 => cases h
    rename_i u j v hu hj hv
    exact ran_unit (mapUpdate_sound hR (ev_sound hE hu) (ev_sound hE hj) (ev_sound hE hv) h)
  case extract x i =>
    split at h
    case h_2 => cases h
    rename_i vs hvs
    split at h <;> cases h
    rename_i v hv
    obtain ⟨C, e1, e2⟩ : ∃ C, a.eval x = .tuple C ∧ aaRel (tRel σ) vs C := ev_sound hE hvs
    obtain ⟨y, hy, ht⟩ := e2.get hv
    exact ran_pure hR ⟨y, by simp [Instr.extract, e1, hy], by cases v <;> first | exact ht | exact ht.elim⟩
  case call c => exact call_sound hR hE hk h
end
end Go.Lm
