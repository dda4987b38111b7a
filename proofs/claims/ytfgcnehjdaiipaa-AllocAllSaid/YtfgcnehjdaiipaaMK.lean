/- Regions that draw their order, and arguments that are rows of structs. -/
import Derived.Test.YtfgcnehjdaiipaaMG
import Derived.Conc.AtomicLaws
/- sync/atomic on local memory: LoadInt64, AddInt64. -/
set_option linter.unusedVariables false
namespace Go.Lm

section
variable {P : Program}
theorem extern_run {g : FuncId} {fn : Func} {e : Array Value → Sem Value} (hf : P.funcs[g]? = some fn) (hb : fn.body = none) (hname : (fn.name == "runtime.NumGoroutine") = false) (hn : Extern.findNext fn = none) (he : Extern.find fn = some e) (rs : Array Value) (w : World) :
    (callFunc g rs).run P w = ((do pure (.value (← e rs))) : Sem Next).run P w := by
  simp only [callFunc, Sem.run_bind, run_program, Result.andThen_ok, hf]
  rw [if_neg (by rw [hname]; simp), if_pos (by rw [hb]; rfl)]
  simp only [hn, he, Sem.run_bind, run_mark, Result.andThen_ok]

theorem atomicLoad_tc {g : FuncId} {fn : Func} (hf : P.funcs[g]? = some fn) (hb : fn.body = none) (hname : (fn.name == "runtime.NumGoroutine") = false) (hn : Extern.findNext fn = none) (he : Extern.find fn = some (Extern.Atomic.loadT (.int .i64)))
    {k off e : Nat} {ro : Bool} {c : Array Value} {n : Int} {m : Mem} (hm : m.get k = .cells ro e c) (hc : c[off]? = some (.int .i64 n)) {Q : Value → Mem → Prop} (h : Q (.int .i64 n) m) : TC P g [.pointer (some ⟨k, off, none⟩)] m Q := by
  intro σ w rs hR ha
  obtain ⟨hl, hr⟩ := ha
  obtain ⟨ra, rfl⟩ : ∃ x, rs = #[x] := by
    obtain ⟨l⟩ := rs
    match l, hl with
    | [x], _ => exact ⟨x, rfl⟩
  have h1 := hr 0 _ _ rfl rfl
  obtain ⟨a', p, rfl, har⟩ := vRel_ptr h1
  obtain ⟨v, hv, hs⟩ := hR.at har hm 0 (.int .i64 n) (by simpa using hc)
  have hv' : v = .int .i64 n := hs
  subst hv'
  right
  refine ⟨.int .i64 n, w, ?_, .int .i64 n, .int .i64 n, m, σ, rfl, h, hR, rfl, .refl _ _ _⟩
  have e0 : a'.add 0 = a' := by simp [Addr.add]
  rw [e0] at hv
  have e1 : Extern.Atomic.loadT (.int .i64) #[.pointer (some a')] = (do Extern.Atomic.read (.int .i64) (← asAddr (.pointer (some a')))) := rfl
  rw [extern_run hf hb hname hn he, e1]
  simp [Extern.Atomic.read, asAddr, hv]

theorem atomicAdd_tc {g : FuncId} {fn : Func} (hf : P.funcs[g]? = some fn) (hb : fn.body = none) (hname : (fn.name == "runtime.NumGoroutine") = false) (hn : Extern.findNext fn = none)
    (he : Extern.find fn = some (Extern.Atomic.update (Op.intArith .add) .i64 true))
    {k off e : Nat} {c : Array Value} {n d : Int} {m : Mem} (hm : m.get k = .cells false e c) (hc : c[off]? = some (.int .i64 n)) {Q : Value → Mem → Prop}
    (h : Q (.int .i64 (IntKind.i64.wrap (n + d))) (m.put k (.cells false e (c.setIfInBounds off (.int .i64 (IntKind.i64.wrap (n + d))))))) :
    TC P g [.pointer (some ⟨k, off, none⟩), .int .i64 d] m Q := by
  intro σ w rs hR ha
  obtain ⟨hl, hr⟩ := ha
  obtain ⟨ra, rb, rfl⟩ : ∃ x y, rs = #[x, y] := by
    obtain ⟨l⟩ := rs
    match l, hl with
    | [x, y], _ => exact ⟨x, y, rfl⟩
  have h1 := hr 0 _ _ rfl rfl
  have h2 : rb = .int .i64 d := hr 1 _ _ rfl rfl
  subst h2
  obtain ⟨a', p, rfl, har⟩ := vRel_ptr h1
  obtain ⟨v, hv, hs⟩ := hR.at har hm 0 (.int .i64 n) (by simpa using hc)
  have hv' : v = .int .i64 n := hs
  subst hv'
  have hlt : off < c.size := by
    rcases Nat.lt_or_ge off c.size with h' | h'
    · exact h'
    · rw [Array.getElem?_eq_none h'] at hc; cases hc
  have e0 : a'.add 0 = a' := by simp [Addr.add]
  rw [e0] at hv
  obtain ⟨w', g1, g2, g3⟩ := storeCells_sound (P := P) hR har hm 0 (vs := #[.int .i64 (IntKind.i64.wrap (n + d))]) (rvs := #[.int .i64 (IntKind.i64.wrap (n + d))]) (aaRel.one rfl) (by simp; omega)
  rw [e0] at g1
  simp only [storeCells, e0, Sem.run_bind] at g1
  have hone : (Value.int IntKind.i64 (IntKind.i64.wrap (n + d))).oneCell' = true := rfl
  rw [run_store P w a' _ _ hone, hv] at g1
  have hst : (store a' (.int .i64 (IntKind.i64.wrap (n + d))) .atomic).run P w = .ok () w' := by
    rw [run_store P w a' _ _ hone, hv]
    by_cases hz : w.frozen? a' = true
    · simp only [hz, if_true] at g1; cases g1
    · simp only [hz] at g1 ⊢; simpa using g1
  right
  refine ⟨.int .i64 (IntKind.i64.wrap (n + d)), w', ?_, .int .i64 (IntKind.i64.wrap (n + d)), .int .i64 (IntKind.i64.wrap (n + d)), _, σ, rfl, h, ?_, rfl, ?_⟩
  · have e1 : Extern.Atomic.update (Op.intArith .add) .i64 true #[.pointer (some a'), .int .i64 d] =
        (do let a ← asAddr (.pointer (some a')); let old ← Extern.Atomic.read (.int .i64) a; let new ← Op.intArith .add .i64 (← asInt old) (← asInt (.int .i64 d)); store a new .atomic; pure (if true = true then new else old)) := rfl
    rw [extern_run hf hb hname hn he, e1]
    simp [Extern.Atomic.read, asAddr, asInt, asIntOf, Op.intArith, hv, hst]
  · rw [Mem.get_put]
    have : setL c (off + 0) [Value.int .i64 (IntKind.i64.wrap (n + d))] = c.setIfInBounds off (.int .i64 (IntKind.i64.wrap (n + d))) := by simp [setL]
    simp only [this] at g2
    exact g2
  · rw [Mem.get_put]
    have : setL c (off + 0) [Value.int .i64 (IntKind.i64.wrap (n + d))] = c.setIfInBounds off (.int .i64 (IntKind.i64.wrap (n + d))) := by simp [setL]
    simp only [this] at g3
    exact g3
end
end Go.Lm
/- A call that is left with all it has: memory that is only said to have been stepped. -/
set_option linter.unusedVariables false
namespace Go.Lm

/-- What there was is there still; what has been turned, or is new, leads to what is there. -/
structure Stp (m m' : Mem) : Prop where
  old : ∀ k, m.get k ≠ .free → m'.get k ≠ .free
  obj : ∀ k, (m'.get k).alive = true → (m.get k ≠ .free ∧ m'.get k = m.get k) ∨ okO (fun k => m'.get k ≠ .free) (m'.get k)

theorem okB.mono {D D' : Nat → Prop} (h : ∀ k, D k → D' k) {v : Value} (r : okB D v) : okB D' v := by
  cases v with
  | pointer a => cases a with | none => trivial | some a => exact h _ r
  | slice a l c => cases a with | none => trivial | some a => exact h _ r
  | map a => cases a with | none => trivial | some a => exact h _ r
  | _ => trivial
theorem okS.mono {D D' : Nat → Prop} (h : ∀ k, D k → D' k) {v : Value} (r : okS D v) : okS D' v := by
  cases v with
  | func f fi ca => exact ⟨fun x hx => (r.1 x hx).mono h, fun x hx => (r.2 x hx).mono h⟩
  | pointer a => exact okB.mono (v := .pointer a) h r
  | slice a l c => exact okB.mono (v := .slice a l c) h r
  | map a => exact okB.mono (v := .map a) h r
  | _ => trivial
theorem okO.mono {D D' : Nat → Prop} (h : ∀ k, D k → D' k) {o : Ob} (r : okO D o) : okO D' o := by
  cases o with
  | cells ro e c => exact fun x hx => (r x hx).mono h
  | map es => exact fun x hx => (r x hx).mono h
  | _ => trivial

theorem Stp.refl (m : Mem) : Stp m m := ⟨fun _ h => h, fun k h => .inl ⟨fun e => (by rw [e] at h; cases h), rfl⟩⟩
theorem Stp.trans {m m' m'' : Mem} (h : Stp m m') (h' : Stp m' m'') : Stp m m'' where
  old k hk := h'.old k (h.old k hk)
  obj k hk := by
    rcases h'.obj k hk with ⟨h1, h2⟩ | h1
    · rw [h2] at hk ⊢
      rcases h.obj k hk with h3 | h3
      · exact .inl h3
      · exact .inr (okO.mono (fun j hj => h'.old j hj) h3)
    · exact .inr h1

theorem Stp.put {m : Mem} {k : Nat} {o : Ob} (hk : m.get k ≠ .free) (hf : o ≠ .free) (ho : okO (fun k => m.get k ≠ .free) o) : Stp m (m.put k o) := by
  have hg := Mem.get_put m k o
  have hold : ∀ j, m.get j ≠ .free → (m.put k o).get j ≠ .free := fun j hj => by
    rw [hg, Mset]
    by_cases e : j = k
    · rw [if_pos e]; exact hf
    · rw [if_neg e]; exact hj
  refine ⟨hold, fun j hj => ?_⟩
  by_cases e : j = k
  · right
    subst e
    rw [hg, Mset_same, ← hg]
    exact okO.mono hold ho
  · left
    have : (m.put k o).get j = m.get j := by rw [hg, Mset, if_neg e]
    rw [this] at hj ⊢
    exact ⟨fun x => (by rw [x] at hj; cases hj), rfl⟩
theorem Stp.add {m : Mem} {o : Ob} (hf : o ≠ .free) (ho : okO (fun k => m.get k ≠ .free) o) : Stp m (m.put m.top o) := by
  have hg := Mem.get_put m m.top o
  have hold : ∀ j, m.get j ≠ .free → (m.put m.top o).get j ≠ .free := fun j hj => by
    rw [hg, Mset]
    by_cases e : j = m.top
    · rw [if_pos e]; exact hf
    · rw [if_neg e]; exact hj
  refine ⟨hold, fun j hj => ?_⟩
  by_cases e : j = m.top
  · right
    subst e
    rw [hg, Mset_same, ← hg]
    exact okO.mono hold ho
  · left
    have : (m.put m.top o).get j = m.get j := by rw [hg, Mset, if_neg e]
    rw [this] at hj ⊢
    exact ⟨fun x => (by rw [x] at hj; cases hj), rfl⟩

/-- The caller is told of all. -/
theorem leave_stp {m m' : Mem} {v : Value} {Q : Value → Mem → Prop} (hs : Stp m m') (hv : okV (fun k => m'.get k ≠ .free) v) (h : Q v m') : ∃ m0 v0, Nonempty (Leave m m' v m0 v0) ∧ Q v0 m0 := by
  refine ⟨m', v, ⟨⟨id, (rnV_id v).symm, hv, fun k hk => ⟨rfl, hs.old k hk⟩, fun k hk => ?_, fun k k' hne _ _ => hne⟩⟩, h⟩
  rcases hs.obj k hk with ⟨h1, h2⟩ | h1
  · exact .inl ⟨h1, h2, h2⟩
  · exact .inr ⟨(rnO_id _).symm, h1⟩

/-- a call's beginning: the caller's memory, sealed -/
theorem enter_get (m : Mem) (k : Nat) : m.enter.get k = m.get k := by
  show (Mem.mk m.get m.top []).get k = m.get k
  by_cases h : k < m.top
  · exact get_base _ _ _ h
  · rw [get_top_le (m := m) (by omega)]
    obtain ⟨j, rfl⟩ : ∃ j, k = m.top + j := ⟨k - m.top, by omega⟩
    rw [get_loc]; rfl
theorem mk_get (m : Mem) (k : Nat) : (Mem.mk m.get m.top []).get k = m.get k := enter_get m k
theorem Stp.of_enter {m m' : Mem} (h : Stp (Mem.mk m.get m.top []) m') : Stp m m' :=
  ⟨fun k hk => h.old k (by rw [mk_get]; exact hk), fun k hk => by have := h.obj k hk; rw [mk_get] at this; exact this⟩
end Go.Lm
/- Lists handed back. -/
set_option linter.unusedSimpArgs false
set_option linter.unusedVariables false
namespace Go.Lm

def i64A (l : List Int) : Array Value := (l.map (Value.int .i64)).toArray
/-- a list handed back: nil, or a new row -/
def lstV (k : Nat) (l : List Int) : Value := if l = [] then .slice none 0 0 else .slice (some ⟨k, 0, none⟩) l.length l.length
def lstM (m : Mem) (k : Nat) (l : List Int) : Mem := if l = [] then m else m.put k (.cells false 1 (i64A l))

theorem leave_row_at {m : Mem} {loc : List Ob} {i e kk l cap : Nat} {c : Array Value} {Q : Value → Mem → Prop} (hi : loc[i]? = some (.cells false e c)) (hc : ∀ x ∈ c, gnd0 x = true) (hf : m.get kk = .free)
    (h : Q (.slice (some ⟨kk, 0, none⟩) l cap) (m.put kk (.cells false e c))) :
    ∃ m0 v1, Nonempty (Leave m { base := m.get, n := m.top, loc := loc } (.slice (some ⟨m.top + i, 0, none⟩) l cap) m0 v1) ∧ Q v1 m0 := by
  have hg : (m.put kk (.cells false e c)).get = Mset m.get kk (.cells false e c) := Mem.get_put _ _ _
  have hlt : ∀ k, k ≠ kk → ((m.put kk (.cells false e c)).get k).alive = true → (m.get k).alive = true ∧ k < m.top := fun k hk ha => by
    rw [hg, Mset_ne _ _ hk] at ha
    exact ⟨ha, get_lt fun e => by rw [e] at ha; cases ha⟩
  refine ⟨m.put kk (.cells false e c), .slice (some ⟨kk, 0, none⟩) l cap, ⟨⟨fun x => if x = kk then m.top + i else x, ?_, ?_, fun k hk => ⟨?_, ?_⟩, fun k hk => ?_, fun k k' hne hk hk' => ?_⟩⟩, h⟩
  · show Value.slice _ _ _ = Value.slice (some (rnA _ _)) _ _
    simp only [rnA, if_true]
  · show (m.put kk _).get kk ≠ .free
    rw [hg, Mset_same]; intro e; cases e
  · have e1 : k ≠ kk := fun e => hk (by rw [e]; exact hf)
    exact if_neg e1
  · have e1 : k ≠ kk := fun e => hk (by rw [e]; exact hf)
    rw [hg, Mset_ne _ _ e1]; exact hk
  · by_cases e1 : k = kk
    · right
      rw [if_pos e1, e1, hg, Mset_same, get_loc, hi]
      refine ⟨?_, fun x hx => okS_gnd0 (hc x hx)⟩
      simp only [Option.getD_some, rnO, rn_gnds hc]
    · left
      obtain ⟨h1, h2⟩ := hlt k e1 hk
      exact ⟨fun e => (by rw [e] at h1; cases h1), by rw [hg, Mset_ne _ _ e1], get_base _ _ _ h2⟩
  · by_cases e1 : k = kk
    · by_cases e2 : k' = kk
      · exact absurd (e1.trans e2.symm) hne
      · rw [if_pos e1, if_neg e2]; have := (hlt k' e2 hk').2; omega
    · by_cases e2 : k' = kk
      · rw [if_neg e1, if_pos e2]; have := (hlt k e1 hk).2; omega
      · rw [if_neg e1, if_neg e2]; exact hne

theorem i64A_gnd (l : List Int) : ∀ x ∈ i64A l, gnd0 x = true := by
  intro x hx
  simp only [i64A, List.mem_toArray, List.mem_map] at hx
  obtain ⟨_, _, rfl⟩ := hx; rfl

theorem y1 : (Array.range 1).map (fun x => [Value.int .i64 0][x % 1]?.getD default) = #[.int .i64 0] := by kernel_rfl
end Go.Lm
/- A region that draws its order, whose last operation may run at any time. -/
namespace Go.Lm

section
variable {P : Program} {N : Nat} {ops : Array Oper} {s : Nat} {env : Env} {m : Mem} {K : Env → Mem → Prop}

/-- the environment without a slot -/
def eras (d : Nat) : Env → Env
  | [] => []
  | p :: r => if p.1 = d then eras d r else p :: eras d r
@[simp] theorem elook_eras (d : Nat) : ∀ (e : Env) (t : Nat), elook (eras d e) t = if t = d then none else elook e t
  | [], t => by simp [eras, elook]
  | (k, v) :: r, t => by
    unfold eras
    by_cases hk : k = d
    · rw [if_pos hk, elook_eras d r t]
      by_cases ht : t = d
      · rw [if_pos ht, if_pos ht]
      · rw [if_neg ht, if_neg ht]
        simp only [elook]
        rw [if_neg (fun e => ht (by rw [← hk, e]))]
    · rw [if_neg hk]
      simp only [elook]
      by_cases ht : k = t
      · rw [if_pos ht, if_pos ht, if_neg (fun e => hk (ht.trans e))]
      · rw [if_neg ht, if_neg ht, elook_eras d r t]

theorem put_other {a : Act} {dst : Option Nat} {v : Value} {t : Nat} (h : dst ≠ some t) : (a.put dst v).tmps[t]? = a.tmps[t]? := by
  cases dst with
  | none => rfl
  | some q =>
    simp only [Act.put]
    rw [Array.getElem?_setIfInBounds_ne (fun e => h (by rw [e]))]

theorem putEnv_other {v : Value} {dst : Option Nat} {env env' : Env} {t : Nat} (h : putEnv N env dst v = some env') (ht : dst ≠ some t) : elook env' t = elook env t := by
  unfold putEnv at h
  split at h
  · cases h; rfl
  · split at h
    · cases h
      simp only [elook]
      rw [if_neg (fun e => ht (by rw [e]))]
    · cases h

/-- One operation of a list, wherever its turn comes. -/
theorem wpo_step (l0 : List Oper) {o : Oper} {r : List Oper} (h : wpo P N l0 K (o :: r) env m) {σ : Sg} {a : Act} {w : World} (hR : Rep σ m.get w) (hE : EnvRel σ env a.tmps) (hN : a.tmps.size = N)
    {i : Nat} (hi : l0.toArray[i]? = some o) {Q : Exit → Act → World → Prop} {Kn : Act → World → Prop}
    (hK : ∀ env' m' σ' a' w', wpo P N l0 K r env' m' → Rep σ' m'.get w' → EnvRel σ' env' a'.tmps → a'.tmps.size = N → a'.defers = a.defers → Fr σ m.get w σ' m'.get w' → (∀ t, o.dst ≠ some t → a'.tmps[t]? = a.tmps[t]? ∧ elook env' t = elook env t) → Kn a' w') :
    wpOp P l0.toArray Q i Kn a w := by
  unfold wpOp
  rw [hi]
  simp only
  simp only [wpo] at h
  split at h
  · exact h.elim
  · rename_i hg
    have hw := guardQ_sound hg hE
    split at h
    case h_2 => exact h.elim
    rename_i env' he
    have hu : vRel σ undef undef := ⟨#[], rfl, aaRel.nil _⟩
    obtain ⟨g1, g2, g3⟩ := putEnv_sound he (.refl σ) hE hN hu
    rw [hw]
    simp only [Bool.false_eq_true, if_false]
    exact hK env' m σ _ w h hR g1 g2 g3 (.refl _ _ _) fun t ht => ⟨put_other ht, putEnv_other he ht⟩
  · rename_i hg
    have hw := guardQ_sound hg hE
    rw [hw]
    simp only [if_true]
    refine .inl ?_
    split at h
    · rename_i g vs hc
      obtain ⟨c, rs, ho, ha, hrun⟩ := goCall_sound (P := P) hc hE
      unfold Oper.wp execOp
      rw [ho]
      simp only
      rw [hrun]
      have fin : ∀ (e : Ending) (w' : World), PostC σ m w (fun v m' => match putEnv N env o.dst v with | some env' => wpo P N l0 K r env' m' | none => False) e w' →
          ∃ rv, e = .returned rv ∧ Kn (a.put o.dst rv) w' := by
        rintro e w' ⟨v, rv, m', σ', rfl, hq, hR', hv, hF⟩
        refine ⟨rv, rfl, ?_⟩
        split at hq
        case h_2 => exact hq.elim
        rename_i env' he
        obtain ⟨g1, g2, g3⟩ := putEnv_sound he hF.ext hE hN hv
        exact hK env' m' σ' _ w' hq hR' g1 g2 g3 hF fun t ht => ⟨put_other ht, putEnv_other he ht⟩
      rcases h σ w rs hR ha with ⟨h1, h2⟩ | ⟨rv, w', h1, h2⟩
      · rw [h1]
        simp only [Oper.upon]
        refine h2.mono fun e w' hp => ?_
        obtain ⟨rv, rfl, hfin⟩ := fin e w' hp
        exact hfin
      · rw [h1]
        simp only [Oper.upon]
        obtain ⟨rv', e1, hfin⟩ := fin _ w' h2
        cases e1
        exact hfin
    · split at h
      case h_2 => exact h.elim
      rename_i e he
      split at h
      case h_2 => exact h.elim
      rename_i env' hp
      obtain ⟨σ', w', hR', hF, hcase⟩ := lop_sound hR hE (Mem.get_top m) o he
      rw [← Mem.get_app] at hR' hF
      unfold Oper.wp
      rcases hcase with ⟨rv, hr, hv⟩ | ⟨hr, hv⟩
      · rw [hr]
        simp only [Oper.upon]
        obtain ⟨g1, g2, g3⟩ := putEnv_sound hp hF.ext hE hN hv
        exact hK env' _ σ' _ w' h hR' g1 g2 g3 hF fun t ht => ⟨put_other ht, putEnv_other hp ht⟩
      · rw [hr]
        simp only [Oper.upon]
        rw [hv] at hp
        have hu : vRel σ' undef undef := ⟨#[], rfl, aaRel.nil _⟩
        obtain ⟨g1, g2, g3⟩ := putEnv_sound hp hF.ext hE hN hu
        exact hK env' _ σ' _ w' h hR' g1 g2 g3 hF fun t ht => ⟨put_other ht, putEnv_other hp ht⟩
theorem opFact_env {env' : Env} {D : List DRes} {j : Nat} {o : Oper} {x : DRes} (h : OpFact P N ops env m D j o x) (he : ∀ t ∈ o.looksAt ops, elook env' t = elook env t) : OpFact P N ops env' m D j o x := by
  have hlook : ∀ t ∈ o.looksAt ops, elook (senv (bit ((Region.before ops).getD j 0)) 0 D env') t = elook (senv (bit ((Region.before ops).getD j 0)) 0 D env) t := fun t ht =>
    senv_agree _ _ t D 0 env' env (he t ht) fun _ _ _ hne => absurd rfl hne
  have hev := ev_same hlook
  have hev' := ev_same fun t ht => (hlook t ht).symm
  obtain ⟨h1, h2, h3⟩ := h
  refine ⟨h1, h2, ?_⟩
  rcases h3 with ⟨hg, h4⟩ | ⟨hg, h4⟩
  · exact .inl ⟨by rw [guardQ_same hlook]; exact hg, h4⟩
  · refine .inr ⟨by rw [guardQ_same hlook]; exact hg, ?_⟩
    rcases h4 with ⟨g, vs, hc, h5⟩ | ⟨hc, hl⟩
    · exact .inl ⟨g, vs, goCall_same hev hc, h5⟩
    · refine .inr ⟨?_, lop_mono (fun _ _ => rfl) hev rfl hl⟩
      cases hx : goCall (senv (bit ((Region.before ops).getD j 0)) 0 D env') o.op with
      | none => rfl
      | some r => rw [goCall_same hev' hx] at hc; cases hc

/-- The last operation moves a constant into a slot that no other looks at: it may run at any time. -/
theorem draw_flt (n d : Nat) (c : Value) (f : Oper) (hsz : ops.size = n + 1) (hfn : ops[n]? = some f) (hfd : f.dst = some d) (hdN : d < N)
    (hfs : ∀ (env : Env) (m : Mem), wpo P N ops.toList K [f] env m = K ((d, c) :: env) m) (hfl : ∀ (env : Env) (m : Mem) (K' : Env → Mem → Prop), wpo P N ops.toList K' [f] env m = K' ((d, c) :: env) m)
    (hok : drawOk ops (n + 1) = true) (hno : ∀ (j : Nat) (o : Oper), j < n → ops[j]? = some o → d ∉ o.looksAt ops ∧ o.dst ≠ some d)
    (htl : ∀ i, s ≤ i → i < n → ∀ j, j < i → ((Region.before ops).getD i 0).testBit j = true) (hsn : s ≤ n)
    (h : drw P N ops s (fun i => (Region.before ops).getD i 0) (eras d env) m (fun D => wpo P N ops.toList K (ops.toList.drop s) (senv (fun _ => true) 0 D (eras d env)) (smem (fun _ => true) 0 D m)) ops.toList 0 m.top []) : DrawW P N ops env m K := by
  have hD := drawOk_spec hok
  obtain ⟨D, kid', hK, hku, hlen, hDs, hDle, hf⟩ := drw_facts ops.toList 0 m.top [] h (by simp) rfl (Nat.zero_le _) (Nat.zero_le _) (Nat.le_refl _) ⟨fun j d o h => by simp at h, fun j j' d d' o o' h => by simp at h⟩ (fun j o d _ h => by simp at h)
  have hDn : D.length = s := by rcases hlen with h' | h' <;> omega
  intro σ a w hR hE hN Q hQ
  -- the environment, the last one having run or not
  obtain ⟨eb, heb⟩ : ∃ eb : Bool → Env, eb = fun b => if b then (d, c) :: eras d env else eras d env := ⟨_, rfl⟩
  have eb_t : ∀ b t, t ≠ d → elook (eb b) t = elook (eras d env) t := fun b t ht => by
    rw [heb]
    cases b
    · rfl
    · simp only [if_true, elook]; rw [if_neg (fun e => ht e.symm)]
  have hfb : ∀ b (j : Nat) (o : Oper) (x : DRes), ops[j]? = some o → D[j]? = some x → OpFact P N ops (eb b) m (D.take j) j o x := fun b j o x hj hx => by
    have hjD : j < D.length := (List.getElem?_eq_some_iff.1 hx).1
    exact opFact_env (hf j o x hj hx) fun t ht => eb_t b t (fun e => (hno j o (by omega) hj).1 (by rw [← e]; exact ht))
  have dstD : ∀ (j : Nat) (x : DRes), D[j]? = some x → x.dst ≠ some d := fun j x hx => by
    have hjD : j < D.length := (List.getElem?_eq_some_iff.1 hx).1
    have hjo : ops[j]? = some (ops[j]'(by omega)) := Array.getElem?_eq_getElem _
    rw [(hf j _ x hjo hx).1]
    exact (hno j _ (by omega) hjo).2
  have senv_d : ∀ (on : Nat → Bool) (e : Env), elook (senv on 0 D e) d = elook e d := fun on e => by
    have : ∀ (D : List DRes) (i : Nat) (e : Env), (∀ (j : Nat) (x : DRes), D[j]? = some x → x.dst ≠ some d) → elook (senv on i D e) d = elook e d := by
      intro D
      induction D with
      | nil => intro i e _; rfl
      | cons x r ih =>
        intro i e hx
        simp only [senv]
        rw [ih (i + 1) _ fun j y hy => hx (j + 1) y (by simpa using hy), sE_other (hx 0 x (by simp))]
    exact this D 0 e dstD
  have lt_n : ∀ {i : Nat} {o : Oper}, ops[i]? = some o → i < n ∨ i = n := fun {i o} ho => by
    have := (Array.getElem?_eq_some_iff.1 ho).1; omega
  -- the last one, at its turn
  have last : ∀ (env₁ : Env) (m₁ : Mem) (σ' : Sg) (a' : Act) (w' : World) (Kn : Act → World → Prop), Rep σ' m₁.get w' → EnvRel σ' env₁ a'.tmps → a'.tmps.size = N →
      (∀ σ'' a'' w'', Rep σ'' m₁.get w'' → EnvRel σ'' ((d, c) :: env₁) a''.tmps → a''.tmps.size = N → a''.defers = a'.defers → Fr σ' m₁.get w' σ'' m₁.get w'' → Kn a'' w'') → wpOp P ops Q n Kn a' w' := by
    intro env₁ m₁ σ' a' w' Kn r1 r2 r3 hk
    have hw : wpo P N ops.toList (fun e2 m2 => e2 = (d, c) :: env₁ ∧ m2 = m₁) [f] env₁ m₁ := by rw [hfl]; exact ⟨rfl, rfl⟩
    have := wpo_step (Q := Q) (Kn := Kn) ops.toList hw r1 r2 r3 (i := n) (by rw [Array.toArray_toList]; exact hfn) (fun env' m' σ'' a'' w'' h1 h2 h3 h4 h5 h6 _ => by
      obtain ⟨rfl, rfl⟩ : env' = (d, c) :: env₁ ∧ m' = m₁ := h1
      exact hk σ'' a'' w'' h2 h3 h4 h5 h6)
    rwa [Array.toArray_toList] at this
  -- the others, one behind the other, and the last one at any time
  have main2 : ∀ (fuel i : Nat) (listed : Array Bool) (env₁ : Env) (m₁ : Mem) (σ' : Sg) (a' : Act) (w' : World), cnt listed = fuel → listed.size = ops.size → Closed ops listed → s ≤ i → i ≤ n → (∀ j, j < n → (onL listed j = true ↔ j < i)) →
      wpo P N ops.toList K (ops.toList.drop i) env₁ m₁ → elook env₁ d = none → Rep σ' m₁.get w' → EnvRel σ' env₁ a'.tmps → a'.tmps.size = N → a'.defers = a.defers → Fr σ m.get w σ' m₁.get w' →
      (onL listed n = true → ∃ rc, a'.tmps[d]? = some rc ∧ vRel σ' c rc) → wpAny P .any ops Q fuel listed a' w' := by
    intro fuel
    induction fuel with
    | zero =>
      intro i listed env₁ m₁ σ' a' w' hcnt hlsz hc hsi hin hon hw hed hR' hE' hN' hd' hF' hflag
      have hall : ∀ i, i < ops.size → onL listed i = true := by
        intro i hi
        cases hx : onL listed i with
        | true => rfl
        | false =>
          have := cnt_set (by omega) hx
          omega
      have hii : i = n := by
        rcases Nat.lt_or_ge i n with h' | h'
        · have := (hon i h').1 (hall i (by omega)); omega
        · omega
      subst hii
      have hdrop : ops.toList.drop i = [f] := by
        rw [List.drop_eq_getElem_cons (by simp; omega), List.drop_eq_nil_of_le (by simp; omega)]
        simp only [Array.getElem_toList]
        rw [Array.getElem?_eq_getElem (by omega)] at hfn
        rw [Option.some.inj hfn]
      rw [hdrop, hfs] at hw
      refine ⟨?_, ?_⟩
      · cases hr : Region.ready .any ops listed with
        | nil => rfl
        | cons i r =>
          obtain ⟨o, ho, h1, _⟩ := ready_spec hlsz (i := i) (by rw [hr]; simp)
          have hi : i < ops.size := (Array.getElem?_eq_some_iff.1 ho).1
          rw [hall i hi] at h1; cases h1
      · obtain ⟨rc, h1, h2⟩ := hflag (hall i (by omega))
        refine hQ _ _ σ' a' w' hw hR' (fun t v ht => ?_) hN' hd' hF'
        simp only [elook] at ht
        by_cases e : d = t
        · rw [if_pos e] at ht; cases ht; subst e; exact ⟨rc, h1, h2⟩
        · rw [if_neg e] at ht; exact hE' t v ht
    | succ fuel ih =>
      intro i listed env₁ m₁ σ' a' w' hcnt hlsz hc hsi hin hon hw hed hR' hE' hN' hd' hF' hflag
      refine ⟨fun h0 => ?_, fun q hq => ?_⟩
      · have hall := ready_nil hD.low hlsz h0
        rw [cnt_all (fun i hi => hall i (by omega))] at hcnt
        omega
      · obtain ⟨o, ho, hun, hedge⟩ := ready_spec hlsz hq
        have hcl : Closed ops (listed.setIfInBounds q true) := by
          have hqlt : q < ops.size := (Array.getElem?_eq_some_iff.1 ho).1
          intro j oj hoj hj e he hb
          rw [onL_set (by omega)] at hj ⊢
          rw [Bool.or_eq_true, decide_eq_true_iff] at hj ⊢
          right
          rcases hj with rfl | hj
          · rw [hoj] at ho; cases ho; exact hedge e he hb
          · exact hc j oj hoj hj e he hb
        have hcn : cnt (listed.setIfInBounds q true) = fuel := by
          have hqlt : q < ops.size := (Array.getElem?_eq_some_iff.1 ho).1
          have := cnt_set (i := q) (by omega) hun; omega
        rcases lt_n ho with hqn | rfl
        · have hqi : q = i := by
            rcases Nat.lt_trichotomy q i with h' | h' | h'
            · rw [(hon q hqn).2 h'] at hun; cases hun
            · exact h'
            · have := (ahead_listed hD.low hc q o ho hedge i (htl q (by omega) hqn i h')).1
              have := (hon i (by omega)).1 this
              omega
          subst hqi
          have hdrop : ops.toList.drop q = o :: ops.toList.drop (q + 1) := by
            have hqlt : q < ops.size := (Array.getElem?_eq_some_iff.1 ho).1
            rw [List.drop_eq_getElem_cons (by simpa using hqlt)]
            simp only [Array.getElem_toList]
            rw [Array.getElem?_eq_getElem hqlt] at ho
            rw [Option.some.inj ho]
          rw [hdrop] at hw
          have := wpo_step (Q := Q) (Kn := wpAny P .any ops Q fuel (listed.setIfInBounds q true)) ops.toList hw hR' hE' hN' (i := q) (by rw [Array.toArray_toList]; exact ho) (fun env₂ m₂ σ'' a'' w'' h1 h2 h3 h4 h5 h6 h7 => by
            have hdo := (hno q o hqn ho).2
            refine ih (q + 1) _ env₂ m₂ σ'' a'' w'' hcn (by simpa using hlsz) hcl (by omega) (by omega) (fun j hj => ?_) h1 (by rw [(h7 d hdo).2]; exact hed) h2 h3 h4 (h5.trans hd') (hF'.trans h6) (fun hfl2 => ?_)
            · rw [onL_set (by omega), Bool.or_eq_true, decide_eq_true_iff, hon j hj]; omega
            · rw [onL_set (by omega)] at hfl2
              have e : (decide (n = q)) = false := by simp; omega
              rw [e, Bool.false_or] at hfl2
              obtain ⟨rc, g1, g2⟩ := hflag hfl2
              exact ⟨rc, by rw [(h7 d hdo).1]; exact g1, g2.mono h6.ext⟩)
          rwa [Array.toArray_toList] at this
        · refine last env₁ m₁ σ' a' w' _ hR' hE' hN' fun σ'' a'' w'' r1 r2 r3 r4 r5 => ?_
          refine ih i _ env₁ m₁ σ'' a'' w'' hcn (by simpa using hlsz) hcl hsi hin (fun j hj => ?_) hw hed r1 (fun t v ht => ?_) r3 (r4.trans hd') (hF'.trans r5) (fun _ => ?_)
          · rw [onL_set (by omega), Bool.or_eq_true, decide_eq_true_iff, hon j hj]; omega
          · refine r2 t v ?_
            simp only [elook]
            by_cases e : d = t
            · subst e; rw [hed] at ht; cases ht
            · rw [if_neg e]; exact ht
          · exact r2 d c (by simp [elook])
  have main1 : ∀ (fuel : Nat) (listed : Array Bool) (σ' : Sg) (a' : Act) (w' : World), cnt listed = fuel → listed.size = ops.size → Closed ops listed → (∀ j, s ≤ j → j < n → onL listed j = false) →
      Rep σ' (smem (onL listed) 0 D m).get w' → EnvRel σ' (senv (onL listed) 0 D (eb (onL listed n))) a'.tmps → a'.tmps.size = N → a'.defers = a.defers → Fr σ m.get w σ' (smem (onL listed) 0 D m).get w' → wpAny P .any ops Q fuel listed a' w' := by
    intro fuel
    induction fuel with
    | zero =>
      intro listed σ' a' w' hcnt hlsz hc hno' hR' hE' hN' hd' hF'
      have hall : ∀ i, i < ops.size → onL listed i = true := by
        intro i hi
        cases hx : onL listed i with
        | true => rfl
        | false =>
          have := cnt_set (by omega) hx
          omega
      have hsn' : s = n := by
        rcases Nat.lt_or_ge s n with h' | h'
        · have := hall s (by omega); rw [hno' s (Nat.le_refl _) h'] at this; cases this
        · omega
      have e1 : (smem (fun _ => true) 0 D m).get = (smem (onL listed) 0 D m).get := smem_congr _ _ D 0 m m rfl fun j x o hj _ => by
        have := (List.getElem?_eq_some_iff.1 hj).1
        rw [Nat.zero_add]; exact (hall j (by omega)).symm
      have hfl1 := hall n (by omega)
      rw [hfl1] at hE'
      refine main2 0 s listed _ _ σ' a' w' hcnt hlsz hc (Nat.le_refl _) hsn (fun j hj => ⟨fun _ => by omega, fun _ => hall j (by omega)⟩) hK (by rw [senv_d, elook_eras, if_pos rfl]) (by rw [e1]; exact hR') (fun t v ht => ?_) hN' hd' (by rw [e1]; exact hF') (fun _ => ?_)
      · have htd : t ≠ d := fun e => by subst e; rw [senv_d, elook_eras, if_pos rfl] at ht; cases ht
        refine hE' t v ?_
        rw [← ht]
        exact senv_agree _ _ t D 0 _ _ (eb_t true t htd) fun j x hj hne => by
          have := (List.getElem?_eq_some_iff.1 hj).1
          rw [Nat.zero_add] at hne; exact absurd (hall j (by omega)) hne
      · exact hE' d c (by rw [senv_d, heb]; simp [elook])
    | succ fuel ih =>
      intro listed σ' a' w' hcnt hlsz hc hno' hR' hE' hN' hd' hF'
      by_cases hall : ∀ j, j < s → onL listed j = true
      · have e1 : (smem (fun _ => true) 0 D m).get = (smem (onL listed) 0 D m).get := smem_congr _ _ D 0 m m rfl fun j x o hj _ => by
          have := (List.getElem?_eq_some_iff.1 hj).1
          rw [Nat.zero_add]; exact (hall j (by omega)).symm
        refine main2 (fuel + 1) s listed _ _ σ' a' w' hcnt hlsz hc (Nat.le_refl _) hsn (fun j hj => ⟨fun hx => ?_, fun hx => hall j hx⟩) hK (by rw [senv_d, elook_eras, if_pos rfl]) (by rw [e1]; exact hR') (fun t v ht => ?_) hN' hd' (by rw [e1]; exact hF') (fun hfl1 => ?_)
        · rcases Nat.lt_or_ge j s with h' | h'
          · exact h'
          · rw [hno' j h' hj] at hx; cases hx
        · have htd : t ≠ d := fun e => by subst e; rw [senv_d, elook_eras, if_pos rfl] at ht; cases ht
          refine hE' t v ?_
          rw [← ht]
          exact senv_agree _ _ t D 0 _ _ (eb_t _ t htd) fun j x hj hne => by
            have := (List.getElem?_eq_some_iff.1 hj).1
            rw [Nat.zero_add] at hne; exact absurd (hall j (by omega)) hne
        · rw [hfl1] at hE'
          exact hE' d c (by rw [senv_d, heb]; simp [elook])
      · refine ⟨fun h0 => ?_, fun q hq => ?_⟩
        · have hall := ready_nil hD.low hlsz h0
          rw [cnt_all (fun i hi => hall i (by omega))] at hcnt
          omega
        · obtain ⟨o, ho, hun, hedge⟩ := ready_spec hlsz hq
          have hqlt : q < ops.size := (Array.getElem?_eq_some_iff.1 ho).1
          have hcl : Closed ops (listed.setIfInBounds q true) := by
            intro j oj hoj hj e he hb
            rw [onL_set (by omega)] at hj ⊢
            rw [Bool.or_eq_true, decide_eq_true_iff] at hj ⊢
            right
            rcases hj with rfl | hj
            · rw [hoj] at ho; cases ho; exact hedge e he hb
            · exact hc j oj hoj hj e he hb
          have hcn : cnt (listed.setIfInBounds q true) = fuel := by
            have := cnt_set (i := q) (by omega) hun; omega
          rcases lt_n ho with hqn | rfl
          · rcases Nat.lt_or_ge q s with hqs | hqs
            · have hd : D[q]? = some D[q] := List.getElem?_eq_getElem (by omega)
              have hfln : onL (listed.setIfInBounds q true) n = onL listed n := by
                rw [onL_set (by omega)]
                have e : (decide (n = q)) = false := by simp; omega
                rw [e, Bool.false_or]
              refine stable_step (s := n + 1) hD hku (by omega) (hfb (onL listed n)) hlsz hc ho hd hun hedge hR' hE' hN' (fun σ'' a'' w'' r1 r2 r3 r4 r5 => ?_)
              refine ih _ σ'' a'' w'' hcn (by simpa using hlsz) hcl (fun j h1 h2 => ?_) r1 (by rw [hfln]; exact r2) r3 (r4.trans hd') (hF'.trans r5)
              rw [onL_set (by omega), Bool.or_eq_false_iff]
              exact ⟨by simp; omega, hno' j h1 h2⟩
            · exact absurd (fun j hj => (ahead_listed hD.low hc q o ho hedge j (htl q hqs hqn j (by omega))).1) hall
          · have hset : ∀ j, j < D.length → onL (listed.setIfInBounds q true) j = onL listed j := fun j hj => by
              rw [onL_set (by omega)]
              have e : (decide (j = q)) = false := by simp; omega
              rw [e, Bool.false_or]
            have hsetn : onL (listed.setIfInBounds q true) q = true := by rw [onL_set (by omega)]; simp
            have em : (smem (onL (listed.setIfInBounds q true)) 0 D m).get = (smem (onL listed) 0 D m).get := smem_congr _ _ D 0 m m rfl fun j x o hj _ => by
              have := (List.getElem?_eq_some_iff.1 hj).1
              rw [Nat.zero_add]; exact hset j this
            refine last _ _ σ' a' w' _ hR' hE' hN' fun σ'' a'' w'' r1 r2 r3 r4 r5 => ?_
            refine ih _ σ'' a'' w'' hcn (by simpa using hlsz) hcl (fun j h1 h2 => ?_) (by rw [em]; exact r1) (fun t v ht => ?_) r3 (r4.trans hd') (by rw [em]; exact hF'.trans r5)
            · rw [onL_set (by omega), Bool.or_eq_false_iff]
              exact ⟨by simp; omega, hno' j h1 h2⟩
            · rw [hsetn] at ht
              refine r2 t v ?_
              rw [← ht]
              by_cases e : t = d
              · subst e
                rw [senv_d, heb]
                simp [elook]
              · simp only [elook]
                rw [if_neg (fun e2 => e e2.symm)]
                exact senv_agree _ _ t D 0 _ _ ((eb_t _ t e).trans (eb_t true t e).symm) fun j x hj hne => by
                  have := (List.getElem?_eq_some_iff.1 hj).1
                  rw [Nat.zero_add, hset j this] at hne; exact absurd rfl hne
  have hrep : ∀ j, onL (Array.replicate ops.size false) j = false := fun j => by
    simp only [onL, Array.getD_eq_getD_getElem?, Array.getElem?_replicate]
    split <;> rfl
  have hon0 : onL (Array.replicate ops.size false) = fun _ => false := funext hrep
  have hsm : smem (fun _ => false) 0 D m = m := by
    have : ∀ (D : List DRes) (i : Nat) (m : Mem), smem (fun _ => false) i D m = m := by
      intro D
      induction D with
      | nil => intro i m; rfl
      | cons d r ih => intro i m; simp only [smem, sM_false]; exact ih _ _
    exact this D 0 m
  have hcnt : cnt (Array.replicate ops.size false) = ops.size := by
    unfold cnt
    rw [cnt_prefix _ 0]
    · simp
    · intro j b hj
      have := List.mem_of_getElem? hj
      simp at this
      rw [this.2]
      simp
  have hE0 : EnvRel σ (eb false) a.tmps := fun t v ht => by
    rw [heb] at ht
    simp only [Bool.false_eq_true, if_false, elook_eras] at ht
    split at ht
    · cases ht
    · exact hE t v ht
  exact main1 ops.size (Array.replicate ops.size false) σ a w hcnt (by simp) (fun i o _ h => by rw [hrep] at h; cases h) (fun j _ _ => hrep j) (by rw [hon0, hsm]; exact hR) (by rw [hon0, senv_none]; exact hE0) hN rfl (by rw [hon0, hsm]; exact .refl _ _ _)
end

def fltOk (ops : Array Oper) (s n d : Nat) : Bool :=
  drawOk ops (n + 1) && decide (ops.size = n + 1) && (List.range n).all (fun j => match ops[j]? with | some o => !((o.looksAt ops).contains d) && o.dst != some d | none => false) &&
  (List.range n).all (fun i => decide (i < s) || (List.range i).all fun j => ((Region.before ops).getD i 0).testBit j) && decide (s ≤ n)

/-- A draw whose last operation moves a number into a slot of its own. -/
theorem draw_gof {P : Program} {N : Nat} {l : List Oper} {env : Env} {m : Mem} {K : Env → Mem → Prop} (s n d : Nat) (z : Int) (ty : TypeId) (pos : String) (af : Array Edge) (bs : List Nat) (hb : Region.before l.toArray = bs.toArray)
    (hf : l[n]? = some ⟨some d, .move (.const (.int .i64 z)), ty, pos, af, none⟩) (hdN : d < N) (hok : fltOk l.toArray s n d = true)
    (h : drw P N l.toArray s (fun i => bs.getD i 0) (eras d env) m (fun D => wpo P N l K (l.drop s) (senv (fun _ => true) 0 D (eras d env)) (smem (fun _ => true) 0 D m)) l 0 m.top []) : DrawD P N l.toArray env m K () () := by
  unfold fltOk at hok
  simp only [Bool.and_eq_true, decide_eq_true_eq] at hok
  obtain ⟨⟨⟨⟨h1, h2⟩, h3⟩, h4⟩, h5⟩ := hok
  have hw : ∀ (env : Env) (m : Mem) (K' : Env → Mem → Prop), wpo P N l K' [⟨some d, .move (.const (.int .i64 z)), ty, pos, af, none⟩] env m = K' ((d, .int .i64 z) :: env) m := by
    intro env m K'
    simp only [wpo, guardQ, goCall, lop, putEnv]
    have he : ev env (Operand.const (.int .i64 z)) = some (.int .i64 z) := rfl
    simp only [he, hdN, if_true]
    rfl
  refine draw_flt (ops := l.toArray) (s := s) n d (.int .i64 z) _ h2 (by simpa using hf) rfl hdN (fun env m => hw env m K) (fun env m K' => hw env m K') h1 (fun j o hj ho => ?_) (fun i hs hi j hj => ?_) h5 ?_
  · rw [List.all_eq_true] at h3
    have := h3 j (List.mem_range.2 hj)
    rw [ho] at this
    simp only [Bool.and_eq_true, Bool.not_eq_true', bne_iff_ne] at this
    exact ⟨by simpa using this.1, this.2⟩
  · rw [List.all_eq_true] at h4
    have := h4 i (List.mem_range.2 hi)
    rw [Bool.or_eq_true, decide_eq_true_iff, List.all_eq_true] at this
    rcases this with h' | h'
    · omega
    · exact h' j (List.mem_range.2 hj)
  · have e : (fun i => (Region.before l.toArray).getD i 0) = fun i => bs.getD i 0 := by
      funext i
      rw [hb]
      simp [Array.getD_eq_getD_getElem?, List.getD_eq_getElem?_getD]
    rw [e]
    exact h
end Go.Lm
/- A region that draws its order: some operations that know nothing of memory may run late. -/
namespace Go.Lm

section
variable {P : Program} {N : Nat} {ops : Array Oper} {s : Nat} {env : Env} {m : Mem} {K : Env → Mem → Prop}

theorem lop_env {M : Nat → Ob} {env env' : Env} {k : Nat} {op : Op} {e : Eff} (hE : ∀ x ∈ op.operands, ev env' x = ev env x) (hl : lop P env M k op = some e) : lop P env' M k op = some e := by
  have hevs : ∀ l : List Operand, (∀ x ∈ l, ev env' x = ev env x) → evs env' l = evs env l := by
    intro l
    induction l with
    | nil => intro _; rfl
    | cons x r ih => intro hx; simp only [evs]; rw [hx x (by simp), ih (fun y hy => hx y (by simp [hy]))]
  have hevp : ∀ l : List (Nat × Operand), (∀ x ∈ l, ev env' x.2 = ev env x.2) → evp env' l = evp env l := by
    intro l
    induction l with
    | nil => intro _; rfl
    | cons x r ih => intro hx; obtain ⟨i, x⟩ := x; simp only [evp]; rw [hx (i, x) (by simp), ih (fun y hy => hx y (by simp [hy]))]
  have hevo : ∀ o : Option Operand, (∀ x, o = some x → ev env' x = ev env x) → evo env' o = evo env o := by
    intro o ho
    cases o with
    | none => rfl
    | some x => simp only [evo]; rw [ho x rfl]
  cases op <;> simp only [lop] at hl ⊢ <;> try (cases hl; done)
  case move x => rw [hE x (by simp [Op.operands])]; exact hl
  case assign x => rw [hE x (by simp [Op.operands])]; exact hl
  case pick c a b =>
    rw [hE c (by simp [Op.operands])]
    split at hl
    case h_2 => cases hl
    rename_i t hc
    rw [show ev env' (if t = true then a else b) = ev env (if t = true then a else b) by cases t <;> simp <;> exact hE _ (by simp [Op.operands])]
    exact hl
  case alloc t => exact hl
  case box t x => rw [hE x (by simp [Op.operands])]; exact hl
  case build t parts => rw [hevp _ (fun x hx => hE x.2 (by simp only [Op.operands, List.mem_toArray, List.mem_map]; exact ⟨x, hx, rfl⟩))]; exact hl
  case buildSlice t len parts => rw [hevp _ (fun x hx => hE x.2 (by simp only [Op.operands, List.mem_toArray, List.mem_map]; exact ⟨x, hx, rfl⟩))]; exact hl
  case load t x => rw [hE x (by simp [Op.operands])]; exact hl
  case store t x y => rw [hE x (by simp [Op.operands]), hE y (by simp [Op.operands])]; exact hl
  case nilCheck x => rw [hE x (by simp [Op.operands])]; exact hl
  case binOp o t x y t' => rw [hE x (by simp [Op.operands]), hE y (by simp [Op.operands])]; exact hl
  case unOp o t x => rw [hE x (by simp [Op.operands])]; exact hl
  case convert s d x => rw [hE x (by simp [Op.operands])]; exact hl
  case makeFunc fn first captured =>
    rw [hevs _ (fun x hx => hE x (by simp [Op.operands] at hx ⊢; exact .inl hx)), hevs _ (fun x hx => hE x (by simp [Op.operands] at hx ⊢; exact .inr hx))]
    exact hl
  case makeMap t r => cases r <;> exact hl
  case makeSlice t a b => rw [hE a (by simp [Op.operands]), hE b (by simp [Op.operands])]; exact hl
  case slice t x lo hi mx =>
    rw [hE x (by simp [Op.operands]), hevo lo (fun y hy => hE y (by simp [Op.operands, hy])), hevo hi (fun y hy => hE y (by simp [Op.operands, hy])), hevo mx (fun y hy => hE y (by simp [Op.operands, hy]))]
    exact hl
  case fieldAddr t x f => rw [hE x (by simp [Op.operands])]; exact hl
  case field t x f => rw [hE x (by simp [Op.operands])]; exact hl
  case indexAddr t x i => rw [hE x (by simp [Op.operands]), hE i (by simp [Op.operands])]; exact hl
  case index t x i => rw [hE x (by simp [Op.operands]), hE i (by simp [Op.operands])]; exact hl
  case lookup t x i ok => rw [hE x (by simp [Op.operands]), hE i (by simp [Op.operands])]; exact hl
  case mapUpdate t a b c => rw [hE a (by simp [Op.operands]), hE b (by simp [Op.operands]), hE c (by simp [Op.operands])]; exact hl
  case extract x i => rw [hE x (by simp [Op.operands])]; exact hl
  case call c =>
    have hargs : evs env' c.args.toList = evs env c.args.toList := hevs _ fun x hx => hE x (by simp only [Op.operands, Call.operands]; rw [Array.mem_append]; exact .inr (Array.mem_toList_iff.1 hx))
    unfold lblt at hl ⊢
    rw [hargs]
    exact hl

/-- operations that look at no memory -/
def plainF : Op → Bool
  | .build _ _ => true | .move _ => true | .assign _ => true | .binOp _ _ _ _ _ => true | .unOp _ _ _ => true | .fieldAddr _ _ _ => true | .indexAddr _ _ _ => true
  | _ => false
theorem lop_plainF {M M' : Nat → Ob} {k k' : Nat} {o : Op} (h : plainF o = true) : lop P env M k o = lop P env M' k' o := by
  cases o <;> first | rfl | simp [plainF] at h
theorem plain_new {M : Nat → Ob} {k : Nat} {o : Op} {e : Eff} (h : plainF o = true) (hl : lop P env M k o = some e) : e.new = none ∧ e.mods = [] := by
  cases o <;> simp only [plainF, Bool.false_eq_true] at h <;> simp only [lop] at hl <;> (repeat' split at hl) <;> first | (cases hl; exact ⟨rfl, rfl⟩) | (cases hl)

structure MidOk (ops : Array Oper) (s : Nat) (fl : Nat → Bool) : Prop where
  d : DrawOk ops ops.size
  hs : s ≤ ops.size
  tl : ∀ i, s ≤ i → i < ops.size → ∀ j, j < i → ((Region.before ops).getD i 0).testBit j = true ∨ (j < s ∧ fl j = true ∧ ∀ oi oj q, ops[i]? = some oi → ops[j]? = some oj → oj.dst = some q → (q ∉ oi.looksAt ops ∧ oi.dst ≠ some q) ∧ (∀ q', oi.dst = some q' → q' ∉ oj.looksAt ops))
  pl : ∀ j o, j < s → fl j = true → ops[j]? = some o → plainF o.op = true ∧ ∃ q, o.dst = some q
  uq : ∀ j k oj ok q, j < s → k < s → k ≠ j → fl j = true → ops[j]? = some oj → ops[k]? = some ok → oj.dst = some q → ok.dst ≠ some q
  inp : ∀ j k oj ok q, j < s → k < s → fl j = true → ((Region.before ops).getD j 0).testBit k = false → ops[j]? = some oj → ops[k]? = some ok → ok.dst = some q → q ∉ oj.looksAt ops

/-- the environment without some slots -/
def erasP (p : Nat → Bool) : Env → Env
  | [] => []
  | x :: r => if p x.1 then erasP p r else x :: erasP p r
theorem elook_erasP (p : Nat → Bool) : ∀ (e : Env) (t : Nat), elook (erasP p e) t = if p t then none else elook e t
  | [], t => by simp [erasP, elook]
  | (k, v) :: r, t => by
    unfold erasP
    by_cases hk : p k = true
    · rw [if_pos hk, elook_erasP p r t]
      by_cases ht : p t = true
      · rw [if_pos ht, if_pos ht]
      · rw [if_neg ht, if_neg ht]
        simp only [elook]
        rw [if_neg (fun e => ht (by rw [← e]; exact hk))]
    · rw [if_neg hk]
      simp only [elook]
      by_cases ht : k = t
      · rw [if_pos ht, if_pos ht, if_neg (fun e => hk (by rw [ht]; exact e))]
      · rw [if_neg ht, if_neg ht, elook_erasP p r t]

/-- One operation, some slots that it does not look at being unknown. -/
theorem wpo_er {l0 : List Oper} {o : Oper} {r : List Oper} {p : Nat → Bool} (h : wpo P N l0 K (o :: r) env m) (hl : ∀ t ∈ o.looksAt l0.toArray, p t = false) (hd : ∀ t, o.dst = some t → p t = false) :
    wpo P N l0 (fun e2 m2 => ∃ e, wpo P N l0 K r e m2 ∧ (∀ t, elook e2 t = if p t then none else elook e t) ∧ (∀ t, o.dst ≠ some t → elook e t = elook env t)) [o] (erasP p env) m := by
  have hlook : ∀ t ∈ o.looksAt l0.toArray, elook (erasP p env) t = elook env t := fun t ht => by rw [elook_erasP, hl t ht]; rfl
  have hput : ∀ v env', putEnv N env o.dst v = some env' → ∃ env2, putEnv N (erasP p env) o.dst v = some env2 ∧ (∀ t, elook env2 t = if p t then none else elook env' t) ∧ (∀ t, o.dst ≠ some t → elook env' t = elook env t) := by
    intro v env' he
    have hoth := fun t ht => putEnv_other (t := t) he ht
    unfold putEnv at he ⊢
    cases hod : o.dst with
    | none =>
      rw [hod] at he
      cases he
      exact ⟨_, rfl, fun t => elook_erasP p env t, fun t _ => rfl⟩
    | some q =>
      rw [hod] at he
      simp only at he ⊢
      split at he
      · rename_i hq
        cases he
        refine ⟨_, by rw [if_pos hq], fun t => ?_, fun t ht => by rw [hod] at hoth; exact hoth t ht⟩
        simp only [elook]
        by_cases e : q = t
        · rw [if_pos e, if_pos e, if_neg (by rw [← e, hd q hod]; simp)]
        · rw [if_neg e, if_neg e]; exact elook_erasP p env t
      · cases he
  have hg := guardQ_same (ops := l0.toArray) (o := o) hlook
  rw [List.toList_toArray] at hg
  have hev := ev_same (ops := l0.toArray) (o := o) hlook
  have hev' := ev_same (ops := l0.toArray) (o := o) fun t ht => (hlook t ht).symm
  simp only [wpo] at h ⊢
  rw [hg]
  split at h
  · exact h.elim
  · split at h
    case h_2 => exact h.elim
    rename_i env' he
    obtain ⟨env2, h1, h2, h3⟩ := hput _ _ he
    simp only [h1]
    exact ⟨env', h, h2, h3⟩
  · split at h
    · rename_i g vs hc
      rw [goCall_same hev hc]
      simp only
      refine h.mono fun v m' hq => ?_
      split at hq
      case h_2 => exact hq.elim
      rename_i env' he
      obtain ⟨env2, h1, h2, h3⟩ := hput _ _ he
      simp only [h1]
      exact ⟨env', hq, h2, h3⟩
    · rename_i hc
      have hc2 : goCall (erasP p env) o.op = none := by
        cases hx : goCall (erasP p env) o.op with
        | none => rfl
        | some r => rw [goCall_same hev' hx] at hc; cases hc
      rw [hc2]
      simp only
      split at h
      case h_2 => exact h.elim
      rename_i e he
      have he2 : lop P (erasP p env) m.get m.top o.op = some e := lop_env hev he
      rw [he2]
      simp only
      split at h
      case h_2 => exact h.elim
      rename_i env' hp
      obtain ⟨env2, h1, h2, h3⟩ := hput _ _ hp
      simp only [h1]
      exact ⟨env', h, h2, h3⟩
theorem goCall_plain2 {o : Op} (h : plainF o = true) : goCall env o = none := by
  cases o <;> first | rfl | simp [plainF] at h

/-- the slots of those that have not run yet and may run late -/
def lateP (ops : Array Oper) (s : Nat) (fl : Nat → Bool) (listed : Array Bool) (t : Nat) : Bool :=
  (List.range s).any fun j => fl j && !onL listed j && (match ops[j]? with | some o => o.dst == some t | none => false)
theorem lateP_true {ops : Array Oper} {s : Nat} {fl : Nat → Bool} {listed : Array Bool} {t : Nat} : lateP ops s fl listed t = true ↔ ∃ j o, j < s ∧ fl j = true ∧ onL listed j = false ∧ ops[j]? = some o ∧ o.dst = some t := by
  unfold lateP
  rw [List.any_eq_true]
  constructor
  · rintro ⟨j, hj, h⟩
    simp only [Bool.and_eq_true, Bool.not_eq_true'] at h
    obtain ⟨⟨h1, h2⟩, h3⟩ := h
    split at h3
    · rename_i o ho
      exact ⟨j, o, List.mem_range.1 hj, h1, h2, ho, by simpa using h3⟩
    · cases h3
  · rintro ⟨j, o, hj, h1, h2, ho, h3⟩
    exact ⟨j, List.mem_range.2 hj, by simp [h1, h2, ho, h3]⟩
theorem lateP_false {ops : Array Oper} {s : Nat} {fl : Nat → Bool} {listed : Array Bool} {t : Nat} (h : ∀ j o, j < s → fl j = true → onL listed j = false → ops[j]? = some o → o.dst ≠ some t) : lateP ops s fl listed t = false := by
  rw [Bool.eq_false_iff]
  intro e
  obtain ⟨j, o, h1, h2, h3, h4, h5⟩ := lateP_true.1 e
  exact h j o h1 h2 h3 h4 h5

theorem draw_mid (fl : Nat → Bool) (hM : MidOk ops s fl)
    (h : drw P N ops s (fun i => (Region.before ops).getD i 0) env m (fun D => wpo P N ops.toList K (ops.toList.drop s) (senv (fun _ => true) 0 D env) (smem (fun _ => true) 0 D m)) ops.toList 0 m.top []) : DrawW P N ops env m K := by
  have hD := hM.d
  have hs := hM.hs
  obtain ⟨D, kid', hK, hku, hlen, hDs, hDle, hf⟩ := drw_facts ops.toList 0 m.top [] h (by simp) rfl (Nat.zero_le _) (Nat.zero_le _) (Nat.le_refl _) ⟨fun j d o h => by simp at h, fun j j' d d' o o' h => by simp at h⟩ (fun j o d _ h => by simp at h)
  have hDn : D.length = s := by rcases hlen with h' | h' <;> omega
  intro σ a w hR hE hN Q hQ
  have bits_lt : ∀ {listed : Array Bool} (hc : Closed ops listed) {i : Nat} {o : Oper} (ho : ops[i]? = some o) (hedge : ∀ e ∈ o.after, Region.binds .any e = true → onL listed e.on = true) {j : Nat}, ((Region.before ops).getD i 0).testBit j = true → onL listed j = true ∧ j < i :=
    fun {listed} hc {i} {o} ho hedge {j} hb => ahead_listed hD.low hc _ _ ho hedge j hb
  -- behind the first ones
  have main2 : ∀ (fuel i : Nat) (listed : Array Bool) (env₁ : Env) (m₁ : Mem) (σ' : Sg) (a' : Act) (w' : World), cnt listed = fuel → listed.size = ops.size → Closed ops listed → s ≤ i → i ≤ ops.size → (∀ j, s ≤ j → j < ops.size → (onL listed j = true ↔ j < i)) → (∀ j, j < s → fl j = false → onL listed j = true) →
      wpo P N ops.toList K (ops.toList.drop i) env₁ m₁ → Rep σ' m₁.get w' → EnvRel σ' (erasP (lateP ops s fl listed) env₁) a'.tmps → a'.tmps.size = N → a'.defers = a.defers → Fr σ m.get w σ' m₁.get w' →
      (∀ j o x q, j < s → fl j = true → onL listed j = false → ops[j]? = some o → D[j]? = some x → o.dst = some q → elook env₁ q = some x.val) →
      (∀ j o, j < s → fl j = true → onL listed j = false → ops[j]? = some o → ∀ t ∈ o.looksAt ops, elook env₁ t = elook (senv (bit ((Region.before ops).getD j 0)) 0 D env) t) → wpAny P .any ops Q fuel listed a' w' := by
    intro fuel
    induction fuel with
    | zero =>
      intro i listed env₁ m₁ σ' a' w' hcnt hlsz hc hsi hin hon hnf hw hR' hE' hN' hd' hF' hFV hFI
      have hall : ∀ i, i < ops.size → onL listed i = true := by
        intro i hi
        cases hx : onL listed i with
        | true => rfl
        | false =>
          have := cnt_set (by omega) hx
          omega
      have hii : i = ops.size := by
        rcases Nat.lt_or_ge i ops.size with h' | h'
        · have := (hon i hsi h').1 (hall i h'); omega
        · omega
      rw [hii, List.drop_eq_nil_of_le (by simp)] at hw
      refine ⟨?_, ?_⟩
      · cases hr : Region.ready .any ops listed with
        | nil => rfl
        | cons i r =>
          obtain ⟨o, ho, h1, _⟩ := ready_spec hlsz (i := i) (by rw [hr]; simp)
          have hi : i < ops.size := (Array.getElem?_eq_some_iff.1 ho).1
          rw [hall i hi] at h1; cases h1
      · refine hQ _ _ σ' a' w' hw hR' (fun t v ht => hE' t v ?_) hN' hd' hF'
        rw [elook_erasP, lateP_false fun j o hj _ hu _ => by rw [hall j (by omega)] at hu; cases hu]
        exact ht
    | succ fuel ih =>
      intro i listed env₁ m₁ σ' a' w' hcnt hlsz hc hsi hin hon hnf hw hR' hE' hN' hd' hF' hFV hFI
      refine ⟨fun h0 => ?_, fun q hq => ?_⟩
      · have hall := ready_nil hD.low hlsz h0
        rw [cnt_all (fun i hi => hall i (by omega))] at hcnt
        omega
      · obtain ⟨o, ho, hun, hedge⟩ := ready_spec hlsz hq
        have hqlt : q < ops.size := (Array.getElem?_eq_some_iff.1 ho).1
        have hcl : Closed ops (listed.setIfInBounds q true) := by
          intro j oj hoj hj e he hb
          rw [onL_set (by omega)] at hj ⊢
          rw [Bool.or_eq_true, decide_eq_true_iff] at hj ⊢
          right
          rcases hj with rfl | hj
          · rw [hoj] at ho; cases ho; exact hedge e he hb
          · exact hc j oj hoj hj e he hb
        have hcn : cnt (listed.setIfInBounds q true) = fuel := by
          have := cnt_set (i := q) (by omega) hun; omega
        have hother : ∀ j, j ≠ q → onL (listed.setIfInBounds q true) j = onL listed j := fun j hj => by
          rw [onL_set (by omega)]
          have e : (decide (j = q)) = false := by simp [hj]
          rw [e, Bool.false_or]
        rcases Nat.lt_or_ge q s with hqs | hqs
        · -- one that was late
          have hflq : fl q = true := by
            cases e : fl q with
            | true => rfl
            | false => have := hnf q hqs e; rw [hun] at this; cases this
          obtain ⟨hpl, q1, hq1⟩ := hM.pl q o hqs hflq ho
          have hx : D[q]? = some (D[q]'(by omega)) := List.getElem?_eq_getElem _
          obtain ⟨x, hxe⟩ : ∃ x, D[q]'(by omega) = x := ⟨_, rfl⟩
          rw [hxe] at hx
          have hfact := hf q o x ho hx
          have htk : ∀ j, 0 + (D.take q).length ≤ j → bit ((Region.before ops).getD q 0) j = false := fun j hj => by
            cases hb : bit ((Region.before ops).getD q 0) j with
            | false => rfl
            | true => have := (bits_lt hc ho hedge hb).2; rw [List.length_take] at hj; omega
          have e1 : senv (bit ((Region.before ops).getD q 0)) 0 D env = senv (bit ((Region.before ops).getD q 0)) 0 (D.take q) env := by
            conv => lhs; rw [← List.take_append_drop q D]
            exact senv_take _ _ _ 0 env htk
          have hlook : ∀ t ∈ o.looksAt ops, elook (erasP (lateP ops s fl listed) env₁) t = elook (senv (bit ((Region.before ops).getD q 0)) 0 (D.take q) env) t := by
            intro t ht
            rw [elook_erasP, lateP_false fun j oj hj hfj huj hoj hdj => by
              cases hb : ((Region.before ops).getD q 0).testBit j with
              | true => have := (bits_lt hc ho hedge hb).1; rw [huj] at this; cases this
              | false => exact hM.inp q j o oj t hqs hj hflq hb ho hoj hdj ht]
            rw [← e1]
            exact hFI q o hqs hflq hun ho t ht
          obtain ⟨hdo, hdst, hrest⟩ := hfact
          have hqN : q1 < N := by simpa [okDst, hq1] using hdst
          have hg := guardQ_same (ops := ops) (o := o) hlook
          have hev := ev_same (ops := ops) (o := o) hlook
          have hval : wpo P N ops.toList (fun e2 m2 => m2 = m₁ ∧ e2 = (q1, x.val) :: erasP (lateP ops s fl listed) env₁) [o] (erasP (lateP ops s fl listed) env₁) m₁ := by
            simp only [wpo]
            rw [hg]
            rcases hrest with ⟨hgd, hv, _⟩ | ⟨hgd, hrest⟩
            · rw [hgd]
              simp only [putEnv, hq1, hqN, if_true]
              exact ⟨trivial, by rw [hv]⟩
            · rw [hgd]
              simp only [goCall_plain2 hpl]
              rcases hrest with ⟨g, vs, hc2, _⟩ | ⟨_, hl⟩
              · rw [goCall_plain2 hpl] at hc2; cases hc2
              · have hnew := (plain_new hpl hl).1
                simp only at hnew
                have hl2 : lop P (erasP (lateP ops s fl listed) env₁) m₁.get m₁.top o.op = some { val := x.val, new := x.new, mods := [] } := by
                  rw [lop_plainF (M' := (smem (bit ((Region.before ops).getD q 0)) 0 (D.take q) m).get) (k' := x.kid) hpl]
                  exact lop_env hev hl
                rw [hl2, hnew]
                simp only [putEnv, hq1, hqN, if_true]
                first | exact ⟨rfl, rfl⟩ | exact ⟨rfl, trivial⟩ | exact ⟨trivial, rfl⟩ | exact ⟨trivial, trivial⟩
          have := wpo_step (Q := Q) (Kn := wpAny P .any ops Q fuel (listed.setIfInBounds q true)) ops.toList hval hR' hE' hN' (i := q) (by rw [Array.toArray_toList]; exact ho) (fun env₂ m₂ σ'' a'' w'' h1 h2 h3 h4 h5 h6 _ => by
            obtain ⟨rfl, rfl⟩ : m₂ = m₁ ∧ env₂ = (q1, x.val) :: erasP (lateP ops s fl listed) env₁ := h1
            refine ih i _ env₁ m₂ σ'' a'' w'' hcn (by simpa using hlsz) hcl hsi hin (fun j h7 h8 => by rw [hother j (by omega)]; exact hon j h7 h8) (fun j h7 h8 => ?_) hw h2 (fun t v ht => h3 t v ?_) h4 (h5.trans hd') (hF'.trans h6)
              (fun j oj y t h7 h8 h9 => ?_) (fun j oj h7 h8 h9 => ?_)
            · rw [onL_set (by omega), hnf j h7 h8, Bool.or_true]
            · rw [elook_erasP] at ht
              simp only [elook]
              by_cases e : q1 = t
              · rw [if_pos e]
                subst e
                rw [hFV q o x q1 hqs hflq hun ho hx hq1] at ht
                split at ht
                · cases ht
                · exact ht
              · rw [if_neg e, elook_erasP]
                have : lateP ops s fl listed t = lateP ops s fl (listed.setIfInBounds q true) t := by
                  rw [Bool.eq_iff_iff, lateP_true, lateP_true]
                  constructor
                  · rintro ⟨j, oj, k1, k2, k3, k4, k5⟩
                    have hjq : j ≠ q := fun e2 => by subst e2; rw [ho] at k4; cases k4; rw [hq1] at k5; exact e (Option.some.inj k5)
                    exact ⟨j, oj, k1, k2, by rw [hother j hjq]; exact k3, k4, k5⟩
                  · rintro ⟨j, oj, k1, k2, k3, k4, k5⟩
                    have hjq : j ≠ q := fun e2 => by subst e2; rw [onL_set (by omega)] at k3; simp at k3
                    exact ⟨j, oj, k1, k2, by rw [hother j hjq] at k3; exact k3, k4, k5⟩
                rw [this]; exact ht
            · have hjq : j ≠ q := fun e2 => by subst e2; rw [onL_set (by omega)] at h9; simp at h9
              rw [hother j hjq] at h9
              exact hFV j oj y t h7 h8 h9
            · have hjq : j ≠ q := fun e2 => by subst e2; rw [onL_set (by omega)] at h9; simp at h9
              rw [hother j hjq] at h9
              exact hFI j oj h7 h8 h9)
          rwa [Array.toArray_toList] at this
        · -- the next of the others
          have hnob : ∀ j, j < s → fl j = true → onL listed j = false → ((Region.before ops).getD q 0).testBit j = false := fun j hj _ huj => by
            cases hb : ((Region.before ops).getD q 0).testBit j with
            | false => rfl
            | true => have := (bits_lt hc ho hedge hb).1; rw [huj] at this; cases this
          have hqi : q = i := by
            rcases Nat.lt_trichotomy q i with h' | h' | h'
            · rw [(hon q hqs hqlt).2 h'] at hun; cases hun
            · exact h'
            · rcases hM.tl q hqs hqlt i h' with hb | ⟨hb, _⟩
              · have := (bits_lt hc ho hedge hb).1
                have := (hon i hsi (by omega)).1 this
                omega
              · omega
          subst hqi
          have htl := fun j (hj : j < s) (hfj : fl j = true) (huj : onL listed j = false) => (hM.tl q hqs hqlt j (by omega)).resolve_left (fun hb => by rw [hnob j hj hfj huj] at hb; cases hb)
          have hdrop : ops.toList.drop q = o :: ops.toList.drop (q + 1) := by
            rw [List.drop_eq_getElem_cons (by simpa using hqlt)]
            simp only [Array.getElem_toList]
            rw [Array.getElem?_eq_getElem hqlt] at ho
            rw [Option.some.inj ho]
          rw [hdrop] at hw
          have hw2 := wpo_er (p := lateP ops s fl listed) hw (fun t ht => lateP_false fun j oj hj hfj huj hoj hdj => by
              rw [Array.toArray_toList] at ht
              exact ((htl j hj hfj huj).2.2 o oj t ho hoj hdj).1.1 ht)
            (fun t ht => lateP_false fun j oj hj hfj huj hoj hdj => ((htl j hj hfj huj).2.2 o oj t ho hoj hdj).1.2 ht)
          have := wpo_step (Q := Q) (Kn := wpAny P .any ops Q fuel (listed.setIfInBounds q true)) ops.toList hw2 hR' hE' hN' (i := q) (by rw [Array.toArray_toList]; exact ho) (fun env₂ m₂ σ'' a'' w'' h1 h2 h3 h4 h5 h6 _ => by
            obtain ⟨e, g1, g2, g3⟩ : ∃ e, wpo P N ops.toList K (ops.toList.drop (q + 1)) e m₂ ∧ (∀ t, elook env₂ t = if lateP ops s fl listed t then none else elook e t) ∧ (∀ t, o.dst ≠ some t → elook e t = elook env₁ t) := h1
            have hlp : ∀ t, lateP ops s fl (listed.setIfInBounds q true) t = lateP ops s fl listed t := fun t => by
              rw [Bool.eq_iff_iff, lateP_true, lateP_true]
              constructor
              · rintro ⟨j, oj, k1, k2, k3, k4, k5⟩
                exact ⟨j, oj, k1, k2, by rw [hother j (by omega)] at k3; exact k3, k4, k5⟩
              · rintro ⟨j, oj, k1, k2, k3, k4, k5⟩
                exact ⟨j, oj, k1, k2, by rw [hother j (by omega)]; exact k3, k4, k5⟩
            refine ih (q + 1) _ e m₂ σ'' a'' w'' hcn (by simpa using hlsz) hcl (by omega) (by omega) (fun j h7 h8 => ?_) (fun j h7 h8 => by rw [hother j (by omega)]; exact hnf j h7 h8) g1 h2 (fun t v ht => h3 t v ?_) h4 (h5.trans hd') (hF'.trans h6)
              (fun j oj y t h7 h8 h9 h10 h11 h12 => ?_) (fun j oj h7 h8 h9 h10 t ht => ?_)
            · rw [onL_set (by omega), Bool.or_eq_true, decide_eq_true_iff, hon j h7 h8]; omega
            · rw [elook_erasP, hlp] at ht
              rw [g2]; exact ht
            · rw [hother j (by omega)] at h9
              rw [g3 t (((htl j h7 h8 h9).2.2 o oj t ho h10 h12).1.2)]
              exact hFV j oj y t h7 h8 h9 h10 h11 h12
            · rw [hother j (by omega)] at h9
              obtain ⟨hpl, q1, hq1⟩ := hM.pl j oj h7 h8 h10
              rw [g3 t (fun e2 => ((htl j h7 h8 h9).2.2 o oj q1 ho h10 hq1).2 t e2 ht)]
              exact hFI j oj h7 h8 h9 h10 t ht)
          rwa [Array.toArray_toList] at this
  have plnew : ∀ (j : Nat) (o : Oper) (x : DRes), j < s → fl j = true → ops[j]? = some o → D[j]? = some x → x.new = none := fun j o x hj hfj hoj hx => by
    obtain ⟨hpl, _⟩ := hM.pl j o hj hfj hoj
    obtain ⟨_, _, hrest⟩ := hf j o x hoj hx
    rcases hrest with ⟨_, _, h⟩ | ⟨_, hrest⟩
    · exact h
    · rcases hrest with ⟨g, vs, hc, _⟩ | ⟨_, hl⟩
      · rw [goCall_plain2 hpl] at hc; cases hc
      · exact (plain_new hpl hl).1
  have dstD : ∀ (j : Nat) (x : DRes) (o : Oper), ops[j]? = some o → D[j]? = some x → x.dst = o.dst := fun j x o hoj hx => (hf j o x hoj hx).1
  -- where all of the first ones have run but some that may run late
  have conv : ∀ (fuel : Nat) (listed : Array Bool) (σ' : Sg) (a' : Act) (w' : World), cnt listed = fuel → listed.size = ops.size → Closed ops listed → (∀ j, s ≤ j → j < ops.size → onL listed j = false) → (∀ j, j < s → fl j = false → onL listed j = true) →
      Rep σ' (smem (onL listed) 0 D m).get w' → EnvRel σ' (senv (onL listed) 0 D env) a'.tmps → a'.tmps.size = N → a'.defers = a.defers → Fr σ m.get w σ' (smem (onL listed) 0 D m).get w' → wpAny P .any ops Q fuel listed a' w' := by
    intro fuel listed σ' a' w' hcnt hlsz hc hno' hnf hR' hE' hN' hd' hF'
    have opsj : ∀ j, j < s → ∃ o, ops[j]? = some o := fun j hj => ⟨_, Array.getElem?_eq_getElem (show j < ops.size by omega)⟩
    have e1 : (smem (fun _ => true) 0 D m).get = (smem (onL listed) 0 D m).get := smem_congr _ _ D 0 m m rfl fun j x ob hj hnw => by
      have hjs := (List.getElem?_eq_some_iff.1 hj).1
      rw [Nat.zero_add]
      cases hfj : fl j with
      | false => exact (hnf j (by omega) hfj).symm
      | true =>
        obtain ⟨o, ho⟩ := opsj j (by omega)
        rw [plnew j o x (by omega) hfj ho hj] at hnw; cases hnw
    have hdstj : ∀ j x, D[j]? = some x → ∃ o, j < s ∧ ops[j]? = some o ∧ x.dst = o.dst := fun j x hx => by
      have hjs := (List.getElem?_eq_some_iff.1 hx).1
      obtain ⟨o, ho⟩ := opsj j (by omega)
      exact ⟨o, by omega, ho, dstD j x o ho hx⟩
    refine main2 fuel s listed _ _ σ' a' w' hcnt hlsz hc (Nat.le_refl _) hs (fun j h1 h2 => ⟨fun hx => (by rw [hno' j h1 h2] at hx; cases hx), fun hx => (by omega)⟩) hnf hK (by rw [e1]; exact hR') (fun t v ht => ?_) hN' hd' (by rw [e1]; exact hF')
      (fun j o x q hj hfj huj hoj hxj hdj => ?_) (fun j o hj hfj huj hoj t ht => ?_)
    · rw [elook_erasP] at ht
      split at ht
      · cases ht
      · rename_i hlp
        refine hE' t v ?_
        rw [← ht]
        refine senv_agree _ _ t D 0 env env rfl fun j x hj hne hdt => ?_
        obtain ⟨o, hjs, hoj, hxd⟩ := hdstj j x hj
        rw [Nat.zero_add] at hne
        have huj : onL listed j = false := by
          cases hx : onL listed j with
          | false => rfl
          | true => rw [hx] at hne; exact absurd rfl hne
        have hfj : fl j = true := by
          cases hx : fl j with
          | true => rfl
          | false => rw [hnf j hjs hx] at huj; cases huj
        exact hlp (lateP_true.2 ⟨j, o, hjs, hfj, huj, hoj, by rw [← hxd]; exact hdt⟩)
    · have hset := senv_set (fun k => decide (k ≠ j)) q D 0 j x env hxj (by simp) (fun k x' hk hxk hon hdk => by
        obtain ⟨ok, hks, hok, hxd⟩ := hdstj k x' hxk
        exact absurd (by rw [← hxd]; exact hdk) (hM.uq j k o ok q hj hks (by omega) hfj hoj hok hdj))
      have e2 : (fun k => decide (k = 0 + j) || decide (k ≠ j)) = fun _ => true := by
        funext k
        rw [Nat.zero_add]
        by_cases e : k = j <;> simp [e]
      rw [e2, dstD j x o hoj hxj, hdj, if_pos rfl] at hset
      exact hset
    · refine senv_agree _ _ t D 0 env env rfl fun k x hk hne hdt => ?_
      obtain ⟨ok, hks, hok, hxd⟩ := hdstj k x hk
      rw [Nat.zero_add] at hne
      have hb : ((Region.before ops).getD j 0).testBit k = false := by
        cases hx : ((Region.before ops).getD j 0).testBit k with
        | false => rfl
        | true =>
          have hx' : bit ((Region.before ops).getD j 0) k = true := hx
          rw [hx'] at hne; exact absurd rfl hne
      exact hM.inp j k o ok t hj hks hfj hb hoj hok (by rw [← hxd]; exact hdt) ht
  have main1 : ∀ (fuel : Nat) (listed : Array Bool) (σ' : Sg) (a' : Act) (w' : World), cnt listed = fuel → listed.size = ops.size → Closed ops listed → (∀ j, s ≤ j → j < ops.size → onL listed j = false) →
      Rep σ' (smem (onL listed) 0 D m).get w' → EnvRel σ' (senv (onL listed) 0 D env) a'.tmps → a'.tmps.size = N → a'.defers = a.defers → Fr σ m.get w σ' (smem (onL listed) 0 D m).get w' → wpAny P .any ops Q fuel listed a' w' := by
    intro fuel
    induction fuel with
    | zero =>
      intro listed σ' a' w' hcnt hlsz hc hno' hR' hE' hN' hd' hF'
      refine conv 0 listed σ' a' w' hcnt hlsz hc hno' (fun i hi _ => ?_) hR' hE' hN' hd' hF'
      cases hx : onL listed i with
      | true => rfl
      | false =>
        have := cnt_set (listed := listed) (i := i) (by omega) hx
        omega
    | succ fuel ih =>
      intro listed σ' a' w' hcnt hlsz hc hno' hR' hE' hN' hd' hF'
      by_cases hall : ∀ j, j < s → fl j = false → onL listed j = true
      · exact conv (fuel + 1) listed σ' a' w' hcnt hlsz hc hno' hall hR' hE' hN' hd' hF'
      · refine ⟨fun h0 => ?_, fun q hq => ?_⟩
        · have hall := ready_nil hD.low hlsz h0
          rw [cnt_all (fun i hi => hall i (by omega))] at hcnt
          omega
        · obtain ⟨o, ho, hun, hedge⟩ := ready_spec hlsz hq
          have hqlt : q < ops.size := (Array.getElem?_eq_some_iff.1 ho).1
          rcases Nat.lt_or_ge q s with hqs | hqs
          · have hd : D[q]? = some D[q] := List.getElem?_eq_getElem (by omega)
            refine stable_step (s := ops.size) hD hku (by omega) hf hlsz hc ho hd hun hedge hR' hE' hN' (fun σ'' a'' w'' r1 r2 r3 r4 r5 => ?_)
            refine ih _ σ'' a'' w'' ?_ (by simpa using hlsz) ?_ (fun j h1 h2 => ?_) r1 r2 r3 (r4.trans hd') (hF'.trans r5)
            · have := cnt_set (i := q) (by omega) hun; omega
            · intro j oj hoj hj e he hb
              rw [onL_set (by omega)] at hj ⊢
              rw [Bool.or_eq_true, decide_eq_true_iff] at hj ⊢
              right
              rcases hj with rfl | hj
              · rw [hoj] at ho; cases ho; exact hedge e he hb
              · exact hc j oj hoj hj e he hb
            · rw [onL_set (by omega), Bool.or_eq_false_iff]
              exact ⟨by simp; omega, hno' j h1 h2⟩
          · refine absurd (fun j hj hfj => ?_) hall
            rcases hM.tl q hqs hqlt j (by omega) with hb | ⟨_, hb, _⟩
            · exact (bits_lt hc ho hedge hb).1
            · rw [hfj] at hb; cases hb
  have hrep : ∀ j, onL (Array.replicate ops.size false) j = false := fun j => by
    simp only [onL, Array.getD_eq_getD_getElem?, Array.getElem?_replicate]
    split <;> rfl
  have hon0 : onL (Array.replicate ops.size false) = fun _ => false := funext hrep
  have hsm : smem (fun _ => false) 0 D m = m := by
    have : ∀ (D : List DRes) (i : Nat) (m : Mem), smem (fun _ => false) i D m = m := by
      intro D
      induction D with
      | nil => intro i m; rfl
      | cons d r ih => intro i m; simp only [smem, sM_false]; exact ih _ _
    exact this D 0 m
  have hcnt : cnt (Array.replicate ops.size false) = ops.size := by
    unfold cnt
    rw [cnt_prefix _ 0]
    · simp
    · intro j b hj
      have := List.mem_of_getElem? hj
      simp at this
      rw [this.2]
      simp
  exact main1 ops.size (Array.replicate ops.size false) σ a w hcnt (by simp) (fun i o _ h => by rw [hrep] at h; cases h) (fun j _ _ => hrep j) (by rw [hon0, hsm]; exact hR) (by rw [hon0, senv_none]; exact hE) hN rfl (by rw [hon0, hsm]; exact .refl _ _ _)
end

def midB (ops : Array Oper) (s : Nat) (fl : List Nat) : Bool :=
  drawOk ops ops.size && decide (s ≤ ops.size) &&
  (List.range ops.size).all (fun i => decide (i < s) || (List.range i).all fun j => ((Region.before ops).getD i 0).testBit j ||
    (decide (j < s) && fl.contains j && (match ops[i]?, ops[j]? with
      | some oi, some oj => (match oj.dst with | some q => !((oi.looksAt ops).contains q) && oi.dst != some q | none => true) && (match oi.dst with | some q => !((oj.looksAt ops).contains q) | none => true)
      | _, _ => false))) &&
  fl.all (fun j => match ops[j]? with | some o => plainF o.op && o.dst.isSome | none => false) &&
  fl.all (fun j => (List.range s).all fun k => match ops[j]?, ops[k]? with
    | some oj, some ok => (k == j || (oj.dst != ok.dst)) && (((Region.before ops).getD j 0).testBit k || (match ok.dst with | some q => !((oj.looksAt ops).contains q) | none => true))
    | _, _ => false)
theorem midB_ok {ops : Array Oper} {s : Nat} {fl : List Nat} (h : midB ops s fl = true) : MidOk ops s (fun j => fl.contains j) := by
  unfold midB at h
  simp only [Bool.and_eq_true, decide_eq_true_eq] at h
  obtain ⟨⟨⟨⟨h1, h2⟩, h3⟩, h4⟩, h5⟩ := h
  rw [List.all_eq_true] at h3 h4 h5
  refine ⟨drawOk_spec h1, h2, fun i hi hil j hj => ?_, fun j o hj hfj ho => ?_, fun j k oj ok q hj hk hne hfj hoj hok hdj hdk => ?_, fun j k oj ok q hj hk hfj hb hoj hok hdk => ?_⟩
  · have := h3 i (List.mem_range.2 hil)
    rw [Bool.or_eq_true, decide_eq_true_iff, List.all_eq_true] at this
    have := (this.resolve_left (by omega)) j (List.mem_range.2 hj)
    rw [Bool.or_eq_true] at this
    rcases this with h | h
    · exact .inl h
    · simp only [Bool.and_eq_true, decide_eq_true_eq] at h
      obtain ⟨⟨k1, k2⟩, k3⟩ := h
      refine .inr ⟨k1, k2, fun oi oj q hoi hoj hdj => ?_⟩
      rw [hoi, hoj] at k3
      simp only [hdj, Bool.and_eq_true, Bool.not_eq_true', bne_iff_ne] at k3
      refine ⟨⟨by simpa using k3.1.1, k3.1.2⟩, fun q' hq' => ?_⟩
      have := k3.2
      rw [hq'] at this
      simpa using this
  · have := h4 j (by simpa using hfj)
    rw [ho] at this
    simp only [Bool.and_eq_true] at this
    exact ⟨this.1, Option.isSome_iff_exists.1 this.2⟩
  · have := h5 j (by simpa using hfj)
    rw [List.all_eq_true] at this
    have := this k (List.mem_range.2 hk)
    rw [hoj, hok] at this
    simp only [Bool.and_eq_true, Bool.or_eq_true, beq_iff_eq, bne_iff_ne] at this
    rcases this.1 with e | e
    · exact hne e
    · exact e (hdj.trans hdk.symm)
  · have := h5 j (by simpa using hfj)
    rw [List.all_eq_true] at this
    have := this k (List.mem_range.2 hk)
    rw [hoj, hok] at this
    simp only [Bool.and_eq_true, Bool.or_eq_true] at this
    have := this.2
    rw [hb, hdk] at this
    simpa using this

/-- A draw, some of whose operations may run late, as simp likes it. -/
theorem draw_gom {P : Program} {N : Nat} {l : List Oper} {env : Env} {m : Mem} {K : Env → Mem → Prop} (s : Nat) (fl : List Nat) (bs : List Nat) (hb : Region.before l.toArray = bs.toArray) (hok : midB l.toArray s fl = true)
    (h : drw P N l.toArray s (fun i => bs.getD i 0) env m (fun D => wpo P N l K (l.drop s) (senv (fun _ => true) 0 D env) (smem (fun _ => true) 0 D m)) l 0 m.top []) : DrawD P N l.toArray env m K () () := by
  refine draw_mid (ops := l.toArray) (s := s) _ (midB_ok hok) ?_
  have e : (fun i => (Region.before l.toArray).getD i 0) = fun i => bs.getD i 0 := by
    funext i
    rw [hb]
    simp [Array.getD_eq_getD_getElem?, List.getD_eq_getElem?_getD]
  rw [e]
  exact h
end Go.Lm
/- A region that draws its order and only reads: the text's order will do. -/
namespace Go.Lm

section
variable {P : Program} {N : Nat} {ops : Array Oper} {env : Env} {m : Mem} {K : Env → Mem → Prop}

/-- operations that turn nothing and make nothing -/
def roO : Op → Bool
  | .move _ => true | .assign _ => true | .pick _ _ _ => true | .load _ _ => true | .binOp _ _ _ _ _ => true | .unOp _ _ _ => true | .fieldAddr _ _ _ => true | .indexAddr _ _ _ => true
  | .field _ _ _ => true | .extract _ _ => true | .build _ _ => true
  | _ => false
theorem ro_new {M : Nat → Ob} {k : Nat} {o : Op} {e : Eff} (h : roO o = true) (hl : lop P env M k o = some e) : e.new = none ∧ e.mods = [] := by
  cases o <;> simp only [roO, Bool.false_eq_true] at h <;> simp only [lop] at hl <;> (repeat' split at hl) <;> first | (cases hl; exact ⟨rfl, rfl⟩) | (cases hl)
theorem goCall_ro {o : Op} (h : roO o = true) : goCall env o = none := by
  cases o <;> first | rfl | simp [roO] at h

theorem senv_snoc : ∀ (D : List DRes) (i : Nat) (d : DRes) (e : Env), senv (fun _ => true) i (D ++ [d]) e = sE true d (senv (fun _ => true) i D e)
  | [], _, _, _ => rfl
  | x :: r, i, d, e => by simp only [List.cons_append, senv]; exact senv_snoc r (i + 1) d _

theorem before_lt (hlow : Lower ops) {j i : Nat} {o : Oper} (hj : ops[j]? = some o) (hx : ((Region.before ops).getD j 0).testBit i = true) : i < j := by
  have hon : ∀ k, k < ops.size → onL (Array.replicate ops.size true) k = true := fun k hk => by
    simp only [onL, Array.getD_eq_getD_getElem?, Array.getElem?_replicate]
    rw [if_pos hk]; rfl
  have low : ∀ (k : Nat) (ok : Oper), ops[k]? = some ok → ∀ e ∈ ok.after, Region.binds .any e = true → onL (Array.replicate ops.size true) e.on = true := fun k ok hk e he hb => by
    have h1 := hlow k ok hk e he hb
    have h2 := (Array.getElem?_eq_some_iff.1 hk).1
    exact hon _ (by omega)
  exact (ahead_listed hlow (fun k ok hk _ e he hb => low k ok hk e he hb) j o hj (low j o hj) i hx).2

theorem ro_facts (hD : DrawOk ops ops.size) (hro : ∀ (j : Nat) (o : Oper), ops[j]? = some o → roO o.op = true) : ∀ (l : List Oper) (i : Nat) (D0 : List DRes) (e0 : Env), wpo P N ops.toList K l e0 m → l = ops.toList.drop i → i ≤ ops.size → D0.length = i →
    (∀ t, elook e0 t = elook (senv (fun _ => true) 0 D0 env) t) → (∀ (j : Nat) (o : Oper) (d : DRes), ops[j]? = some o → D0[j]? = some d → OpFact P N ops env m (D0.take j) j o d) → (∀ d ∈ D0, d.new = none) →
    ∃ D e, D.length = ops.size ∧ K e m ∧ (∀ t, elook e t = elook (senv (fun _ => true) 0 D env) t) ∧ (∀ (j : Nat) (o : Oper) (d : DRes), ops[j]? = some o → D[j]? = some d → OpFact P N ops env m (D.take j) j o d) ∧ ∀ d ∈ D, d.new = none
  | [], i, D0, e0, h, hl, hi, hlen, he, hf, hn => by
    have : (ops.toList.drop i).length = 0 := by rw [← hl]; rfl
    simp at this
    exact ⟨D0, e0, by omega, h, he, hf, hn⟩
  | o :: r, i, D0, e0, h, hl, hi, hlen, he, hf, hn => by
    have hilt : i < ops.size := by
      have : (ops.toList.drop i).length = r.length + 1 := by rw [← hl]; rfl
      simp at this; omega
    have hoi : ops[i]? = some o := by
      have : (ops.toList.drop i)[0]? = some o := by rw [← hl]; rfl
      simpa using this
    have hr : r = ops.toList.drop (i + 1) := by
      have : (ops.toList.drop i).drop 1 = r := by rw [← hl]; rfl
      rw [← this, List.drop_drop]
    have hroi := hro i o hoi
    -- what it looks at
    have hlook : ∀ t ∈ o.looksAt ops, elook (senv (bit ((Region.before ops).getD i 0)) 0 D0 env) t = elook e0 t := by
      intro t ht
      rw [he]
      refine senv_agree _ _ t D0 0 env env rfl fun j d hj hne hdt => ?_
      have hjl := (List.getElem?_eq_some_iff.1 hj).1
      rw [Nat.zero_add] at hne
      have hb : ((Region.before ops).getD i 0).testBit j = false := by
        cases hx : ((Region.before ops).getD i 0).testBit j with
        | false => rfl
        | true => have hx' : bit ((Region.before ops).getD i 0) j = true := hx; rw [hx'] at hne; exact absurd rfl hne
      have hjo : ops[j]? = some (ops[j]'(by omega)) := Array.getElem?_eq_getElem _
      have hbj : ((Region.before ops).getD j 0).testBit i = false := by
        cases hx : ((Region.before ops).getD j 0).testBit i with
        | false => rfl
        | true =>
          have := (before_lt hD.low hjo hx)
          omega
      exact (hD.apart i j hilt (by omega) (by omega) hb hbj o _ t hoi hjo (by rw [← (hf j _ d hjo hj).1]; exact hdt)).1 ht
    have hgd := guardQ_same (ops := ops) (o := o) hlook
    have hev := ev_same (ops := ops) (o := o) hlook
    have next : ∀ (v : Value) (e1 : Env), putEnv N e0 o.dst v = some e1 → OpFact P N ops env m D0 i o ⟨o.dst, v, none, 0⟩ → wpo P N ops.toList K r e1 m → _ := fun v e1 hp hfact hw =>
      ro_facts hD hro r (i + 1) (D0 ++ [⟨o.dst, v, none, 0⟩]) e1 hw hr (by omega) (by simp [hlen]) (fun t => by
        rw [senv_snoc]
        unfold putEnv at hp
        cases hod : o.dst with
        | none =>
          rw [hod] at hp; cases hp
          rw [sE_other (by simp), he]
        | some q =>
          rw [hod] at hp
          simp only at hp
          split at hp
          · cases hp
            by_cases e : q = t
            · subst e; rw [sE_same rfl]; simp [elook]
            · rw [sE_other (by simpa using e)]
              simp only [elook]
              rw [if_neg e, he]
          · cases hp) (fun j oj d hj hd => by
        rcases Nat.lt_or_ge j D0.length with h' | h'
        · rw [List.getElem?_append_left h'] at hd
          rw [List.take_append_of_le_length (by omega)]
          exact hf j oj d hj hd
        · rw [List.getElem?_append_right h'] at hd
          have h0 : j - D0.length = 0 := by
            rcases Nat.eq_zero_or_pos (j - D0.length) with h0 | h0
            · exact h0
            · rw [List.getElem?_eq_none (by simp; omega)] at hd; cases hd
          rw [h0] at hd
          simp at hd
          subst hd
          have hji : j = i := by omega
          subst hji
          rw [hoi] at hj; cases hj
          rw [List.take_append_of_le_length (by omega), List.take_of_length_le (by omega)]
          exact hfact) (fun d hd => by
        rcases List.mem_append.1 hd with hd | hd
        · exact hn d hd
        · simp at hd; subst hd; rfl)
    have okd : ∀ v e1, putEnv N e0 o.dst v = some e1 → okDst N o = true := fun v e1 hp => by
      unfold putEnv at hp
      unfold okDst
      cases hod : o.dst with
      | none => rfl
      | some q =>
        rw [hod] at hp
        simp only at hp
        split at hp
        · rename_i hq; simp [hq]
        · cases hp
    simp only [wpo] at h
    rw [← hgd] at h
    split at h
    · exact h.elim
    · rename_i hg
      split at h
      case h_2 => exact h.elim
      rename_i e1 hp
      exact next _ e1 hp ⟨rfl, okd _ _ hp, .inl ⟨hg, rfl, rfl⟩⟩ h
    · rename_i hg
      rw [goCall_ro hroi] at h
      simp only at h
      split at h
      case h_2 => exact h.elim
      rename_i e hl2
      obtain ⟨hn1, hn2⟩ := ro_new hroi hl2
      split at h
      case h_2 => exact h.elim
      rename_i e1 hp
      obtain ⟨ev1, en, em, ek⟩ : ∃ v n ms, e = { val := v, new := n, mods := ms } := ⟨e.val, e.new, e.mods, rfl⟩
      subst ek
      simp only at hn1 hn2 hp
      subst hn1 hn2
      refine next _ e1 hp ⟨rfl, okd _ _ hp, .inr ⟨hg, .inr ⟨goCall_ro hroi, ?_⟩⟩⟩ h
      have h1 : lop P (senv (bit ((Region.before ops).getD i 0)) 0 D0 env) m.get m.top o.op = some { val := ev1, new := none, mods := [] } := lop_env hev hl2
      have h2 := lop_nokid h1 rfl 0
      have e3 : ∀ (D : List DRes) (on : Nat → Bool) (i : Nat) (m : Mem), (∀ d ∈ D, d.new = none) → smem on i D m = m := by
        intro D
        induction D with
        | nil => intro on i m _; rfl
        | cons d r ih => intro on i m hd; simp only [smem]; rw [sM_none (hd d (by simp))]; exact ih on (i + 1) m fun x hx => hd x (by simp [hx])
      rw [e3 D0 _ 0 m hn]
      exact h2
theorem draw_ro (hok : drawOk ops ops.size = true) (hro : ∀ (j : Nat) (o : Oper), ops[j]? = some o → roO o.op = true) (h : wpo P N ops.toList K ops.toList env m) : DrawW P N ops env m K := by
  have hD := drawOk_spec hok
  obtain ⟨D, e, hlen, hK, he, hf, hn⟩ := ro_facts (env := env) hD hro ops.toList 0 [] env h (by simp) (Nat.zero_le _) rfl (fun t => rfl) (fun j o d _ h => by simp at h) (fun d hd => by simp at hd)
  have hku : KidsUp m.top m.top D := ⟨fun j d o hj hx => (by rw [hn d (List.mem_of_getElem? hj)] at hx; cases hx), fun j j' d d' o o' hj _ hx _ _ => (by rw [hn d (List.mem_of_getElem? hj)] at hx; cases hx)⟩
  intro σ a w hR hE hN Q hQ
  have main : ∀ (fuel : Nat) (listed : Array Bool) (σ' : Sg) (a' : Act) (w' : World), cnt listed = fuel → listed.size = ops.size → Closed ops listed →
      Rep σ' (smem (onL listed) 0 D m).get w' → EnvRel σ' (senv (onL listed) 0 D env) a'.tmps → a'.tmps.size = N → a'.defers = a.defers → Fr σ m.get w σ' (smem (onL listed) 0 D m).get w' → wpAny P .any ops Q fuel listed a' w' := by
    intro fuel
    induction fuel with
    | zero =>
      intro listed σ' a' w' hcnt hlsz hc hR' hE' hN' hd' hF'
      have hall : ∀ i, i < ops.size → onL listed i = true := by
        intro i hi
        cases hx : onL listed i with
        | true => rfl
        | false =>
          have := cnt_set (by omega) hx
          omega
      have e1 : m.get = (smem (onL listed) 0 D m).get := by
        have : ∀ (D : List DRes) (on : Nat → Bool) (i : Nat) (m : Mem), (∀ d ∈ D, d.new = none) → smem on i D m = m := by
          intro D
          induction D with
          | nil => intro on i m _; rfl
          | cons d r ih => intro on i m hd; simp only [smem]; rw [sM_none (hd d (by simp))]; exact ih on (i + 1) m fun x hx => hd x (by simp [hx])
        rw [this D _ 0 m hn]
      rw [← e1] at hR' hF'
      refine ⟨?_, hQ e m σ' a' w' hK hR' (fun t v ht => hE' t v ?_) hN' hd' hF'⟩
      · cases hr : Region.ready .any ops listed with
        | nil => rfl
        | cons i r =>
          obtain ⟨o, ho, h1, _⟩ := ready_spec hlsz (i := i) (by rw [hr]; simp)
          have hi : i < ops.size := (Array.getElem?_eq_some_iff.1 ho).1
          rw [hall i hi] at h1; cases h1
      · rw [he] at ht
        rw [← ht]
        exact senv_agree _ _ t D 0 env env rfl fun j d hj hne => by
          have := (List.getElem?_eq_some_iff.1 hj).1
          rw [Nat.zero_add] at hne
          exact absurd (hall j (by omega)) hne
    | succ fuel ih =>
      intro listed σ' a' w' hcnt hlsz hc hR' hE' hN' hd' hF'
      refine ⟨fun h0 => ?_, fun q hq => ?_⟩
      · have hall := ready_nil hD.low hlsz h0
        rw [cnt_all (fun i hi => hall i (by omega))] at hcnt
        omega
      · obtain ⟨o, ho, hun, hedge⟩ := ready_spec hlsz hq
        have hqlt : q < ops.size := (Array.getElem?_eq_some_iff.1 ho).1
        have hd : D[q]? = some (D[q]'(by omega)) := List.getElem?_eq_getElem _
        refine stable_step (s := ops.size) hD hku (by omega) hf hlsz hc ho hd hun hedge hR' hE' hN' (fun σ'' a'' w'' r1 r2 r3 r4 r5 => ?_)
        refine ih _ σ'' a'' w'' ?_ (by simpa using hlsz) ?_ r1 r2 r3 (r4.trans hd') (hF'.trans r5)
        · have := cnt_set (i := q) (by omega) hun; omega
        · intro j oj hoj hj e he hb
          rw [onL_set (by omega)] at hj ⊢
          rw [Bool.or_eq_true, decide_eq_true_iff] at hj ⊢
          right
          rcases hj with rfl | hj
          · rw [hoj] at ho; cases ho; exact hedge e he hb
          · exact hc j oj hoj hj e he hb
  have hrep : ∀ j, onL (Array.replicate ops.size false) j = false := fun j => by
    simp only [onL, Array.getD_eq_getD_getElem?, Array.getElem?_replicate]
    split <;> rfl
  have hon0 : onL (Array.replicate ops.size false) = fun _ => false := funext hrep
  have hsm : smem (fun _ => false) 0 D m = m := by
    have : ∀ (D : List DRes) (i : Nat) (m : Mem), smem (fun _ => false) i D m = m := by
      intro D
      induction D with
      | nil => intro i m; rfl
      | cons d r ih => intro i m; simp only [smem, sM_false]; exact ih _ _
    exact this D 0 m
  have hcnt : cnt (Array.replicate ops.size false) = ops.size := by
    unfold cnt
    rw [cnt_prefix _ 0]
    · simp
    · intro j b hj
      have := List.mem_of_getElem? hj
      simp at this
      rw [this.2]
      simp
  exact main ops.size (Array.replicate ops.size false) σ a w hcnt (by simp) (fun i o _ h => by rw [hrep] at h; cases h) (by rw [hon0, hsm]; exact hR) (by rw [hon0, senv_none]; exact hE) hN rfl (by rw [hon0, hsm]; exact .refl _ _ _)
end

/-- A draw that only reads, as simp likes it. -/
theorem draw_gor {P : Program} {N : Nat} {l : List Oper} {env : Env} {m : Mem} {K : Env → Mem → Prop} (hok : (drawOk l.toArray l.toArray.size && l.all fun o => roO o.op) = true)
    (h : wpo P N l K l env m) : DrawD P N l.toArray env m K () () := by
  rw [Bool.and_eq_true, List.all_eq_true] at hok
  exact draw_ro (ops := l.toArray) hok.1 (fun j o hj => hok.2 o (List.mem_of_getElem? (by simpa using hj))) h
end Go.Lm
/- A region that draws its order: all one behind another, but a load that may run early. -/
namespace Go.Lm

/-- operations one behind another, an object staying as it is; then the others -/
def wpoI (P : Program) (N : Nat) (ops : List Oper) (k : Nat) (X : Ob) (K : Env → Mem → Prop) : List Oper → List Oper → Env → Mem → Prop
  | [], tl, env, m => m.get k = X ∧ wpo P N ops K tl env m
  | o :: r, tl, env, m => m.get k = X ∧ wpo P N ops (fun e m' => wpoI P N ops k X K r tl e m') [o] env m

section
variable {P : Program} {N : Nat} {ops : Array Oper} {env : Env} {m : Mem} {K : Env → Mem → Prop}

theorem wpoI_get {l0 : List Oper} {k : Nat} {X : Ob} {l tl : List Oper} (h : wpoI P N l0 k X K l tl env m) : m.get k = X := by
  cases l <;> exact h.1

theorem draw_ld (f k d : Nat) (X : Ob) (v : Value) (o : Oper) (hof : ops[f]? = some o) (hod : o.dst = some d) (hdN : d < N)
    (hop : ∀ (e : Env) (m' : Mem) (K' : Env → Mem → Prop), (∀ t ∈ o.looksAt ops, elook e t = elook (eras d env) t) → m'.get k = X → ∀ r, wpo P N ops.toList K' (o :: r) e m' = wpo P N ops.toList K' r ((d, v) :: e) m')
    (hok : drawOk ops ops.size = true) (hno : ∀ j oj, j < f → ops[j]? = some oj → oj.dst ≠ some d ∧ ∀ q, oj.dst = some q → q ∉ o.looksAt ops)
    (hseq : ∀ i, i < ops.size → i ≠ f → ∀ j, j < i → j ≠ f → ((Region.before ops).getD i 0).testBit j = true) (haft : ∀ i, f < i → i < ops.size → ((Region.before ops).getD i 0).testBit f = true)
    (h : wpoI P N ops.toList k X K (ops.toList.take f) (ops.toList.drop f) (eras d env) m) : DrawW P N ops env m K := by
  have hD := drawOk_spec hok
  have hfl : f < ops.size := (Array.getElem?_eq_some_iff.1 hof).1
  intro σ a w hR hE hN Q hQ
  have bits_lt : ∀ {listed : Array Bool} (hc : Closed ops listed) {i : Nat} {o : Oper} (ho : ops[i]? = some o) (hedge : ∀ e ∈ o.after, Region.binds .any e = true → onL listed e.on = true) {j : Nat}, ((Region.before ops).getD i 0).testBit j = true → onL listed j = true ∧ j < i :=
    fun {listed} hc {i} {o} ho hedge {j} hb => ahead_listed hD.low hc _ _ ho hedge j hb
  have hdropf : ops.toList.drop f = o :: ops.toList.drop (f + 1) := by
    rw [List.drop_eq_getElem_cons (by simpa using hfl)]
    simp only [Array.getElem_toList]
    rw [Array.getElem?_eq_getElem hfl] at hof
    rw [Option.some.inj hof]
  -- behind the load
  have rest : ∀ (fuel : Nat) (listed : Array Bool) (e : Env) (m₁ : Mem) (σ' : Sg) (a' : Act) (w' : World), cnt listed = fuel → listed.size = ops.size → Closed ops listed → (∀ j, j < ops.size → (onL listed j = true ↔ j < f + 1)) →
      wpo P N ops.toList K (ops.toList.drop (f + 1)) e m₁ → Rep σ' m₁.get w' → EnvRel σ' e a'.tmps → a'.tmps.size = N → a'.defers = a.defers → Fr σ m.get w σ' m₁.get w' → wpAny P .any ops Q fuel listed a' w' := by
    intro fuel listed e m₁ σ' a' w' hcnt hlsz hc hon hw g1 g2 hN' hd' g3
    have hwl := wpo_sound (P := P) (N := N) ops.toList K Q (ops.toList.drop (f + 1)) _ _ hw σ' a' w' g1 g2 hN' (fun env' m' σ'' a'' w'' h1 h2 h3 h4 h5 h6 => hQ env' m' σ'' a'' w'' h1 h2 h3 h4 (h5.trans hd') (g3.trans h6))
    rw [Array.toArray_toList] at hwl
    have htail := tail_any hD.low (ops.toList.drop (f + 1)) (f + 1) listed a' w' rfl hlsz hc hon (fun i' h1 h2 j h3 => by
      by_cases e : j = f
      · subst e; exact haft i' (by omega) h2
      · exact hseq i' h2 (by omega) j h3 e) hwl
    have hflen : (ops.toList.drop (f + 1)).length = fuel := by
      rw [← hcnt]
      unfold cnt
      rw [cnt_prefix listed.toList (f + 1)]
      · simp [hlsz]
      · intro j b hj
        have hjl : j < listed.size := by
          rcases Nat.lt_or_ge j listed.size with h' | h'
          · exact h'
          · rw [List.getElem?_eq_none (by simpa using h')] at hj; cases hj
        have := hon j (by omega)
        simp only [onL, Array.getD_eq_getD_getElem?, ← Array.getElem?_toList, hj, Option.getD_some] at this
        exact this
    rw [hflen] at htail
    exact htail
  have main : ∀ (fuel i : Nat) (listed : Array Bool) (e : Env) (m₁ : Mem) (σ' : Sg) (a' : Act) (w' : World), cnt listed = fuel → listed.size = ops.size → Closed ops listed → i ≤ f → (∀ j, j < f → (onL listed j = true ↔ j < i)) → (∀ j, f < j → j < ops.size → onL listed j = false) →
      wpoI P N ops.toList k X K ((ops.toList.take f).drop i) (ops.toList.drop f) e m₁ → elook e d = none → (∀ t ∈ o.looksAt ops, elook e t = elook (eras d env) t) → Rep σ' m₁.get w' → EnvRel σ' e a'.tmps → a'.tmps.size = N → a'.defers = a.defers → Fr σ m.get w σ' m₁.get w' →
      (onL listed f = true → ∃ rc, a'.tmps[d]? = some rc ∧ vRel σ' v rc) → wpAny P .any ops Q fuel listed a' w' := by
    intro fuel
    induction fuel with
    | zero =>
      intro i listed e m₁ σ' a' w' hcnt hlsz hc hif hon hno2 hw hed hlk hR' hE' hN' hd' hF' hflag
      have hall : ∀ j, j < ops.size → onL listed j = true := by
        intro j hj
        cases hx : onL listed j with
        | true => rfl
        | false =>
          have := cnt_set (by omega) hx
          omega
      have hie : i = f := by
        rcases Nat.lt_or_ge i f with h' | h'
        · have := (hon i h').1 (hall i (by omega)); omega
        · omega
      subst hie
      have hnil : (ops.toList.take i).drop i = [] := List.drop_eq_nil_of_le (by simp; omega)
      rw [hnil] at hw
      obtain ⟨hX, hw⟩ := hw
      rw [hdropf, hop e m₁ K hlk hX] at hw
      obtain ⟨rc, r1, r2⟩ := hflag (hall i hfl)
      refine rest 0 listed _ m₁ σ' a' w' hcnt hlsz hc (fun j hj => ⟨fun hx => ?_, fun _ => hall j hj⟩) hw hR' (fun t x ht => ?_) hN' hd' hF'
      · rcases Nat.lt_or_ge j (i + 1) with h' | h'
        · exact h'
        · rw [hno2 j (by omega) hj] at hx; cases hx
      · simp only [elook] at ht
        by_cases e1 : d = t
        · rw [if_pos e1] at ht; cases ht; subst e1; exact ⟨rc, r1, r2⟩
        · rw [if_neg e1] at ht; exact hE' t x ht
    | succ fuel ih =>
      intro i listed e m₁ σ' a' w' hcnt hlsz hc hif hon hno2 hw hed hlk hR' hE' hN' hd' hF' hflag
      by_cases hfin : i = f ∧ onL listed f = true
      · obtain ⟨rfl, hlf⟩ := hfin
        have hnil : (ops.toList.take i).drop i = [] := List.drop_eq_nil_of_le (by simp; omega)
        rw [hnil] at hw
        obtain ⟨hX, hw⟩ := hw
        rw [hdropf, hop e m₁ K hlk hX] at hw
        obtain ⟨rc, r1, r2⟩ := hflag hlf
        refine rest (fuel + 1) listed _ m₁ σ' a' w' hcnt hlsz hc (fun j hj => ⟨fun hx => ?_, fun hx => ?_⟩) hw hR' (fun t x ht => ?_) hN' hd' hF'
        · rcases Nat.lt_or_ge j (i + 1) with h' | h'
          · exact h'
          · rw [hno2 j (by omega) hj] at hx; cases hx
        · by_cases e1 : j = i
          · rw [e1]; exact hlf
          · exact (hon j (by omega)).2 (by omega)
        · simp only [elook] at ht
          by_cases e1 : d = t
          · rw [if_pos e1] at ht; cases ht; subst e1; exact ⟨rc, r1, r2⟩
          · rw [if_neg e1] at ht; exact hE' t x ht
      · refine ⟨fun h0 => ?_, fun q hq => ?_⟩
        · have hall := ready_nil hD.low hlsz h0
          rw [cnt_all (fun i hi => hall i (by omega))] at hcnt
          omega
        · obtain ⟨oq, ho, hun, hedge⟩ := ready_spec hlsz hq
          have hqlt : q < ops.size := (Array.getElem?_eq_some_iff.1 ho).1
          have hcl : Closed ops (listed.setIfInBounds q true) := by
            intro j oj hoj hj e he hb
            rw [onL_set (by omega)] at hj ⊢
            rw [Bool.or_eq_true, decide_eq_true_iff] at hj ⊢
            right
            rcases hj with rfl | hj
            · rw [hoj] at ho; cases ho; exact hedge e he hb
            · exact hc j oj hoj hj e he hb
          have hcn : cnt (listed.setIfInBounds q true) = fuel := by
            have := cnt_set (i := q) (by omega) hun; omega
          have hother : ∀ j, j ≠ q → onL (listed.setIfInBounds q true) j = onL listed j := fun j hj => by
            rw [onL_set (by omega)]
            have e : (decide (j = q)) = false := by simp [hj]
            rw [e, Bool.false_or]
          rcases Nat.lt_trichotomy q f with hqf | rfl | hqf
          · -- the next one
            have hqi : q = i := by
              rcases Nat.lt_trichotomy q i with h' | h' | h'
              · rw [(hon q hqf).2 h'] at hun; cases hun
              · exact h'
              · have := (bits_lt hc ho hedge (hseq q hqlt (by omega) i h' (by omega))).1
                have := (hon i (by omega)).1 this
                omega
            subst hqi
            have hcons : (ops.toList.take f).drop q = oq :: (ops.toList.take f).drop (q + 1) := by
              rw [List.drop_eq_getElem_cons (by simp; omega)]
              simp only [List.getElem_take, Array.getElem_toList]
              rw [Array.getElem?_eq_getElem hqlt] at ho
              rw [Option.some.inj ho]
            rw [hcons] at hw
            obtain ⟨hX, hw⟩ := hw
            obtain ⟨n1, n2⟩ := hno q oq hqf ho
            have := wpo_step (Q := Q) (Kn := wpAny P .any ops Q fuel (listed.setIfInBounds q true)) ops.toList hw hR' hE' hN' (i := q) (by rw [Array.toArray_toList]; exact ho) (fun e2 m₂ σ'' a'' w'' h1 h2 h3 h4 h5 h6 h7 => by
              refine ih (q + 1) _ e2 m₂ σ'' a'' w'' hcn (by simpa using hlsz) hcl (by omega) (fun j hj => ?_) (fun j h8 h9 => by rw [hother j (by omega)]; exact hno2 j h8 h9) h1 (by rw [(h7 d n1).2]; exact hed) (fun t ht => ?_) h2 h3 h4 (h5.trans hd') (hF'.trans h6) (fun hlf => ?_)
              · rw [onL_set (by omega), Bool.or_eq_true, decide_eq_true_iff, hon j hj]; omega
              · rw [(h7 t (fun e3 => n2 t e3 ht)).2]; exact hlk t ht
              · rw [hother f (by omega)] at hlf
                obtain ⟨rc, r1, r2⟩ := hflag hlf
                exact ⟨rc, by rw [(h7 d n1).1]; exact r1, r2.mono h6.ext⟩)
            rwa [Array.toArray_toList] at this
          · -- the load
            rw [hof] at ho; cases ho
            have hX := wpoI_get hw
            have hw2 : wpo P N ops.toList (fun e2 m2 => e2 = (d, v) :: e ∧ m2 = m₁) [o] e m₁ := by
              rw [hop e m₁ _ hlk hX]; exact ⟨rfl, rfl⟩
            have := wpo_step (Q := Q) (Kn := wpAny P .any ops Q fuel (listed.setIfInBounds q true)) ops.toList hw2 hR' hE' hN' (i := q) (by rw [Array.toArray_toList]; exact hof) (fun e2 m₂ σ'' a'' w'' h1 h2 h3 h4 h5 h6 h7 => by
              obtain ⟨rfl, rfl⟩ : e2 = (d, v) :: e ∧ m₂ = m₁ := h1
              refine ih i _ e m₂ σ'' a'' w'' hcn (by simpa using hlsz) hcl hif (fun j hj => by rw [hother j (by omega)]; exact hon j hj) (fun j h8 h9 => by rw [hother j (by omega)]; exact hno2 j h8 h9) hw hed hlk h2 (fun t x ht => ?_) h4 (h5.trans hd') (hF'.trans h6) (fun _ => h3 d v (by simp [elook]))
              refine h3 t x ?_
              simp only [elook]
              rw [if_neg (fun e3 => by subst e3; rw [hed] at ht; cases ht)]
              exact ht)
            rwa [Array.toArray_toList] at this
          · -- too early for the others
            exfalso
            refine hfin ⟨?_, (bits_lt hc ho hedge (haft q hqf hqlt)).1⟩
            rcases Nat.lt_or_ge i f with h' | h'
            · have := (bits_lt hc ho hedge (hseq q hqlt (by omega) i (by omega) (by omega))).1
              have := (hon i h').1 this
              omega
            · omega
  have hrep : ∀ j, onL (Array.replicate ops.size false) j = false := fun j => by
    simp only [onL, Array.getD_eq_getD_getElem?, Array.getElem?_replicate]
    split <;> rfl
  have hcnt : cnt (Array.replicate ops.size false) = ops.size := by
    unfold cnt
    rw [cnt_prefix _ 0]
    · simp
    · intro j b hj
      have := List.mem_of_getElem? hj
      simp at this
      rw [this.2]
      simp
  refine main ops.size 0 (Array.replicate ops.size false) (eras d env) m σ a w hcnt (by simp) (fun i o _ h => by rw [hrep] at h; cases h) (Nat.zero_le _) (fun j _ => ⟨fun hx => (by rw [hrep] at hx; cases hx), fun hx => (by omega)⟩) (fun j _ _ => hrep j) (by rw [List.drop_zero]; exact h) (by simp) (fun _ _ => rfl) hR (fun t x ht => hE t x ?_) hN rfl (.refl _ _ _) (fun hx => by rw [hrep] at hx; cases hx)
  rw [elook_eras] at ht
  split at ht
  · cases ht
  · exact ht
end
end Go.Lm
/- L36 as simp likes it. -/
namespace Go.Lm

theorem wpoI_nil {P : Program} {N : Nat} {ops : List Oper} {k : Nat} {X : Ob} {K : Env → Mem → Prop} {tl : List Oper} {env : Env} {m : Mem} (h1 : m.get k = X) (h2 : wpo P N ops K tl env m) : wpoI P N ops k X K [] tl env m := ⟨h1, h2⟩
theorem wpoI_cons {P : Program} {N : Nat} {ops : List Oper} {k : Nat} {X : Ob} {K : Env → Mem → Prop} {o : Oper} {r tl : List Oper} {env : Env} {m : Mem} (h1 : m.get k = X) (h2 : wpo P N ops (fun e m' => wpoI P N ops k X K r tl e m') [o] env m) : wpoI P N ops k X K (o :: r) tl env m := ⟨h1, h2⟩

def ldB (ops : Array Oper) (b : Array Nat) (f d : Nat) : Bool :=
  (List.range f).all (fun j => match ops[j]?, ops[f]? with
    | some oj, some o => oj.dst != some d && (match oj.dst with | some q => !((o.looksAt ops).contains q) | none => true)
    | _, _ => false) &&
  (List.range ops.size).all (fun i => i == f || (List.range i).all fun j => j == f || (b.getD i 0).testBit j) &&
  (List.range ops.size).all (fun i => decide (i ≤ f) || (b.getD i 0).testBit f)

theorem draw_gol {P : Program} {N : Nat} {l : List Oper} {env : Env} {m : Mem} {K : Env → Mem → Prop} (f k d : Nat) (X : Ob) (v : Value) (bs : List Nat) (o : Oper) (hof : l.toArray[f]? = some o) (hod : o.dst = some d) (hdN : d < N)
    (hb : Region.before l.toArray = bs.toArray) (hok : drawOk l.toArray l.toArray.size = true) (hB : ldB l.toArray bs.toArray f d = true)
    (hop : ∀ (e : Env) (m' : Mem) (K' : Env → Mem → Prop), (∀ t ∈ o.looksAt l.toArray, elook e t = elook (eras d env) t) → m'.get k = X → ∀ r, wpo P N l K' (o :: r) e m' = wpo P N l K' r ((d, v) :: e) m')
    (h : wpoI P N l k X K (l.take f) (l.drop f) (eras d env) m) : DrawD P N l.toArray env m K () () := by
  unfold ldB at hB
  rw [← hb] at hB
  simp only [Bool.and_eq_true, List.all_eq_true, List.mem_range] at hB
  obtain ⟨⟨h1, h2⟩, h3⟩ := hB
  refine draw_ld (ops := l.toArray) f k d X v o hof hod hdN hop hok (fun j oj hj hoj => ?_) (fun i hi hne j hj hjf => ?_) (fun i hfi hi => ?_) h
  · have := h1 j hj
    rw [hoj, hof] at this
    simp only [Bool.and_eq_true, bne_iff_ne] at this
    refine ⟨this.1, fun q hq => ?_⟩
    have h4 := this.2
    rw [hq] at h4
    simpa using h4
  · have := h2 i hi
    rw [Bool.or_eq_true, List.all_eq_true] at this
    rcases this with h | h
    · exact absurd (by simpa using h) hne
    · have := h j (List.mem_range.2 hj)
      rw [Bool.or_eq_true] at this
      rcases this with h | h
      · exact absurd (by simpa using h) hjf
      · exact h
  · have := h3 i hi
    rw [Bool.or_eq_true, decide_eq_true_iff] at this
    exact this.resolve_left (by omega)
end Go.Lm
/- Arguments that are rows of structs of whole numbers, and structs that hold rows. -/
set_option linter.unusedVariables false
namespace Go.Lm
open Go.ChangeShapes Go.WideShapes

section
variable {H : Type} {enc : TypeId × Value → H} {P : Program} {w : World} {base : Nat} {spare : Nat → Bool} {held : Bool}

/-- A type whose values are so many whole numbers. -/
def OpensNums (enc : TypeId × Value → H) (P : Program) (w : World) (base : Nat) (spare : Nat → Bool) (held : Bool) (e : TypeId) (ks : List IntKind) : Prop :=
  ∀ (fuel : Nat) (cs : List Value) (x : DataW H × List MemPlace), DataW.trod enc P w base spare held fuel e cs = some x →
    ∃ ns : List Int, cs = List.zipWith Value.int ks ns ∧ ns.length = ks.length ∧ ∀ (i : Nat) (k : IntKind), ks[i]? = some k → (Lit.int k (ns.getD i 0)).wf = true

theorem opens_int {e : TypeId} {k : IntKind} (he : P.underlying e = some (.int k)) : OpensNums enc P w base spare held e [k] := by
  intro fuel cs x h
  obtain ⟨n, rfl, -, hw⟩ := DataW.trod_int he h
  refine ⟨[n], rfl, rfl, fun i k' hi => ?_⟩
  cases i with
  | zero => simp at hi; subst hi; exact hw
  | succ i => simp at hi

theorem opens_struct {e : TypeId} {fs : Array Field} (ks : List IntKind) (ht : P.underlying e = some (.struct fs)) (hC : P.cellsOf e = fs.size)
    (hk : fs.toList.map (fun f => (f.offset, P.cellsOf f.type, P.underlying f.type)) = ks.zipIdx.map (fun x => (x.2, 1, some (.int x.1)))) : OpensNums enc P w base spare held e ks := by
  intro fuel cs x hf
  obtain ⟨xs, n, -, -, hsz, hxl, hg⟩ := DataW.trod_struct ht hf
  have hlen : fs.size = ks.length := by have := congrArg List.length hk; simpa using this
  have key : ∀ (i : Nat) (k : IntKind), ks[i]? = some k → ∃ z, cs[i]? = some (.int k z) ∧ (Lit.int k z).wf = true := fun i k hi => by
    have hil : i < ks.length := (List.getElem?_eq_some_iff.1 hi).1
    have hfi : fs[i]? = some (fs[i]'(by omega)) := Array.getElem?_eq_getElem _
    have h1 := congrArg (fun l => l[i]?) hk
    simp only [List.getElem?_map, List.getElem?_zipIdx, hi, Option.map_some, Nat.zero_add, Array.getElem?_toList, hfi, Option.some.injEq, Prod.mk.injEq] at h1
    obtain ⟨h2, h3, h4⟩ := h1
    have h5 := hg i _ hfi
    rw [h2, h3] at h5
    have hic : i < cs.length := by omega
    have h6 : (cs.drop i).take 1 = [cs[i]'hic] := by
      rw [List.drop_eq_getElem_cons hic]; rfl
    rw [h6] at h5
    cases hxi : xs[i]? with
    | none =>
      exfalso
      rw [List.getElem?_eq_getElem (by omega)] at hxi
      cases hxi
    | some y =>
      rw [hxi] at h5
      obtain ⟨z, hz, _, hw⟩ := DataW.trod_int h4 h5
      simp only [List.cons.injEq, and_true] at hz
      exact ⟨z, by rw [List.getElem?_eq_getElem hic, hz], hw⟩
  have hcs : cs.length = ks.length := by omega
  refine ⟨cs.map (fun v => match v with | .int _ z => z | _ => 0), ?_, by simpa using hcs, fun i k hi => ?_⟩
  · apply List.ext_getElem?
    intro i
    rw [List.getElem?_zipWith, List.getElem?_map]
    rcases Nat.lt_or_ge i ks.length with h | h
    · obtain ⟨z, hz, _⟩ := key i _ (List.getElem?_eq_getElem h)
      rw [hz, List.getElem?_eq_getElem h]; rfl
    · rw [List.getElem?_eq_none (by omega), List.getElem?_eq_none h]
  · obtain ⟨z', hz', hw⟩ := key i k hi
    rw [List.getD_eq_getElem?_getD, List.getElem?_map, hz']
    exact hw

/-- What a law knows of a slice of structs of whole numbers that came in. -/
def RowsArg (ks : List IntKind) (w : World) (a : Option Addr) (len cap : Nat) (zs : List (List Int)) : Prop :=
  (a = none ∧ len = 0 ∧ cap = 0 ∧ zs = []) ∨
  ∃ x, a = some x ∧ x.spot = none ∧ x.block < w.heap.size ∧ len ≤ cap ∧ cap ≤ maxLen ∧ zs.length = cap ∧
    (∀ i, i < cap → ∀ j k, ks[j]? = some k → w.cell? (x.add (i * ks.length + j)) = some (.int k ((zs.getD i []).getD j 0))) ∧
    ∀ r ∈ zs, r.length = ks.length ∧ ∀ j k, ks[j]? = some k → (Lit.int k (r.getD j 0)).wf = true

theorem slice_has {b0 : Nat} {t e : TypeId} {x : Addr} {len cap : Nat} (ht : P.underlying t = some (.slice e)) (h : Cell.okWide P w .any b0 t (.slice (some x) len cap)) : x.spot = none ∧ x.block < w.heap.size := by
  have h2 : Cell.ok P w .any b0 t (.slice (some x) len cap) := by
    unfold Cell.okWide at h
    rw [ht] at h
    exact h
  unfold Cell.ok at h2
  rw [ht] at h2
  exact has_at h2.2.2

theorem choose_rows {p : Nat → List Int → Prop} : ∀ (n : Nat), (∀ i, i < n → ∃ r, p i r) → ∃ zs : List (List Int), zs.length = n ∧ ∀ i, i < n → p i (zs.getD i [])
  | 0, _ => ⟨[], rfl, fun i h => by omega⟩
  | n + 1, h => by
    obtain ⟨zs, h1, h2⟩ := choose_rows n fun i hi => h i (by omega)
    obtain ⟨r, hr⟩ := h n (by omega)
    refine ⟨zs ++ [r], by simp [h1], fun i hi => ?_⟩
    rw [List.getD_eq_getElem?_getD]
    rcases Nat.lt_or_ge i n with h' | h'
    · rw [List.getElem?_append_left (by omega), ← List.getD_eq_getElem?_getD]
      exact h2 i h'
    · obtain rfl : i = n := by omega
      rw [List.getElem?_append_right (by omega), h1, Nat.sub_self]
      exact hr

theorem open_rows {b0 : Nat} {t e : TypeId} {ks : List IntKind} {fuel : Nat} {v : Value} {x : DataW H × List MemPlace} (ht : P.underlying t = some (.slice e)) (hE : OpensNums enc P w base (fun _ => true) held e ks) (hc : P.cellsOf e = ks.length)
    (hv : Cell.okWide P w .any b0 t v) (h : DataW.trod enc P w base (fun _ => true) held fuel t [v] = some x) : ∃ a len cap zs, v = .slice a len cap ∧ RowsArg ks w a len cap zs := by
  rcases Go.Deep.open_slice ht h with ⟨hcs, _⟩ | ⟨a, len, cap, m, n, D, Pl, hcs, _, hl, hm, hmm, _, hx⟩
  · simp at hcs
    subst hcs
    exact ⟨_, _, _, [], rfl, .inl ⟨rfl, rfl, rfl, rfl⟩⟩
  · simp at hcs
    subst hcs
    obtain ⟨h3, h4⟩ := slice_has ht hv
    have hmc : m = cap := by simpa using hmm
    clear hmm
    obtain ⟨zs, z1, z2⟩ := choose_rows (p := fun i r => (∀ j k, ks[j]? = some k → w.cell? (a.add (i * ks.length + j)) = some (.int k (r.getD j 0))) ∧ r.length = ks.length ∧ ∀ j k, ks[j]? = some k → (Lit.int k (r.getD j 0)).wf = true) cap fun i hi => by
      obtain ⟨cs', h5, h6⟩ := hx i (by omega)
      obtain ⟨ns, rfl, n1, n2⟩ := hE _ _ _ h6
      rw [hc] at h5
      obtain ⟨_, _, h7⟩ := World.cells?_some h5
      refine ⟨ns, fun j k hj => ?_, n1, n2⟩
      have hjl := (List.getElem?_eq_some_iff.1 hj).1
      have hjn : j < ns.length := by omega
      have := h7 j hjl
      rw [List.getElem?_zipWith, hj, List.getElem?_eq_getElem hjn] at this
      rw [List.getD_eq_getElem?_getD, List.getElem?_eq_getElem hjn]
      have e1 : (a.add (i * ks.length)).add j = a.add (i * ks.length + j) := by
        rw [add_off a h3, add_off a h3, add_off _ rfl, Nat.add_assoc]
      rw [← e1]
      exact this
    refine ⟨_, _, _, zs, rfl, .inr ⟨a, rfl, h3, h4, hl, hm, z1, fun i hi => (z2 i hi).1, fun r hr => ?_⟩⟩
    obtain ⟨i, hi, rfl⟩ := List.mem_iff_getElem.1 hr
    have := (z2 i (by omega)).2
    rw [List.getD_eq_getElem?_getD, List.getElem?_eq_getElem hi] at this
    exact this
end

/-- the cells of rows -/
def rowsC (ks : List IntKind) (zs : List (List Int)) : Array Value := (zs.flatMap fun r => List.zipWith Value.int ks r).toArray

/-- Objects of the caller's that hold plain cells. -/
def ObjR (w : World) (l : List (Pl × Ob)) : Prop :=
  ∀ po ∈ l, po.1.b < w.heap.size ∧ ∃ c, po.2 = .cells true po.1.e c ∧ ∀ (j : Nat) (x : Value), c[j]? = some x → gnd0 x = true ∧ w.cell? ⟨po.1.b, po.1.o + j, none⟩ = some x
theorem ObjR.nil {w : World} : ObjR w [] := fun _ h => by simp at h
theorem ObjR.app {w : World} {l l' : List (Pl × Ob)} (h : ObjR w l) (h' : ObjR w l') : ObjR w (l ++ l') := fun po hp => by
  rw [List.mem_append] at hp
  exact hp.elim (h po) (h' po)
theorem ObjR.ok {w : World} {l : List (Pl × Ob)} (h : ObjR w l) : ObjsOk w l := fun k p o hk => by
  obtain ⟨h1, c, h2, h3⟩ := h (p, o) (List.mem_of_getElem? hk)
  exact ⟨h1, c, h2, fun j x hx => ⟨x, (h3 j x hx).2, sRel_gnd (h3 j x hx).1⟩⟩

/-- A row in memory, from its beginning. -/
def RowAt (m : Mem) (ks : List IntKind) (v : Value) (len : Nat) (zs : List (List Int)) : Prop :=
  (v = .slice none 0 0 ∧ len = 0 ∧ zs = []) ∨ ∃ k, v = .slice (some ⟨k, 0, none⟩) len zs.length ∧ len ≤ zs.length ∧ m.get k = .cells true ks.length (rowsC ks zs) ∧ ∀ r ∈ zs, r.length = ks.length ∧ ∀ j k, ks[j]? = some k → (Lit.int k (r.getD j 0)).wf = true

theorem flatMap_get {α : Type} (f : List Int → List α) (n : Nat) : ∀ (zs : List (List Int)), (∀ r ∈ zs, (f r).length = n) → ∀ (i j : Nat), j < n → (zs.flatMap f)[i * n + j]? = (zs[i]?).bind fun r => (f r)[j]?
  | [], _, i, j, _ => by simp
  | r :: zs, h, i, j, hj => by
    rw [List.flatMap_cons]
    have hr := h r (by simp)
    cases i with
    | zero => rw [Nat.zero_mul, Nat.zero_add, List.getElem?_append_left (by omega)]; rfl
    | succ i =>
      have e : (i + 1) * n = i * n + n := by rw [Nat.add_mul]; omega
      rw [e, List.getElem?_append_right (by omega), hr, show i * n + n + j - n = i * n + j by omega]
      rw [flatMap_get f n zs (fun r hr => h r (by simp [hr])) i j hj]
      rfl

theorem rows_arg {w : World} {ks : List IntKind} {a : Option Addr} {len cap : Nat} {zs : List (List Int)} (hks : 0 < ks.length) (h : RowsArg ks w a len cap zs) :
    ∃ l : List (Pl × Ob), ObjR w l ∧ len ≤ cap ∧ cap ≤ maxLen ∧ ∀ pre post, ∃ v, sRel (sgL (pre ++ l ++ post)) v (.slice a len cap) ∧ RowAt (memL (pre ++ l ++ post)) ks v len zs := by
  rcases h with ⟨rfl, rfl, rfl, rfl⟩ | ⟨x, rfl, h1, h2, h3, h4, h5, h6, h7⟩
  · exact ⟨[], .nil, Nat.le_refl _, by decide, fun pre post => ⟨.slice none 0 0, rfl, .inl ⟨rfl, rfl, rfl⟩⟩⟩
  · refine ⟨[(⟨x.block, x.off, ks.length, x.off + cap * ks.length⟩, .cells true ks.length (rowsC ks zs))], fun po hp => ?_, h3, h4, fun pre post => ⟨.slice (some ⟨pre.length, 0, none⟩) len cap, ?_, .inr ⟨pre.length, by rw [h5], by omega, ?_, h7⟩⟩⟩
    · simp only [List.mem_singleton] at hp
      subst hp
      refine ⟨h2, _, rfl, fun q y hy => ?_⟩
      have hdm : q = q / ks.length * ks.length + q % ks.length := by rw [Nat.mul_comm]; exact (Nat.div_add_mod q ks.length).symm
      have hmod : q % ks.length < ks.length := Nat.mod_lt _ hks
      unfold rowsC at hy
      rw [List.getElem?_toArray, hdm, flatMap_get _ ks.length zs (fun r hr => by rw [List.length_zipWith, (h7 r hr).1, Nat.min_self]) _ _ hmod] at hy
      rw [Option.bind_eq_some_iff] at hy
      obtain ⟨r, hr, hy⟩ := hy
      have hil : q / ks.length < cap := by rw [← h5]; exact (List.getElem?_eq_some_iff.1 hr).1
      have hrl := (h7 r (List.mem_of_getElem? hr)).1
      rw [List.getElem?_zipWith, List.getElem?_eq_getElem hmod, List.getElem?_eq_getElem (by omega)] at hy
      simp only [Option.some.injEq] at hy
      subst hy
      refine ⟨rfl, ?_⟩
      have := h6 _ hil _ _ (List.getElem?_eq_getElem hmod)
      rw [← hdm, add_off x h1] at this
      have hq : q % ks.length < r.length := by omega
      rw [this]
      simp only [List.getD_eq_getElem?_getD, hr, Option.getD_some, List.getElem?_eq_getElem hq]
    · refine ⟨x, cap, ⟨x.block, x.off, ks.length, x.off + cap * ks.length⟩, rfl, ⟨rfl, h1, ?_, rfl, rfl⟩, .inl rfl⟩
      simp [sgL]
    · rw [memL_get]
      simp
theorem rowsC_get {ks : List IntKind} {zs : List (List Int)} (h : ∀ r ∈ zs, r.length = ks.length) {i j : Nat} (hj : j < ks.length) : (rowsC ks zs)[i * ks.length + j]? = (zs[i]?).bind fun r => (List.zipWith Value.int ks r)[j]? := by
  unfold rowsC
  rw [List.getElem?_toArray, flatMap_get _ ks.length zs (fun r hr => by rw [List.length_zipWith, h r hr, Nat.min_self]) _ _ hj]
theorem rowsC_size {ks : List IntKind} : ∀ {zs : List (List Int)}, (∀ r ∈ zs, r.length = ks.length) → (rowsC ks zs).size = zs.length * ks.length
  | [], _ => by simp [rowsC]
  | r :: zs, h => by
    have := rowsC_size (ks := ks) (zs := zs) fun r hr => h r (by simp [hr])
    simp only [rowsC, List.size_toArray] at this ⊢
    rw [List.flatMap_cons, List.length_append, this, List.length_zipWith, h r (by simp), List.length_cons, Nat.add_mul, Nat.min_self]
    omega
theorem rowsC_extract {ks : List IntKind} {zs : List (List Int)} (h : ∀ r ∈ zs, r.length = ks.length) {i : Nat} {r : List Int} (hi : zs[i]? = some r) : (rowsC ks zs).extract (0 + i * ks.length) (0 + i * ks.length + ks.length) = (List.zipWith Value.int ks r).toArray := by
  have hil := (List.getElem?_eq_some_iff.1 hi).1
  have hsz := rowsC_size h
  have hle : (i + 1) * ks.length ≤ zs.length * ks.length := Nat.mul_le_mul_right _ hil
  rw [Nat.add_mul] at hle
  apply Array.ext_getElem?
  intro j
  rw [Array.getElem?_extract]
  by_cases hj : j < ks.length
  · rw [if_pos (by omega), Nat.zero_add, rowsC_get h hj, hi]
    simp
  · rw [if_neg (by omega), Array.getElem?_eq_none]
    simp; omega
/-- a struct of three fields, of its cells -/
theorem open_fields3 {H : Type} {enc : TypeId × Value → H} {P : Program} {w : World} {base : Nat} {spare : Nat → Bool} {held : Bool} {r : Reach} {b0 : Nat} {t : TypeId} {f0 f1 f2 : Field} {v : Value} {d : DataW H} {p : List MemPlace}
    (ht : P.underlying t = some (.struct #[f0, f1, f2])) (ho : f0.offset = 0 ∧ f1.offset = 1 ∧ f2.offset = 2 ∧ P.cellsOf f0.type = 1 ∧ P.cellsOf f1.type = 1 ∧ P.cellsOf f2.type = 1 ∧ P.cellsOf t = 3)
    (hc : P.cellTypes P.depth t = some [f0.type, f1.type, f2.type])
    (hv : Value.okWide P w r b0 t v) (h : DataW.Trod enc P w base spare held t v d p) :
    ∃ x y z n y0 y1 y2, v = .agg #[x, y, z] ∧ Cell.okWide P w r b0 f0.type x ∧ Cell.okWide P w r b0 f1.type y ∧ Cell.okWide P w r b0 f2.type z ∧
      DataW.trod enc P w base spare held n f0.type [x] = some y0 ∧ DataW.trod enc P w base spare held n f1.type [y] = some y1 ∧ DataW.trod enc P w base spare held n f2.type [z] = some y2 := by
  obtain ⟨o0, o1, o2, c0, c1, c2, cT⟩ := ho
  obtain ⟨fuel, hf⟩ := h
  simp only [Value.okWide, ht] at hv
  obtain ⟨cs, rfl, hsz, ts, hts, _, hcell⟩ := hv
  rw [hc] at hts
  cases hts
  obtain ⟨xs, n, -, -, hl, hxl, hg⟩ := DataW.trod_struct ht hf
  rw [cT] at hsz
  obtain ⟨cs⟩ := cs
  match cs, hsz with
  | [x, y, z], _ =>
    match xs, hxl with
    | [y0, y1, y2], _ =>
      have g0 := hg 0 f0 rfl
      have g1 := hg 1 f1 rfl
      have g2 := hg 2 f2 rfl
      rw [o0, c0] at g0
      rw [o1, c1] at g1
      rw [o2, c2] at g2
      have k0 := hcell 0 x rfl
      have k1 := hcell 1 y rfl
      have k2 := hcell 2 z rfl
      obtain ⟨_, e0, k0⟩ := k0
      obtain ⟨_, e1, k1⟩ := k1
      obtain ⟨_, e2, k2⟩ := k2
      cases e0; cases e1; cases e2
      exact ⟨x, y, z, n, y0, y1, y2, rfl, k0, k1, k2, g0, g1, g2⟩
end Go.Lm
/- Arguments opened, as a shell asks for them. -/
set_option linter.unusedVariables false
namespace Go.Lm
open Go.ChangeShapes Go.WideShapes
section
variable {H : Type} {enc : TypeId × Value → H} {P : Program} {w : World} {base : Nat} {held : Bool}
theorem open_rowsArg {b0 : Nat} {t e : TypeId} {ks : List IntKind} {a : Option Addr} {len cap : Nat} {d : DataW H} {p : List MemPlace} (ht : P.underlying t = some (.slice e)) (hE : OpensNums enc P w base (fun _ => true) held e ks) (hc : P.cellsOf e = ks.length)
    (hv : Value.okWide P w .any b0 t (.slice a len cap)) (h : DataW.Trod enc P w base (fun _ => true) held t (.slice a len cap) d p) : ∃ zs, RowsArg ks w a len cap zs := by
  obtain ⟨fuel, hf⟩ := h
  have h1 : Cell.okWide P w .any b0 t (.slice a len cap) := by
    unfold Value.okWide at hv
    rw [ht] at hv
    exact hv
  obtain ⟨a', len', cap', zs, e, h2⟩ := open_rows ht hE hc h1 hf
  cases e
  exact ⟨zs, h2⟩

theorem open_blk {b0 : Nat} {t e1 e2 : TypeId} {f0 f1 f2 : Field} {k : IntKind} {ks1 ks2 : List IntKind} {v : Value} {d : DataW H} {p : List MemPlace} (ht : P.underlying t = some (.struct #[f0, f1, f2]))
    (ho : f0.offset = 0 ∧ f1.offset = 1 ∧ f2.offset = 2 ∧ P.cellsOf f0.type = 1 ∧ P.cellsOf f1.type = 1 ∧ P.cellsOf f2.type = 1 ∧ P.cellsOf t = 3) (hc : P.cellTypes P.depth t = some [f0.type, f1.type, f2.type])
    (h0 : P.underlying f0.type = some (.int k)) (h1 : P.underlying f1.type = some (.slice e1)) (h2 : P.underlying f2.type = some (.slice e2))
    (hE1 : OpensNums enc P w base (fun _ => true) held e1 ks1) (hc1 : P.cellsOf e1 = ks1.length) (hE2 : OpensNums enc P w base (fun _ => true) held e2 ks2) (hc2 : P.cellsOf e2 = ks2.length)
    (hv : Value.okWide P w .any b0 t v) (h : DataW.Trod enc P w base (fun _ => true) held t v d p) :
    ∃ n a1 l1 c1 z1 a2 l2 c2 z2, v = .agg #[.int k n, .slice a1 l1 c1, .slice a2 l2 c2] ∧ (Lit.int k n).wf = true ∧ RowsArg ks1 w a1 l1 c1 z1 ∧ RowsArg ks2 w a2 l2 c2 z2 := by
  obtain ⟨x, y, z, n, y0, y1, y2, rfl, k0, k1, k2, g0, g1, g2⟩ := open_fields3 ht ho hc hv h
  obtain ⟨m, hm, -, hw⟩ := DataW.trod_int h0 g0
  cases hm
  obtain ⟨a1, l1, c1, z1, rfl, r1⟩ := open_rows h1 hE1 hc1 k1 g1
  obtain ⟨a2, l2, c2, z2, rfl, r2⟩ := open_rows h2 hE2 hc2 k2 g2
  exact ⟨m, a1, l1, c1, z1, a2, l2, c2, z2, rfl, hw, r1, r2⟩
end
end Go.Lm
