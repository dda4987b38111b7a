/- A region that draws its order: operations that turn no object in any order, then the others in the text's order. -/
import Derived.Test.YtfgcnehjdaiipaaL15
namespace Go.Lm

/-- what an operation of the region has come to -/
structure DRes where
  dst : Option Nat
  val : Value
  new : Option Ob
  kid : Nat

/-- one operation's mark on the environment, on the memory, if it has run -/
def sE (b : Bool) (d : DRes) (env : Env) : Env :=
  match b, d.dst with
  | true, some t => (t, d.val) :: env
  | _, _ => env

def sM (b : Bool) (d : DRes) (m : Mem) : Mem :=
  match b, d.new with
  | true, some o => m.put d.kid o
  | _, _ => m

/-- the environment and memory where those operations have run that 'on' names; the first is number i -/
def senv (on : Nat → Bool) : Nat → List DRes → Env → Env
  | _, [], env => env
  | i, d :: r, env => senv on (i + 1) r (sE (on i) d env)

def smem (on : Nat → Bool) : Nat → List DRes → Mem → Mem
  | _, [], m => m
  | i, d :: r, m => smem on (i + 1) r (sM (on i) d m)

def bit (b : Nat) (i : Nat) : Bool := b.testBit i

/-- A call that turns nothing. -/
def PureC (P : Program) (g : FuncId) (vs : List Value) (m : Mem) (v : Value) : Prop :=
  ∀ m' : Mem, Mle m.get m'.get → TC P g vs m' fun u m'' => u = v ∧ m'' = m'

/-- A call that hands back a new object, as number k. -/
def NewC (P : Program) (g : FuncId) (vs : List Value) (m : Mem) (k : Nat) (v : Value) (o : Ob) : Prop :=
  ∀ m' : Mem, Mle m.get m'.get → m'.get k = .free → TC P g vs m' fun u m'' => u = v ∧ m'' = m'.put k o

def okDst (N : Nat) (o : Oper) : Bool :=
  match o.dst with
  | some d => decide (d < N)
  | none => true

/-- The first s operations, each over what must have gone ahead. -/
def drw (P : Program) (N : Nat) (ops : Array Oper) (s : Nat) (b : Nat → Nat) (env : Env) (m : Mem) (K : List DRes → Prop) : List Oper → Nat → Nat → List DRes → Prop
  | [], _, _, D => K D
  | o :: r, i, kid, D =>
    if s ≤ i then K D else
    okDst N o = true ∧
    match guardQ ops.toList (senv (bit (b i)) 0 D env) o with
    | none => False
    | some false => drw P N ops s b env m K r (i + 1) kid (D ++ [⟨o.dst, undef, none, 0⟩])
    | some true =>
      match goCall (senv (bit (b i)) 0 D env) o.op with
      | some (g, vs) =>
        (∃ v, PureC P g vs (smem (bit (b i)) 0 D m) v ∧ drw P N ops s b env m K r (i + 1) kid (D ++ [⟨o.dst, v, none, 0⟩])) ∨
        (∃ v ob, NewC P g vs (smem (bit (b i)) 0 D m) kid v ob ∧ drw P N ops s b env m K r (i + 1) (kid + 1) (D ++ [⟨o.dst, v, some ob, kid⟩]))
      | none =>
        match lop P (senv (bit (b i)) 0 D env) (smem (bit (b i)) 0 D m).get kid o.op with
        | some e => e.mods = [] ∧ drw P N ops s b env m K r (i + 1) (match e.new with | some _ => kid + 1 | none => kid) (D ++ [⟨o.dst, e.val, e.new, kid⟩])
        | none => False

/-- What is asked of the region's text. -/
def drawOk (ops : Array Oper) (s : Nat) : Bool :=
  let b := Region.before ops
  let n := ops.size
  -- what goes ahead stands ahead
  (List.range n).all (fun i => ((ops[i]?).map fun o => o.after.all fun e => !Region.binds .any e || decide (e.on < i)).getD false) &&
  -- the first s: what is not ordered does not write what the other looks at, or writes
  (List.range s).all (fun i => (List.range s).all fun j => j == i || (b.getD i 0).testBit j || (b.getD j 0).testBit i ||
    (match (ops[j]?).bind (·.dst), ops[i]? with
     | some d, some o => !((o.looksAt ops).contains d) && o.dst != some d
     | _, _ => true)) &&
  -- the others: all before them go ahead
  (List.range n).all (fun i => decide (i < s) || (List.range i).all fun j => (b.getD i 0).testBit j)

section
variable {P : Program} {N : Nat} {ops : Array Oper}

theorem before_size (ops : Array Oper) : (Region.before ops).size = ops.size := by
  unfold Region.before
  rw [← Array.foldl_toList]
  have : ∀ (l : List Oper) (acc : Array Nat), (l.foldl (fun acc o => acc.push (o.after.foldl (fun s e => if Region.binds .any e then s ||| 2 ^ e.on ||| acc.getD e.on 0 else s) 0)) acc).size = acc.size + l.length := by
    intro l
    induction l with
    | nil => intro acc; rfl
    | cons o r ih => intro acc; rw [List.foldl_cons, ih]; simp; omega
  rw [this]; simp

/-- the i-th of 'before', by those ahead of it -/
theorem before_get (ops : Array Oper) (i : Nat) (o : Oper) (ho : ops[i]? = some o) (hlow : ∀ e ∈ o.after, Region.binds .any e = true → e.on < i) :
    (Region.before ops).getD i 0 = o.after.foldl (fun s e => if Region.binds .any e then s ||| 2 ^ e.on ||| (Region.before ops).getD e.on 0 else s) 0 := by
  unfold Region.before
  rw [← Array.foldl_toList]
  have key : ∀ (l : List Oper) (acc : Array Nat), (∀ j, j < acc.size → (l.foldl (fun acc o => acc.push (o.after.foldl (fun s e => if Region.binds .any e then s ||| 2 ^ e.on ||| acc.getD e.on 0 else s) 0)) acc)[j]? = acc[j]?) ∧
      (∀ k o, l[k]? = some o → (∀ e ∈ o.after, Region.binds .any e = true → e.on < acc.size + k) →
        (l.foldl (fun acc o => acc.push (o.after.foldl (fun s e => if Region.binds .any e then s ||| 2 ^ e.on ||| acc.getD e.on 0 else s) 0)) acc).getD (acc.size + k) 0 =
          o.after.foldl (fun s e => if Region.binds .any e then s ||| 2 ^ e.on ||| (l.foldl (fun acc o => acc.push (o.after.foldl (fun s e => if Region.binds .any e then s ||| 2 ^ e.on ||| acc.getD e.on 0 else s) 0)) acc).getD e.on 0 else s) 0) := by
    intro l
    induction l with
    | nil => intro acc; exact ⟨fun j _ => rfl, fun k o h => by simp at h⟩
    | cons o r ih =>
      intro acc
      obtain ⟨h1, h2⟩ := ih (acc.push (o.after.foldl (fun s e => if Region.binds .any e then s ||| 2 ^ e.on ||| acc.getD e.on 0 else s) 0))
      refine ⟨fun j hj => ?_, fun k o' hk hl => ?_⟩
      · rw [List.foldl_cons, h1 j (by simp; omega), Array.getElem?_push_lt hj, Array.getElem?_eq_getElem hj]
      · rw [List.foldl_cons]
        cases k with
        | zero =>
          simp only [List.getElem?_cons_zero, Option.some.injEq] at hk
          subst hk
          have hx := h1 acc.size (by simp)
          rw [Nat.add_zero, Array.getD_eq_getD_getElem?, hx]
          simp only [Array.getElem?_push_size, Option.getD_some]
          have : ∀ (es : List Edge) (s0 : Nat), (∀ e ∈ es, Region.binds .any e = true → e.on < acc.size) →
              es.foldl (fun s e => if Region.binds .any e then s ||| 2 ^ e.on ||| acc.getD e.on 0 else s) s0 =
              es.foldl (fun s e => if Region.binds .any e then s ||| 2 ^ e.on ||| (r.foldl (fun acc o => acc.push (o.after.foldl (fun s e => if Region.binds .any e then s ||| 2 ^ e.on ||| acc.getD e.on 0 else s) 0)) (acc.push (o.after.foldl (fun s e => if Region.binds .any e then s ||| 2 ^ e.on ||| acc.getD e.on 0 else s) 0))).getD e.on 0 else s) s0 := by
            intro es
            induction es with
            | nil => intro s0 _; rfl
            | cons e es ihe =>
              intro s0 hes
              rw [List.foldl_cons, List.foldl_cons]
              by_cases hb : Region.binds .any e = true
              · rw [if_pos hb, if_pos hb]
                have hlt := hes e (by simp) hb
                have hg := h1 e.on (by simp; omega)
                rw [Array.getD_eq_getD_getElem?, Array.getD_eq_getD_getElem?, hg, Array.getElem?_push_lt hlt, Array.getElem?_eq_getElem hlt]
                exact ihe _ fun e' he' hb' => hes e' (by simp [he']) hb'
              · rw [if_neg hb, if_neg hb]
                exact ihe _ fun e' he' hb' => hes e' (by simp [he']) hb'
          have := this o.after.toList 0 fun e he hb => by have := hl e (by simpa using he) hb; omega
          rw [Array.foldl_toList, Array.foldl_toList] at this
          exact this
        | succ k =>
          have := h2 k o' (by simpa using hk) (fun e he hb => by have := hl e he hb; simp; omega)
          rw [Array.size_push, show acc.size + 1 + k = acc.size + (k + 1) by omega] at this
          exact this
  have := (key ops.toList #[]).2 i o (by simpa using ho) (fun e he hb => by simpa using hlow e he hb)
  simpa using this


theorem foldl_bits (f : Nat → Nat) : ∀ (es : List Edge) (s j : Nat), (es.foldl (fun s e => if Region.binds .any e then s ||| 2 ^ e.on ||| f e.on else s) s).testBit j = true →
    s.testBit j = true ∨ ∃ e ∈ es, Region.binds .any e = true ∧ (e.on = j ∨ (f e.on).testBit j = true)
  | [], s, j, h => .inl h
  | e :: es, s, j, h => by
    rw [List.foldl_cons] at h
    rcases foldl_bits f es _ j h with h1 | ⟨e', h1, h2, h3⟩
    · split at h1
      · rename_i hb
        rw [Nat.testBit_or, Nat.testBit_or, Bool.or_eq_true, Bool.or_eq_true] at h1
        rcases h1 with (h1 | h1) | h1
        · exact .inl h1
        · refine .inr ⟨e, by simp, hb, .inl ?_⟩
          rw [Nat.testBit_two_pow] at h1
          simpa using h1
        · exact .inr ⟨e, by simp, hb, .inr h1⟩
      · exact .inl h1
    · exact .inr ⟨e', by simp [h1], h2, h3⟩

def onL (listed : Array Bool) (i : Nat) : Bool := listed.getD i false

def Lower (ops : Array Oper) : Prop := ∀ i o, ops[i]? = some o → ∀ e ∈ o.after, Region.binds .any e = true → e.on < i

/-- listed with what goes ahead -/
def Closed (ops : Array Oper) (listed : Array Bool) : Prop := ∀ i o, ops[i]? = some o → onL listed i = true → ∀ e ∈ o.after, Region.binds .any e = true → onL listed e.on = true

/-- all that must have gone ahead of an operation is listed, if what its edges name is -/
theorem ahead_listed (hlow : Lower ops) {listed : Array Bool} (hc : Closed ops listed) : ∀ (i : Nat) (o : Oper), ops[i]? = some o → (∀ e ∈ o.after, Region.binds .any e = true → onL listed e.on = true) →
    ∀ j, ((Region.before ops).getD i 0).testBit j = true → onL listed j = true ∧ j < i := by
  intro i
  induction i using Nat.strongRecOn with
  | _ i ih =>
    intro o ho he j hj
    rw [before_get ops i o ho (hlow i o ho)] at hj
    rw [← Array.foldl_toList] at hj
    rcases foldl_bits (fun k => (Region.before ops).getD k 0) o.after.toList 0 j hj with h0 | ⟨e, h1, h2, h3⟩
    · simp at h0
    · have hlt := hlow i o ho e (by simpa using h1) h2
      have hon := he e (by simpa using h1) h2
      rcases h3 with rfl | h3
      · exact ⟨hon, hlt⟩
      · have hsz : e.on < ops.size := by
          have : i < ops.size := by
            rcases Nat.lt_or_ge i ops.size with h' | h'
            · exact h'
            · rw [Array.getElem?_eq_none h'] at ho; cases ho
          omega
        obtain ⟨g1, g2⟩ := ih e.on hlt ops[e.on] (Array.getElem?_eq_getElem hsz) (fun e' he' hb' => hc e.on ops[e.on] (Array.getElem?_eq_getElem hsz) hon e' he' hb') j h3
        exact ⟨g1, by omega⟩

theorem ready_spec {listed : Array Bool} (hsz : listed.size = ops.size) {i : Nat} (h : i ∈ Region.ready .any ops listed) : ∃ o, ops[i]? = some o ∧ onL listed i = false ∧ ∀ e ∈ o.after, Region.binds .any e = true → onL listed e.on = true := by
  unfold Region.ready at h
  simp only [List.mem_filter, List.mem_range, Bool.and_eq_true] at h
  obtain ⟨hi, h1, h2⟩ := h
  have ho : ops[i]? = some ops[i] := Array.getElem?_eq_getElem hi
  rw [ho] at h2
  simp only [Option.map_some, Option.getD_some] at h2
  refine ⟨ops[i], ho, ?_, fun e he hb => ?_⟩
  · simp only [onL]
    rw [Array.getD_eq_getD_getElem?, Array.getElem?_eq_getElem (by omega)] at h1 ⊢
    simpa using h1
  · rw [Array.all_eq_true_iff_forall_mem] at h2
    have := h2 e he
    rw [hb] at this
    simpa [onL] using this

theorem ready_of {listed : Array Bool} (hsz : listed.size = ops.size) {i : Nat} {o : Oper} (ho : ops[i]? = some o) (h1 : onL listed i = false) (h2 : ∀ e ∈ o.after, Region.binds .any e = true → onL listed e.on = true) : i ∈ Region.ready .any ops listed := by
  have hi : i < ops.size := by
    rcases Nat.lt_or_ge i ops.size with h' | h'
    · exact h'
    · rw [Array.getElem?_eq_none h'] at ho; cases ho
  unfold Region.ready
  simp only [List.mem_filter, List.mem_range, Bool.and_eq_true]
  refine ⟨hi, ?_, ?_⟩
  · simp only [onL] at h1
    rw [Array.getD_eq_getD_getElem?, Array.getElem?_eq_getElem (by omega)] at h1 ⊢
    simpa using h1
  · rw [ho]
    simp only [Option.map_some, Option.getD_some]
    rw [Array.all_eq_true_iff_forall_mem]
    intro e he
    by_cases hb : Region.binds .any e = true
    · have := h2 e he hb
      simp [onL] at this
      simp [hb, this]
    · simp [hb]

theorem ready_nil (hlow : Lower ops) {listed : Array Bool} (hsz : listed.size = ops.size) (h : Region.ready .any ops listed = []) : ∀ i, i < ops.size → onL listed i = true := by
  intro i
  induction i using Nat.strongRecOn with
  | _ i ih =>
    intro hi
    cases hon : onL listed i with
    | true => rfl
    | false =>
      have ho : ops[i]? = some ops[i] := Array.getElem?_eq_getElem hi
      have := ready_of hsz ho hon (fun e he hb => ih e.on (hlow i _ ho e he hb) (by have := hlow i _ ho e he hb; omega))
      rw [h] at this
      cases this

theorem onL_set {listed : Array Bool} {i : Nat} (hi : i < listed.size) (j : Nat) : onL (listed.setIfInBounds i true) j = (decide (j = i) || onL listed j) := by
  simp only [onL, Array.getD_eq_getD_getElem?]
  by_cases hj : j = i
  · subst hj; rw [Array.getElem?_setIfInBounds_self_of_lt hi]; simp
  · rw [Array.getElem?_setIfInBounds_ne (Ne.symm hj)]; simp [hj]

def cnt (listed : Array Bool) : Nat := listed.toList.countP (!·)

theorem cnt_set {listed : Array Bool} {i : Nat} (hi : i < listed.size) (h : onL listed i = false) : cnt listed = cnt (listed.setIfInBounds i true) + 1 := by
  unfold cnt
  rw [Array.toList_setIfInBounds]
  have key : ∀ (l : List Bool) (i : Nat), l[i]? = some false → l.countP (!·) = (l.set i true).countP (!·) + 1 := by
    intro l
    induction l with
    | nil => intro i h; simp at h
    | cons b r ih =>
      intro i h
      cases i with
      | zero => simp at h; subst h; simp
      | succ i =>
        have := ih i (by simpa using h)
        simp only [List.set_cons_succ, List.countP_cons]
        omega
  refine key _ i ?_
  simp only [onL, Array.getD_eq_getD_getElem?, Array.getElem?_eq_getElem hi, Option.getD_some] at h
  rw [Array.getElem?_toList, Array.getElem?_eq_getElem hi, h]

theorem cnt_all {listed : Array Bool} (h : ∀ i, i < listed.size → onL listed i = true) : cnt listed = 0 := by
  unfold cnt
  rw [List.countP_eq_zero]
  intro b hb
  obtain ⟨i, hi, e⟩ := List.mem_iff_getElem.1 hb
  have hi' : i < listed.size := by simpa using hi
  have := h i hi'
  simp only [onL, Array.getD_eq_getD_getElem?, Array.getElem?_eq_getElem hi', Option.getD_some] at this
  have e2 : listed[i] = b := by rw [← e]; simp
  rw [← e2, this]
  simp

/-- Where each that is left must wait for all before it, the order is the text's. -/
theorem tail_any {Q : Exit → Act → World → Prop} (hlow : Lower ops) : ∀ (l : List Oper) (k : Nat) (listed : Array Bool) (a : Act) (w : World), l = ops.toList.drop k → listed.size = ops.size → Closed ops listed → (∀ j, j < ops.size → (onL listed j = true ↔ j < k)) →
    (∀ i, k ≤ i → i < ops.size → ∀ j, j < i → ((Region.before ops).getD i 0).testBit j = true) → wpList P ops Q l a w → wpAny P .any ops Q l.length listed a w
  | [], k, listed, a, w, hl, hsz, hc, hon, hall, h => by
    have hk : ops.size ≤ k := by
      have : (ops.toList.drop k).length = 0 := by rw [← hl]; rfl
      simp at this; omega
    refine ⟨?_, h⟩
    cases hr : Region.ready .any ops listed with
    | nil => rfl
    | cons i r =>
      obtain ⟨o, ho, h1, _⟩ := ready_spec hsz (i := i) (by rw [hr]; simp)
      have hi : i < ops.size := by
        rcases Nat.lt_or_ge i ops.size with h' | h'
        · exact h'
        · rw [Array.getElem?_eq_none h'] at ho; cases ho
      rw [(hon i hi).2 (by omega)] at h1
      cases h1
  | o :: r, k, listed, a, w, hl, hsz, hc, hon, hall, h => by
    have hk : k < ops.size := by
      have : (ops.toList.drop k).length = r.length + 1 := by rw [← hl]; rfl
      simp at this; omega
    have hok : ops[k]? = some o := by
      have : (ops.toList.drop k)[0]? = some o := by rw [← hl]; rfl
      simpa using this
    have hr : r = ops.toList.drop (k + 1) := by
      have : (ops.toList.drop k).drop 1 = r := by rw [← hl]; rfl
      rw [← this, List.drop_drop]
    have hkr : k ∈ Region.ready .any ops listed := ready_of hsz hok (by
        cases hx : onL listed k with
        | false => rfl
        | true => have := (hon k hk).1 hx; omega) (fun e he hb => (hon e.on (by have := hlow k o hok e he hb; omega)).2 (hlow k o hok e he hb))
    refine ⟨fun h0 => (by rw [h0] at hkr; cases hkr), fun i hi => ?_⟩
    obtain ⟨oi, hoi, h1, h2⟩ := ready_spec hsz hi
    have hilt : i < ops.size := by
      rcases Nat.lt_or_ge i ops.size with h' | h'
      · exact h'
      · rw [Array.getElem?_eq_none h'] at hoi; cases hoi
    have hik : i = k := by
      rcases Nat.lt_trichotomy i k with h' | h' | h'
      · rw [(hon i hilt).2 h'] at h1; cases h1
      · exact h'
      · have := (ahead_listed hlow hc i oi hoi h2 k (hall i (by omega) hilt k h')).1
        have := (hon k hk).1 this
        omega
    subst hik
    have hstep : wpOp P ops Q i (wpList P ops Q r) a w := by
      unfold wpOp
      rw [hok]
      exact h
    refine wpOp_mono (fun a' w' h' => tail_any hlow r (i + 1) _ a' w' hr (by simpa using hsz) ?_ ?_ (fun i' hi' => hall i' (by omega)) h') hstep
    · intro j oj hoj hj e he hb
      rw [onL_set (by omega)] at hj ⊢
      rw [Bool.or_eq_true, decide_eq_true_iff] at hj ⊢
      right
      rcases hj with rfl | hj
      · rw [hoj] at hoi; cases hoi; exact h2 e he hb
      · exact hc j oj hoj hj e he hb
    · intro j hj
      rw [onL_set (by omega), Bool.or_eq_true, decide_eq_true_iff, hon j hj]
      omega
end
end Go.Lm
