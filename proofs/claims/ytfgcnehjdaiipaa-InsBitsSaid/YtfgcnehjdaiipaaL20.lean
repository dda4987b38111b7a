/- What simp knows of all this. -/
import Derived.Test.YtfgcnehjdaiipaaL19
namespace Go.Lm
attribute [simp] guardQ putEnv goCall lop lblt ev evs evp evo elook gnd gnd0 vcells isCell isBasic lload lstore lbuild lfill lstr lun lfieldAddr lindexAddr lindex lfield lpart lconv lmakeSlice
  optInt lbounds lslice lfirst llen lappend lcopy lfind lput ldel llookup lmapUpdate ldelete llenOf lmin lbuildSlice TQ.isAgg TQ.isSrc
  Mem.enter Mem.app Mem.puts get_loc get_loc0 put_loc put_loc0 top_mk params ptr0 wr setL Value.cells Mset_same senv smem sE sM okDst resV resL notTuple zeros
  okV okT okS okB bytesQ

/-! ### where simp stops: what stands behind a call, a loop, a draw is shut to it by a mark whose type tells of it -/
def Tg {α : Sort _} (_ : α) : Type := Unit
def TCd (P : Program) (g : FuncId) (vs : List Value) (m : Mem) (Q : Value → Mem → Prop) (_ : Tg Q) : Prop := TC P g vs m Q
def LoopD (P : Program) (N : Nat) (c : Code) (env : Env) (m : Mem) (Q : Ex → Env → Mem → Prop) (_ : Tg Q) (_ : Tg c) : Prop := LoopW (wpc P N c) env m Q
def DrawD (P : Program) (N : Nat) (ops : Array Oper) (env : Env) (m : Mem) (K : Env → Mem → Prop) (_ : Tg K) (_ : Tg ops) : Prop := DrawW P N ops env m K
def DrwD (P : Program) (N : Nat) (ops : Array Oper) (s : Nat) (b : Nat → Nat) (env : Env) (m : Mem) (K : List DRes → Prop) (l : List Oper) (i kid : Nat) (D : List DRes) (_ : Tg K) (_ : Tg ops) (_ : Tg l) (_ : Tg b) : Prop :=
  drw P N ops s b env m K l i kid D

section
variable (P : Program) (N : Nat) (ops : List Oper) (K : Env → Mem → Prop) (env : Env) (m : Mem) (Q : Ex → Env → Mem → Prop)
@[simp ↓] theorem wpo_nil : wpo P N ops K [] env m = K env m := rfl
/-- which variable an operation of the region writes -/
def dstOf : List Oper → Nat → Option Nat
  | [], _ => none
  | o :: _, 0 => o.dst
  | _ :: r, n + 1 => dstOf r n
@[simp ↓] theorem dstOf_0 (d : Option Nat) (op : Op) (ty : TypeId) (pos : String) (af : Array Edge) (g : Option (Nat × Bool)) (r : List Oper) : dstOf (⟨d, op, ty, pos, af, g⟩ :: r) 0 = d := rfl
@[simp ↓] theorem dstOf_s (o : Oper) (r : List Oper) (n : Nat) : dstOf (o :: r) (n + 1) = dstOf r n := rfl
theorem dstOf_eq : ∀ (l : List Oper) (j : Nat), dstOf l j = match l[j]? with | some o => o.dst | none => none
  | [], _ => rfl
  | _ :: _, 0 => rfl
  | _ :: r, n + 1 => by rw [dstOf, dstOf_eq r n]; rfl

/-- One operation that is not skipped. -/
def wpo1 (d : Option Nat) (op : Op) (r : List Oper) : Prop :=
  match goCall env op with
  | some (g, vs) => TCd P g vs m (fun v m' => match putEnv N env d v with
    | some env' => wpo P N ops K r env' m'
    | none => False) ()
  | none => match lop P env m.get m.top op with
    | some ⟨v, none, []⟩ => match putEnv N env d v with
      | some env' => wpo P N ops K r env' m
      | none => False
    | some ⟨v, nw, ms⟩ => match putEnv N env d v with
      | some env' => wpo P N ops K r env' (m.app m.top ⟨v, nw, ms⟩)
      | none => False
    | none => False
@[simp ↓] theorem wpo1_eq (d : Option Nat) (op : Op) (r : List Oper) : wpo1 P N ops K env m d op r =
  match goCall env op with
  | some (g, vs) => TCd P g vs m (fun v m' => match putEnv N env d v with
    | some env' => wpo P N ops K r env' m'
    | none => False) ()
  | none => match lop P env m.get m.top op with
    | some ⟨v, none, []⟩ => match putEnv N env d v with
      | some env' => wpo P N ops K r env' m
      | none => False
    | some ⟨v, nw, ms⟩ => match putEnv N env d v with
      | some env' => wpo P N ops K r env' (m.app m.top ⟨v, nw, ms⟩)
      | none => False
    | none => False := rfl

theorem wpo_run1 (d : Option Nat) (op : Op) (ty : TypeId) (pos : String) (af : Array Edge) (g : Option (Nat × Bool)) (r : List Oper) (hg : guardQ ops env ⟨d, op, ty, pos, af, g⟩ = some true) :
    wpo P N ops K (⟨d, op, ty, pos, af, g⟩ :: r) env m = wpo1 P N ops K env m d op r := by
  unfold wpo wpo1
  rw [hg]
  simp only
  cases goCall env op with
  | some x => rfl
  | none =>
    simp only
    cases lop P env m.get m.top op with
    | none => rfl
    | some e =>
      obtain ⟨v, nw, ms⟩ := e
      cases nw with
      | some _ => rfl
      | none => cases ms <;> rfl

@[simp ↓] theorem wpo_cons (d : Option Nat) (op : Op) (ty : TypeId) (pos : String) (af : Array Edge) (r : List Oper) :
    wpo P N ops K (⟨d, op, ty, pos, af, none⟩ :: r) env m = wpo1 P N ops K env m d op r := wpo_run1 P N ops K env m d op ty pos af none r rfl
@[simp ↓] theorem wpo_cons_g (d : Option Nat) (op : Op) (ty : TypeId) (pos : String) (af : Array Edge) (j : Nat) (want : Bool) (r : List Oper) :
    wpo P N ops K (⟨d, op, ty, pos, af, some (j, want)⟩ :: r) env m =
    match dstOf ops j with
    | some t => match elook env t with
      | some (.bool b) => if b = want then wpo1 P N ops K env m d op r else match putEnv N env d undef with
        | some env' => wpo P N ops K r env' m
        | none => False
      | some (.tuple _) => match putEnv N env d undef with
        | some env' => wpo P N ops K r env' m
        | none => False
      | _ => False
    | none => False := by
  rw [dstOf_eq]
  cases hj : ops[j]? with
  | none => simp only [wpo, guardQ, hj]
  | some oj =>
    cases hd : oj.dst with
    | none => simp only [wpo, guardQ, hj, hd]
    | some t =>
      cases he : elook env t with
      | none => simp only [wpo, guardQ, hj, hd, he]
      | some v =>
        cases v with
        | bool b =>
          simp only [hd, he]
          by_cases hb : b = want
          · rw [if_pos hb]
            exact wpo_run1 P N ops K env m d op ty pos af (some (j, want)) r (by simp only [guardQ, hj, hd, he, hb, beq_self_eq_true])
          · rw [if_neg hb]
            have : (b == want) = false := by simp [hb]
            simp only [wpo, guardQ, hj, hd, he, this]
            rfl
        | tuple _ => simp only [wpo, guardQ, hj, hd, he]; rfl
        | _ => simp only [wpo, guardQ, hj, hd, he]
@[simp ↓] theorem wpc_skip : wpc P N .skip env m Q = Q .normal env m := rfl
@[simp ↓] theorem wpc_seq_eq (a b : Code) : wpc P N (.seq a b) env m Q = wpc P N a env m (seqK (fun env' m' => wpc P N b env' m' Q) Q) := rfl
@[simp ↓] theorem wpc_cond (c : Operand) (a b : Code) : wpc P N (.cond c a b) env m Q = match ev env c with
    | some (.bool t) => if t = true then wpc P N a env m Q else wpc P N b env m Q
    | _ => False := rfl
@[simp ↓] theorem wpc_block (id : Nat) (a : Code) : wpc P N (.block id a) env m Q = wpc P N a env m (blockK id Q) := rfl
@[simp ↓] theorem wpc_loop (a : Code) : wpc P N (.loop a) env m Q = LoopD P N a env m Q () () := rfl
@[simp ↓] theorem wpc_region_eq (i : Nat) (l : List Oper) : wpc P N (.region i (List.toArray l) false) env m Q = wpo P N l (Q .normal) l env m := rfl
@[simp ↓] theorem wpc_draw (i : Nat) (o : Array Oper) : wpc P N (.region i o true) env m Q = DrawD P N o env m (Q .normal) () () := rfl
@[simp ↓] theorem wpc_exit (id : Nat) : wpc P N (.exit id) env m Q = Q (.exit id) env m := rfl
@[simp ↓] theorem wpc_ret : wpc P N .ret env m Q = Q .ret env m := rfl
@[simp ↓] theorem wpc_label (id : Nat) : wpc P N (.label id) env m Q = Q .normal env m := rfl
@[simp ↓] theorem seqK_normal : seqK K Q .normal env m = K env m := rfl
@[simp ↓] theorem seqK_exit (id : Nat) : seqK K Q (.exit id) env m = Q (.exit id) env m := rfl
@[simp ↓] theorem seqK_ret : seqK K Q .ret env m = Q .ret env m := rfl
@[simp ↓] theorem blockK_normal (id : Nat) : blockK id Q .normal env m = Q .normal env m := rfl
@[simp ↓] theorem blockK_exit (id id' : Nat) : blockK id Q (.exit id') env m = if id' = id then Q .normal env m else Q (.exit id') env m := rfl
@[simp ↓] theorem blockK_ret (id : Nat) : blockK id Q .ret env m = Q .ret env m := rfl
variable (oa : Array Oper) (s : Nat) (b : Nat → Nat) (KD : List DRes → Prop) (i kid : Nat) (D : List DRes)
@[simp ↓] theorem drw_nil : drw P N oa s b env m KD [] i kid D = KD D := rfl
@[simp ↓] theorem drw_cons (o : Oper) (r : List Oper) : drw P N oa s b env m KD (o :: r) i kid D =
    if s ≤ i then KD D else
    okDst N o = true ∧
    match guardQ oa.toList (senv (bit (b i)) 0 D env) o with
    | none => False
    | some false => drw P N oa s b env m KD r (i + 1) kid (D ++ [⟨o.dst, undef, none, 0⟩])
    | some true =>
      match goCall (senv (bit (b i)) 0 D env) o.op with
      | some (g, vs) =>
        (∃ v, PureC P g vs (smem (bit (b i)) 0 D m) v ∧ DrwD P N oa s b env m KD r (i + 1) kid (D ++ [⟨o.dst, v, none, 0⟩]) () () () ()) ∨
        (∃ v ob, NewC P g vs (smem (bit (b i)) 0 D m) kid v ob ∧ DrwD P N oa s b env m KD r (i + 1) (kid + 1) (D ++ [⟨o.dst, v, some ob, kid⟩]) () () () ())
      | none =>
        match lop P (senv (bit (b i)) 0 D env) (smem (bit (b i)) 0 D m).get kid o.op with
        | some e => e.mods = [] ∧ drw P N oa s b env m KD r (i + 1) (match e.new with | some _ => kid + 1 | none => kid) (D ++ [⟨o.dst, e.val, e.new, kid⟩])
        | none => False := rfl
theorem drwD_eq (l : List Oper) : DrwD P N oa s b env m KD l i kid D () () () () = drw P N oa s b env m KD l i kid D := rfl
end

/-- A loop: an invariant with a number that falls. -/
theorem loop_by {P : Program} {N : Nat} {c : Code} {env : Env} {m : Mem} {Q : Ex → Env → Mem → Prop} (I : Nat → Env → Mem → Prop) (n : Nat) (h0 : I n env m)
    (h : ∀ n env m, I n env m → wpc P N c env m (seqK (fun env' m' => ∃ n', n' < n ∧ I n' env' m') Q)) : LoopD P N c env m Q () () := ⟨I, ⟨n, h0⟩, h⟩

@[simp] theorem bit_eq (b i : Nat) : bit b i = decide (b / 2 ^ i % 2 = 1) := Nat.testBit_eq_decide_div_mod_eq

/-! whole numbers -/
theorem wI64 {x : Int} (h1 : -9223372036854775808 ≤ x) (h2 : x ≤ 9223372036854775807) : IntKind.i64.wrap x = x := by
  simp [IntKind.wrap, IntKind.bits, IntKind.signed]; omega
theorem wU32 {x : Int} (h1 : 0 ≤ x) (h2 : x ≤ 4294967295) : IntKind.u32.wrap x = x := by
  simp [IntKind.wrap, IntKind.bits, IntKind.signed]; omega
theorem wU64 {x : Int} (h1 : 0 ≤ x) (h2 : x ≤ 18446744073709551615) : IntKind.u64.wrap x = x := by
  simp [IntKind.wrap, IntKind.bits, IntKind.signed]; omega
theorem wU8 {x : Int} (h1 : 0 ≤ x) (h2 : x ≤ 255) : IntKind.u8.wrap x = x := by
  simp [IntKind.wrap, IntKind.bits, IntKind.signed]; omega

/-! numbers written out -/
section
variable (n : Nat)
theorem ofNat_cast : (OfNat.ofNat n : Int) = (n : Int) := rfl
@[simp] theorem wI64_lit (h : n ≤ 9223372036854775807) : IntKind.i64.wrap (no_index (OfNat.ofNat n : Int)) = (OfNat.ofNat n : Int) := by rw [ofNat_cast]; exact wI64 (by omega) (by omega)
@[simp] theorem wU64_lit (h : n ≤ 18446744073709551615) : IntKind.u64.wrap (no_index (OfNat.ofNat n : Int)) = (OfNat.ofNat n : Int) := by rw [ofNat_cast]; exact wU64 (by omega) (by omega)
@[simp] theorem wU32_lit (h : n ≤ 4294967295) : IntKind.u32.wrap (no_index (OfNat.ofNat n : Int)) = (OfNat.ofNat n : Int) := by rw [ofNat_cast]; exact wU32 (by omega) (by omega)
@[simp] theorem wU8_lit (h : n ≤ 255) : IntKind.u8.wrap (no_index (OfNat.ofNat n : Int)) = (OfNat.ofNat n : Int) := by rw [ofNat_cast]; exact wU8 (by omega) (by omega)
@[simp] theorem wI64_neg (h : n ≤ 9223372036854775808) : IntKind.i64.wrap (-(no_index (OfNat.ofNat n : Int))) = -(OfNat.ofNat n : Int) := by rw [ofNat_cast]; exact wI64 (by omega) (by omega)
end
@[simp] theorem w_0 (k : IntKind) : k.wrap 0 = 0 := by cases k <;> rfl
@[simp] theorem w_1 (k : IntKind) : k.wrap 1 = 1 := by cases k <;> rfl
@[simp] theorem wI64_m1 : IntKind.i64.wrap (-1) = -1 := by rfl
@[simp] theorem bits_i64 : IntKind.i64.bits = 64 := rfl
@[simp] theorem bits_u64 : IntKind.u64.bits = 64 := rfl
@[simp] theorem bits_u32 : IntKind.u32.bits = 32 := rfl
@[simp] theorem bits_i32 : IntKind.i32.bits = 32 := rfl
@[simp] theorem bits_u8 : IntKind.u8.bits = 8 := rfl

end Go.Lm
