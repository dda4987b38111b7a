/- What one operation does over local values and a local memory, as a plain function. -/
import Derived.Test.YtfgcnehjdaiipaaL1
namespace Go.Lm

/-- What is asked of a type. -/
inductive TQ where
  | bool
  | int (k : IntKind)
  | str
  | ptr (el : TypeId)
  | sl (el sz : Nat)
  | arr (len el sz : Nat)
  | struct (fs : List (Nat × Nat × Nat))
  | map (k e : TypeId)
  | func
  | other
  deriving DecidableEq

def sizeQ (P : Program) (t : TypeId) : Option Nat := (P.info? t).map (·.size)

def tyQ (P : Program) (t : TypeId) : TQ :=
  match P.underlying t with
  | some .bool => .bool
  | some (.int k) => .int k
  | some .string => .str
  | some (.pointer el) => .ptr el
  | some (.slice el) => match sizeQ P el with | some s => .sl el s | none => .other
  | some (.array n el) => match sizeQ P el with | some s => .arr n el s | none => .other
  | some (.struct fs) => if fs.toList.all (fun f => (sizeQ P f.type).isSome) then .struct (fs.toList.map fun f => (f.offset, f.type, (sizeQ P f.type).getD 0)) else .other
  | some (.map k e) => .map k e
  | some (.func _ _ _) => .func
  | _ => .other

def TQ.isAgg : TQ → Option Bool
  | .arr _ _ _ | .struct _ => some true
  | .other => none
  | _ => some false

def TQ.isSrc : TQ → Bool
  | .sl _ _ | .str => true
  | _ => false

/-- values without an address -/
def gnd0 : Value → Bool
  | .bool _ | .int _ _ | .string _ | .nilFunc | .nilIface | .pointer none | .slice none _ _ | .map none => true
  | _ => false

def gnd : Value → Bool
  | .agg c => c.all gnd0
  | v => gnd0 v

def zeroQ (P : Program) (t : TypeId) : Option Value :=
  match (P.info? t).bind (·.zero) with
  | some z => if gnd z then some z else none
  | none => none

abbrev Env := List (Nat × Value)

def elook : Env → Nat → Option Value
  | [], _ => none
  | (s, v) :: r, t => if s = t then some v else elook r t

def ev (env : Env) : Operand → Option Value
  | .tmp t => elook env t
  | .const v => if gnd v then some v else none
  | .global _ => none
  | .func f => some (.func (.func f) #[] #[])

def evs (env : Env) : List Operand → Option (List Value)
  | [] => some []
  | x :: r => match ev env x, evs env r with
    | some v, some vs => some (v :: vs)
    | _, _ => none

def evp (env : Env) : List (Nat × Operand) → Option (List (Nat × Value))
  | [] => some []
  | (i, x) :: r => match ev env x, evp env r with
    | some v, some vs => some ((i, v) :: vs)
    | _, _ => none

def evo (env : Env) : Option Operand → Option (Option Int)
  | none => some none
  | some x => match ev env x with
    | some (.int _ n) => some (some n)
    | _ => none

def isBasic : Value → Bool
  | .agg _ | .tuple _ | .func _ _ _ => false
  | _ => true

/-- What an operation has done: its value, a new object, objects that have turned. -/
structure Eff where
  val : Value
  new : Option Ob := none
  mods : List (Nat × Ob) := []

def ptr0 (k : Nat) : Value := .pointer (some ⟨k, 0, none⟩)

def vcells : Value → Option (Array Value)
  | .agg c => some c
  | .tuple _ => none
  | v => some #[v]

def setL : Array Value → Nat → List Value → Array Value
  | c, _, [] => c
  | c, i, v :: r => setL (c.setIfInBounds i v) (i + 1) r

/-- A write of some cells; of all of them at once. -/
def wr (c : Array Value) (off : Nat) (vs : Array Value) : Array Value :=
  if off = 0 ∧ vs.size = c.size then vs else setL c off vs.toList

def lload (P : Program) (M : Nat → Ob) (t : TypeId) (v : Value) : Option Value :=
  match v with
  | .pointer (some a) =>
    match M a.block with
    | .cells _ _ c =>
      match (tyQ P t).isAgg with
      | some true => match sizeQ P t with
        | some s => if a.off + s ≤ c.size then some (.agg (c.extract a.off (a.off + s))) else none
        | none => none
      | some false => c[a.off]?
      | none => none
    | _ => none
  | _ => none

def lstore (P : Program) (M : Nat → Ob) (t : TypeId) (addr v : Value) : Option Eff :=
  match addr with
  | .pointer (some a) =>
    match M a.block with
    | .cells false e c =>
      match vcells v, sizeQ P t with
      | some vs, some s => if vs.size = s ∧ a.off + s ≤ c.size then some { val := undef, mods := [(a.block, .cells false e (wr c a.off vs))] } else none
      | _, _ => none
    | _ => none
  | _ => none

def lfill (place : Nat → Option (Nat × Nat)) (cells : Array Value) : List (Nat × Value) → Option (Array Value)
  | [] => some cells
  | (i, v) :: rest =>
    match place i, vcells v with
    | some (off, size), some vs => if vs.size = size ∧ off + size ≤ cells.size then lfill place (setL cells off vs.toList) rest else none
    | _, _ => none

def lbuild (P : Program) (t : TypeId) (parts : List (Nat × Value)) : Option Value :=
  match zeroQ P t with
  | some z =>
    match tyQ P t with
    | .struct fs => (lfill (fun i => (fs[i]?).map fun f => (f.1, f.2.2)) z.cells parts).map .agg
    | .arr _ _ s => (lfill (fun i => some (i * s, s)) z.cells parts).map .agg
    | _ => none
  | none => none

/-- n times the cells of a zero -/
def zeros (z : Array Value) (n : Nat) : Array Value := (Array.range n).map (z[· % z.size]!)

def lbuildSlice (P : Program) (k : Nat) (t : TypeId) (len : Nat) (parts : List (Nat × Value)) : Option Eff :=
  match tyQ P t with
  | .sl el s =>
    match zeroQ P el with
    | some z => if 0 < s ∧ z.cells.size = s ∧ len * s ≤ 2 ^ 24 then
        match lfill (fun i => some (i * s, s)) (zeros z.cells (len * s)) parts with
        | some c => some { val := .slice (some ⟨k, 0, none⟩) len len, new := some (.cells false s c) }
        | none => none
      else none
    | none => none
  | _ => none

def lpart (P : Program) (t : TypeId) (c : Array Value) (off : Nat) : Option Value :=
  match (tyQ P t).isAgg with
  | some true => match sizeQ P t with
    | some s => some (.agg (c.extract off (off + s)))
    | none => none
  | some false => c[off]?
  | none => none

/-- the fields that count for equality: first cell, type -/
def eqFsQ (P : Program) (t : TypeId) : Option (List (Nat × Nat)) :=
  match P.underlying t with
  | some (.struct fs) => if P.stoodInHeld t then none else some ((fs.toList.filter fun f => f.name != "_").map fun f => (f.offset, f.type))
  | _ => none

/-- equality -/
def leq (P : Program) : Nat → TypeId → Value → Value → Option Bool
  | 0, _, _, _ => none
  | d + 1, t, x, y =>
    match tyQ P t, x, y with
    | .bool, .bool a, .bool b => some (a == b)
    | .int _, .int k a, .int k' b => if k = k' then some (a == b) else none
    | .str, .string a, .string b => some (a == b)
    | .struct _, .agg xs, .agg ys =>
      match eqFsQ P t with
      | some fs =>
        fs.foldr (fun f r =>
          match lpart P f.2 xs f.1, lpart P f.2 ys f.1 with
          | some a, some b => match leq P d f.2 a b, r with
            | some p, some q => some (p && q)
            | _, _ => none
          | _, _ => none) (some true)
      | none => none
    | .arr n el s, .agg xs, .agg ys =>
      (List.range n).foldr (fun i r =>
        match lpart P el xs (i * s), lpart P el ys (i * s) with
        | some a, some b => match leq P d el a b, r with
          | some p, some q => some (p && q)
          | _, _ => none
        | _, _ => none) (some true)
    | _, _, _ => none

def lint (op : BinOp) (k : IntKind) (x y : Int) : Option Value :=
  match op with
  | .add => some (.int k (k.wrap (x + y)))
  | .sub => some (.int k (k.wrap (x - y)))
  | .mul => some (.int k (k.wrap (x * y)))
  | .quo => if y = 0 then none else some (.int k (k.wrap (x.tdiv y)))
  | .rem => if y = 0 then none else some (.int k (x.tmod y))
  | .and => some (.int k (k.wrap (BitVec.ofInt k.bits x &&& BitVec.ofInt k.bits y).toNat))
  | .or => some (.int k (k.wrap (BitVec.ofInt k.bits x ||| BitVec.ofInt k.bits y).toNat))
  | .xor => some (.int k (k.wrap (BitVec.ofInt k.bits x ^^^ BitVec.ofInt k.bits y).toNat))
  | .andNot => some (.int k (k.wrap (BitVec.ofInt k.bits x &&& ~~~(BitVec.ofInt k.bits y)).toNat))
  | .eql => some (.bool (x == y))
  | .neq => some (.bool (x != y))
  | .lss => some (.bool (x < y))
  | .leq => some (.bool (x ≤ y))
  | .gtr => some (.bool (x > y))
  | .geq => some (.bool (x ≥ y))
  | _ => none

def lstr (op : BinOp) (x y : ByteArray) : Option Value :=
  match op with
  | .add => if ((x.size + y.size : Nat) : Int) > IntKind.i64.max then none else some (.string (x ++ y))
  | .eql => some (.bool (x.toList == y.toList))
  | .neq => some (.bool (!(x.toList == y.toList)))
  | .lss => some (.bool (Op.bytesLess x.toList y.toList))
  | .leq => some (.bool (Op.bytesLess x.toList y.toList || x.toList == y.toList))
  | .gtr => some (.bool (!(Op.bytesLess x.toList y.toList || x.toList == y.toList)))
  | .geq => some (.bool (!(Op.bytesLess x.toList y.toList)))
  | _ => none

def lbin (P : Program) (op : BinOp) (t : TypeId) (x y : Value) : Option Value :=
  match x, y with
  | .int k a, .int k' b =>
    match op with
    | .shl => if 0 ≤ b then some (.int k (k.wrap (a * 2 ^ (min b.toNat k.bits)))) else none
    | .shr => if 0 ≤ b then some (.int k (a.fdiv (2 ^ (min b.toNat k.bits)))) else none
    | _ => if k = k' then lint op k a b else none
  | .string a, .string b => lstr op a b
  | .bool a, .bool b =>
    match op, tyQ P t with
    | .eql, .bool => some (.bool (a == b))
    | .neq, .bool => some (.bool (!(a == b)))
    | _, _ => none
  | .pointer a, .pointer none =>
    match op, tyQ P t with
    | .eql, .ptr _ => some (.bool a.isNone)
    | .neq, .ptr _ => some (.bool (!a.isNone))
    | _, _ => none
  | .slice a _ _, .slice none _ _ =>
    match op, tyQ P t with
    | .eql, .sl _ _ => some (.bool a.isNone)
    | .neq, .sl _ _ => some (.bool (!a.isNone))
    | _, _ => none
  | .agg xs, .agg ys =>
    if P.eqGuardType P.depth t then none else
    match op with
    | .eql => (leq P 8 t (.agg xs) (.agg ys)).map .bool
    | .neq => (leq P 8 t (.agg xs) (.agg ys)).map fun b => .bool (!b)
    | _ => none
  | _, _ => none

def lun (op : UnOp) (x : Value) : Option Value :=
  match op, x with
  | .neg, .int k n => some (.int k (k.wrap (0 - n)))
  | .xor, .int k n => some (.int k (k.wrap (BitVec.ofInt k.bits (if k.signed then -1 else k.max) ^^^ BitVec.ofInt k.bits n).toNat))
  | .not, .bool b => some (.bool !b)
  | _, _ => none

def bytesQ : List Value → Option (List UInt8)
  | [] => some []
  | .int .u8 n :: r => (bytesQ r).map (UInt8.ofNat n.toNat :: ·)
  | _ => none

def byteCells (s : ByteArray) : Array Value := s.data.map fun b => .int .u8 b.toNat

def lconv (P : Program) (M : Nat → Ob) (k : Nat) (src dst : TypeId) (x : Value) : Option Eff :=
  match x with
  | .int _ n => match tyQ P src, tyQ P dst with
    | .int _, .int q => some { val := .int q (q.wrap n) }
    | _, _ => none
  | .string s => match tyQ P src, tyQ P dst with
    | .str, .str => some { val := .string s }
    | .str, .sl el sz => match tyQ P el with
      | .int .u8 => if s.size = 0 ∨ sz ≠ 1 then none else some { val := .slice (some ⟨k, 0, none⟩) s.size s.size, new := some (.cells false 1 (byteCells s)) }
      | _ => none
    | _, _ => none
  | .slice none _ _ => match tyQ P src, tyQ P dst with
    | .sl el _, .str => match tyQ P el with
      | .int .u8 => some { val := .string .empty }
      | _ => none
    | _, _ => none
  | .slice (some a) len _ => match tyQ P src, tyQ P dst with
    | .sl el _, .str => match tyQ P el with
      | .int .u8 => match M a.block with
        | .cells _ _ c => if a.off + len ≤ c.size then (bytesQ (c.extract a.off (a.off + len)).toList).map fun l => { val := .string ⟨l.toArray⟩ } else none
        | _ => none
      | _ => none
    | _, _ => none
  | _ => none

def lmakeSlice (P : Program) (k : Nat) (t : TypeId) (len cap : Value) : Option Eff :=
  match tyQ P t, len, cap with
  | .sl el s, .int _ l, .int _ c =>
    match zeroQ P el, (P.info? el).map (·.bytes) with
    | some z, some by_ => if 0 ≤ l ∧ l ≤ c ∧ c < 2 ^ 48 ∧ (by_ : Int) * c ≤ 2 ^ 47 ∧ 0 < s ∧ z.cells.size = s then
        some { val := .slice (some ⟨k, 0, none⟩) l.toNat c.toNat, new := some (.cells false s (zeros z.cells (c.toNat * s))) }
      else none
    | _, _ => none
  | _, _, _ => none

def optInt : Option Value → Option (Option Int)
  | none => some none
  | some (.int _ n) => some (some n)
  | _ => none

/-- the bounds of a slice expression: low, high, max -/
def lbounds (len cap : Nat) (low high mx : Option Int) : Option (Nat × Nat × Nat) :=
  match mx with
  | some m =>
    match high with
    | some h => if 0 ≤ m ∧ m ≤ cap ∧ 0 ≤ h ∧ h ≤ m ∧ 0 ≤ low.getD 0 ∧ low.getD 0 ≤ h then some ((low.getD 0).toNat, h.toNat, m.toNat) else none
    | none => none
  | none => if 0 ≤ high.getD len ∧ high.getD len ≤ cap ∧ 0 ≤ low.getD 0 ∧ low.getD 0 ≤ high.getD len then some ((low.getD 0).toNat, (high.getD len).toNat, cap) else none

def lslice (P : Program) (M : Nat → Ob) (t : TypeId) (x : Value) (low high mx : Option Int) : Option Value :=
  match tyQ P t, x with
  | .arr n _ s, .pointer (some a) =>
    match lbounds n n low high mx with
    | some (l, h, m) => some (.slice (some (if m = l then a else ⟨a.block, a.off + l * s, none⟩)) (h - l) (m - l))
    | none => none
  | .str, .string b =>
    match mx, lbounds b.size b.size low high none with
    | none, some (l, h, _) => some (.string (b.extract l h))
    | _, _ => none
  | .sl _ s, .slice (some a) len cap =>
    match lbounds len cap low high mx, M a.block with
    | some (l, h, m), .cells _ e _ => if mx = none ∧ (m = l ∨ (e ≠ s ∧ e ≠ 0)) ∧ l ≠ 0 then none else some (.slice (some (if m = l then a else ⟨a.block, a.off + l * s, none⟩)) (h - l) (m - l))
    | _, _ => none
  | .sl _ _, .slice none len cap =>
    match lbounds len cap low high mx with
    | some (l, h, m) => some (.slice none (h - l) (m - l))
    | none => none
  | _, _ => none

def lfieldAddr (P : Program) (t : TypeId) (x : Value) (f : Nat) : Option Value :=
  match tyQ P t, x with
  | .struct fs, .pointer (some a) =>
    match fs[f]? with
    | some (off, _, s) => if s = 0 then none else some (.pointer (some ⟨a.block, a.off + off, none⟩))
    | none => none
  | _, _ => none

def lindexAddr (P : Program) (t : TypeId) (x ix : Value) : Option Value :=
  match tyQ P t, x, ix with
  | .arr n _ s, .pointer (some a), .int _ i => if 0 ≤ i ∧ i < n then some (.pointer (some ⟨a.block, a.off + i.toNat * s, none⟩)) else none
  | .sl _ s, .slice (some a) n _, .int _ i => if 0 ≤ i ∧ i < n then some (.pointer (some ⟨a.block, a.off + i.toNat * s, none⟩)) else none
  | _, _, _ => none

def lindex (P : Program) (t : TypeId) (x ix : Value) : Option Value :=
  match tyQ P t, x, ix with
  | .arr n el s, .agg c, .int _ i => if 0 ≤ i ∧ i < n then lpart P el c (i.toNat * s) else none
  | .str, .string b, .int _ i => if 0 ≤ i then match b[i.toNat]? with
      | some u => some (.int .u8 u.toNat)
      | none => none
    else none
  | _, _, _ => none

def lfield (P : Program) (t : TypeId) (x : Value) (f : Nat) : Option Value :=
  match tyQ P t, x with
  | .struct fs, .agg c =>
    match fs[f]? with
    | some (off, ty, _) => lpart P ty c off
    | none => none
  | _, _ => none

/-- the cells of the first n elements of what is appended or copied -/
def lfirst (M : Nat → Ob) (s n : Nat) : Value → Option (Array Value)
  | .slice (some a) _ _ => match M a.block with
    | .cells _ _ c => if a.off + n * s ≤ c.size then some (c.extract a.off (a.off + n * s)) else none
    | _ => none
  | .slice none _ _ => if n = 0 then some #[] else none
  | .string b => if s = 1 ∧ n ≤ b.size then some ((b.extract 0 n).data.map fun u => .int .u8 u.toNat) else none
  | _ => none

def llen : Value → Option Nat
  | .slice _ n _ => some n
  | .string s => some s.size
  | _ => none

def lappend (P : Program) (M : Nat → Ob) (k : Nat) (ts : Array TypeId) (args : List Value) : Option Eff :=
  match ts[0]?, ts[1]?, args with
  | some t, some tx, [.slice base len cap, x] =>
    match tyQ P t, llen x with
    | .sl el s, some n =>
      if ¬ (tyQ P tx).isSrc then none else
      match zeroQ P el, (P.info? el).map (·.bytes), lfirst M s n x with
      | some z, some by_, some new =>
        if ¬ (0 < s ∧ z.cells.size = s ∧ 0 < by_ ∧ (len + n) * by_ ≤ 2 ^ 44 ∧ len ≤ cap) then none else
        match base with
        | none => if len = 0 ∧ cap = 0 then
            (if n = 0 then some { val := .slice none 0 0 }
             else some { val := .slice (some ⟨k, 0, none⟩) n n, new := some (.cells false s new) })
          else none
        | some a =>
          if n = 0 then some { val := .slice (some a) len cap } else
          match M a.block with
          | .cells ro e c =>
            if len + n ≤ cap then
              (if ro = false ∧ a.off + (len + n) * s ≤ c.size then
                some { val := .slice (some a) (len + n) cap, mods := [(a.block, .cells false e (setL c (a.off + len * s) new.toList))] }
               else none)
            else if cap = 0 then some { val := .slice (some ⟨k, 0, none⟩) n n, new := some (.cells false s new) }
            else if ro = false ∧ e = s ∧ a.off + len * s = c.size then
              some { val := .slice (some ⟨k, 0, none⟩) (len + n) (len + n), new := some (.cells false s (c.extract a.off c.size ++ new)), mods := [(a.block, .dead)] }
            else none
          | _ => none
      | _, _, _ => none
    | _, _ => none
  | _, _, _ => none

def lcopy (P : Program) (M : Nat → Ob) (ts : Array TypeId) (args : List Value) : Option Eff :=
  match ts[0]?, args with
  | some t, [.slice base len _, x] =>
    match tyQ P t, llen x with
    | .sl _ s, some n =>
      match lfirst M s (Nat.min n len) x with
      | some new =>
        match base with
        | none => some { val := .int .i64 (Nat.min n len) }
        | some a => match M a.block with
          | .cells ro e c => if ro = false ∧ a.off + (Nat.min n len) * s ≤ c.size then
              some { val := .int .i64 (Nat.min n len), mods := [(a.block, .cells false e (setL c a.off new.toList))] } else none
          | _ => none
      | none => none
    | _, _ => none
  | _, _ => none

/-! maps with whole numbers as keys -/

/-- none: the keys are of another kind -/
def lfind : List (Value × Value) → IntKind → Int → Option (Option Value)
  | [], _, _ => some none
  | (.int k' m, v) :: r, k, n => if k = k' then (if n = m then some (some v) else lfind r k n) else none
  | _, _, _ => none

def lput : List (Value × Value) → IntKind → Int → Value → List (Value × Value)
  | [], k, n, v => [(.int k n, v)]
  | (key, u) :: r, k, n, v => match key with
    | .int k' m => if k = k' ∧ n = m then (.int k n, v) :: r else (key, u) :: lput r k n v
    | _ => (key, u) :: lput r k n v

def ldel : List (Value × Value) → IntKind → Int → List (Value × Value)
  | [], _, _ => []
  | (key, u) :: r, k, n => match key with
    | .int k' m => if k = k' ∧ n = m then r else (key, u) :: ldel r k n
    | _ => (key, u) :: ldel r k n

def llookup (P : Program) (M : Nat → Ob) (t : TypeId) (x ix : Value) (ok : Bool) : Option Value :=
  match tyQ P t, ix with
  | .map kt et, .int k n =>
    match tyQ P kt, zeroQ P et with
    | .int _, some z =>
      let r := match x with
        | .map none => some none
        | .map (some i) => match M i with
          | .map es => lfind es k n
          | _ => none
        | _ => none
      match r with
      | some (some v) => some (if ok then .tuple #[v, .bool true] else v)
      | some none => if ok then (if gnd0 z then some (.tuple #[z, .bool false]) else none) else some z
      | none => none
    | _, _ => none
  | _, _ => none

def isCell : Value → Bool
  | .agg _ | .tuple _ => false
  | _ => true

def lmapUpdate (P : Program) (M : Nat → Ob) (t : TypeId) (x ix v : Value) : Option Eff :=
  match tyQ P t, x, ix with
  | .map kt _, .map (some i), .int k n =>
    match tyQ P kt, M i with
    | .int _, .map es => match lfind es k n with
      | some _ => if isCell v then some { val := undef, mods := [(i, .map (lput es k n v))] } else none
      | none => none
    | _, _ => none
  | _, _, _ => none

def ldelete (P : Program) (M : Nat → Ob) (ts : Array TypeId) (args : List Value) : Option Eff :=
  match ts[0]?, args with
  | some t, [.map (some i), .int k n] =>
    match tyQ P t with
    | .map kt _ => match tyQ P kt, M i with
      | .int _, .map es => match lfind es k n with
        | some _ => some { val := .tuple #[], mods := [(i, .map (ldel es k n))] }
        | none => none
      | _, _ => none
    | _ => none
  | _, _ => none

def llenOf (P : Program) (M : Nat → Ob) (t : TypeId) (x : Value) : Option Value :=
  match tyQ P t, x with
  | .str, .string s => some (.int .i64 s.size)
  | .arr n _ _, _ => some (.int .i64 n)
  | .sl _ _, .slice _ n _ => some (.int .i64 n)
  | .map _ _, .map none => some (.int .i64 0)
  | .map _ _, .map (some i) => match M i with
    | .map es => some (.int .i64 es.length)
    | _ => none
  | _, _ => none

def lmin (isMax : Bool) : Value → List Value → Option Value
  | .int k x, [] => some (.int k x)
  | .int k x, .int _ y :: r => lmin isMax (.int k (if isMax then (if y > x then y else x) else (if y < x then y else x))) r
  | _, _ => none

/-- A builtin. -/
def lblt (P : Program) (env : Env) (M : Nat → Ob) (k : Nat) (c : Call) : Option Eff :=
  match c.callee, evs env c.args.toList with
  | .builtin .append, some vs => lappend P M k c.argTypes vs
  | .builtin .copy, some vs => lcopy P M c.argTypes vs
  | .builtin .delete, some vs => ldelete P M c.argTypes vs
  | .builtin .len, some (x :: _) => match c.argTypes[0]? with
    | some t => match llenOf P M t x with | some v => some { val := v } | none => none
    | none => none
  | .builtin .min, some (x :: r) => match lmin false x r with | some v => some { val := v } | none => none
  | .builtin .max, some (x :: r) => match lmin true x r with | some v => some { val := v } | none => none
  | _, _ => none

/-- One operation that is no call of a Go function. -/
def lop (P : Program) (env : Env) (M : Nat → Ob) (k : Nat) : Op → Option Eff
  | .move x => match ev env x with | some v => some { val := v } | none => none
  | .assign x => match ev env x with | some v => some { val := v } | none => none
  | .pick c a b => match ev env c with
    | some (.bool t) => match ev env (if t then a else b) with | some v => some { val := v } | none => none
    | _ => none
  | .alloc t => match zeroQ P t with
    | some z => some { val := ptr0 k, new := some (.cells false 0 z.cells) }
    | none => none
  | .box _ x => match ev env x with
    | some v => match vcells v with
      | some c => some { val := ptr0 k, new := some (.cells false 0 c) }
      | none => none
    | none => none
  | .build t parts => match evp env parts.toList with
    | some ps => match lbuild P t ps with | some v => some { val := v } | none => none
    | none => none
  | .buildSlice t len parts => match evp env parts.toList with
    | some ps => lbuildSlice P k t len ps
    | none => none
  | .load t a => match ev env a with
    | some p => match lload P M t p with | some v => some { val := v } | none => none
    | none => none
  | .store t a x => match ev env a, ev env x with
    | some p, some v => lstore P M t p v
    | _, _ => none
  | .nilCheck x => match ev env x with
    | some (.pointer (some a)) => some { val := .pointer (some a) }
    | some (.func (.func g) fi ca) => some { val := .func (.func g) fi ca }
    | _ => none
  | .binOp op t x y _ => match ev env x, ev env y with
    | some a, some b => match lbin P op t a b with | some v => some { val := v } | none => none
    | _, _ => none
  | .unOp op _ x => match ev env x with
    | some a => match lun op a with | some v => some { val := v } | none => none
    | none => none
  | .convert src dst x => match ev env x with
    | some v => lconv P M k src dst v
    | none => none
  | .makeFunc fn first captured => match evs env first.toList, evs env captured.toList with
    | some a, some b => if a.all isBasic && b.all isBasic then some { val := .func fn a.toArray b.toArray } else none
    | _, _ => none
  | .makeMap _ none => some { val := .map (some k), new := some (.map []) }
  | .makeSlice t l c => match ev env l, ev env c with
    | some a, some b => lmakeSlice P k t a b
    | _, _ => none
  | .slice t x lo hi mx => match ev env x, evo env lo, evo env hi, evo env mx with
    | some v, some l, some h, some m => match lslice P M t v l h m with | some u => some { val := u } | none => none
    | _, _, _, _ => none
  | .fieldAddr t x f => match ev env x with
    | some v => match lfieldAddr P t v f with | some u => some { val := u } | none => none
    | none => none
  | .field t x f => match ev env x with
    | some v => match lfield P t v f with | some u => some { val := u } | none => none
    | none => none
  | .indexAddr t x i => match ev env x, ev env i with
    | some v, some j => match lindexAddr P t v j with | some u => some { val := u } | none => none
    | _, _ => none
  | .index t x i => match ev env x, ev env i with
    | some v, some j => match lindex P t v j with | some u => some { val := u } | none => none
    | _, _ => none
  | .lookup t x i ok => match ev env x, ev env i with
    | some v, some j => match llookup P M t v j ok with | some u => some { val := u } | none => none
    | _, _ => none
  | .mapUpdate t m i x => match ev env m, ev env i, ev env x with
    | some v, some j, some u => lmapUpdate P M t v j u
    | _, _, _ => none
  | .extract x i => match ev env x with
    | some (.tuple vs) => match vs[i]? with | some v => some { val := v } | none => none
    | _ => none
  | .call c => lblt P env M k c
  | _ => none

end Go.Lm
