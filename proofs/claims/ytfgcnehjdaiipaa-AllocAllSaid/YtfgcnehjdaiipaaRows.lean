/-
  No cell of these rows narrows 'for every input' (looked for: loops, veiled, ifaces, maps, wideKeys, modest, calm, conditions, laid).
  DERIVED. THE GIVEN ROWS OF THIS SEAT. 15 by the template 'for every input the law returns true; each argument reads behind the call as it read before'; 0 by the template 'total and deterministic' (their statements: YtfgcnehjdaiipaaTotals.lean).
  GIVEN WITH THE SEED: the statements are not yours to turn. If you find one false, say at which input.
  Laid BY PROGRAM, IN A SANDBOX (cutbox-rows.mjs): the forced cells as the released guide's own fill.sh prints them over the translation 929f1dbcd856a532… (all of the seat's roots in one cut). By AI agents, Wed Nov 11 2026. No macro, syntax, notation, axiom, sorry.
-/
import Derived.Test.YtfgcnehjdaiipaaChecked
import GoSem.Claim
import GoSem.ClaimJoined
import GoSem.ClaimMapViews
import Derived.JoinedTies
import Derived.KernelRfl
namespace Go.Proofs.Ytfgcnehjdaiipaa
/- THE CELL 'sum', in the pinned program and in every row, IS THE sha256 OF THE DUMP (.gsa) THAT YtfgcnehjdaiipaaProg.lean LOADS. Nothing in Lean hashes anything: it is a label: what it is worth is what the hold of that sum in a sandbox is worth. -/
noncomputable def Try.pinned : Pinned := { name := "ytfgcnehjdaiipaa", sum := "929f1dbcd856a5326b4dc83bdaf02cfd93349089d3dd40e41bc2fbc8254af7a6", checked := Try.checked }
namespace Rows
def none {H : Type} : Left H := { results := [], args := [] }

/-- 'calquelaw08.InsNone': WHATEVER THE INPUT: true; the input reads as it did. -/
def insNoneSpec : ChangeSpec := { name := "insNone", fn := fun _ => fun
  | [d] => { results := [.lit (.bool true)], args := [d] }
  | _ => none }
def insNoneRow : OpenClaim := { program := "ytfgcnehjdaiipaa", sum := "929f1dbcd856a5326b4dc83bdaf02cfd93349089d3dd40e41bc2fbc8254af7a6", func := "calque/calquelaw08.InsNone", spec := "insNone", unfollowed := true, recurses := true, apart := false }
def InsNoneSaid : Prop := insNoneRow.holds Try.pinned (OpenSpec.ofChange insNoneSpec)

/-- ITS FALSE NEIGHBOUR: 'it returns false'. Refute it at one input. -/
def insNoneWrong : ChangeSpec := { name := "insNone", fn := fun _ => fun
  | [d] => { results := [.lit (.bool false)], args := [d] }
  | _ => none }
def InsNoneWrongFalsely : Prop := insNoneRow.holds Try.pinned (OpenSpec.ofChange insNoneWrong)

/-- 'calquelaw08.InsKinds': WHATEVER THE INPUT: true; the input reads as it did. -/
def insKindsSpec : ChangeSpec := { name := "insKinds", fn := fun _ => fun
  | [] => { results := [.lit (.bool true)], args := [] }
  | _ => none }
def insKindsRow : OpenClaim := { program := "ytfgcnehjdaiipaa", sum := "929f1dbcd856a5326b4dc83bdaf02cfd93349089d3dd40e41bc2fbc8254af7a6", func := "calque/calquelaw08.InsKinds", spec := "insKinds", unfollowed := true, recurses := true, apart := false }
def InsKindsSaid : Prop := insKindsRow.holds Try.pinned (OpenSpec.ofChange insKindsSpec)

/-- ITS FALSE NEIGHBOUR: 'it returns false'. Refute it at one input. -/
def insKindsWrong : ChangeSpec := { name := "insKinds", fn := fun _ => fun
  | [] => { results := [.lit (.bool false)], args := [] }
  | _ => none }
def InsKindsWrongFalsely : Prop := insKindsRow.holds Try.pinned (OpenSpec.ofChange insKindsWrong)

/-- 'calquelaw08.InsBits': WHATEVER THE INPUT: true; the input reads as it did. -/
def insBitsSpec : ChangeSpec := { name := "insBits", fn := fun _ => fun
  | [d1, d2, d3, d4] => { results := [.lit (.bool true)], args := [d1, d2, d3, d4] }
  | _ => none }
def insBitsRow : OpenClaim := { program := "ytfgcnehjdaiipaa", sum := "929f1dbcd856a5326b4dc83bdaf02cfd93349089d3dd40e41bc2fbc8254af7a6", func := "calque/calquelaw08.InsBits", spec := "insBits", unfollowed := true, recurses := true, apart := false }
def InsBitsSaid : Prop := insBitsRow.holds Try.pinned (OpenSpec.ofChange insBitsSpec)

/-- ITS FALSE NEIGHBOUR: 'it returns false'. Refute it at one input. -/
def insBitsWrong : ChangeSpec := { name := "insBits", fn := fun _ => fun
  | [d1, d2, d3, d4] => { results := [.lit (.bool false)], args := [d1, d2, d3, d4] }
  | _ => none }
def InsBitsWrongFalsely : Prop := insBitsRow.holds Try.pinned (OpenSpec.ofChange insBitsWrong)

/-- 'calquelaw08.InsAll': WHATEVER THE INPUT: true; the input reads as it did. -/
def insAllSpec : ChangeSpec := { name := "insAll", fn := fun _ => fun
  | [d1, d2, d3] => { results := [.lit (.bool true)], args := [d1, d2, d3] }
  | _ => none }
def insAllRow : OpenClaim := { program := "ytfgcnehjdaiipaa", sum := "929f1dbcd856a5326b4dc83bdaf02cfd93349089d3dd40e41bc2fbc8254af7a6", func := "calque/calquelaw08.InsAll", spec := "insAll", unfollowed := true, recurses := true, apart := false }
def InsAllSaid : Prop := insAllRow.holds Try.pinned (OpenSpec.ofChange insAllSpec)

/-- ITS FALSE NEIGHBOUR: 'it returns false'. Refute it at one input. -/
def insAllWrong : ChangeSpec := { name := "insAll", fn := fun _ => fun
  | [d1, d2, d3] => { results := [.lit (.bool false)], args := [d1, d2, d3] }
  | _ => none }
def InsAllWrongFalsely : Prop := insAllRow.holds Try.pinned (OpenSpec.ofChange insAllWrong)

/-- 'calquelaw08.InsBack': WHATEVER THE INPUT: true; the input reads as it did. -/
def insBackSpec : ChangeSpec := { name := "insBack", fn := fun _ => fun
  | [d1, d2] => { results := [.lit (.bool true)], args := [d1, d2] }
  | _ => none }
def insBackRow : OpenClaim := { program := "ytfgcnehjdaiipaa", sum := "929f1dbcd856a5326b4dc83bdaf02cfd93349089d3dd40e41bc2fbc8254af7a6", func := "calque/calquelaw08.InsBack", spec := "insBack", unfollowed := true, recurses := true, apart := false }
def InsBackSaid : Prop := insBackRow.holds Try.pinned (OpenSpec.ofChange insBackSpec)

/-- ITS FALSE NEIGHBOUR: 'it returns false'. Refute it at one input. -/
def insBackWrong : ChangeSpec := { name := "insBack", fn := fun _ => fun
  | [d1, d2] => { results := [.lit (.bool false)], args := [d1, d2] }
  | _ => none }
def InsBackWrongFalsely : Prop := insBackRow.holds Try.pinned (OpenSpec.ofChange insBackWrong)

/-- 'calquelaw08.InsTable': WHATEVER THE INPUT: true; the input reads as it did. -/
def insTableSpec : ChangeSpec := { name := "insTable", fn := fun _ => fun
  | [] => { results := [.lit (.bool true)], args := [] }
  | _ => none }
def insTableRow : OpenClaim := { program := "ytfgcnehjdaiipaa", sum := "929f1dbcd856a5326b4dc83bdaf02cfd93349089d3dd40e41bc2fbc8254af7a6", func := "calque/calquelaw08.InsTable", spec := "insTable", unfollowed := true, recurses := true, apart := false }
def InsTableSaid : Prop := insTableRow.holds Try.pinned (OpenSpec.ofChange insTableSpec)

/-- ITS FALSE NEIGHBOUR: 'it returns false'. Refute it at one input. -/
def insTableWrong : ChangeSpec := { name := "insTable", fn := fun _ => fun
  | [] => { results := [.lit (.bool false)], args := [] }
  | _ => none }
def InsTableWrongFalsely : Prop := insTableRow.holds Try.pinned (OpenSpec.ofChange insTableWrong)

/-- 'calquelaw16.TableWords': WHATEVER THE INPUT: true; the input reads as it did. -/
def tableWordsSpec : ChangeSpec := { name := "tableWords", fn := fun _ => fun
  | [d1, d2] => { results := [.lit (.bool true)], args := [d1, d2] }
  | _ => none }
def tableWordsRow : OpenClaim := { program := "ytfgcnehjdaiipaa", sum := "929f1dbcd856a5326b4dc83bdaf02cfd93349089d3dd40e41bc2fbc8254af7a6", func := "calque/calquelaw16.TableWords", spec := "tableWords", unfollowed := true, recurses := true, apart := false }
def TableWordsSaid : Prop := tableWordsRow.holds Try.pinned (OpenSpec.ofChange tableWordsSpec)

/-- ITS FALSE NEIGHBOUR: 'it returns false'. Refute it at one input. -/
def tableWordsWrong : ChangeSpec := { name := "tableWords", fn := fun _ => fun
  | [d1, d2] => { results := [.lit (.bool false)], args := [d1, d2] }
  | _ => none }
def TableWordsWrongFalsely : Prop := tableWordsRow.holds Try.pinned (OpenSpec.ofChange tableWordsWrong)

/-- 'calquelaw16.TableBroken': WHATEVER THE INPUT: true; the input reads as it did. -/
def tableBrokenSpec : ChangeSpec := { name := "tableBroken", fn := fun _ => fun
  | [d1, d2] => { results := [.lit (.bool true)], args := [d1, d2] }
  | _ => none }
def tableBrokenRow : OpenClaim := { program := "ytfgcnehjdaiipaa", sum := "929f1dbcd856a5326b4dc83bdaf02cfd93349089d3dd40e41bc2fbc8254af7a6", func := "calque/calquelaw16.TableBroken", spec := "tableBroken", unfollowed := true, recurses := true, apart := false }
def TableBrokenSaid : Prop := tableBrokenRow.holds Try.pinned (OpenSpec.ofChange tableBrokenSpec)

/-- ITS FALSE NEIGHBOUR: 'it returns false'. Refute it at one input. -/
def tableBrokenWrong : ChangeSpec := { name := "tableBroken", fn := fun _ => fun
  | [d1, d2] => { results := [.lit (.bool false)], args := [d1, d2] }
  | _ => none }
def TableBrokenWrongFalsely : Prop := tableBrokenRow.holds Try.pinned (OpenSpec.ofChange tableBrokenWrong)

/-- 'calquelaw16.TableAll': WHATEVER THE INPUT: true; the input reads as it did. -/
def tableAllSpec : ChangeSpec := { name := "tableAll", fn := fun _ => fun
  | [d1, d2, d3] => { results := [.lit (.bool true)], args := [d1, d2, d3] }
  | _ => none }
def tableAllRow : OpenClaim := { program := "ytfgcnehjdaiipaa", sum := "929f1dbcd856a5326b4dc83bdaf02cfd93349089d3dd40e41bc2fbc8254af7a6", func := "calque/calquelaw16.TableAll", spec := "tableAll", inPlace := ["sync/atomic.LoadInt64", "sync/atomic.AddInt64"], unfollowed := true, recurses := true, apart := false }
def TableAllSaid : Prop := tableAllRow.holds Try.pinned (OpenSpec.ofChange tableAllSpec)

/-- ITS FALSE NEIGHBOUR: 'it returns false'. Refute it at one input. -/
def tableAllWrong : ChangeSpec := { name := "tableAll", fn := fun _ => fun
  | [d1, d2, d3] => { results := [.lit (.bool false)], args := [d1, d2, d3] }
  | _ => none }
def TableAllWrongFalsely : Prop := tableAllRow.holds Try.pinned (OpenSpec.ofChange tableAllWrong)

/-- 'calquelaw16.TableFinds': WHATEVER THE INPUT: true; the input reads as it did. -/
def tableFindsSpec : ChangeSpec := { name := "tableFinds", fn := fun _ => fun
  | [d1, d2, d3, d4] => { results := [.lit (.bool true)], args := [d1, d2, d3, d4] }
  | _ => none }
def tableFindsRow : OpenClaim := { program := "ytfgcnehjdaiipaa", sum := "929f1dbcd856a5326b4dc83bdaf02cfd93349089d3dd40e41bc2fbc8254af7a6", func := "calque/calquelaw16.TableFinds", spec := "tableFinds", inPlace := ["sync/atomic.LoadInt64", "sync/atomic.AddInt64"], unfollowed := true, recurses := true, apart := false }
def TableFindsSaid : Prop := tableFindsRow.holds Try.pinned (OpenSpec.ofChange tableFindsSpec)

/-- ITS FALSE NEIGHBOUR: 'it returns false'. Refute it at one input. -/
def tableFindsWrong : ChangeSpec := { name := "tableFinds", fn := fun _ => fun
  | [d1, d2, d3, d4] => { results := [.lit (.bool false)], args := [d1, d2, d3, d4] }
  | _ => none }
def TableFindsWrongFalsely : Prop := tableFindsRow.holds Try.pinned (OpenSpec.ofChange tableFindsWrong)

/-- 'calquelaw23.AllocAll': WHATEVER THE INPUT: true; the input reads as it did. -/
def allocAllSpec : ChangeSpec := { name := "allocAll", fn := fun _ => fun
  | [d1, d2, d3] => { results := [.lit (.bool true)], args := [d1, d2, d3] }
  | _ => none }
def allocAllRow : OpenClaim := { program := "ytfgcnehjdaiipaa", sum := "929f1dbcd856a5326b4dc83bdaf02cfd93349089d3dd40e41bc2fbc8254af7a6", func := "calque/calquelaw23.AllocAll", spec := "allocAll", unfollowed := true, recurses := true, apart := false }
def AllocAllSaid : Prop := allocAllRow.holds Try.pinned (OpenSpec.ofChange allocAllSpec)

/-- ITS FALSE NEIGHBOUR: 'it returns false'. Refute it at one input. -/
def allocAllWrong : ChangeSpec := { name := "allocAll", fn := fun _ => fun
  | [d1, d2, d3] => { results := [.lit (.bool false)], args := [d1, d2, d3] }
  | _ => none }
def AllocAllWrongFalsely : Prop := allocAllRow.holds Try.pinned (OpenSpec.ofChange allocAllWrong)

/-- 'calquelaw23.AllocSpans': WHATEVER THE INPUT: true; the input reads as it did. -/
def allocSpansSpec : ChangeSpec := { name := "allocSpans", fn := fun _ => fun
  | [d1, d2] => { results := [.lit (.bool true)], args := [d1, d2] }
  | _ => none }
def allocSpansRow : OpenClaim := { program := "ytfgcnehjdaiipaa", sum := "929f1dbcd856a5326b4dc83bdaf02cfd93349089d3dd40e41bc2fbc8254af7a6", func := "calque/calquelaw23.AllocSpans", spec := "allocSpans", unfollowed := true, recurses := true, apart := false }
def AllocSpansSaid : Prop := allocSpansRow.holds Try.pinned (OpenSpec.ofChange allocSpansSpec)

/-- ITS FALSE NEIGHBOUR: 'it returns false'. Refute it at one input. -/
def allocSpansWrong : ChangeSpec := { name := "allocSpans", fn := fun _ => fun
  | [d1, d2] => { results := [.lit (.bool false)], args := [d1, d2] }
  | _ => none }
def AllocSpansWrongFalsely : Prop := allocSpansRow.holds Try.pinned (OpenSpec.ofChange allocSpansWrong)

/-- 'calquelaw24.EmitAll': WHATEVER THE INPUT: true; the input reads as it did. -/
def emitAllSpec : ChangeSpec := { name := "emitAll", fn := fun _ => fun
  | [d] => { results := [.lit (.bool true)], args := [d] }
  | _ => none }
def emitAllRow : OpenClaim := { program := "ytfgcnehjdaiipaa", sum := "929f1dbcd856a5326b4dc83bdaf02cfd93349089d3dd40e41bc2fbc8254af7a6", func := "calque/calquelaw24.EmitAll", spec := "emitAll", inPlace := ["sync/atomic.AddInt64"], unfollowed := true, recurses := true, apart := false }
def EmitAllSaid : Prop := emitAllRow.holds Try.pinned (OpenSpec.ofChange emitAllSpec)

/-- ITS FALSE NEIGHBOUR: 'it returns false'. Refute it at one input. -/
def emitAllWrong : ChangeSpec := { name := "emitAll", fn := fun _ => fun
  | [d] => { results := [.lit (.bool false)], args := [d] }
  | _ => none }
def EmitAllWrongFalsely : Prop := emitAllRow.holds Try.pinned (OpenSpec.ofChange emitAllWrong)

/-- 'calquelaw24.EmitSizes': WHATEVER THE INPUT: true; the input reads as it did. -/
def emitSizesSpec : ChangeSpec := { name := "emitSizes", fn := fun _ => fun
  | [d1, d2] => { results := [.lit (.bool true)], args := [d1, d2] }
  | _ => none }
def emitSizesRow : OpenClaim := { program := "ytfgcnehjdaiipaa", sum := "929f1dbcd856a5326b4dc83bdaf02cfd93349089d3dd40e41bc2fbc8254af7a6", func := "calque/calquelaw24.EmitSizes", spec := "emitSizes", inPlace := ["sync/atomic.AddInt64"], unfollowed := true, recurses := true, apart := false }
def EmitSizesSaid : Prop := emitSizesRow.holds Try.pinned (OpenSpec.ofChange emitSizesSpec)

/-- ITS FALSE NEIGHBOUR: 'it returns false'. Refute it at one input. -/
def emitSizesWrong : ChangeSpec := { name := "emitSizes", fn := fun _ => fun
  | [d1, d2] => { results := [.lit (.bool false)], args := [d1, d2] }
  | _ => none }
def EmitSizesWrongFalsely : Prop := emitSizesRow.holds Try.pinned (OpenSpec.ofChange emitSizesWrong)

/-- 'calquelaw24.EmitRight': WHATEVER THE INPUT: true; the input reads as it did. -/
def emitRightSpec : ChangeSpec := { name := "emitRight", fn := fun _ => fun
  | [d] => { results := [.lit (.bool true)], args := [d] }
  | _ => none }
def emitRightRow : OpenClaim := { program := "ytfgcnehjdaiipaa", sum := "929f1dbcd856a5326b4dc83bdaf02cfd93349089d3dd40e41bc2fbc8254af7a6", func := "calque/calquelaw24.EmitRight", spec := "emitRight", inPlace := ["sync/atomic.AddInt64"], unfollowed := true, recurses := true, apart := false }
def EmitRightSaid : Prop := emitRightRow.holds Try.pinned (OpenSpec.ofChange emitRightSpec)

/-- ITS FALSE NEIGHBOUR: 'it returns false'. Refute it at one input. -/
def emitRightWrong : ChangeSpec := { name := "emitRight", fn := fun _ => fun
  | [d] => { results := [.lit (.bool false)], args := [d] }
  | _ => none }
def EmitRightWrongFalsely : Prop := emitRightRow.holds Try.pinned (OpenSpec.ofChange emitRightWrong)

/- THE SECOND FORM. 'bulk': how many values and letters a reading holds, each counted each time it is reached (what is shared counts as often as it is met; a slice's spare places count too). A statement '..UptoSaid' is the law's where the arguments, and the package variables that the reading takes, are together of bulk at most 1048576: NARROWER than '..Said'. Prove '..Said' where nothing that the law and all that it calls make is longer than what came in: it says more and counts as full. Else prove '..UptoSaid'. A law counts once. -/
mutual
def uptoBulk {H : Type} : DataW H → Nat
  | .lit (.string bytes) => bytes.length + 1
  | .lit _ => 1
  | .nil => 1
  | .ptr d => uptoBulk d + 1
  | .slice elems spare => uptoBulkAll elems + uptoBulkAll spare + 1
  | .agg parts => uptoBulkAll parts + 1
  | .iface _ d => uptoBulk d + 1
  | .map entries => uptoBulkEntries entries + 1
  | .held _ => 1
def uptoBulkAll {H : Type} : List (DataW H) → Nat
  | [] => 0
  | d :: r => uptoBulk d + uptoBulkAll r
def uptoBulkEntries {H : Type} : List (Lit × DataW H) → Nat
  | [] => 0
  | x :: r => uptoBulkEntry x + uptoBulkEntries r
def uptoBulkEntry {H : Type} : Lit × DataW H → Nat
  | (.string bytes, d) => bytes.length + uptoBulk d + 1
  | (_, d) => uptoBulk d + 1
 end
def uptoSmall : (H : Type) → List (DataW H) → Bool := fun _ ds => decide (uptoBulkAll ds ≤ 1048576)
def OpenSpec.upto (s : _root_.Go.ChangeSpec) : _root_.Go.OpenSpec := { _root_.Go.OpenSpec.ofChange s with cond := some uptoSmall }

/-- 'calquelaw08.InsNone', WHERE WHAT IT READS IS OF BULK AT MOST 1048576: true; the input reads as it did. -/
def insNoneUptoRow : OpenClaim := { program := "ytfgcnehjdaiipaa", sum := "929f1dbcd856a5326b4dc83bdaf02cfd93349089d3dd40e41bc2fbc8254af7a6", func := "calque/calquelaw08.InsNone", spec := "insNone", unfollowed := true, recurses := true, apart := false, narrowed := true }
def InsNoneUptoSaid : Prop := insNoneUptoRow.holds Try.pinned (OpenSpec.upto insNoneSpec)

/-- 'calquelaw08.InsKinds', WHERE WHAT IT READS IS OF BULK AT MOST 1048576: true; the input reads as it did. -/
def insKindsUptoRow : OpenClaim := { program := "ytfgcnehjdaiipaa", sum := "929f1dbcd856a5326b4dc83bdaf02cfd93349089d3dd40e41bc2fbc8254af7a6", func := "calque/calquelaw08.InsKinds", spec := "insKinds", unfollowed := true, recurses := true, apart := false, narrowed := true }
def InsKindsUptoSaid : Prop := insKindsUptoRow.holds Try.pinned (OpenSpec.upto insKindsSpec)

/-- 'calquelaw08.InsBits', WHERE WHAT IT READS IS OF BULK AT MOST 1048576: true; the input reads as it did. -/
def insBitsUptoRow : OpenClaim := { program := "ytfgcnehjdaiipaa", sum := "929f1dbcd856a5326b4dc83bdaf02cfd93349089d3dd40e41bc2fbc8254af7a6", func := "calque/calquelaw08.InsBits", spec := "insBits", unfollowed := true, recurses := true, apart := false, narrowed := true }
def InsBitsUptoSaid : Prop := insBitsUptoRow.holds Try.pinned (OpenSpec.upto insBitsSpec)

/-- 'calquelaw08.InsAll', WHERE WHAT IT READS IS OF BULK AT MOST 1048576: true; the input reads as it did. -/
def insAllUptoRow : OpenClaim := { program := "ytfgcnehjdaiipaa", sum := "929f1dbcd856a5326b4dc83bdaf02cfd93349089d3dd40e41bc2fbc8254af7a6", func := "calque/calquelaw08.InsAll", spec := "insAll", unfollowed := true, recurses := true, apart := false, narrowed := true }
def InsAllUptoSaid : Prop := insAllUptoRow.holds Try.pinned (OpenSpec.upto insAllSpec)

/-- 'calquelaw08.InsBack', WHERE WHAT IT READS IS OF BULK AT MOST 1048576: true; the input reads as it did. -/
def insBackUptoRow : OpenClaim := { program := "ytfgcnehjdaiipaa", sum := "929f1dbcd856a5326b4dc83bdaf02cfd93349089d3dd40e41bc2fbc8254af7a6", func := "calque/calquelaw08.InsBack", spec := "insBack", unfollowed := true, recurses := true, apart := false, narrowed := true }
def InsBackUptoSaid : Prop := insBackUptoRow.holds Try.pinned (OpenSpec.upto insBackSpec)

/-- 'calquelaw08.InsTable', WHERE WHAT IT READS IS OF BULK AT MOST 1048576: true; the input reads as it did. -/
def insTableUptoRow : OpenClaim := { program := "ytfgcnehjdaiipaa", sum := "929f1dbcd856a5326b4dc83bdaf02cfd93349089d3dd40e41bc2fbc8254af7a6", func := "calque/calquelaw08.InsTable", spec := "insTable", unfollowed := true, recurses := true, apart := false, narrowed := true }
def InsTableUptoSaid : Prop := insTableUptoRow.holds Try.pinned (OpenSpec.upto insTableSpec)

/-- 'calquelaw16.TableWords', WHERE WHAT IT READS IS OF BULK AT MOST 1048576: true; the input reads as it did. -/
def tableWordsUptoRow : OpenClaim := { program := "ytfgcnehjdaiipaa", sum := "929f1dbcd856a5326b4dc83bdaf02cfd93349089d3dd40e41bc2fbc8254af7a6", func := "calque/calquelaw16.TableWords", spec := "tableWords", unfollowed := true, recurses := true, apart := false, narrowed := true }
def TableWordsUptoSaid : Prop := tableWordsUptoRow.holds Try.pinned (OpenSpec.upto tableWordsSpec)

/-- 'calquelaw16.TableBroken', WHERE WHAT IT READS IS OF BULK AT MOST 1048576: true; the input reads as it did. -/
def tableBrokenUptoRow : OpenClaim := { program := "ytfgcnehjdaiipaa", sum := "929f1dbcd856a5326b4dc83bdaf02cfd93349089d3dd40e41bc2fbc8254af7a6", func := "calque/calquelaw16.TableBroken", spec := "tableBroken", unfollowed := true, recurses := true, apart := false, narrowed := true }
def TableBrokenUptoSaid : Prop := tableBrokenUptoRow.holds Try.pinned (OpenSpec.upto tableBrokenSpec)

/-- 'calquelaw16.TableAll', WHERE WHAT IT READS IS OF BULK AT MOST 1048576: true; the input reads as it did. -/
def tableAllUptoRow : OpenClaim := { program := "ytfgcnehjdaiipaa", sum := "929f1dbcd856a5326b4dc83bdaf02cfd93349089d3dd40e41bc2fbc8254af7a6", func := "calque/calquelaw16.TableAll", spec := "tableAll", inPlace := ["sync/atomic.LoadInt64", "sync/atomic.AddInt64"], unfollowed := true, recurses := true, apart := false, narrowed := true }
def TableAllUptoSaid : Prop := tableAllUptoRow.holds Try.pinned (OpenSpec.upto tableAllSpec)

/-- 'calquelaw16.TableFinds', WHERE WHAT IT READS IS OF BULK AT MOST 1048576: true; the input reads as it did. -/
def tableFindsUptoRow : OpenClaim := { program := "ytfgcnehjdaiipaa", sum := "929f1dbcd856a5326b4dc83bdaf02cfd93349089d3dd40e41bc2fbc8254af7a6", func := "calque/calquelaw16.TableFinds", spec := "tableFinds", inPlace := ["sync/atomic.LoadInt64", "sync/atomic.AddInt64"], unfollowed := true, recurses := true, apart := false, narrowed := true }
def TableFindsUptoSaid : Prop := tableFindsUptoRow.holds Try.pinned (OpenSpec.upto tableFindsSpec)

/-- 'calquelaw23.AllocAll', WHERE WHAT IT READS IS OF BULK AT MOST 1048576: true; the input reads as it did. -/
def allocAllUptoRow : OpenClaim := { program := "ytfgcnehjdaiipaa", sum := "929f1dbcd856a5326b4dc83bdaf02cfd93349089d3dd40e41bc2fbc8254af7a6", func := "calque/calquelaw23.AllocAll", spec := "allocAll", unfollowed := true, recurses := true, apart := false, narrowed := true }
def AllocAllUptoSaid : Prop := allocAllUptoRow.holds Try.pinned (OpenSpec.upto allocAllSpec)

/-- 'calquelaw23.AllocSpans', WHERE WHAT IT READS IS OF BULK AT MOST 1048576: true; the input reads as it did. -/
def allocSpansUptoRow : OpenClaim := { program := "ytfgcnehjdaiipaa", sum := "929f1dbcd856a5326b4dc83bdaf02cfd93349089d3dd40e41bc2fbc8254af7a6", func := "calque/calquelaw23.AllocSpans", spec := "allocSpans", unfollowed := true, recurses := true, apart := false, narrowed := true }
def AllocSpansUptoSaid : Prop := allocSpansUptoRow.holds Try.pinned (OpenSpec.upto allocSpansSpec)

/-- 'calquelaw24.EmitAll', WHERE WHAT IT READS IS OF BULK AT MOST 1048576: true; the input reads as it did. -/
def emitAllUptoRow : OpenClaim := { program := "ytfgcnehjdaiipaa", sum := "929f1dbcd856a5326b4dc83bdaf02cfd93349089d3dd40e41bc2fbc8254af7a6", func := "calque/calquelaw24.EmitAll", spec := "emitAll", inPlace := ["sync/atomic.AddInt64"], unfollowed := true, recurses := true, apart := false, narrowed := true }
def EmitAllUptoSaid : Prop := emitAllUptoRow.holds Try.pinned (OpenSpec.upto emitAllSpec)

/-- 'calquelaw24.EmitSizes', WHERE WHAT IT READS IS OF BULK AT MOST 1048576: true; the input reads as it did. -/
def emitSizesUptoRow : OpenClaim := { program := "ytfgcnehjdaiipaa", sum := "929f1dbcd856a5326b4dc83bdaf02cfd93349089d3dd40e41bc2fbc8254af7a6", func := "calque/calquelaw24.EmitSizes", spec := "emitSizes", inPlace := ["sync/atomic.AddInt64"], unfollowed := true, recurses := true, apart := false, narrowed := true }
def EmitSizesUptoSaid : Prop := emitSizesUptoRow.holds Try.pinned (OpenSpec.upto emitSizesSpec)

/-- 'calquelaw24.EmitRight', WHERE WHAT IT READS IS OF BULK AT MOST 1048576: true; the input reads as it did. -/
def emitRightUptoRow : OpenClaim := { program := "ytfgcnehjdaiipaa", sum := "929f1dbcd856a5326b4dc83bdaf02cfd93349089d3dd40e41bc2fbc8254af7a6", func := "calque/calquelaw24.EmitRight", spec := "emitRight", inPlace := ["sync/atomic.AddInt64"], unfollowed := true, recurses := true, apart := false, narrowed := true }
def EmitRightUptoSaid : Prop := emitRightUptoRow.holds Try.pinned (OpenSpec.upto emitRightSpec)

end Rows
end Go.Proofs.Ytfgcnehjdaiipaa
