/-
  NARROWER THAN 'FOR EVERY INPUT', by the rows' own cells (each row's printed sentence says how): FnExactTermOk: loops · FnExactCountIn: loops · FnExactSameStmts: loops · FnExactReadsOf: loops · FnExactNamesIn: loops · FnExactProcAt: loops · FnExactWorked: loops.
  DERIVED. THE GIVEN ROWS OF THIS SEAT. 9 by the template 'for every input the law returns true; each argument reads behind the call as it read before'; 0 by the template 'total and deterministic' (their statements: YtldojkhnlpbkeaaTotals.lean).
  GIVEN WITH THE SEED: the statements are not yours to turn. If you find one false, say at which input.
  Laid BY PROGRAM, IN A SANDBOX (cutbox-rows.mjs): the forced cells as the released guide's own fill.sh prints them over the translation 59124c56b6b0f6df… (all of the seat's roots in one cut). By AI agents, Wed Nov 11 2026. No macro, syntax, notation, axiom, sorry.
-/
import Derived.Test.YtldojkhnlpbkeaaChecked
import GoSem.Claim
import GoSem.ClaimJoined
import GoSem.ClaimMapViews
import Derived.JoinedTies
import Derived.KernelRfl
namespace Go.Proofs.Ytldojkhnlpbkeaa
/- THE CELL 'sum', in the pinned program and in every row, IS THE sha256 OF THE DUMP (.gsa) THAT YtldojkhnlpbkeaaProg.lean LOADS. Nothing in Lean hashes anything: it is a label: what it is worth is what the hold of that sum in a sandbox is worth. -/
noncomputable def Try.pinned : Pinned := { name := "ytldojkhnlpbkeaa", sum := "59124c56b6b0f6dfe8230e097430e6d72b9b8d9c4d90ae33ce25b301297aacbf", checked := Try.checked }
namespace Rows
def none {H : Type} : Left H := { results := [], args := [] }

/-- 'laws.FnExactReaches': WHATEVER THE INPUT: true; the input reads as it did. -/
def fnExactReachesSpec : ChangeSpec := { name := "fnExactReaches", fn := fun _ => fun
  | [d1, d2, d3, d4] => { results := [.lit (.bool true)], args := [d1, d2, d3, d4] }
  | _ => none }
def fnExactReachesRow : OpenClaim := { program := "ytldojkhnlpbkeaa", sum := "59124c56b6b0f6dfe8230e097430e6d72b9b8d9c4d90ae33ce25b301297aacbf", func := "loop.example/g00966/laws.FnExactReaches", spec := "fnExactReaches", apart := false }
def FnExactReachesSaid : Prop := fnExactReachesRow.holds Try.pinned (OpenSpec.ofChange fnExactReachesSpec)

/-- ITS FALSE NEIGHBOUR: 'it returns false'. Refute it at one input. -/
def fnExactReachesWrong : ChangeSpec := { name := "fnExactReaches", fn := fun _ => fun
  | [d1, d2, d3, d4] => { results := [.lit (.bool false)], args := [d1, d2, d3, d4] }
  | _ => none }
def FnExactReachesWrongFalsely : Prop := fnExactReachesRow.holds Try.pinned (OpenSpec.ofChange fnExactReachesWrong)

/-- 'laws.FnExactCyclic': WHATEVER THE INPUT: true; the input reads as it did. -/
def fnExactCyclicSpec : ChangeSpec := { name := "fnExactCyclic", fn := fun _ => fun
  | [d1, d2, d3] => { results := [.lit (.bool true)], args := [d1, d2, d3] }
  | _ => none }
def fnExactCyclicRow : OpenClaim := { program := "ytldojkhnlpbkeaa", sum := "59124c56b6b0f6dfe8230e097430e6d72b9b8d9c4d90ae33ce25b301297aacbf", func := "loop.example/g00966/laws.FnExactCyclic", spec := "fnExactCyclic", apart := false }
def FnExactCyclicSaid : Prop := fnExactCyclicRow.holds Try.pinned (OpenSpec.ofChange fnExactCyclicSpec)

/-- ITS FALSE NEIGHBOUR: 'it returns false'. Refute it at one input. -/
def fnExactCyclicWrong : ChangeSpec := { name := "fnExactCyclic", fn := fun _ => fun
  | [d1, d2, d3] => { results := [.lit (.bool false)], args := [d1, d2, d3] }
  | _ => none }
def FnExactCyclicWrongFalsely : Prop := fnExactCyclicRow.holds Try.pinned (OpenSpec.ofChange fnExactCyclicWrong)

/-- 'laws.FnExactTermOk': WHATEVER THE INPUT: true; the input reads as it did. -/
def fnExactTermOkSpec : ChangeSpec := { name := "fnExactTermOk", fn := fun _ => fun
  | [d] => { results := [.lit (.bool true)], args := [d] }
  | _ => none }
def fnExactTermOkRow : OpenClaim := { program := "ytldojkhnlpbkeaa", sum := "59124c56b6b0f6dfe8230e097430e6d72b9b8d9c4d90ae33ce25b301297aacbf", func := "loop.example/g00966/laws.FnExactTermOk", spec := "fnExactTermOk", recurses := true, loops := true, apart := false }
def FnExactTermOkSaid : Prop := fnExactTermOkRow.holds Try.pinned (OpenSpec.ofChange fnExactTermOkSpec)

/-- ITS FALSE NEIGHBOUR: 'it returns false'. Refute it at one input. -/
def fnExactTermOkWrong : ChangeSpec := { name := "fnExactTermOk", fn := fun _ => fun
  | [d] => { results := [.lit (.bool false)], args := [d] }
  | _ => none }
def FnExactTermOkWrongFalsely : Prop := fnExactTermOkRow.holds Try.pinned (OpenSpec.ofChange fnExactTermOkWrong)

/-- 'laws.FnExactCountIn': WHATEVER THE INPUT: true; the input reads as it did. -/
def fnExactCountInSpec : ChangeSpec := { name := "fnExactCountIn", fn := fun _ => fun
  | [d] => { results := [.lit (.bool true)], args := [d] }
  | _ => none }
def fnExactCountInRow : OpenClaim := { program := "ytldojkhnlpbkeaa", sum := "59124c56b6b0f6dfe8230e097430e6d72b9b8d9c4d90ae33ce25b301297aacbf", func := "loop.example/g00966/laws.FnExactCountIn", spec := "fnExactCountIn", unfollowed := true, recurses := true, loops := true, apart := false }
def FnExactCountInSaid : Prop := fnExactCountInRow.holds Try.pinned (OpenSpec.ofChange fnExactCountInSpec)

/-- ITS FALSE NEIGHBOUR: 'it returns false'. Refute it at one input. -/
def fnExactCountInWrong : ChangeSpec := { name := "fnExactCountIn", fn := fun _ => fun
  | [d] => { results := [.lit (.bool false)], args := [d] }
  | _ => none }
def FnExactCountInWrongFalsely : Prop := fnExactCountInRow.holds Try.pinned (OpenSpec.ofChange fnExactCountInWrong)

/-- 'laws.FnExactSameStmts': WHATEVER THE INPUT: true; the input reads as it did. -/
def fnExactSameStmtsSpec : ChangeSpec := { name := "fnExactSameStmts", fn := fun _ => fun
  | [d1, d2] => { results := [.lit (.bool true)], args := [d1, d2] }
  | _ => none }
def fnExactSameStmtsRow : OpenClaim := { program := "ytldojkhnlpbkeaa", sum := "59124c56b6b0f6dfe8230e097430e6d72b9b8d9c4d90ae33ce25b301297aacbf", func := "loop.example/g00966/laws.FnExactSameStmts", spec := "fnExactSameStmts", unfollowed := true, recurses := true, loops := true, apart := false }
def FnExactSameStmtsSaid : Prop := fnExactSameStmtsRow.holds Try.pinned (OpenSpec.ofChange fnExactSameStmtsSpec)

/-- ITS FALSE NEIGHBOUR: 'it returns false'. Refute it at one input. -/
def fnExactSameStmtsWrong : ChangeSpec := { name := "fnExactSameStmts", fn := fun _ => fun
  | [d1, d2] => { results := [.lit (.bool false)], args := [d1, d2] }
  | _ => none }
def FnExactSameStmtsWrongFalsely : Prop := fnExactSameStmtsRow.holds Try.pinned (OpenSpec.ofChange fnExactSameStmtsWrong)

/-- 'laws.FnExactReadsOf': WHATEVER THE INPUT: true; the input reads as it did. -/
def fnExactReadsOfSpec : ChangeSpec := { name := "fnExactReadsOf", fn := fun _ => fun
  | [d] => { results := [.lit (.bool true)], args := [d] }
  | _ => none }
def fnExactReadsOfRow : OpenClaim := { program := "ytldojkhnlpbkeaa", sum := "59124c56b6b0f6dfe8230e097430e6d72b9b8d9c4d90ae33ce25b301297aacbf", func := "loop.example/g00966/laws.FnExactReadsOf", spec := "fnExactReadsOf", recurses := true, loops := true, apart := false }
def FnExactReadsOfSaid : Prop := fnExactReadsOfRow.holds Try.pinned (OpenSpec.ofChange fnExactReadsOfSpec)

/-- ITS FALSE NEIGHBOUR: 'it returns false'. Refute it at one input. -/
def fnExactReadsOfWrong : ChangeSpec := { name := "fnExactReadsOf", fn := fun _ => fun
  | [d] => { results := [.lit (.bool false)], args := [d] }
  | _ => none }
def FnExactReadsOfWrongFalsely : Prop := fnExactReadsOfRow.holds Try.pinned (OpenSpec.ofChange fnExactReadsOfWrong)

/-- 'laws.FnExactNamesIn': WHATEVER THE INPUT: true; the input reads as it did. -/
def fnExactNamesInSpec : ChangeSpec := { name := "fnExactNamesIn", fn := fun _ => fun
  | [d1, d2] => { results := [.lit (.bool true)], args := [d1, d2] }
  | _ => none }
def fnExactNamesInRow : OpenClaim := { program := "ytldojkhnlpbkeaa", sum := "59124c56b6b0f6dfe8230e097430e6d72b9b8d9c4d90ae33ce25b301297aacbf", func := "loop.example/g00966/laws.FnExactNamesIn", spec := "fnExactNamesIn", unfollowed := true, recurses := true, loops := true, apart := false }
def FnExactNamesInSaid : Prop := fnExactNamesInRow.holds Try.pinned (OpenSpec.ofChange fnExactNamesInSpec)

/-- ITS FALSE NEIGHBOUR: 'it returns false'. Refute it at one input. -/
def fnExactNamesInWrong : ChangeSpec := { name := "fnExactNamesIn", fn := fun _ => fun
  | [d1, d2] => { results := [.lit (.bool false)], args := [d1, d2] }
  | _ => none }
def FnExactNamesInWrongFalsely : Prop := fnExactNamesInRow.holds Try.pinned (OpenSpec.ofChange fnExactNamesInWrong)

/-- 'laws.FnExactProcAt': WHATEVER THE INPUT: true; the input reads as it did. -/
def fnExactProcAtSpec : ChangeSpec := { name := "fnExactProcAt", fn := fun _ => fun
  | [d1, d2] => { results := [.lit (.bool true)], args := [d1, d2] }
  | _ => none }
def fnExactProcAtRow : OpenClaim := { program := "ytldojkhnlpbkeaa", sum := "59124c56b6b0f6dfe8230e097430e6d72b9b8d9c4d90ae33ce25b301297aacbf", func := "loop.example/g00966/laws.FnExactProcAt", spec := "fnExactProcAt", recurses := true, loops := true, apart := false }
def FnExactProcAtSaid : Prop := fnExactProcAtRow.holds Try.pinned (OpenSpec.ofChange fnExactProcAtSpec)

/-- ITS FALSE NEIGHBOUR: 'it returns false'. Refute it at one input. -/
def fnExactProcAtWrong : ChangeSpec := { name := "fnExactProcAt", fn := fun _ => fun
  | [d1, d2] => { results := [.lit (.bool false)], args := [d1, d2] }
  | _ => none }
def FnExactProcAtWrongFalsely : Prop := fnExactProcAtRow.holds Try.pinned (OpenSpec.ofChange fnExactProcAtWrong)

/-- 'laws.FnExactWorked': WHATEVER THE INPUT: true; the input reads as it did. -/
def fnExactWorkedSpec : ChangeSpec := { name := "fnExactWorked", fn := fun _ => fun
  | [d1, d2, d3] => { results := [.lit (.bool true)], args := [d1, d2, d3] }
  | _ => none }
def fnExactWorkedRow : OpenClaim := { program := "ytldojkhnlpbkeaa", sum := "59124c56b6b0f6dfe8230e097430e6d72b9b8d9c4d90ae33ce25b301297aacbf", func := "loop.example/g00966/laws.FnExactWorked", spec := "fnExactWorked", recurses := true, loops := true, apart := false }
def FnExactWorkedSaid : Prop := fnExactWorkedRow.holds Try.pinned (OpenSpec.ofChange fnExactWorkedSpec)

/-- ITS FALSE NEIGHBOUR: 'it returns false'. Refute it at one input. -/
def fnExactWorkedWrong : ChangeSpec := { name := "fnExactWorked", fn := fun _ => fun
  | [d1, d2, d3] => { results := [.lit (.bool false)], args := [d1, d2, d3] }
  | _ => none }
def FnExactWorkedWrongFalsely : Prop := fnExactWorkedRow.holds Try.pinned (OpenSpec.ofChange fnExactWorkedWrong)

/- THE SECOND FORM. 'bulk': how many values and letters a reading holds, each counted each time it is reached (what is shared counts as often as it is met; a slice's spare places count too). A statement '..UptoSaid' is the law's where the arguments, and the package variables that the reading takes, are together of bulk at most 1048576: NARROWER than '..Said'. Prove '..Said' where nothing that the law and all that it calls make is longer than what came in: it says more and counts as full. Else prove '..UptoSaid'. A law counts once. -/
mutual
def uptoBulk {H : Type} : DataW H → Nat
  | .lit (.string bytes) => bytes.length + 1
  | .lit _ => 1
  | .nil => 1
  | .ptr d => uptoBulk d + 1
  | .slice elems spare => uptoBulkAll elems + uptoBulkAll spare + 1
  | .agg parts => uptoBulkAll parts + 1
  | .iface _ d => uptoBulk d + 1
  | .map entries => uptoBulkEntries entries + 1
  | .held _ => 1
def uptoBulkAll {H : Type} : List (DataW H) → Nat
  | [] => 0
  | d :: r => uptoBulk d + uptoBulkAll r
def uptoBulkEntries {H : Type} : List (Lit × DataW H) → Nat
  | [] => 0
  | x :: r => uptoBulkEntry x + uptoBulkEntries r
def uptoBulkEntry {H : Type} : Lit × DataW H → Nat
  | (.string bytes, d) => bytes.length + uptoBulk d + 1
  | (_, d) => uptoBulk d + 1
 end
def uptoSmall : (H : Type) → List (DataW H) → Bool := fun _ ds => decide (uptoBulkAll ds ≤ 1048576)
def OpenSpec.upto (s : _root_.Go.ChangeSpec) : _root_.Go.OpenSpec := { _root_.Go.OpenSpec.ofChange s with cond := some uptoSmall }

/-- 'laws.FnExactReaches', WHERE WHAT IT READS IS OF BULK AT MOST 1048576: true; the input reads as it did. -/
def fnExactReachesUptoRow : OpenClaim := { program := "ytldojkhnlpbkeaa", sum := "59124c56b6b0f6dfe8230e097430e6d72b9b8d9c4d90ae33ce25b301297aacbf", func := "loop.example/g00966/laws.FnExactReaches", spec := "fnExactReaches", apart := false, narrowed := true }
def FnExactReachesUptoSaid : Prop := fnExactReachesUptoRow.holds Try.pinned (OpenSpec.upto fnExactReachesSpec)

/-- 'laws.FnExactCyclic', WHERE WHAT IT READS IS OF BULK AT MOST 1048576: true; the input reads as it did. -/
def fnExactCyclicUptoRow : OpenClaim := { program := "ytldojkhnlpbkeaa", sum := "59124c56b6b0f6dfe8230e097430e6d72b9b8d9c4d90ae33ce25b301297aacbf", func := "loop.example/g00966/laws.FnExactCyclic", spec := "fnExactCyclic", apart := false, narrowed := true }
def FnExactCyclicUptoSaid : Prop := fnExactCyclicUptoRow.holds Try.pinned (OpenSpec.upto fnExactCyclicSpec)

/-- 'laws.FnExactTermOk', WHERE WHAT IT READS IS OF BULK AT MOST 1048576: true; the input reads as it did. -/
def fnExactTermOkUptoRow : OpenClaim := { program := "ytldojkhnlpbkeaa", sum := "59124c56b6b0f6dfe8230e097430e6d72b9b8d9c4d90ae33ce25b301297aacbf", func := "loop.example/g00966/laws.FnExactTermOk", spec := "fnExactTermOk", recurses := true, loops := true, apart := false, narrowed := true }
def FnExactTermOkUptoSaid : Prop := fnExactTermOkUptoRow.holds Try.pinned (OpenSpec.upto fnExactTermOkSpec)

/-- 'laws.FnExactCountIn', WHERE WHAT IT READS IS OF BULK AT MOST 1048576: true; the input reads as it did. -/
def fnExactCountInUptoRow : OpenClaim := { program := "ytldojkhnlpbkeaa", sum := "59124c56b6b0f6dfe8230e097430e6d72b9b8d9c4d90ae33ce25b301297aacbf", func := "loop.example/g00966/laws.FnExactCountIn", spec := "fnExactCountIn", unfollowed := true, recurses := true, loops := true, apart := false, narrowed := true }
def FnExactCountInUptoSaid : Prop := fnExactCountInUptoRow.holds Try.pinned (OpenSpec.upto fnExactCountInSpec)

/-- 'laws.FnExactSameStmts', WHERE WHAT IT READS IS OF BULK AT MOST 1048576: true; the input reads as it did. -/
def fnExactSameStmtsUptoRow : OpenClaim := { program := "ytldojkhnlpbkeaa", sum := "59124c56b6b0f6dfe8230e097430e6d72b9b8d9c4d90ae33ce25b301297aacbf", func := "loop.example/g00966/laws.FnExactSameStmts", spec := "fnExactSameStmts", unfollowed := true, recurses := true, loops := true, apart := false, narrowed := true }
def FnExactSameStmtsUptoSaid : Prop := fnExactSameStmtsUptoRow.holds Try.pinned (OpenSpec.upto fnExactSameStmtsSpec)

/-- 'laws.FnExactReadsOf', WHERE WHAT IT READS IS OF BULK AT MOST 1048576: true; the input reads as it did. -/
def fnExactReadsOfUptoRow : OpenClaim := { program := "ytldojkhnlpbkeaa", sum := "59124c56b6b0f6dfe8230e097430e6d72b9b8d9c4d90ae33ce25b301297aacbf", func := "loop.example/g00966/laws.FnExactReadsOf", spec := "fnExactReadsOf", recurses := true, loops := true, apart := false, narrowed := true }
def FnExactReadsOfUptoSaid : Prop := fnExactReadsOfUptoRow.holds Try.pinned (OpenSpec.upto fnExactReadsOfSpec)

/-- 'laws.FnExactNamesIn', WHERE WHAT IT READS IS OF BULK AT MOST 1048576: true; the input reads as it did. -/
def fnExactNamesInUptoRow : OpenClaim := { program := "ytldojkhnlpbkeaa", sum := "59124c56b6b0f6dfe8230e097430e6d72b9b8d9c4d90ae33ce25b301297aacbf", func := "loop.example/g00966/laws.FnExactNamesIn", spec := "fnExactNamesIn", unfollowed := true, recurses := true, loops := true, apart := false, narrowed := true }
def FnExactNamesInUptoSaid : Prop := fnExactNamesInUptoRow.holds Try.pinned (OpenSpec.upto fnExactNamesInSpec)

/-- 'laws.FnExactProcAt', WHERE WHAT IT READS IS OF BULK AT MOST 1048576: true; the input reads as it did. -/
def fnExactProcAtUptoRow : OpenClaim := { program := "ytldojkhnlpbkeaa", sum := "59124c56b6b0f6dfe8230e097430e6d72b9b8d9c4d90ae33ce25b301297aacbf", func := "loop.example/g00966/laws.FnExactProcAt", spec := "fnExactProcAt", recurses := true, loops := true, apart := false, narrowed := true }
def FnExactProcAtUptoSaid : Prop := fnExactProcAtUptoRow.holds Try.pinned (OpenSpec.upto fnExactProcAtSpec)

/-- 'laws.FnExactWorked', WHERE WHAT IT READS IS OF BULK AT MOST 1048576: true; the input reads as it did. -/
def fnExactWorkedUptoRow : OpenClaim := { program := "ytldojkhnlpbkeaa", sum := "59124c56b6b0f6dfe8230e097430e6d72b9b8d9c4d90ae33ce25b301297aacbf", func := "loop.example/g00966/laws.FnExactWorked", spec := "fnExactWorked", recurses := true, loops := true, apart := false, narrowed := true }
def FnExactWorkedUptoSaid : Prop := fnExactWorkedUptoRow.holds Try.pinned (OpenSpec.upto fnExactWorkedSpec)

end Rows
end Go.Proofs.Ytldojkhnlpbkeaa
