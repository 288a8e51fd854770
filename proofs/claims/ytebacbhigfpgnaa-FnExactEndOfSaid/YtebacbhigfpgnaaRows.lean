/-
  NARROWER THAN 'FOR EVERY INPUT', by the rows' own cells (each row's printed sentence says how): FnExactCodeOk: loops · FnExactEndOf: loops · FnExactProcOf: loops · FnExactCodeOf: loops.
  DERIVED. THE GIVEN ROWS OF THIS SEAT. 5 by the template 'for every input the law returns true; each argument reads behind the call as it read before'; 0 by the template 'total and deterministic' (their statements: YtebacbhigfpgnaaTotals.lean).
  GIVEN WITH THE SEED: the statements are not yours to turn. If you find one false, say at which input.
  Laid BY PROGRAM, IN A SANDBOX (cutbox-rows.mjs): the forced cells as the released guide's own fill.sh prints them over the translation 6e1564334d80d194… (all of the seat's roots in one cut). By AI agents, Wed Nov 11 2026. No macro, syntax, notation, axiom, sorry.
-/
import Derived.Test.YtebacbhigfpgnaaChecked
import GoSem.Claim
import GoSem.ClaimJoined
import GoSem.ClaimMapViews
import Derived.JoinedTies
import Derived.KernelRfl
namespace Go.Proofs.Ytebacbhigfpgnaa
/- THE CELL 'sum', in the pinned program and in every row, IS THE sha256 OF THE DUMP (.gsa) THAT YtebacbhigfpgnaaProg.lean LOADS. Nothing in Lean hashes anything: it is a label: what it is worth is what the hold of that sum in a sandbox is worth. -/
noncomputable def Try.pinned : Pinned := { name := "ytebacbhigfpgnaa", sum := "6e1564334d80d19457cf29b2bd358ba5d32499d91169bbcffaf35dd61d254b83", checked := Try.checked }
namespace Rows
def none {H : Type} : Left H := { results := [], args := [] }

/-- 'laws.FnExactCodeOk': WHATEVER THE INPUT: true; the input reads as it did. -/
def fnExactCodeOkSpec : ChangeSpec := { name := "fnExactCodeOk", fn := fun _ => fun
  | [d] => { results := [.lit (.bool true)], args := [d] }
  | _ => none }
def fnExactCodeOkRow : OpenClaim := { program := "ytebacbhigfpgnaa", sum := "6e1564334d80d19457cf29b2bd358ba5d32499d91169bbcffaf35dd61d254b83", func := "loop.example/g00966/laws.FnExactCodeOk", spec := "fnExactCodeOk", recurses := true, loops := true, apart := false }
def FnExactCodeOkSaid : Prop := fnExactCodeOkRow.holds Try.pinned (OpenSpec.ofChange fnExactCodeOkSpec)

/-- ITS FALSE NEIGHBOUR: 'it returns false'. Refute it at one input. -/
def fnExactCodeOkWrong : ChangeSpec := { name := "fnExactCodeOk", fn := fun _ => fun
  | [d] => { results := [.lit (.bool false)], args := [d] }
  | _ => none }
def FnExactCodeOkWrongFalsely : Prop := fnExactCodeOkRow.holds Try.pinned (OpenSpec.ofChange fnExactCodeOkWrong)

/-- 'laws.FnExactEndOf': WHATEVER THE INPUT: true; the input reads as it did. -/
def fnExactEndOfSpec : ChangeSpec := { name := "fnExactEndOf", fn := fun _ => fun
  | [d1, d2] => { results := [.lit (.bool true)], args := [d1, d2] }
  | _ => none }
def fnExactEndOfRow : OpenClaim := { program := "ytebacbhigfpgnaa", sum := "6e1564334d80d19457cf29b2bd358ba5d32499d91169bbcffaf35dd61d254b83", func := "loop.example/g00966/laws.FnExactEndOf", spec := "fnExactEndOf", recurses := true, loops := true, apart := false }
def FnExactEndOfSaid : Prop := fnExactEndOfRow.holds Try.pinned (OpenSpec.ofChange fnExactEndOfSpec)

/-- ITS FALSE NEIGHBOUR: 'it returns false'. Refute it at one input. -/
def fnExactEndOfWrong : ChangeSpec := { name := "fnExactEndOf", fn := fun _ => fun
  | [d1, d2] => { results := [.lit (.bool false)], args := [d1, d2] }
  | _ => none }
def FnExactEndOfWrongFalsely : Prop := fnExactEndOfRow.holds Try.pinned (OpenSpec.ofChange fnExactEndOfWrong)

/-- 'laws.FnExactProcOf': WHATEVER THE INPUT: true; the input reads as it did. -/
def fnExactProcOfSpec : ChangeSpec := { name := "fnExactProcOf", fn := fun _ => fun
  | [d1, d2] => { results := [.lit (.bool true)], args := [d1, d2] }
  | _ => none }
def fnExactProcOfRow : OpenClaim := { program := "ytebacbhigfpgnaa", sum := "6e1564334d80d19457cf29b2bd358ba5d32499d91169bbcffaf35dd61d254b83", func := "loop.example/g00966/laws.FnExactProcOf", spec := "fnExactProcOf", recurses := true, loops := true, apart := false }
def FnExactProcOfSaid : Prop := fnExactProcOfRow.holds Try.pinned (OpenSpec.ofChange fnExactProcOfSpec)

/-- ITS FALSE NEIGHBOUR: 'it returns false'. Refute it at one input. -/
def fnExactProcOfWrong : ChangeSpec := { name := "fnExactProcOf", fn := fun _ => fun
  | [d1, d2] => { results := [.lit (.bool false)], args := [d1, d2] }
  | _ => none }
def FnExactProcOfWrongFalsely : Prop := fnExactProcOfRow.holds Try.pinned (OpenSpec.ofChange fnExactProcOfWrong)

/-- 'laws.FnSound': WHATEVER THE INPUT: true; the input reads as it did. -/
def fnSoundSpec : ChangeSpec := { name := "fnSound", fn := fun _ => fun
  | [d] => { results := [.lit (.bool true)], args := [d] }
  | _ => none }
def fnSoundRow : OpenClaim := { program := "ytebacbhigfpgnaa", sum := "6e1564334d80d19457cf29b2bd358ba5d32499d91169bbcffaf35dd61d254b83", func := "loop.example/g00966/laws.FnSound", spec := "fnSound", unfollowed := true, recurses := true, apart := false }
def FnSoundSaid : Prop := fnSoundRow.holds Try.pinned (OpenSpec.ofChange fnSoundSpec)

/-- ITS FALSE NEIGHBOUR: 'it returns false'. Refute it at one input. -/
def fnSoundWrong : ChangeSpec := { name := "fnSound", fn := fun _ => fun
  | [d] => { results := [.lit (.bool false)], args := [d] }
  | _ => none }
def FnSoundWrongFalsely : Prop := fnSoundRow.holds Try.pinned (OpenSpec.ofChange fnSoundWrong)

/-- 'laws.FnExactCodeOf': WHATEVER THE INPUT: true; the input reads as it did. -/
def fnExactCodeOfSpec : ChangeSpec := { name := "fnExactCodeOf", fn := fun _ => fun
  | [d] => { results := [.lit (.bool true)], args := [d] }
  | _ => none }
def fnExactCodeOfRow : OpenClaim := { program := "ytebacbhigfpgnaa", sum := "6e1564334d80d19457cf29b2bd358ba5d32499d91169bbcffaf35dd61d254b83", func := "loop.example/g00966/laws.FnExactCodeOf", spec := "fnExactCodeOf", unfollowed := true, recurses := true, loops := true, apart := false }
def FnExactCodeOfSaid : Prop := fnExactCodeOfRow.holds Try.pinned (OpenSpec.ofChange fnExactCodeOfSpec)

/-- ITS FALSE NEIGHBOUR: 'it returns false'. Refute it at one input. -/
def fnExactCodeOfWrong : ChangeSpec := { name := "fnExactCodeOf", fn := fun _ => fun
  | [d] => { results := [.lit (.bool false)], args := [d] }
  | _ => none }
def FnExactCodeOfWrongFalsely : Prop := fnExactCodeOfRow.holds Try.pinned (OpenSpec.ofChange fnExactCodeOfWrong)

/- THE SECOND FORM. 'bulk': how many values and letters a reading holds, each counted each time it is reached (what is shared counts as often as it is met; a slice's spare places count too). A statement '..UptoSaid' is the law's where the arguments, and the package variables that the reading takes, are together of bulk at most 1048576: NARROWER than '..Said'. Prove '..Said' where nothing that the law and all that it calls make is longer than what came in: it says more and counts as full. Else prove '..UptoSaid'. A law counts once. -/
mutual
def uptoBulk {H : Type} : DataW H → Nat
  | .lit (.string bytes) => bytes.length + 1
  | .lit _ => 1
  | .nil => 1
  | .ptr d => uptoBulk d + 1
  | .slice elems spare => uptoBulkAll elems + uptoBulkAll spare + 1
  | .agg parts => uptoBulkAll parts + 1
  | .iface _ d => uptoBulk d + 1
  | .map entries => uptoBulkEntries entries + 1
  | .held _ => 1
def uptoBulkAll {H : Type} : List (DataW H) → Nat
  | [] => 0
  | d :: r => uptoBulk d + uptoBulkAll r
def uptoBulkEntries {H : Type} : List (Lit × DataW H) → Nat
  | [] => 0
  | x :: r => uptoBulkEntry x + uptoBulkEntries r
def uptoBulkEntry {H : Type} : Lit × DataW H → Nat
  | (.string bytes, d) => bytes.length + uptoBulk d + 1
  | (_, d) => uptoBulk d + 1
 end
def uptoSmall : (H : Type) → List (DataW H) → Bool := fun _ ds => decide (uptoBulkAll ds ≤ 1048576)
def OpenSpec.upto (s : _root_.Go.ChangeSpec) : _root_.Go.OpenSpec := { _root_.Go.OpenSpec.ofChange s with cond := some uptoSmall }

/-- 'laws.FnExactCodeOk', WHERE WHAT IT READS IS OF BULK AT MOST 1048576: true; the input reads as it did. -/
def fnExactCodeOkUptoRow : OpenClaim := { program := "ytebacbhigfpgnaa", sum := "6e1564334d80d19457cf29b2bd358ba5d32499d91169bbcffaf35dd61d254b83", func := "loop.example/g00966/laws.FnExactCodeOk", spec := "fnExactCodeOk", recurses := true, loops := true, apart := false, narrowed := true }
def FnExactCodeOkUptoSaid : Prop := fnExactCodeOkUptoRow.holds Try.pinned (OpenSpec.upto fnExactCodeOkSpec)

/-- 'laws.FnExactEndOf', WHERE WHAT IT READS IS OF BULK AT MOST 1048576: true; the input reads as it did. -/
def fnExactEndOfUptoRow : OpenClaim := { program := "ytebacbhigfpgnaa", sum := "6e1564334d80d19457cf29b2bd358ba5d32499d91169bbcffaf35dd61d254b83", func := "loop.example/g00966/laws.FnExactEndOf", spec := "fnExactEndOf", recurses := true, loops := true, apart := false, narrowed := true }
def FnExactEndOfUptoSaid : Prop := fnExactEndOfUptoRow.holds Try.pinned (OpenSpec.upto fnExactEndOfSpec)

/-- 'laws.FnExactProcOf', WHERE WHAT IT READS IS OF BULK AT MOST 1048576: true; the input reads as it did. -/
def fnExactProcOfUptoRow : OpenClaim := { program := "ytebacbhigfpgnaa", sum := "6e1564334d80d19457cf29b2bd358ba5d32499d91169bbcffaf35dd61d254b83", func := "loop.example/g00966/laws.FnExactProcOf", spec := "fnExactProcOf", recurses := true, loops := true, apart := false, narrowed := true }
def FnExactProcOfUptoSaid : Prop := fnExactProcOfUptoRow.holds Try.pinned (OpenSpec.upto fnExactProcOfSpec)

/-- 'laws.FnSound', WHERE WHAT IT READS IS OF BULK AT MOST 1048576: true; the input reads as it did. -/
def fnSoundUptoRow : OpenClaim := { program := "ytebacbhigfpgnaa", sum := "6e1564334d80d19457cf29b2bd358ba5d32499d91169bbcffaf35dd61d254b83", func := "loop.example/g00966/laws.FnSound", spec := "fnSound", unfollowed := true, recurses := true, apart := false, narrowed := true }
def FnSoundUptoSaid : Prop := fnSoundUptoRow.holds Try.pinned (OpenSpec.upto fnSoundSpec)

/-- 'laws.FnExactCodeOf', WHERE WHAT IT READS IS OF BULK AT MOST 1048576: true; the input reads as it did. -/
def fnExactCodeOfUptoRow : OpenClaim := { program := "ytebacbhigfpgnaa", sum := "6e1564334d80d19457cf29b2bd358ba5d32499d91169bbcffaf35dd61d254b83", func := "loop.example/g00966/laws.FnExactCodeOf", spec := "fnExactCodeOf", unfollowed := true, recurses := true, loops := true, apart := false, narrowed := true }
def FnExactCodeOfUptoSaid : Prop := fnExactCodeOfUptoRow.holds Try.pinned (OpenSpec.upto fnExactCodeOfSpec)

end Rows
end Go.Proofs.Ytebacbhigfpgnaa
