/-
  No cell of these rows narrows 'for every input' (looked for: loops, veiled, ifaces, maps, wideKeys, modest, calm, conditions, laid).
  DERIVED. THE GIVEN ROWS OF THIS SEAT. 10 by the template 'for every input the law returns true; each argument reads behind the call as it read before'; 0 by the template 'total and deterministic' (their statements: YtlpeijaeiioimaaTotals.lean).
  GIVEN WITH THE SEED: the statements are not yours to turn. If you find one false, say at which input.
  Laid BY PROGRAM, IN A SANDBOX (cutbox-rows.mjs): the forced cells as the released guide's own fill.sh prints them over the translation 62be59ab14acf2b0… (all of the seat's roots in one cut). By AI agents, Wed Nov 11 2026. No macro, syntax, notation, axiom, sorry.
-/
import Derived.Test.YtlpeijaeiioimaaChecked
import GoSem.Claim
import GoSem.ClaimJoined
import GoSem.ClaimMapViews
import Derived.JoinedTies
import Derived.KernelRfl
namespace Go.Proofs.Ytlpeijaeiioimaa
/- THE CELL 'sum', in the pinned program and in every row, IS THE sha256 OF THE DUMP (.gsa) THAT YtlpeijaeiioimaaProg.lean LOADS. Nothing in Lean hashes anything: it is a label: what it is worth is what the hold of that sum in a sandbox is worth. -/
noncomputable def Try.pinned : Pinned := { name := "ytlpeijaeiioimaa", sum := "62be59ab14acf2b05adeb95e97c8771750a90c5fe25b315c9a353eae8f6162ed", checked := Try.checked }
namespace Rows
def none {H : Type} : Left H := { results := [], args := [] }

/-- 'aviarylaw16.ExpertOnes': WHATEVER THE INPUT: true; the input reads as it did. -/
def expertOnesSpec : ChangeSpec := { name := "expertOnes", fn := fun _ => fun
  | [d1, d2, d3, d4] => { results := [.lit (.bool true)], args := [d1, d2, d3, d4] }
  | _ => none }
def expertOnesRow : OpenClaim := { program := "ytlpeijaeiioimaa", sum := "62be59ab14acf2b05adeb95e97c8771750a90c5fe25b315c9a353eae8f6162ed", func := "aviary/aviarylaw16.ExpertOnes", spec := "expertOnes", recurses := true, apart := false }
def ExpertOnesSaid : Prop := expertOnesRow.holds Try.pinned (OpenSpec.ofChange expertOnesSpec)

/-- ITS FALSE NEIGHBOUR: 'it returns false'. Refute it at one input. -/
def expertOnesWrong : ChangeSpec := { name := "expertOnes", fn := fun _ => fun
  | [d1, d2, d3, d4] => { results := [.lit (.bool false)], args := [d1, d2, d3, d4] }
  | _ => none }
def ExpertOnesWrongFalsely : Prop := expertOnesRow.holds Try.pinned (OpenSpec.ofChange expertOnesWrong)

/-- 'aviarylaw20.GenChecks': WHATEVER THE INPUT: true; the input reads as it did. -/
def genChecksSpec : ChangeSpec := { name := "genChecks", fn := fun _ => fun
  | [d1, d2] => { results := [.lit (.bool true)], args := [d1, d2] }
  | _ => none }
def genChecksRow : OpenClaim := { program := "ytlpeijaeiioimaa", sum := "62be59ab14acf2b05adeb95e97c8771750a90c5fe25b315c9a353eae8f6162ed", func := "aviary/aviarylaw20.GenChecks", spec := "genChecks", inPlace := ["math.Float64bits", "math.Float64frombits", "math.RoundToEven"], apart := false }
def GenChecksSaid : Prop := genChecksRow.holds Try.pinned (OpenSpec.ofChange genChecksSpec)

/-- ITS FALSE NEIGHBOUR: 'it returns false'. Refute it at one input. -/
def genChecksWrong : ChangeSpec := { name := "genChecks", fn := fun _ => fun
  | [d1, d2] => { results := [.lit (.bool false)], args := [d1, d2] }
  | _ => none }
def GenChecksWrongFalsely : Prop := genChecksRow.holds Try.pinned (OpenSpec.ofChange genChecksWrong)

/-- 'aviarylaw16.ExpertMixes': WHATEVER THE INPUT: true; the input reads as it did. -/
def expertMixesSpec : ChangeSpec := { name := "expertMixes", fn := fun _ => fun
  | [d] => { results := [.lit (.bool true)], args := [d] }
  | _ => none }
def expertMixesRow : OpenClaim := { program := "ytlpeijaeiioimaa", sum := "62be59ab14acf2b05adeb95e97c8771750a90c5fe25b315c9a353eae8f6162ed", func := "aviary/aviarylaw16.ExpertMixes", spec := "expertMixes", unfollowed := true, recurses := true, apart := false }
def ExpertMixesSaid : Prop := expertMixesRow.holds Try.pinned (OpenSpec.ofChange expertMixesSpec)

/-- ITS FALSE NEIGHBOUR: 'it returns false'. Refute it at one input. -/
def expertMixesWrong : ChangeSpec := { name := "expertMixes", fn := fun _ => fun
  | [d] => { results := [.lit (.bool false)], args := [d] }
  | _ => none }
def ExpertMixesWrongFalsely : Prop := expertMixesRow.holds Try.pinned (OpenSpec.ofChange expertMixesWrong)

/-- 'aviarylaw16.ExpertFirst': WHATEVER THE INPUT: true; the input reads as it did. -/
def expertFirstSpec : ChangeSpec := { name := "expertFirst", fn := fun _ => fun
  | [d] => { results := [.lit (.bool true)], args := [d] }
  | _ => none }
def expertFirstRow : OpenClaim := { program := "ytlpeijaeiioimaa", sum := "62be59ab14acf2b05adeb95e97c8771750a90c5fe25b315c9a353eae8f6162ed", func := "aviary/aviarylaw16.ExpertFirst", spec := "expertFirst", unfollowed := true, recurses := true, apart := false }
def ExpertFirstSaid : Prop := expertFirstRow.holds Try.pinned (OpenSpec.ofChange expertFirstSpec)

/-- ITS FALSE NEIGHBOUR: 'it returns false'. Refute it at one input. -/
def expertFirstWrong : ChangeSpec := { name := "expertFirst", fn := fun _ => fun
  | [d] => { results := [.lit (.bool false)], args := [d] }
  | _ => none }
def ExpertFirstWrongFalsely : Prop := expertFirstRow.holds Try.pinned (OpenSpec.ofChange expertFirstWrong)

/-- 'aviarylaw16.ExpertOthers': WHATEVER THE INPUT: true; the input reads as it did. -/
def expertOthersSpec : ChangeSpec := { name := "expertOthers", fn := fun _ => fun
  | [d1, d2] => { results := [.lit (.bool true)], args := [d1, d2] }
  | _ => none }
def expertOthersRow : OpenClaim := { program := "ytlpeijaeiioimaa", sum := "62be59ab14acf2b05adeb95e97c8771750a90c5fe25b315c9a353eae8f6162ed", func := "aviary/aviarylaw16.ExpertOthers", spec := "expertOthers", unfollowed := true, recurses := true, apart := false }
def ExpertOthersSaid : Prop := expertOthersRow.holds Try.pinned (OpenSpec.ofChange expertOthersSpec)

/-- ITS FALSE NEIGHBOUR: 'it returns false'. Refute it at one input. -/
def expertOthersWrong : ChangeSpec := { name := "expertOthers", fn := fun _ => fun
  | [d1, d2] => { results := [.lit (.bool false)], args := [d1, d2] }
  | _ => none }
def ExpertOthersWrongFalsely : Prop := expertOthersRow.holds Try.pinned (OpenSpec.ofChange expertOthersWrong)

/-- 'aviarylaw16.ExpertNought': WHATEVER THE INPUT: true; the input reads as it did. -/
def expertNoughtSpec : ChangeSpec := { name := "expertNought", fn := fun _ => fun
  | [d] => { results := [.lit (.bool true)], args := [d] }
  | _ => none }
def expertNoughtRow : OpenClaim := { program := "ytlpeijaeiioimaa", sum := "62be59ab14acf2b05adeb95e97c8771750a90c5fe25b315c9a353eae8f6162ed", func := "aviary/aviarylaw16.ExpertNought", spec := "expertNought", unfollowed := true, recurses := true, apart := false }
def ExpertNoughtSaid : Prop := expertNoughtRow.holds Try.pinned (OpenSpec.ofChange expertNoughtSpec)

/-- ITS FALSE NEIGHBOUR: 'it returns false'. Refute it at one input. -/
def expertNoughtWrong : ChangeSpec := { name := "expertNought", fn := fun _ => fun
  | [d] => { results := [.lit (.bool false)], args := [d] }
  | _ => none }
def ExpertNoughtWrongFalsely : Prop := expertNoughtRow.holds Try.pinned (OpenSpec.ofChange expertNoughtWrong)

/-- 'aviarylaw17.ModelFewer': WHATEVER THE INPUT: true; the input reads as it did. -/
def modelFewerSpec : ChangeSpec := { name := "modelFewer", fn := fun _ => fun
  | [d1, d2] => { results := [.lit (.bool true)], args := [d1, d2] }
  | _ => none }
def modelFewerRow : OpenClaim := { program := "ytlpeijaeiioimaa", sum := "62be59ab14acf2b05adeb95e97c8771750a90c5fe25b315c9a353eae8f6162ed", func := "aviary/aviarylaw17.ModelFewer", spec := "modelFewer", unfollowed := true, recurses := true, apart := false }
def ModelFewerSaid : Prop := modelFewerRow.holds Try.pinned (OpenSpec.ofChange modelFewerSpec)

/-- ITS FALSE NEIGHBOUR: 'it returns false'. Refute it at one input. -/
def modelFewerWrong : ChangeSpec := { name := "modelFewer", fn := fun _ => fun
  | [d1, d2] => { results := [.lit (.bool false)], args := [d1, d2] }
  | _ => none }
def ModelFewerWrongFalsely : Prop := modelFewerRow.holds Try.pinned (OpenSpec.ofChange modelFewerWrong)

/-- 'aviarylaw17.ModelWindow': WHATEVER THE INPUT: true; the input reads as it did. -/
def modelWindowSpec : ChangeSpec := { name := "modelWindow", fn := fun _ => fun
  | [d1, d2] => { results := [.lit (.bool true)], args := [d1, d2] }
  | _ => none }
def modelWindowRow : OpenClaim := { program := "ytlpeijaeiioimaa", sum := "62be59ab14acf2b05adeb95e97c8771750a90c5fe25b315c9a353eae8f6162ed", func := "aviary/aviarylaw17.ModelWindow", spec := "modelWindow", unfollowed := true, recurses := true, apart := false }
def ModelWindowSaid : Prop := modelWindowRow.holds Try.pinned (OpenSpec.ofChange modelWindowSpec)

/-- ITS FALSE NEIGHBOUR: 'it returns false'. Refute it at one input. -/
def modelWindowWrong : ChangeSpec := { name := "modelWindow", fn := fun _ => fun
  | [d1, d2] => { results := [.lit (.bool false)], args := [d1, d2] }
  | _ => none }
def ModelWindowWrongFalsely : Prop := modelWindowRow.holds Try.pinned (OpenSpec.ofChange modelWindowWrong)

/-- 'aviarylaw17.ModelNothing': WHATEVER THE INPUT: true; the input reads as it did. -/
def modelNothingSpec : ChangeSpec := { name := "modelNothing", fn := fun _ => fun
  | [d] => { results := [.lit (.bool true)], args := [d] }
  | _ => none }
def modelNothingRow : OpenClaim := { program := "ytlpeijaeiioimaa", sum := "62be59ab14acf2b05adeb95e97c8771750a90c5fe25b315c9a353eae8f6162ed", func := "aviary/aviarylaw17.ModelNothing", spec := "modelNothing", unfollowed := true, recurses := true, apart := false }
def ModelNothingSaid : Prop := modelNothingRow.holds Try.pinned (OpenSpec.ofChange modelNothingSpec)

/-- ITS FALSE NEIGHBOUR: 'it returns false'. Refute it at one input. -/
def modelNothingWrong : ChangeSpec := { name := "modelNothing", fn := fun _ => fun
  | [d] => { results := [.lit (.bool false)], args := [d] }
  | _ => none }
def ModelNothingWrongFalsely : Prop := modelNothingRow.holds Try.pinned (OpenSpec.ofChange modelNothingWrong)

/-- 'aviarylaw17.ModelSizes': WHATEVER THE INPUT: true; the input reads as it did. -/
def modelSizesSpec : ChangeSpec := { name := "modelSizes", fn := fun _ => fun
  | [d] => { results := [.lit (.bool true)], args := [d] }
  | _ => none }
def modelSizesRow : OpenClaim := { program := "ytlpeijaeiioimaa", sum := "62be59ab14acf2b05adeb95e97c8771750a90c5fe25b315c9a353eae8f6162ed", func := "aviary/aviarylaw17.ModelSizes", spec := "modelSizes", unfollowed := true, recurses := true, apart := false }
def ModelSizesSaid : Prop := modelSizesRow.holds Try.pinned (OpenSpec.ofChange modelSizesSpec)

/-- ITS FALSE NEIGHBOUR: 'it returns false'. Refute it at one input. -/
def modelSizesWrong : ChangeSpec := { name := "modelSizes", fn := fun _ => fun
  | [d] => { results := [.lit (.bool false)], args := [d] }
  | _ => none }
def ModelSizesWrongFalsely : Prop := modelSizesRow.holds Try.pinned (OpenSpec.ofChange modelSizesWrong)

/- THE SECOND FORM. 'bulk': how many values and letters a reading holds, each counted each time it is reached (what is shared counts as often as it is met; a slice's spare places count too). A statement '..UptoSaid' is the law's where the arguments, and the package variables that the reading takes, are together of bulk at most 1048576: NARROWER than '..Said'. Prove '..Said' where nothing that the law and all that it calls make is longer than what came in: it says more and counts as full. Else prove '..UptoSaid'. A law counts once. -/
mutual
def uptoBulk {H : Type} : DataW H → Nat
  | .lit (.string bytes) => bytes.length + 1
  | .lit _ => 1
  | .nil => 1
  | .ptr d => uptoBulk d + 1
  | .slice elems spare => uptoBulkAll elems + uptoBulkAll spare + 1
  | .agg parts => uptoBulkAll parts + 1
  | .iface _ d => uptoBulk d + 1
  | .map entries => uptoBulkEntries entries + 1
  | .held _ => 1
def uptoBulkAll {H : Type} : List (DataW H) → Nat
  | [] => 0
  | d :: r => uptoBulk d + uptoBulkAll r
def uptoBulkEntries {H : Type} : List (Lit × DataW H) → Nat
  | [] => 0
  | x :: r => uptoBulkEntry x + uptoBulkEntries r
def uptoBulkEntry {H : Type} : Lit × DataW H → Nat
  | (.string bytes, d) => bytes.length + uptoBulk d + 1
  | (_, d) => uptoBulk d + 1
 end
def uptoSmall : (H : Type) → List (DataW H) → Bool := fun _ ds => decide (uptoBulkAll ds ≤ 1048576)
def OpenSpec.upto (s : _root_.Go.ChangeSpec) : _root_.Go.OpenSpec := { _root_.Go.OpenSpec.ofChange s with cond := some uptoSmall }

/-- 'aviarylaw16.ExpertOnes', WHERE WHAT IT READS IS OF BULK AT MOST 1048576: true; the input reads as it did. -/
def expertOnesUptoRow : OpenClaim := { program := "ytlpeijaeiioimaa", sum := "62be59ab14acf2b05adeb95e97c8771750a90c5fe25b315c9a353eae8f6162ed", func := "aviary/aviarylaw16.ExpertOnes", spec := "expertOnes", recurses := true, apart := false, narrowed := true }
def ExpertOnesUptoSaid : Prop := expertOnesUptoRow.holds Try.pinned (OpenSpec.upto expertOnesSpec)

/-- 'aviarylaw20.GenChecks', WHERE WHAT IT READS IS OF BULK AT MOST 1048576: true; the input reads as it did. -/
def genChecksUptoRow : OpenClaim := { program := "ytlpeijaeiioimaa", sum := "62be59ab14acf2b05adeb95e97c8771750a90c5fe25b315c9a353eae8f6162ed", func := "aviary/aviarylaw20.GenChecks", spec := "genChecks", inPlace := ["math.Float64bits", "math.Float64frombits", "math.RoundToEven"], apart := false, narrowed := true }
def GenChecksUptoSaid : Prop := genChecksUptoRow.holds Try.pinned (OpenSpec.upto genChecksSpec)

/-- 'aviarylaw16.ExpertMixes', WHERE WHAT IT READS IS OF BULK AT MOST 1048576: true; the input reads as it did. -/
def expertMixesUptoRow : OpenClaim := { program := "ytlpeijaeiioimaa", sum := "62be59ab14acf2b05adeb95e97c8771750a90c5fe25b315c9a353eae8f6162ed", func := "aviary/aviarylaw16.ExpertMixes", spec := "expertMixes", unfollowed := true, recurses := true, apart := false, narrowed := true }
def ExpertMixesUptoSaid : Prop := expertMixesUptoRow.holds Try.pinned (OpenSpec.upto expertMixesSpec)

/-- 'aviarylaw16.ExpertFirst', WHERE WHAT IT READS IS OF BULK AT MOST 1048576: true; the input reads as it did. -/
def expertFirstUptoRow : OpenClaim := { program := "ytlpeijaeiioimaa", sum := "62be59ab14acf2b05adeb95e97c8771750a90c5fe25b315c9a353eae8f6162ed", func := "aviary/aviarylaw16.ExpertFirst", spec := "expertFirst", unfollowed := true, recurses := true, apart := false, narrowed := true }
def ExpertFirstUptoSaid : Prop := expertFirstUptoRow.holds Try.pinned (OpenSpec.upto expertFirstSpec)

/-- 'aviarylaw16.ExpertOthers', WHERE WHAT IT READS IS OF BULK AT MOST 1048576: true; the input reads as it did. -/
def expertOthersUptoRow : OpenClaim := { program := "ytlpeijaeiioimaa", sum := "62be59ab14acf2b05adeb95e97c8771750a90c5fe25b315c9a353eae8f6162ed", func := "aviary/aviarylaw16.ExpertOthers", spec := "expertOthers", unfollowed := true, recurses := true, apart := false, narrowed := true }
def ExpertOthersUptoSaid : Prop := expertOthersUptoRow.holds Try.pinned (OpenSpec.upto expertOthersSpec)

/-- 'aviarylaw16.ExpertNought', WHERE WHAT IT READS IS OF BULK AT MOST 1048576: true; the input reads as it did. -/
def expertNoughtUptoRow : OpenClaim := { program := "ytlpeijaeiioimaa", sum := "62be59ab14acf2b05adeb95e97c8771750a90c5fe25b315c9a353eae8f6162ed", func := "aviary/aviarylaw16.ExpertNought", spec := "expertNought", unfollowed := true, recurses := true, apart := false, narrowed := true }
def ExpertNoughtUptoSaid : Prop := expertNoughtUptoRow.holds Try.pinned (OpenSpec.upto expertNoughtSpec)

/-- 'aviarylaw17.ModelFewer', WHERE WHAT IT READS IS OF BULK AT MOST 1048576: true; the input reads as it did. -/
def modelFewerUptoRow : OpenClaim := { program := "ytlpeijaeiioimaa", sum := "62be59ab14acf2b05adeb95e97c8771750a90c5fe25b315c9a353eae8f6162ed", func := "aviary/aviarylaw17.ModelFewer", spec := "modelFewer", unfollowed := true, recurses := true, apart := false, narrowed := true }
def ModelFewerUptoSaid : Prop := modelFewerUptoRow.holds Try.pinned (OpenSpec.upto modelFewerSpec)

/-- 'aviarylaw17.ModelWindow', WHERE WHAT IT READS IS OF BULK AT MOST 1048576: true; the input reads as it did. -/
def modelWindowUptoRow : OpenClaim := { program := "ytlpeijaeiioimaa", sum := "62be59ab14acf2b05adeb95e97c8771750a90c5fe25b315c9a353eae8f6162ed", func := "aviary/aviarylaw17.ModelWindow", spec := "modelWindow", unfollowed := true, recurses := true, apart := false, narrowed := true }
def ModelWindowUptoSaid : Prop := modelWindowUptoRow.holds Try.pinned (OpenSpec.upto modelWindowSpec)

/-- 'aviarylaw17.ModelNothing', WHERE WHAT IT READS IS OF BULK AT MOST 1048576: true; the input reads as it did. -/
def modelNothingUptoRow : OpenClaim := { program := "ytlpeijaeiioimaa", sum := "62be59ab14acf2b05adeb95e97c8771750a90c5fe25b315c9a353eae8f6162ed", func := "aviary/aviarylaw17.ModelNothing", spec := "modelNothing", unfollowed := true, recurses := true, apart := false, narrowed := true }
def ModelNothingUptoSaid : Prop := modelNothingUptoRow.holds Try.pinned (OpenSpec.upto modelNothingSpec)

/-- 'aviarylaw17.ModelSizes', WHERE WHAT IT READS IS OF BULK AT MOST 1048576: true; the input reads as it did. -/
def modelSizesUptoRow : OpenClaim := { program := "ytlpeijaeiioimaa", sum := "62be59ab14acf2b05adeb95e97c8771750a90c5fe25b315c9a353eae8f6162ed", func := "aviary/aviarylaw17.ModelSizes", spec := "modelSizes", unfollowed := true, recurses := true, apart := false, narrowed := true }
def ModelSizesUptoSaid : Prop := modelSizesUptoRow.holds Try.pinned (OpenSpec.upto modelSizesSpec)

end Rows
end Go.Proofs.Ytlpeijaeiioimaa
