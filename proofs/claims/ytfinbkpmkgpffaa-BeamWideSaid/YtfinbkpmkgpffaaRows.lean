/-
  No cell of these rows narrows 'for every input' (looked for: loops, veiled, ifaces, maps, wideKeys, modest, calm, conditions, laid).
  DERIVED. THE GIVEN ROWS OF THIS SEAT. 13 by the template 'for every input the law returns true; each argument reads behind the call as it read before'; 0 by the template 'total and deterministic' (their statements: YtfinbkpmkgpffaaTotals.lean).
  GIVEN WITH THE SEED: the statements are not yours to turn. If you find one false, say at which input.
  Laid BY PROGRAM, IN A SANDBOX (cutbox-rows.mjs): the forced cells as the released guide's own fill.sh prints them over the translation 95d5c362da6d91c4… (all of the seat's roots in one cut). By AI agents, Wed Nov 11 2026. No macro, syntax, notation, axiom, sorry.
-/
import Derived.Test.YtfinbkpmkgpffaaChecked
import GoSem.Claim
import GoSem.ClaimJoined
import GoSem.ClaimMapViews
import Derived.JoinedTies
import Derived.KernelRfl
namespace Go.Proofs.Ytfinbkpmkgpffaa
/- THE CELL 'sum', in the pinned program and in every row, IS THE sha256 OF THE DUMP (.gsa) THAT YtfinbkpmkgpffaaProg.lean LOADS. Nothing in Lean hashes anything: it is a label: what it is worth is what the hold of that sum in a sandbox is worth. -/
noncomputable def Try.pinned : Pinned := { name := "ytfinbkpmkgpffaa", sum := "95d5c362da6d91c485add2a3d39d526e4fcd644667cb3b738089d3a2ae236fb4", checked := Try.checked }
namespace Rows
def none {H : Type} : Left H := { results := [], args := [] }

/-- 'aviarylaw18.DrawBits': WHATEVER THE INPUT: true; the input reads as it did. -/
def drawBitsSpec : ChangeSpec := { name := "drawBits", fn := fun _ => fun
  | [d1, d2, d3] => { results := [.lit (.bool true)], args := [d1, d2, d3] }
  | _ => none }
def drawBitsRow : OpenClaim := { program := "ytfinbkpmkgpffaa", sum := "95d5c362da6d91c485add2a3d39d526e4fcd644667cb3b738089d3a2ae236fb4", func := "aviary/aviarylaw18.DrawBits", spec := "drawBits", inPlace := ["math.Float64bits", "math.Float64frombits", "math.RoundToEven"], apart := false }
def DrawBitsSaid : Prop := drawBitsRow.holds Try.pinned (OpenSpec.ofChange drawBitsSpec)

/-- ITS FALSE NEIGHBOUR: 'it returns false'. Refute it at one input. -/
def drawBitsWrong : ChangeSpec := { name := "drawBits", fn := fun _ => fun
  | [d1, d2, d3] => { results := [.lit (.bool false)], args := [d1, d2, d3] }
  | _ => none }
def DrawBitsWrongFalsely : Prop := drawBitsRow.holds Try.pinned (OpenSpec.ofChange drawBitsWrong)

/-- 'aviarylaw07.PickTells': WHATEVER THE INPUT: true; the input reads as it did. -/
def pickTellsSpec : ChangeSpec := { name := "pickTells", fn := fun _ => fun
  | [d1, d2, d3] => { results := [.lit (.bool true)], args := [d1, d2, d3] }
  | _ => none }
def pickTellsRow : OpenClaim := { program := "ytfinbkpmkgpffaa", sum := "95d5c362da6d91c485add2a3d39d526e4fcd644667cb3b738089d3a2ae236fb4", func := "aviary/aviarylaw07.PickTells", spec := "pickTells", unfollowed := true, recurses := true, apart := false }
def PickTellsSaid : Prop := pickTellsRow.holds Try.pinned (OpenSpec.ofChange pickTellsSpec)

/-- ITS FALSE NEIGHBOUR: 'it returns false'. Refute it at one input. -/
def pickTellsWrong : ChangeSpec := { name := "pickTells", fn := fun _ => fun
  | [d1, d2, d3] => { results := [.lit (.bool false)], args := [d1, d2, d3] }
  | _ => none }
def PickTellsWrongFalsely : Prop := pickTellsRow.holds Try.pinned (OpenSpec.ofChange pickTellsWrong)

/-- 'aviarylaw07.PickAll': WHATEVER THE INPUT: true; the input reads as it did. -/
def pickAllSpec : ChangeSpec := { name := "pickAll", fn := fun _ => fun
  | [d] => { results := [.lit (.bool true)], args := [d] }
  | _ => none }
def pickAllRow : OpenClaim := { program := "ytfinbkpmkgpffaa", sum := "95d5c362da6d91c485add2a3d39d526e4fcd644667cb3b738089d3a2ae236fb4", func := "aviary/aviarylaw07.PickAll", spec := "pickAll", unfollowed := true, recurses := true, apart := false }
def PickAllSaid : Prop := pickAllRow.holds Try.pinned (OpenSpec.ofChange pickAllSpec)

/-- ITS FALSE NEIGHBOUR: 'it returns false'. Refute it at one input. -/
def pickAllWrong : ChangeSpec := { name := "pickAll", fn := fun _ => fun
  | [d] => { results := [.lit (.bool false)], args := [d] }
  | _ => none }
def PickAllWrongFalsely : Prop := pickAllRow.holds Try.pinned (OpenSpec.ofChange pickAllWrong)

/-- 'aviarylaw07.PickFewer': WHATEVER THE INPUT: true; the input reads as it did. -/
def pickFewerSpec : ChangeSpec := { name := "pickFewer", fn := fun _ => fun
  | [d1, d2, d3] => { results := [.lit (.bool true)], args := [d1, d2, d3] }
  | _ => none }
def pickFewerRow : OpenClaim := { program := "ytfinbkpmkgpffaa", sum := "95d5c362da6d91c485add2a3d39d526e4fcd644667cb3b738089d3a2ae236fb4", func := "aviary/aviarylaw07.PickFewer", spec := "pickFewer", unfollowed := true, recurses := true, apart := false }
def PickFewerSaid : Prop := pickFewerRow.holds Try.pinned (OpenSpec.ofChange pickFewerSpec)

/-- ITS FALSE NEIGHBOUR: 'it returns false'. Refute it at one input. -/
def pickFewerWrong : ChangeSpec := { name := "pickFewer", fn := fun _ => fun
  | [d1, d2, d3] => { results := [.lit (.bool false)], args := [d1, d2, d3] }
  | _ => none }
def PickFewerWrongFalsely : Prop := pickFewerRow.holds Try.pinned (OpenSpec.ofChange pickFewerWrong)

/-- 'aviarylaw07.PickMoved': WHATEVER THE INPUT: true; the input reads as it did. -/
def pickMovedSpec : ChangeSpec := { name := "pickMoved", fn := fun _ => fun
  | [d1, d2] => { results := [.lit (.bool true)], args := [d1, d2] }
  | _ => none }
def pickMovedRow : OpenClaim := { program := "ytfinbkpmkgpffaa", sum := "95d5c362da6d91c485add2a3d39d526e4fcd644667cb3b738089d3a2ae236fb4", func := "aviary/aviarylaw07.PickMoved", spec := "pickMoved", unfollowed := true, recurses := true, apart := false }
def PickMovedSaid : Prop := pickMovedRow.holds Try.pinned (OpenSpec.ofChange pickMovedSpec)

/-- ITS FALSE NEIGHBOUR: 'it returns false'. Refute it at one input. -/
def pickMovedWrong : ChangeSpec := { name := "pickMoved", fn := fun _ => fun
  | [d1, d2] => { results := [.lit (.bool false)], args := [d1, d2] }
  | _ => none }
def PickMovedWrongFalsely : Prop := pickMovedRow.holds Try.pinned (OpenSpec.ofChange pickMovedWrong)

/-- 'aviarylaw19.BeamGrows': WHATEVER THE INPUT: true; the input reads as it did. -/
def beamGrowsSpec : ChangeSpec := { name := "beamGrows", fn := fun _ => fun
  | [d] => { results := [.lit (.bool true)], args := [d] }
  | _ => none }
def beamGrowsRow : OpenClaim := { program := "ytfinbkpmkgpffaa", sum := "95d5c362da6d91c485add2a3d39d526e4fcd644667cb3b738089d3a2ae236fb4", func := "aviary/aviarylaw19.BeamGrows", spec := "beamGrows", unfollowed := true, recurses := true, apart := false }
def BeamGrowsSaid : Prop := beamGrowsRow.holds Try.pinned (OpenSpec.ofChange beamGrowsSpec)

/-- ITS FALSE NEIGHBOUR: 'it returns false'. Refute it at one input. -/
def beamGrowsWrong : ChangeSpec := { name := "beamGrows", fn := fun _ => fun
  | [d] => { results := [.lit (.bool false)], args := [d] }
  | _ => none }
def BeamGrowsWrongFalsely : Prop := beamGrowsRow.holds Try.pinned (OpenSpec.ofChange beamGrowsWrong)

/-- 'aviarylaw19.BeamOrder': WHATEVER THE INPUT: true; the input reads as it did. -/
def beamOrderSpec : ChangeSpec := { name := "beamOrder", fn := fun _ => fun
  | [d] => { results := [.lit (.bool true)], args := [d] }
  | _ => none }
def beamOrderRow : OpenClaim := { program := "ytfinbkpmkgpffaa", sum := "95d5c362da6d91c485add2a3d39d526e4fcd644667cb3b738089d3a2ae236fb4", func := "aviary/aviarylaw19.BeamOrder", spec := "beamOrder", unfollowed := true, recurses := true, apart := false }
def BeamOrderSaid : Prop := beamOrderRow.holds Try.pinned (OpenSpec.ofChange beamOrderSpec)

/-- ITS FALSE NEIGHBOUR: 'it returns false'. Refute it at one input. -/
def beamOrderWrong : ChangeSpec := { name := "beamOrder", fn := fun _ => fun
  | [d] => { results := [.lit (.bool false)], args := [d] }
  | _ => none }
def BeamOrderWrongFalsely : Prop := beamOrderRow.holds Try.pinned (OpenSpec.ofChange beamOrderWrong)

/-- 'aviarylaw19.BeamWide': WHATEVER THE INPUT: true; the input reads as it did. -/
def beamWideSpec : ChangeSpec := { name := "beamWide", fn := fun _ => fun
  | [d] => { results := [.lit (.bool true)], args := [d] }
  | _ => none }
def beamWideRow : OpenClaim := { program := "ytfinbkpmkgpffaa", sum := "95d5c362da6d91c485add2a3d39d526e4fcd644667cb3b738089d3a2ae236fb4", func := "aviary/aviarylaw19.BeamWide", spec := "beamWide", unfollowed := true, recurses := true, apart := false }
def BeamWideSaid : Prop := beamWideRow.holds Try.pinned (OpenSpec.ofChange beamWideSpec)

/-- ITS FALSE NEIGHBOUR: 'it returns false'. Refute it at one input. -/
def beamWideWrong : ChangeSpec := { name := "beamWide", fn := fun _ => fun
  | [d] => { results := [.lit (.bool false)], args := [d] }
  | _ => none }
def BeamWideWrongFalsely : Prop := beamWideRow.holds Try.pinned (OpenSpec.ofChange beamWideWrong)

/-- 'aviarylaw19.BeamLong': WHATEVER THE INPUT: true; the input reads as it did. -/
def beamLongSpec : ChangeSpec := { name := "beamLong", fn := fun _ => fun
  | [d1, d2, d3, d4] => { results := [.lit (.bool true)], args := [d1, d2, d3, d4] }
  | _ => none }
def beamLongRow : OpenClaim := { program := "ytfinbkpmkgpffaa", sum := "95d5c362da6d91c485add2a3d39d526e4fcd644667cb3b738089d3a2ae236fb4", func := "aviary/aviarylaw19.BeamLong", spec := "beamLong", unfollowed := true, recurses := true, apart := false }
def BeamLongSaid : Prop := beamLongRow.holds Try.pinned (OpenSpec.ofChange beamLongSpec)

/-- ITS FALSE NEIGHBOUR: 'it returns false'. Refute it at one input. -/
def beamLongWrong : ChangeSpec := { name := "beamLong", fn := fun _ => fun
  | [d1, d2, d3, d4] => { results := [.lit (.bool false)], args := [d1, d2, d3, d4] }
  | _ => none }
def BeamLongWrongFalsely : Prop := beamLongRow.holds Try.pinned (OpenSpec.ofChange beamLongWrong)

/-- 'aviarylaw18.DrawChooses': WHATEVER THE INPUT: true; the input reads as it did. -/
def drawChoosesSpec : ChangeSpec := { name := "drawChooses", fn := fun _ => fun
  | [d1, d2, d3, d4] => { results := [.lit (.bool true)], args := [d1, d2, d3, d4] }
  | _ => none }
def drawChoosesRow : OpenClaim := { program := "ytfinbkpmkgpffaa", sum := "95d5c362da6d91c485add2a3d39d526e4fcd644667cb3b738089d3a2ae236fb4", func := "aviary/aviarylaw18.DrawChooses", spec := "drawChooses", unfollowed := true, recurses := true, apart := false }
def DrawChoosesSaid : Prop := drawChoosesRow.holds Try.pinned (OpenSpec.ofChange drawChoosesSpec)

/-- ITS FALSE NEIGHBOUR: 'it returns false'. Refute it at one input. -/
def drawChoosesWrong : ChangeSpec := { name := "drawChooses", fn := fun _ => fun
  | [d1, d2, d3, d4] => { results := [.lit (.bool false)], args := [d1, d2, d3, d4] }
  | _ => none }
def DrawChoosesWrongFalsely : Prop := drawChoosesRow.holds Try.pinned (OpenSpec.ofChange drawChoosesWrong)

/-- 'aviarylaw18.DrawBest': WHATEVER THE INPUT: true; the input reads as it did. -/
def drawBestSpec : ChangeSpec := { name := "drawBest", fn := fun _ => fun
  | [d1, d2, d3, d4] => { results := [.lit (.bool true)], args := [d1, d2, d3, d4] }
  | _ => none }
def drawBestRow : OpenClaim := { program := "ytfinbkpmkgpffaa", sum := "95d5c362da6d91c485add2a3d39d526e4fcd644667cb3b738089d3a2ae236fb4", func := "aviary/aviarylaw18.DrawBest", spec := "drawBest", inPlace := ["math.Float64frombits", "math.Float64bits", "math.RoundToEven"], unfollowed := true, recurses := true, apart := false }
def DrawBestSaid : Prop := drawBestRow.holds Try.pinned (OpenSpec.ofChange drawBestSpec)

/-- ITS FALSE NEIGHBOUR: 'it returns false'. Refute it at one input. -/
def drawBestWrong : ChangeSpec := { name := "drawBest", fn := fun _ => fun
  | [d1, d2, d3, d4] => { results := [.lit (.bool false)], args := [d1, d2, d3, d4] }
  | _ => none }
def DrawBestWrongFalsely : Prop := drawBestRow.holds Try.pinned (OpenSpec.ofChange drawBestWrong)

/-- 'aviarylaw18.DrawShares': WHATEVER THE INPUT: true; the input reads as it did. -/
def drawSharesSpec : ChangeSpec := { name := "drawShares", fn := fun _ => fun
  | [d1, d2, d3] => { results := [.lit (.bool true)], args := [d1, d2, d3] }
  | _ => none }
def drawSharesRow : OpenClaim := { program := "ytfinbkpmkgpffaa", sum := "95d5c362da6d91c485add2a3d39d526e4fcd644667cb3b738089d3a2ae236fb4", func := "aviary/aviarylaw18.DrawShares", spec := "drawShares", inPlace := ["math.Float64frombits", "math.Float64bits", "math.RoundToEven"], unfollowed := true, recurses := true, apart := false }
def DrawSharesSaid : Prop := drawSharesRow.holds Try.pinned (OpenSpec.ofChange drawSharesSpec)

/-- ITS FALSE NEIGHBOUR: 'it returns false'. Refute it at one input. -/
def drawSharesWrong : ChangeSpec := { name := "drawShares", fn := fun _ => fun
  | [d1, d2, d3] => { results := [.lit (.bool false)], args := [d1, d2, d3] }
  | _ => none }
def DrawSharesWrongFalsely : Prop := drawSharesRow.holds Try.pinned (OpenSpec.ofChange drawSharesWrong)

/-- 'aviarylaw18.DrawApart': WHATEVER THE INPUT: true; the input reads as it did. -/
def drawApartSpec : ChangeSpec := { name := "drawApart", fn := fun _ => fun
  | [d1, d2, d3, d4] => { results := [.lit (.bool true)], args := [d1, d2, d3, d4] }
  | _ => none }
def drawApartRow : OpenClaim := { program := "ytfinbkpmkgpffaa", sum := "95d5c362da6d91c485add2a3d39d526e4fcd644667cb3b738089d3a2ae236fb4", func := "aviary/aviarylaw18.DrawApart", spec := "drawApart", inPlace := ["math.Float64frombits", "math.Float64bits", "math.RoundToEven"], unfollowed := true, recurses := true, apart := false }
def DrawApartSaid : Prop := drawApartRow.holds Try.pinned (OpenSpec.ofChange drawApartSpec)

/-- ITS FALSE NEIGHBOUR: 'it returns false'. Refute it at one input. -/
def drawApartWrong : ChangeSpec := { name := "drawApart", fn := fun _ => fun
  | [d1, d2, d3, d4] => { results := [.lit (.bool false)], args := [d1, d2, d3, d4] }
  | _ => none }
def DrawApartWrongFalsely : Prop := drawApartRow.holds Try.pinned (OpenSpec.ofChange drawApartWrong)

/- THE SECOND FORM. 'bulk': how many values and letters a reading holds, each counted each time it is reached (what is shared counts as often as it is met; a slice's spare places count too). A statement '..UptoSaid' is the law's where the arguments, and the package variables that the reading takes, are together of bulk at most 1048576: NARROWER than '..Said'. Prove '..Said' where nothing that the law and all that it calls make is longer than what came in: it says more and counts as full. Else prove '..UptoSaid'. A law counts once. -/
mutual
def uptoBulk {H : Type} : DataW H → Nat
  | .lit (.string bytes) => bytes.length + 1
  | .lit _ => 1
  | .nil => 1
  | .ptr d => uptoBulk d + 1
  | .slice elems spare => uptoBulkAll elems + uptoBulkAll spare + 1
  | .agg parts => uptoBulkAll parts + 1
  | .iface _ d => uptoBulk d + 1
  | .map entries => uptoBulkEntries entries + 1
  | .held _ => 1
def uptoBulkAll {H : Type} : List (DataW H) → Nat
  | [] => 0
  | d :: r => uptoBulk d + uptoBulkAll r
def uptoBulkEntries {H : Type} : List (Lit × DataW H) → Nat
  | [] => 0
  | x :: r => uptoBulkEntry x + uptoBulkEntries r
def uptoBulkEntry {H : Type} : Lit × DataW H → Nat
  | (.string bytes, d) => bytes.length + uptoBulk d + 1
  | (_, d) => uptoBulk d + 1
 end
def uptoSmall : (H : Type) → List (DataW H) → Bool := fun _ ds => decide (uptoBulkAll ds ≤ 1048576)
def OpenSpec.upto (s : _root_.Go.ChangeSpec) : _root_.Go.OpenSpec := { _root_.Go.OpenSpec.ofChange s with cond := some uptoSmall }

/-- 'aviarylaw18.DrawBits', WHERE WHAT IT READS IS OF BULK AT MOST 1048576: true; the input reads as it did. -/
def drawBitsUptoRow : OpenClaim := { program := "ytfinbkpmkgpffaa", sum := "95d5c362da6d91c485add2a3d39d526e4fcd644667cb3b738089d3a2ae236fb4", func := "aviary/aviarylaw18.DrawBits", spec := "drawBits", inPlace := ["math.Float64bits", "math.Float64frombits", "math.RoundToEven"], apart := false, narrowed := true }
def DrawBitsUptoSaid : Prop := drawBitsUptoRow.holds Try.pinned (OpenSpec.upto drawBitsSpec)

/-- 'aviarylaw07.PickTells', WHERE WHAT IT READS IS OF BULK AT MOST 1048576: true; the input reads as it did. -/
def pickTellsUptoRow : OpenClaim := { program := "ytfinbkpmkgpffaa", sum := "95d5c362da6d91c485add2a3d39d526e4fcd644667cb3b738089d3a2ae236fb4", func := "aviary/aviarylaw07.PickTells", spec := "pickTells", unfollowed := true, recurses := true, apart := false, narrowed := true }
def PickTellsUptoSaid : Prop := pickTellsUptoRow.holds Try.pinned (OpenSpec.upto pickTellsSpec)

/-- 'aviarylaw07.PickAll', WHERE WHAT IT READS IS OF BULK AT MOST 1048576: true; the input reads as it did. -/
def pickAllUptoRow : OpenClaim := { program := "ytfinbkpmkgpffaa", sum := "95d5c362da6d91c485add2a3d39d526e4fcd644667cb3b738089d3a2ae236fb4", func := "aviary/aviarylaw07.PickAll", spec := "pickAll", unfollowed := true, recurses := true, apart := false, narrowed := true }
def PickAllUptoSaid : Prop := pickAllUptoRow.holds Try.pinned (OpenSpec.upto pickAllSpec)

/-- 'aviarylaw07.PickFewer', WHERE WHAT IT READS IS OF BULK AT MOST 1048576: true; the input reads as it did. -/
def pickFewerUptoRow : OpenClaim := { program := "ytfinbkpmkgpffaa", sum := "95d5c362da6d91c485add2a3d39d526e4fcd644667cb3b738089d3a2ae236fb4", func := "aviary/aviarylaw07.PickFewer", spec := "pickFewer", unfollowed := true, recurses := true, apart := false, narrowed := true }
def PickFewerUptoSaid : Prop := pickFewerUptoRow.holds Try.pinned (OpenSpec.upto pickFewerSpec)

/-- 'aviarylaw07.PickMoved', WHERE WHAT IT READS IS OF BULK AT MOST 1048576: true; the input reads as it did. -/
def pickMovedUptoRow : OpenClaim := { program := "ytfinbkpmkgpffaa", sum := "95d5c362da6d91c485add2a3d39d526e4fcd644667cb3b738089d3a2ae236fb4", func := "aviary/aviarylaw07.PickMoved", spec := "pickMoved", unfollowed := true, recurses := true, apart := false, narrowed := true }
def PickMovedUptoSaid : Prop := pickMovedUptoRow.holds Try.pinned (OpenSpec.upto pickMovedSpec)

/-- 'aviarylaw19.BeamGrows', WHERE WHAT IT READS IS OF BULK AT MOST 1048576: true; the input reads as it did. -/
def beamGrowsUptoRow : OpenClaim := { program := "ytfinbkpmkgpffaa", sum := "95d5c362da6d91c485add2a3d39d526e4fcd644667cb3b738089d3a2ae236fb4", func := "aviary/aviarylaw19.BeamGrows", spec := "beamGrows", unfollowed := true, recurses := true, apart := false, narrowed := true }
def BeamGrowsUptoSaid : Prop := beamGrowsUptoRow.holds Try.pinned (OpenSpec.upto beamGrowsSpec)

/-- 'aviarylaw19.BeamOrder', WHERE WHAT IT READS IS OF BULK AT MOST 1048576: true; the input reads as it did. -/
def beamOrderUptoRow : OpenClaim := { program := "ytfinbkpmkgpffaa", sum := "95d5c362da6d91c485add2a3d39d526e4fcd644667cb3b738089d3a2ae236fb4", func := "aviary/aviarylaw19.BeamOrder", spec := "beamOrder", unfollowed := true, recurses := true, apart := false, narrowed := true }
def BeamOrderUptoSaid : Prop := beamOrderUptoRow.holds Try.pinned (OpenSpec.upto beamOrderSpec)

/-- 'aviarylaw19.BeamWide', WHERE WHAT IT READS IS OF BULK AT MOST 1048576: true; the input reads as it did. -/
def beamWideUptoRow : OpenClaim := { program := "ytfinbkpmkgpffaa", sum := "95d5c362da6d91c485add2a3d39d526e4fcd644667cb3b738089d3a2ae236fb4", func := "aviary/aviarylaw19.BeamWide", spec := "beamWide", unfollowed := true, recurses := true, apart := false, narrowed := true }
def BeamWideUptoSaid : Prop := beamWideUptoRow.holds Try.pinned (OpenSpec.upto beamWideSpec)

/-- 'aviarylaw19.BeamLong', WHERE WHAT IT READS IS OF BULK AT MOST 1048576: true; the input reads as it did. -/
def beamLongUptoRow : OpenClaim := { program := "ytfinbkpmkgpffaa", sum := "95d5c362da6d91c485add2a3d39d526e4fcd644667cb3b738089d3a2ae236fb4", func := "aviary/aviarylaw19.BeamLong", spec := "beamLong", unfollowed := true, recurses := true, apart := false, narrowed := true }
def BeamLongUptoSaid : Prop := beamLongUptoRow.holds Try.pinned (OpenSpec.upto beamLongSpec)

/-- 'aviarylaw18.DrawChooses', WHERE WHAT IT READS IS OF BULK AT MOST 1048576: true; the input reads as it did. -/
def drawChoosesUptoRow : OpenClaim := { program := "ytfinbkpmkgpffaa", sum := "95d5c362da6d91c485add2a3d39d526e4fcd644667cb3b738089d3a2ae236fb4", func := "aviary/aviarylaw18.DrawChooses", spec := "drawChooses", unfollowed := true, recurses := true, apart := false, narrowed := true }
def DrawChoosesUptoSaid : Prop := drawChoosesUptoRow.holds Try.pinned (OpenSpec.upto drawChoosesSpec)

/-- 'aviarylaw18.DrawBest', WHERE WHAT IT READS IS OF BULK AT MOST 1048576: true; the input reads as it did. -/
def drawBestUptoRow : OpenClaim := { program := "ytfinbkpmkgpffaa", sum := "95d5c362da6d91c485add2a3d39d526e4fcd644667cb3b738089d3a2ae236fb4", func := "aviary/aviarylaw18.DrawBest", spec := "drawBest", inPlace := ["math.Float64frombits", "math.Float64bits", "math.RoundToEven"], unfollowed := true, recurses := true, apart := false, narrowed := true }
def DrawBestUptoSaid : Prop := drawBestUptoRow.holds Try.pinned (OpenSpec.upto drawBestSpec)

/-- 'aviarylaw18.DrawShares', WHERE WHAT IT READS IS OF BULK AT MOST 1048576: true; the input reads as it did. -/
def drawSharesUptoRow : OpenClaim := { program := "ytfinbkpmkgpffaa", sum := "95d5c362da6d91c485add2a3d39d526e4fcd644667cb3b738089d3a2ae236fb4", func := "aviary/aviarylaw18.DrawShares", spec := "drawShares", inPlace := ["math.Float64frombits", "math.Float64bits", "math.RoundToEven"], unfollowed := true, recurses := true, apart := false, narrowed := true }
def DrawSharesUptoSaid : Prop := drawSharesUptoRow.holds Try.pinned (OpenSpec.upto drawSharesSpec)

/-- 'aviarylaw18.DrawApart', WHERE WHAT IT READS IS OF BULK AT MOST 1048576: true; the input reads as it did. -/
def drawApartUptoRow : OpenClaim := { program := "ytfinbkpmkgpffaa", sum := "95d5c362da6d91c485add2a3d39d526e4fcd644667cb3b738089d3a2ae236fb4", func := "aviary/aviarylaw18.DrawApart", spec := "drawApart", inPlace := ["math.Float64frombits", "math.Float64bits", "math.RoundToEven"], unfollowed := true, recurses := true, apart := false, narrowed := true }
def DrawApartUptoSaid : Prop := drawApartUptoRow.holds Try.pinned (OpenSpec.upto drawApartSpec)

end Rows
end Go.Proofs.Ytfinbkpmkgpffaa
