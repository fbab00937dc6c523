/-
  No cell of these rows narrows 'for every input' (looked for: loops, veiled, ifaces, maps, wideKeys, modest, calm, conditions, laid).
  DERIVED. THE GIVEN ROWS OF THIS SEAT. 11 by the template 'for every input the law returns true; each argument reads behind the call as it read before'; 0 by the template 'total and deterministic' (their statements: YtelmolblcnolnaaTotals.lean).
  GIVEN WITH THE SEED: the statements are not yours to turn. If you find one false, say at which input.
  Laid BY PROGRAM, IN A SANDBOX (cutbox-rows.mjs): the forced cells as the released guide's own fill.sh prints them over the translation 6e6730f84821b62e… (all of the seat's roots in one cut). By AI agents, Wed Nov 11 2026. No macro, syntax, notation, axiom, sorry.
-/
import Derived.Test.YtelmolblcnolnaaChecked
import GoSem.Claim
import GoSem.ClaimJoined
import GoSem.ClaimMapViews
import Derived.JoinedTies
import Derived.KernelRfl
namespace Go.Proofs.Ytelmolblcnolnaa
/- THE CELL 'sum', in the pinned program and in every row, IS THE sha256 OF THE DUMP (.gsa) THAT YtelmolblcnolnaaProg.lean LOADS. Nothing in Lean hashes anything: it is a label: what it is worth is what the hold of that sum in a sandbox is worth. -/
noncomputable def Try.pinned : Pinned := { name := "ytelmolblcnolnaa", sum := "6e6730f84821b62e9bf7174ac77e23ec34f432b887bee921408e8102f31b1cb1", checked := Try.checked }
namespace Rows
def none {H : Type} : Left H := { results := [], args := [] }

/-- 'aviarylaw11.PoolLeast': WHATEVER THE INPUT: true; the input reads as it did. -/
def poolLeastSpec : ChangeSpec := { name := "poolLeast", fn := fun _ => fun
  | [d1, d2] => { results := [.lit (.bool true)], args := [d1, d2] }
  | _ => none }
def poolLeastRow : OpenClaim := { program := "ytelmolblcnolnaa", sum := "6e6730f84821b62e9bf7174ac77e23ec34f432b887bee921408e8102f31b1cb1", func := "aviary/aviarylaw11.PoolLeast", spec := "poolLeast", apart := false }
def PoolLeastSaid : Prop := poolLeastRow.holds Try.pinned (OpenSpec.ofChange poolLeastSpec)

/-- ITS FALSE NEIGHBOUR: 'it returns false'. Refute it at one input. -/
def poolLeastWrong : ChangeSpec := { name := "poolLeast", fn := fun _ => fun
  | [d1, d2] => { results := [.lit (.bool false)], args := [d1, d2] }
  | _ => none }
def PoolLeastWrongFalsely : Prop := poolLeastRow.holds Try.pinned (OpenSpec.ofChange poolLeastWrong)

/-- 'aviarylaw11.PoolKeeps': WHATEVER THE INPUT: true; the input reads as it did. -/
def poolKeepsSpec : ChangeSpec := { name := "poolKeeps", fn := fun _ => fun
  | [d1, d2] => { results := [.lit (.bool true)], args := [d1, d2] }
  | _ => none }
def poolKeepsRow : OpenClaim := { program := "ytelmolblcnolnaa", sum := "6e6730f84821b62e9bf7174ac77e23ec34f432b887bee921408e8102f31b1cb1", func := "aviary/aviarylaw11.PoolKeeps", spec := "poolKeeps", apart := false }
def PoolKeepsSaid : Prop := poolKeepsRow.holds Try.pinned (OpenSpec.ofChange poolKeepsSpec)

/-- ITS FALSE NEIGHBOUR: 'it returns false'. Refute it at one input. -/
def poolKeepsWrong : ChangeSpec := { name := "poolKeeps", fn := fun _ => fun
  | [d1, d2] => { results := [.lit (.bool false)], args := [d1, d2] }
  | _ => none }
def PoolKeepsWrongFalsely : Prop := poolKeepsRow.holds Try.pinned (OpenSpec.ofChange poolKeepsWrong)

/-- 'aviarylaw11.PoolOwners': WHATEVER THE INPUT: true; the input reads as it did. -/
def poolOwnersSpec : ChangeSpec := { name := "poolOwners", fn := fun _ => fun
  | [d1, d2, d3] => { results := [.lit (.bool true)], args := [d1, d2, d3] }
  | _ => none }
def poolOwnersRow : OpenClaim := { program := "ytelmolblcnolnaa", sum := "6e6730f84821b62e9bf7174ac77e23ec34f432b887bee921408e8102f31b1cb1", func := "aviary/aviarylaw11.PoolOwners", spec := "poolOwners", apart := false }
def PoolOwnersSaid : Prop := poolOwnersRow.holds Try.pinned (OpenSpec.ofChange poolOwnersSpec)

/-- ITS FALSE NEIGHBOUR: 'it returns false'. Refute it at one input. -/
def poolOwnersWrong : ChangeSpec := { name := "poolOwners", fn := fun _ => fun
  | [d1, d2, d3] => { results := [.lit (.bool false)], args := [d1, d2, d3] }
  | _ => none }
def PoolOwnersWrongFalsely : Prop := poolOwnersRow.holds Try.pinned (OpenSpec.ofChange poolOwnersWrong)

/-- 'aviarylaw11.PoolDoes': WHATEVER THE INPUT: true; the input reads as it did. -/
def poolDoesSpec : ChangeSpec := { name := "poolDoes", fn := fun _ => fun
  | [d1, d2] => { results := [.lit (.bool true)], args := [d1, d2] }
  | _ => none }
def poolDoesRow : OpenClaim := { program := "ytelmolblcnolnaa", sum := "6e6730f84821b62e9bf7174ac77e23ec34f432b887bee921408e8102f31b1cb1", func := "aviary/aviarylaw11.PoolDoes", spec := "poolDoes", apart := false }
def PoolDoesSaid : Prop := poolDoesRow.holds Try.pinned (OpenSpec.ofChange poolDoesSpec)

/-- ITS FALSE NEIGHBOUR: 'it returns false'. Refute it at one input. -/
def poolDoesWrong : ChangeSpec := { name := "poolDoes", fn := fun _ => fun
  | [d1, d2] => { results := [.lit (.bool false)], args := [d1, d2] }
  | _ => none }
def PoolDoesWrongFalsely : Prop := poolDoesRow.holds Try.pinned (OpenSpec.ofChange poolDoesWrong)

/-- 'aviarylaw12.PagedBack': WHATEVER THE INPUT: true; the input reads as it did. -/
def pagedBackSpec : ChangeSpec := { name := "pagedBack", fn := fun _ => fun
  | [d1, d2] => { results := [.lit (.bool true)], args := [d1, d2] }
  | _ => none }
def pagedBackRow : OpenClaim := { program := "ytelmolblcnolnaa", sum := "6e6730f84821b62e9bf7174ac77e23ec34f432b887bee921408e8102f31b1cb1", func := "aviary/aviarylaw12.PagedBack", spec := "pagedBack", unfollowed := true, recurses := true, apart := false }
def PagedBackSaid : Prop := pagedBackRow.holds Try.pinned (OpenSpec.ofChange pagedBackSpec)

/-- ITS FALSE NEIGHBOUR: 'it returns false'. Refute it at one input. -/
def pagedBackWrong : ChangeSpec := { name := "pagedBack", fn := fun _ => fun
  | [d1, d2] => { results := [.lit (.bool false)], args := [d1, d2] }
  | _ => none }
def PagedBackWrongFalsely : Prop := pagedBackRow.holds Try.pinned (OpenSpec.ofChange pagedBackWrong)

/-- 'aviarylaw12.PagedDoes': WHATEVER THE INPUT: true; the input reads as it did. -/
def pagedDoesSpec : ChangeSpec := { name := "pagedDoes", fn := fun _ => fun
  | [d1, d2] => { results := [.lit (.bool true)], args := [d1, d2] }
  | _ => none }
def pagedDoesRow : OpenClaim := { program := "ytelmolblcnolnaa", sum := "6e6730f84821b62e9bf7174ac77e23ec34f432b887bee921408e8102f31b1cb1", func := "aviary/aviarylaw12.PagedDoes", spec := "pagedDoes", unfollowed := true, recurses := true, apart := false }
def PagedDoesSaid : Prop := pagedDoesRow.holds Try.pinned (OpenSpec.ofChange pagedDoesSpec)

/-- ITS FALSE NEIGHBOUR: 'it returns false'. Refute it at one input. -/
def pagedDoesWrong : ChangeSpec := { name := "pagedDoes", fn := fun _ => fun
  | [d1, d2] => { results := [.lit (.bool false)], args := [d1, d2] }
  | _ => none }
def PagedDoesWrongFalsely : Prop := pagedDoesRow.holds Try.pinned (OpenSpec.ofChange pagedDoesWrong)

/-- 'aviarylaw12.PagedShared': WHATEVER THE INPUT: true; the input reads as it did. -/
def pagedSharedSpec : ChangeSpec := { name := "pagedShared", fn := fun _ => fun
  | [d] => { results := [.lit (.bool true)], args := [d] }
  | _ => none }
def pagedSharedRow : OpenClaim := { program := "ytelmolblcnolnaa", sum := "6e6730f84821b62e9bf7174ac77e23ec34f432b887bee921408e8102f31b1cb1", func := "aviary/aviarylaw12.PagedShared", spec := "pagedShared", unfollowed := true, recurses := true, apart := false }
def PagedSharedSaid : Prop := pagedSharedRow.holds Try.pinned (OpenSpec.ofChange pagedSharedSpec)

/-- ITS FALSE NEIGHBOUR: 'it returns false'. Refute it at one input. -/
def pagedSharedWrong : ChangeSpec := { name := "pagedShared", fn := fun _ => fun
  | [d] => { results := [.lit (.bool false)], args := [d] }
  | _ => none }
def PagedSharedWrongFalsely : Prop := pagedSharedRow.holds Try.pinned (OpenSpec.ofChange pagedSharedWrong)

/-- 'aviarylaw14.ShelfOldest': WHATEVER THE INPUT: true; the input reads as it did. -/
def shelfOldestSpec : ChangeSpec := { name := "shelfOldest", fn := fun _ => fun
  | [d] => { results := [.lit (.bool true)], args := [d] }
  | _ => none }
def shelfOldestRow : OpenClaim := { program := "ytelmolblcnolnaa", sum := "6e6730f84821b62e9bf7174ac77e23ec34f432b887bee921408e8102f31b1cb1", func := "aviary/aviarylaw14.ShelfOldest", spec := "shelfOldest", unfollowed := true, recurses := true, apart := false }
def ShelfOldestSaid : Prop := shelfOldestRow.holds Try.pinned (OpenSpec.ofChange shelfOldestSpec)

/-- ITS FALSE NEIGHBOUR: 'it returns false'. Refute it at one input. -/
def shelfOldestWrong : ChangeSpec := { name := "shelfOldest", fn := fun _ => fun
  | [d] => { results := [.lit (.bool false)], args := [d] }
  | _ => none }
def ShelfOldestWrongFalsely : Prop := shelfOldestRow.holds Try.pinned (OpenSpec.ofChange shelfOldestWrong)

/-- 'aviarylaw14.ShelfYields': WHATEVER THE INPUT: true; the input reads as it did. -/
def shelfYieldsSpec : ChangeSpec := { name := "shelfYields", fn := fun _ => fun
  | [d1, d2] => { results := [.lit (.bool true)], args := [d1, d2] }
  | _ => none }
def shelfYieldsRow : OpenClaim := { program := "ytelmolblcnolnaa", sum := "6e6730f84821b62e9bf7174ac77e23ec34f432b887bee921408e8102f31b1cb1", func := "aviary/aviarylaw14.ShelfYields", spec := "shelfYields", unfollowed := true, recurses := true, apart := false }
def ShelfYieldsSaid : Prop := shelfYieldsRow.holds Try.pinned (OpenSpec.ofChange shelfYieldsSpec)

/-- ITS FALSE NEIGHBOUR: 'it returns false'. Refute it at one input. -/
def shelfYieldsWrong : ChangeSpec := { name := "shelfYields", fn := fun _ => fun
  | [d1, d2] => { results := [.lit (.bool false)], args := [d1, d2] }
  | _ => none }
def ShelfYieldsWrongFalsely : Prop := shelfYieldsRow.holds Try.pinned (OpenSpec.ofChange shelfYieldsWrong)

/-- 'aviarylaw14.ShelfHolds': WHATEVER THE INPUT: true; the input reads as it did. -/
def shelfHoldsSpec : ChangeSpec := { name := "shelfHolds", fn := fun _ => fun
  | [d1, d2] => { results := [.lit (.bool true)], args := [d1, d2] }
  | _ => none }
def shelfHoldsRow : OpenClaim := { program := "ytelmolblcnolnaa", sum := "6e6730f84821b62e9bf7174ac77e23ec34f432b887bee921408e8102f31b1cb1", func := "aviary/aviarylaw14.ShelfHolds", spec := "shelfHolds", unfollowed := true, recurses := true, apart := false }
def ShelfHoldsSaid : Prop := shelfHoldsRow.holds Try.pinned (OpenSpec.ofChange shelfHoldsSpec)

/-- ITS FALSE NEIGHBOUR: 'it returns false'. Refute it at one input. -/
def shelfHoldsWrong : ChangeSpec := { name := "shelfHolds", fn := fun _ => fun
  | [d1, d2] => { results := [.lit (.bool false)], args := [d1, d2] }
  | _ => none }
def ShelfHoldsWrongFalsely : Prop := shelfHoldsRow.holds Try.pinned (OpenSpec.ofChange shelfHoldsWrong)

/-- 'aviarylaw14.ShelfDoes': WHATEVER THE INPUT: true; the input reads as it did. -/
def shelfDoesSpec : ChangeSpec := { name := "shelfDoes", fn := fun _ => fun
  | [d1, d2] => { results := [.lit (.bool true)], args := [d1, d2] }
  | _ => none }
def shelfDoesRow : OpenClaim := { program := "ytelmolblcnolnaa", sum := "6e6730f84821b62e9bf7174ac77e23ec34f432b887bee921408e8102f31b1cb1", func := "aviary/aviarylaw14.ShelfDoes", spec := "shelfDoes", unfollowed := true, recurses := true, apart := false }
def ShelfDoesSaid : Prop := shelfDoesRow.holds Try.pinned (OpenSpec.ofChange shelfDoesSpec)

/-- ITS FALSE NEIGHBOUR: 'it returns false'. Refute it at one input. -/
def shelfDoesWrong : ChangeSpec := { name := "shelfDoes", fn := fun _ => fun
  | [d1, d2] => { results := [.lit (.bool false)], args := [d1, d2] }
  | _ => none }
def ShelfDoesWrongFalsely : Prop := shelfDoesRow.holds Try.pinned (OpenSpec.ofChange shelfDoesWrong)

/- THE SECOND FORM. 'bulk': how many values and letters a reading holds, each counted each time it is reached (what is shared counts as often as it is met; a slice's spare places count too). A statement '..UptoSaid' is the law's where the arguments, and the package variables that the reading takes, are together of bulk at most 1048576: NARROWER than '..Said'. Prove '..Said' where nothing that the law and all that it calls make is longer than what came in: it says more and counts as full. Else prove '..UptoSaid'. A law counts once. -/
mutual
def uptoBulk {H : Type} : DataW H → Nat
  | .lit (.string bytes) => bytes.length + 1
  | .lit _ => 1
  | .nil => 1
  | .ptr d => uptoBulk d + 1
  | .slice elems spare => uptoBulkAll elems + uptoBulkAll spare + 1
  | .agg parts => uptoBulkAll parts + 1
  | .iface _ d => uptoBulk d + 1
  | .map entries => uptoBulkEntries entries + 1
  | .held _ => 1
def uptoBulkAll {H : Type} : List (DataW H) → Nat
  | [] => 0
  | d :: r => uptoBulk d + uptoBulkAll r
def uptoBulkEntries {H : Type} : List (Lit × DataW H) → Nat
  | [] => 0
  | x :: r => uptoBulkEntry x + uptoBulkEntries r
def uptoBulkEntry {H : Type} : Lit × DataW H → Nat
  | (.string bytes, d) => bytes.length + uptoBulk d + 1
  | (_, d) => uptoBulk d + 1
 end
def uptoSmall : (H : Type) → List (DataW H) → Bool := fun _ ds => decide (uptoBulkAll ds ≤ 1048576)
def OpenSpec.upto (s : _root_.Go.ChangeSpec) : _root_.Go.OpenSpec := { _root_.Go.OpenSpec.ofChange s with cond := some uptoSmall }

/-- 'aviarylaw11.PoolLeast', WHERE WHAT IT READS IS OF BULK AT MOST 1048576: true; the input reads as it did. -/
def poolLeastUptoRow : OpenClaim := { program := "ytelmolblcnolnaa", sum := "6e6730f84821b62e9bf7174ac77e23ec34f432b887bee921408e8102f31b1cb1", func := "aviary/aviarylaw11.PoolLeast", spec := "poolLeast", apart := false, narrowed := true }
def PoolLeastUptoSaid : Prop := poolLeastUptoRow.holds Try.pinned (OpenSpec.upto poolLeastSpec)

/-- 'aviarylaw11.PoolKeeps', WHERE WHAT IT READS IS OF BULK AT MOST 1048576: true; the input reads as it did. -/
def poolKeepsUptoRow : OpenClaim := { program := "ytelmolblcnolnaa", sum := "6e6730f84821b62e9bf7174ac77e23ec34f432b887bee921408e8102f31b1cb1", func := "aviary/aviarylaw11.PoolKeeps", spec := "poolKeeps", apart := false, narrowed := true }
def PoolKeepsUptoSaid : Prop := poolKeepsUptoRow.holds Try.pinned (OpenSpec.upto poolKeepsSpec)

/-- 'aviarylaw11.PoolOwners', WHERE WHAT IT READS IS OF BULK AT MOST 1048576: true; the input reads as it did. -/
def poolOwnersUptoRow : OpenClaim := { program := "ytelmolblcnolnaa", sum := "6e6730f84821b62e9bf7174ac77e23ec34f432b887bee921408e8102f31b1cb1", func := "aviary/aviarylaw11.PoolOwners", spec := "poolOwners", apart := false, narrowed := true }
def PoolOwnersUptoSaid : Prop := poolOwnersUptoRow.holds Try.pinned (OpenSpec.upto poolOwnersSpec)

/-- 'aviarylaw11.PoolDoes', WHERE WHAT IT READS IS OF BULK AT MOST 1048576: true; the input reads as it did. -/
def poolDoesUptoRow : OpenClaim := { program := "ytelmolblcnolnaa", sum := "6e6730f84821b62e9bf7174ac77e23ec34f432b887bee921408e8102f31b1cb1", func := "aviary/aviarylaw11.PoolDoes", spec := "poolDoes", apart := false, narrowed := true }
def PoolDoesUptoSaid : Prop := poolDoesUptoRow.holds Try.pinned (OpenSpec.upto poolDoesSpec)

/-- 'aviarylaw12.PagedBack', WHERE WHAT IT READS IS OF BULK AT MOST 1048576: true; the input reads as it did. -/
def pagedBackUptoRow : OpenClaim := { program := "ytelmolblcnolnaa", sum := "6e6730f84821b62e9bf7174ac77e23ec34f432b887bee921408e8102f31b1cb1", func := "aviary/aviarylaw12.PagedBack", spec := "pagedBack", unfollowed := true, recurses := true, apart := false, narrowed := true }
def PagedBackUptoSaid : Prop := pagedBackUptoRow.holds Try.pinned (OpenSpec.upto pagedBackSpec)

/-- 'aviarylaw12.PagedDoes', WHERE WHAT IT READS IS OF BULK AT MOST 1048576: true; the input reads as it did. -/
def pagedDoesUptoRow : OpenClaim := { program := "ytelmolblcnolnaa", sum := "6e6730f84821b62e9bf7174ac77e23ec34f432b887bee921408e8102f31b1cb1", func := "aviary/aviarylaw12.PagedDoes", spec := "pagedDoes", unfollowed := true, recurses := true, apart := false, narrowed := true }
def PagedDoesUptoSaid : Prop := pagedDoesUptoRow.holds Try.pinned (OpenSpec.upto pagedDoesSpec)

/-- 'aviarylaw12.PagedShared', WHERE WHAT IT READS IS OF BULK AT MOST 1048576: true; the input reads as it did. -/
def pagedSharedUptoRow : OpenClaim := { program := "ytelmolblcnolnaa", sum := "6e6730f84821b62e9bf7174ac77e23ec34f432b887bee921408e8102f31b1cb1", func := "aviary/aviarylaw12.PagedShared", spec := "pagedShared", unfollowed := true, recurses := true, apart := false, narrowed := true }
def PagedSharedUptoSaid : Prop := pagedSharedUptoRow.holds Try.pinned (OpenSpec.upto pagedSharedSpec)

/-- 'aviarylaw14.ShelfOldest', WHERE WHAT IT READS IS OF BULK AT MOST 1048576: true; the input reads as it did. -/
def shelfOldestUptoRow : OpenClaim := { program := "ytelmolblcnolnaa", sum := "6e6730f84821b62e9bf7174ac77e23ec34f432b887bee921408e8102f31b1cb1", func := "aviary/aviarylaw14.ShelfOldest", spec := "shelfOldest", unfollowed := true, recurses := true, apart := false, narrowed := true }
def ShelfOldestUptoSaid : Prop := shelfOldestUptoRow.holds Try.pinned (OpenSpec.upto shelfOldestSpec)

/-- 'aviarylaw14.ShelfYields', WHERE WHAT IT READS IS OF BULK AT MOST 1048576: true; the input reads as it did. -/
def shelfYieldsUptoRow : OpenClaim := { program := "ytelmolblcnolnaa", sum := "6e6730f84821b62e9bf7174ac77e23ec34f432b887bee921408e8102f31b1cb1", func := "aviary/aviarylaw14.ShelfYields", spec := "shelfYields", unfollowed := true, recurses := true, apart := false, narrowed := true }
def ShelfYieldsUptoSaid : Prop := shelfYieldsUptoRow.holds Try.pinned (OpenSpec.upto shelfYieldsSpec)

/-- 'aviarylaw14.ShelfHolds', WHERE WHAT IT READS IS OF BULK AT MOST 1048576: true; the input reads as it did. -/
def shelfHoldsUptoRow : OpenClaim := { program := "ytelmolblcnolnaa", sum := "6e6730f84821b62e9bf7174ac77e23ec34f432b887bee921408e8102f31b1cb1", func := "aviary/aviarylaw14.ShelfHolds", spec := "shelfHolds", unfollowed := true, recurses := true, apart := false, narrowed := true }
def ShelfHoldsUptoSaid : Prop := shelfHoldsUptoRow.holds Try.pinned (OpenSpec.upto shelfHoldsSpec)

/-- 'aviarylaw14.ShelfDoes', WHERE WHAT IT READS IS OF BULK AT MOST 1048576: true; the input reads as it did. -/
def shelfDoesUptoRow : OpenClaim := { program := "ytelmolblcnolnaa", sum := "6e6730f84821b62e9bf7174ac77e23ec34f432b887bee921408e8102f31b1cb1", func := "aviary/aviarylaw14.ShelfDoes", spec := "shelfDoes", unfollowed := true, recurses := true, apart := false, narrowed := true }
def ShelfDoesUptoSaid : Prop := shelfDoesUptoRow.holds Try.pinned (OpenSpec.upto shelfDoesSpec)

end Rows
end Go.Proofs.Ytelmolblcnolnaa
