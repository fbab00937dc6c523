/- The best ones of a lesser width: the statement, of its argument. No condition. -/
import Derived.Test.YtfinbkpmkgpffaaBeamWideW
import Derived.Test.YtfinbkpmkgpffaaBeamArgs
namespace Go.Proofs.Ytfinbkpmkgpffaa
open Go.RowKit Go.ChangeShapes Go.WideShapes Go.ChangeAt

set_option maxRecDepth 100000 in
theorem beamWide_args {H : Type} {enc : TypeId × Value → H} {W : World} {base : Nat} {v0 : Value} {d0 : DataW H} {p0 : List MemPlace} {tv : List TypeId} {gs : List (DataW H)}
    (h0 : DataW.Trod enc Try.prog W 0 (fun _ => true) true 43 v0 d0 p0) (k0 : Value.okWide Try.prog W .any base 43 v0)
    (_hsz : (DataW.weightsEach Try.prog ([43] ++ tv) ([d0] ++ gs)).all (· ≤ reachBytes) = true) :
    Calls Try.prog 10 #[v0] W (TruePost W) := by
  obtain ⟨k, rfl, hk⟩ := caseB_open h0 k0 (sz_each (t := 43) (d := d0) (ts := tv) (ds := gs) _hsz).1
  exact beamWide_any hk
end Go.Proofs.Ytfinbkpmkgpffaa
