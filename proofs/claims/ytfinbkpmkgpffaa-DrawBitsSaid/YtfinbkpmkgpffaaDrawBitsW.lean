/- DrawBits walked: it returns true. No condition beyond the reading of the arguments. -/
import Derived.Test.YtfinbkpmkgpffaaRFixW
import Derived.Test.YtfinbkpmkgpffaaBitsW
import Derived.Test.YtfinbkpmkgpffaaLawRow
import Derived.Test.YtfinbkpmkgpffaaArgs
namespace Go.Proofs.Ytfinbkpmkgpffaa
open Go.RowKit Go.ChangeShapes Go.WideShapes Go.ChangeAt

def BitsQ (w : World) (b : Int) (e : Ending) (w' : World) : Prop := e = .returned (.int .u64 b) ∧ w = w'
def HeatQ (w : World) (a c : Int) (e : Ending) (w' : World) : Prop := e = .returned (.tuple #[.int .i64 a, .int .i64 c]) ∧ w = w'
set_option maxRecDepth 100000 in
set_option maxHeartbeats 1600000 in
theorem drawBits_walk (w : World) {s n : Int} {x : Nat} (hx : x < 18446744073709551616) :
    Calls Try.prog 3 #[.int .u64 s, .int .i64 n, .float .f64 x] w (TruePost w) := by
  have HA : ∀ w, Hid (Calls Try.prog 16 #[.float .f64 x] w (HeatQ w (max (fixN x) 0) (fixE x))) := heat_any (fix_any hx)
  have HB : ∀ w, Hid (Calls Try.prog 17 #[.float .f64 x] w (HeatQ w (max (fixN x) 0) (fixE x))) := rheat_any (rfix_any hx)
  have HC : ∀ w, Hid (Calls Try.prog 18 #[.int .u64 s, .int .i64 n] w (BitsQ w (bitsV s n))) := bits_any s n
  have HD : ∀ w, Hid (Calls Try.prog 19 #[.int .u64 s, .int .i64 n] w (BitsQ w (bitsV s n))) := rbits_any s n
  generalize bitsV s n = b at *
  generalize max (fixN x) 0 = a at *
  generalize fixE x = c at *
  go_enter Try.func3, Try.ntmps3
  go_wp2_with (first
    | ((go_at_call 16); (refine (HA _).out.mono ?_); (rintro e w1 ⟨rfl, rfl⟩))
    | ((go_at_call 17); (refine (HB _).out.mono ?_); (rintro e w1 ⟨rfl, rfl⟩))
    | ((go_at_call 18); (refine (HC _).out.mono ?_); (rintro e w1 ⟨rfl, rfl⟩))
    | ((go_at_call 19); (refine (HD _).out.mono ?_); (rintro e w1 ⟨rfl, rfl⟩)))
  go_ret
  exact ⟨rfl, Below.refl _ _⟩
set_option maxRecDepth 100000 in
theorem drawBits_args {H : Type} {enc : TypeId × Value → H} {W : World} {base : Nat} {v0 v1 v2 : Value} {d0 d1 d2 : DataW H} {p0 p1 p2 : List MemPlace} {tv : List TypeId} {gs : List (DataW H)}
    (h0 : DataW.Trod enc Try.prog W 0 (fun _ => true) true 22 v0 d0 p0) (k0 : Value.okWide Try.prog W .any base 22 v0) (h1 : DataW.Trod enc Try.prog W 0 (fun _ => true) true 3 v1 d1 p1) (k1 : Value.okWide Try.prog W .any base 3 v1)
    (h2 : DataW.Trod enc Try.prog W 0 (fun _ => true) true 23 v2 d2 p2) (k2 : Value.okWide Try.prog W .any base 23 v2)
    (_hsz : (DataW.weightsEach Try.prog ([22, 3, 23] ++ tv) ([d0, d1, d2] ++ gs)).all (· ≤ reachBytes) = true) :
    Calls Try.prog 3 #[v0, v1, v2] W (TruePost W) := by
  obtain ⟨s, rfl, rfl, rfl, _⟩ := open_int Try.underlying22 k0 h0
  obtain ⟨n, rfl, rfl, rfl, _⟩ := open_int Try.underlying3 k1 h1
  obtain ⟨x, rfl, rfl, rfl, wx⟩ := open_float Try.underlying23 k2 h2
  exact drawBits_walk W (by simp [Lit.wf] at wx; exact wx)
end Go.Proofs.Ytfinbkpmkgpffaa
