/- Weights fetched from pages, walked: the program's, where it refuses. Condition: the page row's length. -/
import Derived.Test.YtelmolblcnolnaaFetchW
namespace Go.Proofs.Ytelmolblcnolnaa
open Go.RowKit Go.Shelf

set_option maxRecDepth 100000 in
set_option maxHeartbeats 3200000 in
theorem fetch_no {w : World} {b : Nat} {A : Option Addr} {m c : Nat} {n : Int} (hi : InI n) (hn : n < 0 ∨ (m : Int) < needV n) :
    Calls Try.prog 35 #[.pointer (some ⟨b, 0, none⟩), .slice A m c, .int .i64 n] w (fun e w' => e = .returned (.tuple #[.slice none 0 0, .int .i64 20]) ∧ Below w.heap.size w w') := by
  have HN := fun (w1 : World) => hid_ (need_any n w1 hi)
  obtain ⟨nd, hnd⟩ : ∃ nd, needV n = nd := ⟨_, rfl⟩
  rw [hnd] at HN hn
  by_cases h0 : n < 0
  · clear hn
    go_enter Try.func35, Try.ntmps35
    go_wp2_with ((go_at_call 38); (refine (HN _).out.mono ?_); (rintro e w3 ⟨rfl, rfl⟩))
    refine bodyPost_ret (v := .tuple #[.slice none 0 0, .int .i64 20]) (by simp [results, Try.f35, go_sem]) rfl ?_
    exact ⟨rfl, ((((Upd.refl (fun _ => False) w).alloc _).alloc _).alloc _).toB⟩
  · have h1 : (m : Int) < nd := by omega
    clear hn
    go_enter Try.func35, Try.ntmps35
    go_wp2_with ((go_at_call 38); (refine (HN _).out.mono ?_); (rintro e w3 ⟨rfl, rfl⟩))
    refine bodyPost_ret (v := .tuple #[.slice none 0 0, .int .i64 20]) (by simp [results, Try.f35, go_sem]) rfl ?_
    exact ⟨rfl, ((((Upd.refl (fun _ => False) w).alloc _).alloc _).alloc _).toB⟩
end Go.Proofs.Ytelmolblcnolnaa
