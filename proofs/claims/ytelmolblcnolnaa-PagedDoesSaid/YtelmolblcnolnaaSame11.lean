/- 'aviarylaw11.Same', walked: of two pools that lie in memory as the same plain data it is true. -/
import Derived.Test.YtelmolblcnolnaaActW
namespace Go.Proofs.Ytelmolblcnolnaa
open Go.RowKit
section
variable {w : World} {b bq rb rq : Nat} {gs : Nat → Nat} {s : Pl} {c : Int}

def StillPost (w : World) (e : Ending) (w' : World) : Prop := e = .returned (.bool true) ∧ Upd (fun _ => False) w w'

set_option maxHeartbeats 1600000 in
set_option maxRecDepth 100000 in
theorem same11_any (h : Both w b bq rb rq gs s) (hok : s.Ok c) :
    Calls Try.prog 32 #[.pointer (some ⟨b, 0, none⟩), .pointer (some ⟨rb, 0, none⟩)] w (StillPost w) := by
  have c0 := RefMem.c0 h.r
  have c1 := RefMem.c1 h.r
  have H1 := hid_ (sizes_any h.p)
  have H2 := fun n => hid_ (rfree_any (h.r.drewN n) hok.len)
  have HO := fun n (i : Int) => hid_ (owners_any (h.p.drewN n) hok.len i)
  have HT := fun n (i : Int) => hid_ (tag_any (h.p.drewN n) hok.len i)
  have RO := fun n (i : Int) => hid_ (rowners_any (h.r.drewN n) hok i)
  have RT := fun n (i : Int) => hid_ (rtag_any (h.r.drewN n) hok i)
  have hl := hok.len
  clear h hok
  generalize hm : s.pages.length = m at *
  clear hm
  go_enter Try.func32, Try.ntmps32
  go_wp2_with fail
  refine H1.out.mono ?_
  rintro e w' ⟨rfl, n, rfl⟩
  go_wp2_with fail
  refine (H2 n).out.mono ?_
  rintro e w' ⟨rfl, rfl⟩
  go_wp2_with fail
  go_loopw [8] (fun i wr => ∃ k : Nat, k ≤ m + 2 ∧ i = .int .i64 ((k : Int) - 1) ∧ wr = w.drewN n) (fun i _ => m + 2 - (intOf i + 1).toNat)
  case atStart => exact ⟨0, Nat.zero_le _, rfl, rfl⟩
  case round =>
    obtain ⟨k, hk, rfl, rfl⟩ := hrel
    by_cases hlt : k < m + 2
    · have HOk := HO n ((k : Int) - 1)
      have HTk := HT n ((k : Int) - 1)
      have ROk := RO n ((k : Int) - 1)
      have RTk := RT n ((k : Int) - 1)
      generalize s.owners ((k : Int) - 1) = ow at *
      generalize s.tagOf ((k : Int) - 1) = tg at *
      clear HO HT RO RT H1 H2
      go_wp2_with fail
      refine HOk.out.mono ?_
      rintro e w' ⟨rfl, rfl⟩
      go_wp2_with fail
      refine ROk.out.mono ?_
      rintro e w' ⟨rfl, rfl⟩
      go_wp2_with fail
      refine HTk.out.mono ?_
      rintro e w' ⟨rfl, rfl⟩
      go_wp2_with fail
      refine RTk.out.mono ?_
      rintro e w' ⟨rfl, rfl⟩
      go_wp2_with fail
      go_roundw
      case rel => exact ⟨k + 1, by omega, by first | rfl | (congr 1; omega), by first | rfl | trivial⟩
      case measure => simp [intOf]; omega
    · have hke : k = m + 2 := by omega
      subst hke
      clear HO HT RO RT H1 H2 hlt
      go_wp2_with fail
      go_ret
      exact ⟨rfl, (Upd.refl _ _).drewN n⟩
end
end Go.Proofs.Ytelmolblcnolnaa
