/- Weights fetched from pages, walked: the document's. Conditions: its pool is whole; the pages are read in a slice. -/
import Derived.Test.YtelmolblcnolnaaRPlaceW
namespace Go.Proofs.Ytelmolblcnolnaa
open Go.RowKit

set_option maxRecDepth 100000 in
set_option maxHeartbeats 3200000 in
theorem rfetch_run {w : World} {rb rq : Nat} {gs : Nat → Nat} {s : Pl} {c9 : Int} (h : RefAt w rb rq gs s) (hk : s.Ok c9) {B : Nat} {A : Option Addr} {m c : Nat} {L : List Int} (hp : RdI w B .i64 (.slice A m c) L) (hm : m ≤ 1048576) {n : Nat} (hn : (n + 31) / 32 ≤ m) :
    Calls Try.prog 42 #[.pointer (some ⟨rb, 0, none⟩), .slice A m c, .int .i64 n] w (FetchPost w (fetchE s L n) ((List.range n).map (gotV s L))) := by
  have hpl := (rdi_len hp).1
  have HN := fun (w1 : World) => hid_ (rneed_any (n : Int) w1 (by unfold InI; omega))
  have hne : needV (n : Int) = (((n + 31) / 32 : Nat) : Int) := need_eq n
  rw [hne] at HN
  have g1 : ¬ (m : Int) < (((n + 31) / 32 : Nat) : Int) := by omega
  have g1' : ¬ m < (n + 31) / 32 := by omega
  obtain ⟨nd, hnd⟩ : ∃ nd : Nat, (n + 31) / 32 = nd := ⟨_, rfl⟩
  rw [hnd] at HN g1 g1'
  have HND := hid_ hnd
  have HLN := hid_ hpl
  have HP := hid_ hp
  have HH := hid_ h
  have HK := hid_ hk
  obtain ⟨i0, hi0, hz0, hz1, hz2⟩ := info_parts Try.infoI8f
  clear hne hnd hn hpl hp h hk
  have g2 : decide ((n : Int) < 0) = false := by simp
  go_enter Try.func42, Try.ntmps42
  go_wp2_with ((go_at_call 39); (refine (HN _).out.mono ?_); (rintro e w1 ⟨rfl, rfl⟩))
  have HB0 : Hid (Below w.heap.size w w) := Below.refl _ _
  go_loopw [8, 9] (fun wv iv wr => ∃ (k c2 : Nat) (A2 : Option Addr), k ≤ n ∧ iv = .int .i64 k ∧ wv = .slice A2 k c2 ∧ Hid (wr.ownsRow w.heap.size 73 1 (.slice A2 k c2) k (((List.range k).map (gotV s L)).map (Value.int .i8))) ∧ Hid (∀ i, i < k → badE s L i = 0) ∧ Hid (Below w.heap.size w wr)) (fun _ iv _ => n - (intOf iv).toNat)
  case atStart => exact ⟨0, 0, none, Nat.zero_le _, rfl, rfl, hid_ (World.ownsRow_nil _ _ _ _), hid_ (fun i hi => absurd hi (by omega)), HB0⟩
  case round =>
    obtain ⟨k, c2, A2, hkn, rfl, rfl, HO, HBD, HW⟩ := hrel
    have HR2 : Hid (RefAt wr rb rq gs s) := hid_ (RefMem.upd (S := fun _ => False) HH.out (Upd.of_below HW.out) (fun _ _ h => h))
    by_cases hlt : k < n
    · have hlt' : (k : Int) < (n : Int) := by omega
      have hk32 : k / 32 < m := by have := HND.out; omega
      obtain ⟨b1, o1, rfl, d0⟩ := rdi_cell (rdi_below HP.out HW.out) (j := k / 32) (by have := HLN.out; omega)
      have e1 : ((k : Int) / 32).toNat = k / 32 := by omega
      have e2 : ((k % 32 : Nat) : Int) = (k : Int) % 32 := by omega
      have e3 : 0 ≤ (k : Int) / 32 := by omega
      have e4 : (k : Int) / 32 < (m : Int) := by omega
      have KG := hid_ (rget_any HR2.out HK.out (L.getD (k / 32) 0) ((k % 32 : Nat) : Int))
      have HGV : Hid (gotV s L k = s.get (L.getD (k / 32) 0) ((k % 32 : Nat) : Int)) := hid_ rfl
      have HBE : Hid (badE s L k = if s.cellE (L.getD (k / 32) 0) ((k % 32 : Nat) : Int) ≠ 0 then s.cellE (L.getD (k / 32) 0) ((k % 32 : Nat) : Int) else if gotV s L k < -128 ∨ 127 < gotV s L k then 20 else 0) := hid_ rfl
      obtain ⟨g, hg⟩ : ∃ g, s.get (L.getD (k / 32) 0) ((k % 32 : Nat) : Int) = g := ⟨_, rfl⟩
      obtain ⟨ce, hce⟩ : ∃ ce, s.cellE (L.getD (k / 32) 0) ((k % 32 : Nat) : Int) = ce := ⟨_, rfl⟩
      rw [hg] at HGV
      rw [hce, HGV.out] at HBE
      rw [hg, hce, e2] at KG
      generalize L.getD (k / 32) 0 = x at *
      have hsz : w.heap.size ≤ wr.heap.size := HW.out.size
      clear hg hce e2
      by_cases h1 : ce = 0
      · subst h1
        rw [if_neg (by simp)] at HBE
        by_cases h2 : g < -128 ∨ 127 < g
        · rw [if_pos h2] at HBE
          have HE : Hid (fetchE s L n = 20) := by
            rw [fetchE_first hlt HBD.out (by rw [HBE.out]; decide)]
            exact HBE
          by_cases h3 : g < -128
          · clear h2
            go_wp2_with ((go_at_call 30); (refine KG.out.mono ?_); (rintro e w3 ⟨rfl, rfl⟩))
            go_ret2
            exact ⟨.slice none 0 0, by rw [HE.out]; rfl, HW.out, (fun h => by rw [HE.out] at h; cases h), fun _ => rfl⟩
          · have h4 : 127 < g := by omega
            clear h2
            go_wp2_with ((go_at_call 30); (refine KG.out.mono ?_); (rintro e w3 ⟨rfl, rfl⟩))
            go_ret2
            exact ⟨.slice none 0 0, by rw [HE.out]; rfl, HW.out, (fun h => by rw [HE.out] at h; cases h), fun _ => rfl⟩
        · rw [if_neg h2] at HBE
          have h3 : ¬ g < -128 := by omega
          have h4 : ¬ 127 < g := by omega
          have HW8 : IntKind.i8.wrap g = g := by rw [wrap_i8_]; omega
          have HBD2 : Hid (∀ i, i < k + 1 → badE s L i = 0) := fun i hi => by
            rcases Nat.lt_or_ge i k with h9 | h9
            · exact HBD.out i h9
            · obtain rfl : i = k := by omega
              exact HBE.out
          have HRG : Hid (((List.range (k + 1)).map (gotV s L)).map (Value.int .i8) = ((List.range k).map (gotV s L)).map (Value.int .i8) ++ [.int .i8 g]) := by
            rw [List.range_succ, List.map_append, List.map_append]
            show _ ++ [Value.int .i8 (gotV s L k)] = _
            rw [HGV.out]
          clear h2
          have hnm : n ≤ 33554432 := by have := HND.out; omega
          go_wp2_with (first | ((go_at_call 30); (refine KG.out.mono ?_); (rintro e w3 ⟨rfl, rfl⟩)) | (at_builtin; refine wpList_append_own _ rfl (.tmp 47) (.tmp 50) 54 rfl w.heap.size 73 i0 (.int .i8 0) 1 1 Try.underlying54 hi0 hz0 hz1 hz2 rfl (by decide) _ k _ rfl (HO.out.alloc _) ⟨wr.heap.size, 0, none⟩ 1 1 [.int .i8 g] rfl rfl (one_new (by simp)) (one_cell rfl) ?c3 ?c4 ?c5 ?_))
          case c3 => unfold maxLen; omega
          case c4 => omega
          case c5 => simp; omega
          intro v' w5 h5 hg5 _
          obtain ⟨A5, c5, rfl⟩ := own_slice_ h5
          have HO5 : Hid (w5.ownsRow w.heap.size 73 1 (.slice A5 (k + 1) c5) (k + 1) (((List.range (k + 1)).map (gotV s L)).map (Value.int .i8))) := by rw [HRG.out, List.map_map]; exact h5
          have HW5 : Hid (Below w.heap.size w w5) := (app_upd1 HO.out (Upd.of_below (S := fun _ => False) HW.out) (Nat.le_refl _) hg5).toB
          clear h5 hg5
          go_wp2_with fail
          go_roundw
          case rel => exact ⟨k + 1, c5, A5, by omega, by go_num, rfl, HO5, HBD2, HW5⟩
          case measure => simp [intOf]; omega
      · rw [if_pos h1] at HBE
        have HE : Hid (fetchE s L n = ce) := by
          rw [fetchE_first hlt HBD.out (by rw [HBE.out]; exact h1)]
          exact HBE
        have h2 : (ce != 0) = true := bne_iff_ne.2 h1
        have H1 := hid_ h1
        clear h1
        go_wp2_with ((go_at_call 30); (refine KG.out.mono ?_); (rintro e w3 ⟨rfl, rfl⟩))
        go_ret2
        exact ⟨.slice none 0 0, by rw [HE.out]; rfl, HW.out, (fun h => by rw [HE.out] at h; exact absurd h H1.out), fun _ => rfl⟩
    · obtain rfl : k = n := by omega
      have HE := hid_ (fetchE_ok HBD.out)
      go_wp2_with fail
      go_ret2
      exact ⟨.slice A2 k c2, by rw [HE.out]; rfl, HW.out, (fun _ => by rw [List.length_map, List.length_range]; exact HO.out), fun h => absurd HE.out h⟩
set_option maxHeartbeats 1600000 in
theorem rfetch_no {w : World} {rb : Nat} {A : Option Addr} {m c : Nat} {n : Int} (hi : InI n) (hn : n < 0 ∨ (m : Int) < needV n) :
    Calls Try.prog 42 #[.pointer (some ⟨rb, 0, none⟩), .slice A m c, .int .i64 n] w (fun e w' => e = .returned (.tuple #[.slice none 0 0, .int .i64 20]) ∧ Below w.heap.size w w') := by
  have HN := fun (w1 : World) => hid_ (rneed_any n w1 hi)
  obtain ⟨nd, hnd⟩ : ∃ nd, needV n = nd := ⟨_, rfl⟩
  rw [hnd] at HN hn
  by_cases h0 : n < 0
  · clear hn hnd
    go_enter Try.func42, Try.ntmps42
    go_wp2_with ((go_at_call 39); (refine (HN _).out.mono ?_); (rintro e w3 ⟨rfl, rfl⟩))
    go_ret2
    exact ⟨rfl, Below.refl _ _⟩
  · have h1 : (m : Int) < nd := by omega
    clear hn hnd
    go_enter Try.func42, Try.ntmps42
    go_wp2_with ((go_at_call 39); (refine (HN _).out.mono ?_); (rintro e w3 ⟨rfl, rfl⟩))
    go_ret2
    exact ⟨rfl, Below.refl _ _⟩
end Go.Proofs.Ytelmolblcnolnaa
