/- Copies of beams, walked: To and From of the statements. Conditions: the beams are read in a slice, and are not many. -/
import Derived.Test.YtfinbkpmkgpffaaBeamBoth
import Derived.Deep.AppendLies
import Derived.Test.YtfinbkpmkgpffaaStepAppend
import Derived.Deep.RegionHeld3
namespace Go.Proofs.Ytfinbkpmkgpffaa
open Go.RowKit

set_option maxRecDepth 100000 in
set_option maxHeartbeats 4000000 in
theorem from_any {w : World} {v : Value} {X : List Bx} (hx : RdBms w v X) (hn : X.length < 4294967296) :
    Calls Try.prog 34 #[v] w (fun e w' => ∃ u, e = .returned u ∧ RdBms w' u X ∧ Below w.heap.size w w') := by
  obtain ⟨A, c, rfl, hXc, hXm⟩ := rdbms_form hx
  obtain ⟨k0, hk0, kz0, kz1, kz2⟩ := info_parts Try.infoRBeam
  have HL := hid_ hx
  clear hx
  go_enter Try.func34, Try.ntmps34
  go_wp2_with fail
  go_loopw [3, 4] (fun ov iv wr => ∃ (i : Nat) (A5 : Option Addr) (c5 : Nat), i ≤ X.length ∧ iv = .int .i64 i ∧ ov = .slice A5 i c5 ∧ Hid (OwnB w.heap.size wr 57 (.slice A5 i c5) (X.take i)) ∧ Hid (Below w.heap.size w wr)) (fun _ iv _ => X.length - (intOf iv).toNat)
  case atStart => exact ⟨0, none, 0, Nat.zero_le _, rfl, rfl, hid_ (OwnB.nil _ _ _), hid_ (Below.refl _ _)⟩
  case round =>
    obtain ⟨i, A5, c5, hi, rfl, rfl, HO, HB⟩ := hrel
    have hgz : w.heap.size ≤ wr.heap.size := HB.out.size
    by_cases hlt : i < X.length
    · have hlt' : (i : Int) < (X.length : Int) := by omega
      obtain ⟨x, hx1, hx2, _⟩ := bx_get hlt
      have HXT : Hid (X.take (i + 1) = X.take i ++ [x]) := take_snoc_bm X hx1
      have hat0 := rdbms_at HL.out hx1
      obtain ⟨b, o, rfl, hbl, d0, d1, d2⟩ := hat0.ex
      have ht0 := hat0.tok
      have hf0 := hat0.form
      obtain ⟨xv, ⟨tk, sc, dn⟩⟩ := x
      obtain ⟨TA, tc, htx, _, _, _⟩ := RdI.form ht0
      simp only at htx d0 d1 d2 ht0 hf0
      subst htx
      have HCW : Hid (∀ W, Below w.heap.size w W → W.cell? ⟨b, o + i * 3, none⟩ = some (.slice TA tk.length tc) ∧ W.cell? ⟨b, o + i * 3 + 1, none⟩ = some (.int .i64 sc) ∧ W.cell? ⟨b, o + i * 3 + 2, none⟩ = some (.bool dn)) := fun W hW => ⟨(hW.cell (p := ⟨b, o + i * 3, none⟩) hbl).trans d0, (hW.cell (p := ⟨b, o + i * 3 + 1, none⟩) hbl).trans d1, (hW.cell (p := ⟨b, o + i * 3 + 2, none⟩) hbl).trans d2⟩
      obtain ⟨c0, c1, c2⟩ := HCW.out wr HB.out
      have hli : (X.take i).length = i := by rw [List.length_take]; omega
      have HOW : Hid (∀ W, Upd (fun _ => False) wr W → W.ownsRow w.heap.size 57 3 (.slice A5 i c5) i ((X.take i).flatMap Bx.cells)) := fun W hW => by
        have h := (HO.out.below hW.toB).row
        rw [hli] at h
        exact h
      have HGO : Hid (∀ (W : World) (o : Obj) w9 v9, Upd (fun _ => False) wr W → (W.alloc o).grownBy w9 (Value.slice A5 i c5).ownBlock → w9.ownsRow w.heap.size 57 3 v9 (i + 1) ((X.take i).flatMap Bx.cells ++ [.slice TA tk.length tc, .int .i64 sc, .bool dn]) → OwnB w.heap.size w9 57 v9 (X.take (i + 1)) ∧ Below w.heap.size w w9) := fun W o w9 v9 hW hg h9 => by
        have hwW : Below w.heap.size w W := ((Upd.of_below (S := fun _ => False) HB.out).trans hW).toB
        refine ⟨?_, (app_upd1 (HOW.out W hW) (Upd.of_below (S := fun _ => False) hwW) (Nat.le_refl _) hg).toB⟩
        rw [HXT.out]
        exact OwnB.add (x := ⟨.slice TA tk.length tc, ⟨tk, sc, dn⟩⟩) (HO.out.below hW.toB) (.inl ⟨rdi_below ht0 hwW, hf0⟩) (by decide) (by rw [hli]; exact h9) hg
      have hbw : b < w.heap.size := hbl
      clear hat0 ht0 hf0 hx1 hx2 hli d0 d1 d2
      go_wp2_with fail
      go_region_held3 (fun w' => w'.cell? ⟨b, o + i * 3, none⟩ = some (.slice TA tk.length tc) ∧ w'.cell? ⟨b, o + i * 3 + 1, none⟩ = some (.int .i64 sc) ∧ w'.cell? ⟨b, o + i * 3 + 2, none⟩ = some (.bool dn)) (go_keep) ((refine step_append_lies _ (by rfl) (.tmp 11) (.tmp 28) 40 (by rfl) w.heap.size 57 k0 (.agg #[.slice none 0 0, .int .i64 0, .bool false]) 3 40 Try.underlying40 hk0 kz0 kz1 kz2 (by rfl) (by decide) _ i _ (by rfl) (HOW.out _ (by first | exact ((Upd.refl _ wr).alloc _).drew | exact (Upd.refl _ wr).drew.alloc _ | exact (Upd.refl _ wr).alloc _ | exact ((Upd.refl _ wr).drew.alloc _).drew)) ⟨wr.heap.size, 0, none⟩ 1 1 [.slice TA tk.length tc, .int .i64 sc, .bool dn] (by rfl) (by rfl) (World.news_of_block (heap_alloc_new _ _)) (ones3 _ _ _ _ _) (by decide) (by unfold maxLen; omega) (by omega) (by simp <;> omega) (wr.heap.size + 1) (by simp) ?_; intro g cap w9 h9 hg9 _ _; obtain ⟨ho9, hb9⟩ := (by first | exact HGO.out wr.drew _ w9 _ (Upd.refl _ _).drew hg9 h9 | exact HGO.out wr _ w9 _ (Upd.refl _ _) hg9 h9 | exact HGO.out wr.drew.drew _ w9 _ (Upd.refl _ _).drew.drew hg9 h9 : OwnB w.heap.size w9 57 (.slice (some ⟨g, 0, none⟩) (i + 1) cap) (X.take (i + 1)) ∧ Below w.heap.size w w9); have HO9 := hid_ ho9; have HB9 := hid_ hb9; have t0 := HCW.out w9 hb9; obtain ⟨t0, t1, t2⟩ := t0; clear ho9 hb9 h9 hg9))
      go_wp2_with fail
      go_roundw
      case rel => exact ⟨i + 1, _, _, by omega, by go_num, rfl, HO9, HB9⟩
      case measure => simp [intOf]; omega
    · obtain rfl : i = X.length := by omega
      have HRD : Hid (RdBms wr (.slice A5 X.length c5) X) := by
        have h := HO.out.rd
        rw [List.take_length] at h
        exact h
      go_wp2_with fail
      go_ret
      exact ⟨_, rfl, HRD.out, HB.out⟩
set_option maxRecDepth 100000 in
set_option maxHeartbeats 4000000 in
theorem to_any {w : World} {v : Value} {X : List Bx} (hx : RdBms w v X) (hn : X.length < 4294967296) (htk : ∀ x ∈ X, x.b.tokens.length < 4294967296) :
    Calls Try.prog 30 #[v] w (fun e w' => ∃ u Y, e = .returned u ∧ RdBms w' u Y ∧ bms Y = bms X ∧ Below w.heap.size w w') := by
  obtain ⟨A, c, rfl, hXc, hXm⟩ := rdbms_form hx
  obtain ⟨j0, hj0, jz0, jz1, jz2⟩ := info_parts Try.infoInt
  obtain ⟨k0, hk0, kz0, kz1, kz2⟩ := info_parts Try.infoBeam
  have HL := hid_ hx
  have HTK := hid_ htk
  clear hx htk
  go_enter Try.func30, Try.ntmps30
  go_wp2_with fail
  go_loopw [3, 4] (fun ov iv wr => ∃ (i : Nat) (Y : List Bx) (A5 : Option Addr) (c5 : Nat), i ≤ X.length ∧ iv = .int .i64 i ∧ ov = .slice A5 i c5 ∧ Hid (Y.length = i) ∧ Hid (OwnB w.heap.size wr 55 (.slice A5 i c5) Y) ∧ Hid (bms Y = bms (X.take i)) ∧ Hid (Below w.heap.size w wr)) (fun _ iv _ => X.length - (intOf iv).toNat)
  case atStart => exact ⟨0, [], none, 0, Nat.zero_le _, rfl, rfl, hid_ rfl, hid_ (OwnB.nil _ _ _), hid_ rfl, hid_ (Below.refl _ _)⟩
  case round =>
    obtain ⟨i, Y, A5, c5, hi, rfl, rfl, HLI, HO, HY, HB⟩ := hrel
    have hgz : w.heap.size ≤ wr.heap.size := HB.out.size
    by_cases hlt : i < X.length
    · have hlt' : (i : Int) < (X.length : Int) := by omega
      obtain ⟨x, hx1, hx2, _⟩ := bx_get hlt
      have HXT : Hid (X.take (i + 1) = X.take i ++ [x]) := take_snoc_bm X hx1
      have hk := HTK.out x (List.mem_of_getElem? hx1)
      have hat := rdbms_at (rdbms_below HL.out HB.out) hx1
      obtain ⟨b, o, rfl, hbl0, d0, d1, d2⟩ := (rdbms_at HL.out hx1).ex
      obtain ⟨b', o', hbe, hbl, c0, c1, c2⟩ := hat.ex
      injection hbe with hbe
      injection hbe with hbe hoe _
      subst hbe hoe
      have ht0 := hat.tok
      have hf0 := hat.form
      obtain ⟨xv, ⟨tk, sc, dn⟩⟩ := x
      obtain ⟨TA, tc, htx, _, _, _⟩ := RdI.form ht0
      simp only at htx c0 c1 c2 d0 d1 d2 ht0 hf0 hk
      subst htx
      have HCW : Hid (∀ W, Upd (fun _ => False) wr W → W.cell? ⟨b, o + i * 3, none⟩ = some (.slice TA tk.length tc) ∧ W.cell? ⟨b, o + i * 3 + 1, none⟩ = some (.int .i64 sc) ∧ W.cell? ⟨b, o + i * 3 + 2, none⟩ = some (.bool dn)) := fun W hW => ⟨(hW.toB.cell (p := ⟨b, o + i * 3, none⟩) hbl).trans c0, (hW.toB.cell (p := ⟨b, o + i * 3 + 1, none⟩) hbl).trans c1, (hW.toB.cell (p := ⟨b, o + i * 3 + 2, none⟩) hbl).trans c2⟩
      have HFo := hid_ hf0
      have HTa : Hid (∀ W, Upd (fun _ => False) wr W → RdI W wr.heap.size .i64 (.slice TA tk.length tc) tk) := fun W hW => rdi_below ht0 hW.toB
      have HOE := hid_ (own_empty_ wr 3)
      have HOW : Hid (∀ W, Upd (fun _ => False) wr W → W.ownsRow w.heap.size 55 3 (.slice A5 i c5) i (Y.flatMap Bx.cells)) := fun W hW => by
        have h := (HO.out.below hW.toB).row
        rw [HLI.out] at h
        exact h
      have HG6 : Hid (∀ W w6 v6, Upd (fun _ => False) wr W → W.grownBy w6 (some wr.heap.size) → w6.ownsRow wr.heap.size 3 1 v6 (0 + (tk.map (Value.int .i64)).length) ([] ++ tk.map (Value.int .i64)) → ∃ A6 c6, v6 = .slice A6 tk.length c6 ∧ Tok w.heap.size w6 (.slice A6 tk.length c6) tk ∧ Upd (fun _ => False) wr w6) := fun W w6 v6 hW hg h6 => by
        have h6' : w6.ownsRow wr.heap.size 3 1 v6 tk.length (tk.map (Value.int .i64)) := by simpa using h6
        obtain ⟨A6, c6, rfl⟩ := own_slice_ h6'
        exact ⟨A6, c6, rfl, .inr (own_base h6' hgz), hW.grown hg (fun k hk => .inr (by
          have h9 : some wr.heap.size = some k := hk
          injection h9 with h9
          omega))⟩
      have HGO : Hid (∀ (w6 W : World) (ob : Obj) w9 v9 A6 c6, Upd (fun _ => False) wr w6 → Tok w.heap.size w6 (.slice A6 tk.length c6) tk → Upd (fun _ => False) w6 W → (W.alloc ob).grownBy w9 (Value.slice A5 i c5).ownBlock → w9.ownsRow w.heap.size 55 3 v9 (i + 1) (Y.flatMap Bx.cells ++ [.slice A6 tk.length c6, .int .i64 sc, .bool dn]) → OwnB w.heap.size w9 55 v9 (Y ++ [⟨.slice A6 tk.length c6, ⟨tk, sc, dn⟩⟩]) ∧ Below w.heap.size w w9 ∧ (w9.cell? ⟨b, o + i * 3, none⟩ = some (.slice TA tk.length tc) ∧ w9.cell? ⟨b, o + i * 3 + 1, none⟩ = some (.int .i64 sc) ∧ w9.cell? ⟨b, o + i * 3 + 2, none⟩ = some (.bool dn))) := fun w6 W ob w9 v9 A6 c6 h6 ht6 hW hg h9 => by
        have h6W := h6.trans hW
        have hwW : Below w.heap.size w W := ((Upd.of_below (S := fun _ => False) HB.out).trans h6W).toB
        have hbw9 : Below w.heap.size w w9 := (app_upd1 (HOW.out W h6W) (Upd.of_below (S := fun _ => False) hwW) (Nat.le_refl _) hg).toB
        exact ⟨OwnB.add (x := ⟨.slice A6 tk.length c6, ⟨tk, sc, dn⟩⟩) (HO.out.below h6W.toB) (ht6.below hW.toB) (by decide) (by rw [HLI.out]; exact h9) hg, hbw9, (hbw9.cell (p := ⟨b, o + i * 3, none⟩) hbl0).trans d0, (hbw9.cell (p := ⟨b, o + i * 3 + 1, none⟩) hbl0).trans d1, (hbw9.cell (p := ⟨b, o + i * 3 + 2, none⟩) hbl0).trans d2⟩
      have HYN : Hid (∀ A6 c6, bms (Y ++ [⟨.slice A6 tk.length c6, ⟨tk, sc, dn⟩⟩]) = bms (X.take (i + 1))) := fun A6 c6 => by
        rw [HXT.out]
        have h := HY.out
        unfold bms at *
        rw [List.map_append, List.map_append, h]
        rfl
      clear hat ht0 hf0 hx1 hx2 d0 d1 d2
      go_wp2_with fail
      go_region_held3 (fun w' => w'.cell? ⟨b, o + i * 3, none⟩ = some (.slice TA tk.length tc) ∧ w'.cell? ⟨b, o + i * 3 + 1, none⟩ = some (.int .i64 sc) ∧ w'.cell? ⟨b, o + i * 3 + 2, none⟩ = some (.bool dn)) (go_keep) ((first
        | (refine step_append_rd (by rfl) (.tmp 12) (.tmp 17) 32 (by rfl) wr.heap.size 3 j0 (.int .i64 0) 8 Try.underlying32 hj0 jz0 jz1 jz2 (by rfl) _ 0 [] (by rfl) (by first | exact HOE.out | exact own_drew HOE.out 1 | exact own_drew HOE.out 2) wr.heap.size _ (tk.map (Value.int .i64)) (by rfl) (HTa.out _ (by first | exact ((Upd.refl _ wr).alloc _).drew | exact (Upd.refl _ wr).alloc _ | exact (Upd.refl _ wr).drew.alloc _)) HFo.out (ints_one _) (by unfold maxLen; (try simp) <;> omega) (by (try simp) <;> omega) (by first | omega | (simp; done) | (simp; omega)) ?_; intro v6 w6 h6 hg6; obtain ⟨A6, c6, hv6, ht6, hu6⟩ := HG6.out _ w6 v6 (by first | exact ((Upd.refl _ wr).alloc _).drew | exact (Upd.refl _ wr).alloc _ | exact (Upd.refl _ wr).drew.alloc _) hg6 h6; subst hv6; have HT6 := hid_ ht6; have HU6 := hid_ hu6; have hz6 := hu6.size; obtain ⟨s0, s1, s2⟩ := HCW.out w6 hu6; clear h6 hg6 ht6 hu6)
        | (refine step_append_lies _ (by rfl) (.tmp 11) (.tmp 30) 45 (by rfl) w.heap.size 55 k0 (.agg #[.slice none 0 0, .int .i64 0, .bool false]) 3 40 Try.underlying45 hk0 kz0 kz1 kz2 (by rfl) (by decide) _ i _ (by rfl) (HOW.out _ (by first | exact HU6.out.trans (((Upd.refl _ w6).alloc _).drew) | exact HU6.out.trans ((Upd.refl _ w6).alloc _))) ⟨w6.heap.size, 0, none⟩ 1 1 [.slice A6 tk.length c6, .int .i64 sc, .bool dn] (by rfl) (by rfl) (World.news_of_block (heap_alloc_new _ _)) (ones3 _ _ _ _ _) (by decide) (by unfold maxLen; omega) (by omega) (by simp <;> omega) (w6.heap.size + 1) (by simp) ?_; intro g cap w9 h9 hg9 _ _; obtain ⟨ho9, hb9, s0, s1, s2⟩ := (by first | exact HGO.out w6 w6.drew _ w9 _ A6 c6 HU6.out HT6.out (Upd.refl _ _).drew hg9 h9 | exact HGO.out w6 w6 _ w9 _ A6 c6 HU6.out HT6.out (Upd.refl _ _) hg9 h9 | exact HGO.out w6 w6.drew.drew _ w9 _ A6 c6 HU6.out HT6.out (Upd.refl _ _).drew.drew hg9 h9 : OwnB w.heap.size w9 55 (.slice (some ⟨g, 0, none⟩) (i + 1) cap) (Y ++ [⟨.slice A6 tk.length c6, ⟨tk, sc, dn⟩⟩]) ∧ Below w.heap.size w w9 ∧ (w9.cell? ⟨b, o + i * 3, none⟩ = some (.slice TA tk.length tc) ∧ w9.cell? ⟨b, o + i * 3 + 1, none⟩ = some (.int .i64 sc) ∧ w9.cell? ⟨b, o + i * 3 + 2, none⟩ = some (.bool dn))); have HO9 := hid_ ho9; have HB9 := hid_ hb9; have HY9 := hid_ (HYN.out A6 c6); clear ho9 hb9 h9 hg9)))
      go_wp2_with fail
      go_roundw
      case rel => exact ⟨i + 1, _, _, _, by omega, by go_num, rfl, hid_ (by rw [List.length_append, List.length_singleton, HLI.out]), HO9, HY9, HB9⟩
      case measure => simp [intOf]; omega
    · obtain rfl : i = X.length := by omega
      have HRD : Hid (RdBms wr (.slice A5 X.length c5) Y) := HO.out.rd
      have HYX : Hid (bms Y = bms X) := by
        have h := HY.out
        rw [List.take_length] at h
        exact h
      go_wp2_with fail
      go_ret
      exact ⟨_, Y, rfl, HRD.out, HYX.out, HB.out⟩
end Go.Proofs.Ytfinbkpmkgpffaa
