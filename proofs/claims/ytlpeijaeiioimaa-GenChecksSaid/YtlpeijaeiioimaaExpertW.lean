/- One network walked, the program's (errors are thrown and caught) and the document's. Conditions: the slices read as the lists; weights are of 8 bits. -/
import Derived.Test.YtlpeijaeiioimaaMatW
import Derived.Defers
import Derived.Recover
import Derived.Outline
namespace Go.Proofs.Ytlpeijaeiioimaa
open Go.RowKit

def thrown (x : Int) : List PanicEntry := [{ v := .iface 24 (.int .i64 x), recovered := false }]
set_option maxHeartbeats 400000 in
theorem must_ok (w : World) (A : Option Addr) (n c : Nat) : Calls Try.prog 41 #[.slice A n c, .int .i64 0] w (fun e w' => e = .returned (.slice A n c) ∧ w = w') := by
  go_enter Try.func41, Try.ntmps41
  go_wp2_with fail
  go_ret
  exact ⟨rfl, rfl⟩
set_option maxHeartbeats 400000 in
theorem must_no (w : World) (A : Option Addr) (n c : Nat) (x : Int) (hx : x ≠ 0) : Calls Try.prog 41 #[.slice A n c, .int .i64 x] w (fun e w' => e = .panicked (thrown x) ∧ w = w') := by
  have h1 : (x == 0) = false := beq_eq_false_iff_ne.2 hx
  have h2 : (x != 0) = true := by rw [bne_iff_ne]; exact hx
  go_enter Try.func41, Try.ntmps41
  go_wp2_with fail
  exact ⟨rfl, rfl, rfl⟩
set_option maxRecDepth 100000 in
set_option maxHeartbeats 400000 in
theorem caught_panic (b1 b2 : Nat) (v1 v2 : Value) (x : Int) (w : World) (h1 : w.cell? ⟨b1, 0, none⟩ = some v1) (f1 : w.frozen? ⟨b1, 0, none⟩ = false) (h2 : w.cell? ⟨b2, 0, none⟩ = some v2) (f2 : w.frozen? ⟨b2, 0, none⟩ = false) (hne : b1 ≠ b2) :
    CallsD Try.prog 40 #[.pointer (some ⟨b1, 0, none⟩), .pointer (some ⟨b2, 0, none⟩)] (.panicking (thrown x)) w fun e u' w' =>
      e = .returned (.tuple #[]) ∧ u' = .panicking [{ v := .iface 24 (.int .i64 x), recovered := true }] ∧ w' = (w.setCell ⟨b1, 0, none⟩ (.slice none 0 0)).setCell ⟨b2, 0, none⟩ (.int .i64 x) := by
  have ta : ∀ w, (Instr.typeAssert (.iface 24 (.int .i64 x)) 20 24 true).run Try.prog w = .ok (.tuple #[.int .i64 x, .bool true]) w := fun _ => by kernel_rfl
  refine callsD_of_wpS Try.func40 rfl fun c₀ cs hu => ?_
  apply wpS_seq
  apply wpS_region
  simp [wpOpsS, go_sem, recoverD, hu, Try.ntmps40, Exit.thenS, thrown]
  rw [show (#[.pointer (some ⟨b1, 0, none⟩), .pointer (some ⟨b2, 0, none⟩)] ++ (Array.replicate 16 undef).setIfInBounds 5 (.iface 24 (.int .i64 x)) : Array Value) = #[.pointer (some ⟨b1, 0, none⟩), .pointer (some ⟨b2, 0, none⟩), undef, undef, undef, undef, undef, .iface 24 (.int .i64 x), undef, undef, undef, undef, undef, undef, undef, undef, undef, undef] from rfl]
  refine wpS_of_wp ?_
  go_wp2_with fail
  cases c₀
  simp_all [bodyPostS, results, Try.results40]
set_option maxHeartbeats 400000 in
theorem caught_idle (p1 p2 : Option Addr) (w : World) :
    CallsD Try.prog 40 #[.pointer p1, .pointer p2] .returning w fun e u' w' => e = .returned (.tuple #[]) ∧ u' = .returning ∧ w' = w := by
  refine callsD_of_wpS Try.func40 rfl fun c₀ cs hu => ?_
  apply wpS_seq
  apply wpS_region
  simp [wpOpsS, go_sem, recoverD, hu, Try.ntmps40, Exit.thenS]
  rw [show (#[.pointer p1, .pointer p2] ++ (Array.replicate 16 undef).setIfInBounds 5 (.nilIface) : Array Value) = #[.pointer p1, .pointer p2, undef, undef, undef, undef, undef, .nilIface, undef, undef, undef, undef, undef, undef, undef, undef, undef, undef] from rfl]
  refine wpS_of_wp ?_
  go_wp2_with fail
  cases c₀
  simp_all [bodyPostS, results, Try.results40]

instance (ws : List Int) (rows : Int) (xs : List Int) : Decidable (MatOk ws rows xs) := by unfold MatOk; infer_instance
def oneIn (up xs : List Int) (hidden : Int) : List Int := (matL up xs hidden.toNat).map siluV
/-- what one network makes of a row; none: the lengths do not fit -/
def oneV (up down : List Int) (hidden : Int) (xs : List Int) : Option (List Int) :=
  if MatOk up hidden xs ∧ MatOk down xs.length (oneIn up xs hidden) then some (matL down (oneIn up xs hidden) xs.length) else none
def RowRes (w : World) : Option (List Int) → Ending → World → Prop
  | some l => RowOk w l
  | none => RowNo w 21
theorem oneIn_length (up xs : List Int) (hidden : Int) : (oneIn up xs hidden).length = hidden.toNat := by rw [oneIn, List.length_map, matL_length]

/-- the blocks of the two results -/
def Res2 (w w' : World) (v1 v2 : Value) : Prop := Blk w' w.heap.size 23 #[v1] ∧ Blk w' (w.heap.size + 1) 24 #[v2]
theorem Res2.new (w : World) (v1 v2 : Value) : Res2 w ((w.alloc (.cells #[v1] 23)).alloc (.cells #[v2] 24)) v1 v2 :=
  ⟨(Blk.new w _ _).alloc _, by have := Blk.new (w.alloc (.cells #[v1] 23)) 24 #[v2]; rw [World.size_alloc] at this; exact this⟩
theorem Res2.upd {w w2 w' : World} {v1 v2 : Value} (h : Res2 w w2 v1 v2) (hu : Upd (fun _ => False) w2 w') : Res2 w w' v1 v2 := ⟨h.1.upd hu (fun h => h), h.2.upd hu (fun h => h)⟩
theorem Res2.set {w w' : World} {v1 v2 : Value} (h : Res2 w w' v1 v2) (u1 u2 : Value) : Res2 w ((w'.setCell ⟨w.heap.size, 0, none⟩ u1).setCell ⟨w.heap.size + 1, 0, none⟩ u2) u1 u2 := by
  have h1 := (h.1.set_ 0 u1).far (p := ⟨w.heap.size + 1, 0, none⟩) (by simp) u2
  have h2 := (h.2.far (p := ⟨w.heap.size, 0, none⟩) (by simp) u1).set_ 0 u2
  exact ⟨by simpa using h1, by simpa using h2⟩
theorem Res2.c1 {w w' : World} {v1 v2 : Value} (h : Res2 w w' v1 v2) : w'.cell? ⟨w.heap.size, 0, none⟩ = some v1 := (h.1.cell 0).trans rfl
theorem Res2.c2 {w w' : World} {v1 v2 : Value} (h : Res2 w w' v1 v2) : w'.cell? ⟨w.heap.size + 1, 0, none⟩ = some v2 := (h.2.cell 0).trans rfl
theorem set2_upd {w w' : World} (hu : Upd (fun _ => False) w w') (u1 u2 : Value) : Upd (fun _ => False) w ((w'.setCell ⟨w.heap.size, 0, none⟩ u1).setCell ⟨w.heap.size + 1, 0, none⟩ u2) :=
  (hu.setCell (p := ⟨w.heap.size, 0, none⟩) (.inr (Nat.le_refl _)) u1).setCell (p := ⟨w.heap.size + 1, 0, none⟩) (.inr (Nat.le_succ _)) u2
theorem own_set2 {w w' : World} {e : TypeId} {n : Nat} {v : Value} {xs : List Value} {base : Nat} (h : w'.ownsRow base e 1 v n xs) (hb : w.heap.size + 2 ≤ base) (u1 u2 : Value) : ((w'.setCell ⟨w.heap.size, 0, none⟩ u1).setCell ⟨w.heap.size + 1, 0, none⟩ u2).ownsRow base e 1 v n xs := by
  have h1 : Upd (fun k => k = w.heap.size ∨ k = w.heap.size + 1) w' ((w'.setCell ⟨w.heap.size, 0, none⟩ u1).setCell ⟨w.heap.size + 1, 0, none⟩ u2) :=
    ((Upd.refl _ w').setCell (p := ⟨w.heap.size, 0, none⟩) (.inl (.inl rfl)) u1).setCell (p := ⟨w.heap.size + 1, 0, none⟩) (.inl (.inr rfl)) u2
  exact own_upd h h1 (fun k hk hk2 _ => by omega)
/-- the results' two cells are nil and nought at the start -/
def res0 (w : World) : World := (w.alloc (.cells #[.slice none 0 0] 23)).alloc (.cells #[.int .i64 0] 24)
theorem res0_upd (w : World) : Upd (fun _ => False) w (res0 w) := ((Upd.refl _ w).alloc _).alloc _
theorem res0_size (w : World) : (res0 w).heap.size = w.heap.size + 2 := by unfold res0; simp

set_option maxRecDepth 100000 in
set_option maxHeartbeats 1600000 in
theorem one_no1 {w : World} {B B' : Nat} {A1 A2 A3 : Option Addr} {L1 c1 L2 c2 n c3 : Nat} {up xs : List Int} {hidden : Int} (hu : RdI w B .i8 (.slice A1 L1 c1) up) (hx : RdI w B' .i64 (.slice A3 n c3) xs) (hno : ¬ MatOk up hidden xs) (hbig : L1 ≤ 4294967296) :
    Calls Try.prog 13 #[.slice A1 L1 c1, .slice A2 L2 c2, .int .i64 hidden, .slice A3 n c3] w (RowNo w 21) := by
  have hM := mat_no (rdi_below hu (res0_upd w).toB) (rdi_below hx (res0_upd w).toB) hno hbig
  have HR := hid_ (Res2.new w (.slice none 0 0) (.int .i64 0))
  have HU := hid_ (res0_upd w)
  unfold res0 at hM HU
  have HM := hid_ hM
  clear hu hx hno hM
  go_enter_defers Try.func13, Try.ntmps13
  go_wp2_with (first
    | ((go_at_call 42); (refine HM.out.mono ?_); (rintro e w3 ⟨rfl, hb⟩); (have HR3 := hid_ (HR.out.upd (Upd.of_below hb))); (have HU3 := hid_ (HU.out.below hb)); (clear hb))
    | ((go_at_call 41); (refine (must_no _ _ _ _ 21 (by decide)).mono ?_); (rintro e w4 ⟨rfl, rfl⟩)))
  refine leaves_cons (f := 40) (args := #[.pointer (some ⟨w.heap.size, 0, none⟩), .pointer (some ⟨w.heap.size + 1, 0, none⟩)]) (by simp) (by simp [go_sem]) ?_
  refine (caught_panic w.heap.size (w.heap.size + 1) _ _ 21 _ HR3.out.c1 (HR3.out.1.frozen 0) HR3.out.c2 (HR3.out.2.frozen 0) (by simp)).mono ?_
  rintro e u' w'' ⟨rfl, rfl, rfl⟩
  have h9 := HR3.out.set (.slice none 0 0) (.int .i64 21)
  have h1 := h9.c1
  have h2 := h9.c2
  simp [Leaves, settle, results, Try.results13, go_sem, h1, h2]
  exact ⟨rfl, (set2_upd HU3.out _ _).toB⟩

theorem Upd.trans' {a w w' : World} (h : Upd (fun _ => False) a w) (k : Upd (fun _ => False) w w') : Upd (fun _ => False) a w' := h.trans k
set_option maxRecDepth 100000 in
set_option maxHeartbeats 3200000 in
theorem one_run {w : World} {B B' B2 : Nat} {A1 A2 A3 : Option Addr} {L1 c1 L2 c2 n c3 : Nat} {up down xs : List Int} {r : Option (List Int)} (m : Nat) (hu : RdI w B .i8 (.slice A1 L1 c1) up) (hd : RdI w B2 .i8 (.slice A2 L2 c2) down) (hx : RdI w B' .i64 (.slice A3 n c3) xs) (hwu : Wt up) (hwd : Wt down) (hn : 0 < n) (hm : L1 = m * n) (hbig : L1 ≤ 4294967296) (hbig2 : L2 ≤ 4294967296)
    (hr : r = if MatOk down xs.length (oneIn up xs m) then some (matL down (oneIn up xs m) xs.length) else none) :
    Calls Try.prog 13 #[.slice A1 L1 c1, .slice A2 L2 c2, .int .i64 (m : Int), .slice A3 n c3] w (RowRes w r) := by
  have hM := mat_ok m (rdi_below hu (res0_upd w).toB) (rdi_below hx (res0_upd w).toB) hwu hn hm hbig
  obtain ⟨hxl, hnc, hnm⟩ := rdi_len hx
  unfold maxLen at hnm
  have hil : (matL up xs m).length = m := matL_length _ _ _
  have HR := hid_ (Res2.new w (.slice none 0 0) (.int .i64 0))
  have HU := hid_ (res0_upd w)
  have HSZ := hid_ (res0_size w)
  have HIN : Hid (oneIn up xs m = (matL up xs m).map siluV) := by show _ = _; rw [oneIn, Int.toNat_natCast]
  have hmb : m ≤ 4294967296 := Nat.le_trans (Nat.le_mul_of_pos_right m hn) (by omega)
  generalize oneIn up xs m = inn at *
  generalize matL up xs m = l at *
  have HM := hid_ hM
  have HL := hid_ hil
  have HD := hid_ hd
  have HX := hid_ hx
  have HW := hid_ hwd
  have HRR := hid_ hr
  have HXL := hid_ hxl
  unfold res0 at HM HU HSZ
  clear hM hil hd hx hwd hr hu hm hwu hbig hxl
  go_enter_defers Try.func13, Try.ntmps13
  go_wp2_with (first
    | ((go_at_call 42); (refine HM.out.mono ?_); (rintro e w3 ⟨A, c, rfl, hO, hb⟩); (rw [HL.out] at hO ⊢); (have HO := hid_ hO); (have HU3 := hid_ (Upd.of_below (S := fun _ => False) hb)); (clear hb hO))
    | ((go_at_call 41); (refine (must_ok _ _ _ _).mono ?_); (rintro e w4 ⟨rfl, rfl⟩)))
  generalize ((w.alloc (.cells #[.slice none 0 0] 23)).alloc (.cells #[.int .i64 0] 24)) = W2 at *
  clear HM
  go_loopw [22] (fun i wr => ∃ k : Nat, k ≤ m ∧ i = .int .i64 k ∧ Hid (wr.ownsRow W2.heap.size 2 1 (.slice A m c) m ((mapTo siluV l k).map (Value.int .i64))) ∧ Hid (Upd (fun _ => False) W2 wr)) (fun i _ => m - (intOf i).toNat)
  case atStart => exact ⟨0, Nat.zero_le _, rfl, by rw [mapTo_zero]; exact HO, HU3⟩
  case round =>
    obtain ⟨k, hk, rfl, HOk, HUk⟩ := hrel
    by_cases hlt : k < m
    · obtain ⟨g, rfl, hg⟩ := own_form HOk.out (by omega)
      have hlt' : (k : Int) < (m : Int) := by omega
      have hkl : k < l.length := by rw [HL.out]; exact hlt
      have hcell : ∀ w1, Below wr.heap.size wr w1 → w1.cell? ⟨g, k, none⟩ = some (.int .i64 (l.getD k 0)) ∧ w1.frozen? ⟨g, k, none⟩ = false := fun w1 hb => by
        have h1 := own_below HOk.out hb
        refine ⟨?_, h1.frozenAt k⟩
        rw [h1.cellAt k (by omega), List.getElem?_map, mapTo_at _ _ hkl, List.getElem?_eq_getElem hkl, List.getD_eq_getElem?_getD, List.getElem?_eq_getElem hkl]
        rfl
      have hstore : ∀ w1, Below wr.heap.size wr w1 → (w1.setCell ⟨g, k, none⟩ (.int .i64 (siluV (l.getD k 0)))).ownsRow W2.heap.size 2 1 (.slice (some ⟨g, 0, none⟩) m c) m ((mapTo siluV l (k + 1)).map (Value.int .i64)) ∧ Upd (fun _ => False) W2 (w1.setCell ⟨g, k, none⟩ (.int .i64 (siluV (l.getD k 0)))) := fun w1 hb => by
        have h1 := own_below HOk.out hb
        refine ⟨?_, (HUk.out.below hb).setCell (p := ⟨g, k, none⟩) (.inr hg) _⟩
        have h2 := (h1.stored k (.int .i64 (siluV (l.getD k 0)))).1
        rw [← List.map_set, mapTo_set siluV l hkl] at h2
        exact h2
      obtain ⟨c0, f0⟩ := hcell wr (Below.refl _ _)
      have HC := hid_ hcell
      have HST := hid_ hstore
      clear hcell hstore hkl
      generalize l.getD k 0 = x at *
      go_wp2_with ((go_at_call 43); (refine (silu_any _ _).mono ?_); (rintro e w5 ⟨rfl, hb⟩); (obtain ⟨c5, f5⟩ := HC.out _ hb); (have HB5 := hid_ hb); (clear hb))
      go_roundw
      case rel => exact ⟨k + 1, by omega, by go_num, hid_ (HST.out _ HB5.out).1, hid_ (HST.out _ HB5.out).2⟩
      case measure => simp [intOf]; omega
    · obtain rfl : k = m := by omega
      have hinn : RdI wr wr.heap.size .i64 (.slice A k c) inn := by
        have h1 := HOk.out
        rw [← HL.out, mapTo_all, ← HIN.out, HL.out] at h1
        exact Rd.of_own h1
      have hR2 := HR.out.upd HUk.out
      have hdn := rdi_below HD.out (HU.out.trans' HUk.out).toB
      by_cases hok : MatOk down xs.length inn
      · have hrr := HRR.out
        rw [if_pos hok] at hrr
        subst hrr
        unfold MatOk at hok
        obtain ⟨hil, hc9, hm9⟩ := rdi_len hinn
        rw [hil, (rdi_len hdn).1, HXL.out] at hok
        obtain ⟨o1, o2, o3⟩ := hok
        have hM := mat_ok n hdn hinn HW.out o1 (by rw [← Int.natCast_mul] at o3; exact Int.ofNat.inj o3) hbig2
        rw [HXL.out]
        have hl9 := matL_length down inn n
        have HQ9 : Hid (matL down inn xs.length = matL down inn n) := by show _ = _; rw [HXL.out]
        generalize hq9 : matL down inn n = l9 at *
        clear hq9
        have HM := hid_ hM
        have HL9 := hid_ hl9
        have HR2 := hid_ hR2
        clear hM hl9 o1 o2 o3 hR2 hdn hinn hil hc9 hm9 HRR
        go_wp2_with (first
          | ((go_at_call 42); (refine HM.out.mono ?_); (rintro e w6 ⟨A6, c6, rfl, hO6, hb⟩); (rw [HL9.out] at hO6 ⊢); (have HO6 := hid_ hO6); (have HU6 := hid_ (HUk.out.below hb)); (have hR6 := HR2.out.upd (Upd.of_below hb)); (have g1 := hR6.c1); (have g2 := hR6.c2); (have g3 := hR6.1.frozen 0); (have g4 := hR6.2.frozen 0); (have HR6 := hid_ hR6); (have HS6 := hid_ (HUk.out.size)); (clear hb hO6 hR6))
          | ((go_at_call 41); (refine (must_ok _ _ _ _).mono ?_); (rintro e w4 ⟨rfl, rfl⟩)))
        refine leaves_cons (f := 40) (args := #[.pointer (some ⟨w.heap.size, 0, none⟩), .pointer (some ⟨w.heap.size + 1, 0, none⟩)]) (by simp) (by simp [go_sem]) ?_
        refine (caught_idle _ _ _).mono ?_
        rintro e u' w'' ⟨rfl, rfl, rfl⟩
        have h9 := HR6.out.set (.slice A6 n c6) (.int .i64 0)
        have h1 := h9.c1
        have h2 := h9.c2
        simp [Leaves, settle, results, Try.results13, go_sem, h1, h2]
        show RowOk w _ _ _
        rw [HQ9.out]
        refine ⟨A6, c6, by rw [HL9.out], ?_, (set2_upd (HU.out.trans' HU6.out) _ _).toB⟩
        rw [HL9.out]
        have h3 := HS6.out
        rw [HSZ.out] at h3
        exact own_base (own_set2 HO6.out h3 _ _) (by omega)
      · have hrr := HRR.out
        rw [if_neg hok] at hrr
        subst hrr
        have hM := mat_no hdn hinn hok hbig2
        rw [HXL.out] at hM
        have HM := hid_ hM
        have HR2 := hid_ hR2
        clear hM hok hR2 hdn hinn HRR
        go_wp2_with (first
          | ((go_at_call 42); (refine HM.out.mono ?_); (rintro e w6 ⟨rfl, hb⟩); (have HU6 := hid_ (HUk.out.below hb)); (have HR6 := hid_ (HR2.out.upd (Upd.of_below hb))); (clear hb))
          | ((go_at_call 41); (refine (must_no _ _ _ _ 21 (by decide)).mono ?_); (rintro e w4 ⟨rfl, rfl⟩)))
        refine leaves_cons (f := 40) (args := #[.pointer (some ⟨w.heap.size, 0, none⟩), .pointer (some ⟨w.heap.size + 1, 0, none⟩)]) (by simp) (by simp [go_sem]) ?_
        refine (caught_panic w.heap.size (w.heap.size + 1) _ _ 21 _ HR6.out.c1 (HR6.out.1.frozen 0) HR6.out.c2 (HR6.out.2.frozen 0) (by simp)).mono ?_
        rintro e u' w'' ⟨rfl, rfl, rfl⟩
        have h9 := HR6.out.set (.slice none 0 0) (.int .i64 21)
        have h1 := h9.c1
        have h2 := h9.c2
        simp [Leaves, settle, results, Try.results13, go_sem, h1, h2]
        exact ⟨rfl, (set2_upd (HU.out.trans' HU6.out) _ _).toB⟩

theorem one_any {w : World} {B B' B2 : Nat} {A1 A2 A3 : Option Addr} {L1 c1 L2 c2 n c3 : Nat} {up down xs : List Int} {hidden : Int} (hu : RdI w B .i8 (.slice A1 L1 c1) up) (hd : RdI w B2 .i8 (.slice A2 L2 c2) down) (hx : RdI w B' .i64 (.slice A3 n c3) xs) (hwu : Wt up) (hwd : Wt down) (hbig : L1 ≤ 4294967296) (hbig2 : L2 ≤ 4294967296) :
    Calls Try.prog 13 #[.slice A1 L1 c1, .slice A2 L2 c2, .int .i64 hidden, .slice A3 n c3] w (RowRes w (oneV up down hidden xs)) := by
  by_cases h : MatOk up hidden xs
  · have h' := h
    unfold MatOk at h'
    obtain ⟨h1, h2, h3⟩ := h'
    obtain ⟨m, rfl⟩ : ∃ m : Nat, hidden = m := ⟨hidden.toNat, by omega⟩
    refine one_run m hu hd hx hwu hwd (by rw [← (rdi_len hx).1]; exact h1) ?_ hbig hbig2 ?_
    · rw [← (rdi_len hu).1, ← (rdi_len hx).1]
      rw [← Int.natCast_mul] at h3
      exact Int.ofNat.inj h3
    · unfold oneV
      by_cases h4 : MatOk down xs.length (oneIn up xs m)
      · rw [if_pos ⟨h, h4⟩, if_pos h4]
      · rw [if_neg (fun h5 => h4 h5.2), if_neg h4]
  · rw [oneV, if_neg (fun h5 => h h5.1)]
    exact one_no1 hu hx h hbig
end Go.Proofs.Ytlpeijaeiioimaa
