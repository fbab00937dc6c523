/- Weights laid into pages, walked: the program's. Conditions: the pool is whole; the weights are read in a slice that is none of the pool's blocks. -/
import Derived.Test.YtelmolblcnolnaaPlacesW
import Derived.Test.YtelmolblcnolnaaGrow
import Derived.Test.YtelmolblcnolnaaPoolActs
import Derived.Test.YtelmolblcnolnaaRoundRegion
namespace Go.Proofs.Ytelmolblcnolnaa
open Go.RowKit Go.Shelf
attribute [local go_sem] Oper.semAt_some

/-- the first k weights laid into the pages L -/
def putsTo (s : Pl) (L xs : List Int) : Nat → Pl
  | 0 => s
  | k + 1 => (putsTo s L xs k).putS (L.getD (k / 32) 0) ((k % 32 : Nat) : Int) (xs.getD k 0)
def putsL (s : Pl) (L xs : List Int) (ks : List Nat) : Pl := ks.foldl (fun s k => s.putS (L.getD (k / 32) 0) ((k % 32 : Nat) : Int) (xs.getD k 0)) s
theorem putsL_snoc (s : Pl) (L xs : List Int) (ks : List Nat) (k : Nat) : putsL s L xs (ks ++ [k]) = (putsL s L xs ks).putS (L.getD (k / 32) 0) ((k % 32 : Nat) : Int) (xs.getD k 0) := by simp [putsL]
theorem len_putsL (s : Pl) (L xs : List Int) : ∀ ks : List Nat, (putsL s L xs ks).pages.length = s.pages.length := by
  intro ks
  unfold putsL
  induction ks generalizing s with
  | nil => rfl
  | cons k ks ih => rw [List.foldl_cons, ih, Pl.len_putS]
theorem putsL_range (s : Pl) (L xs : List Int) : ∀ k, putsL s L xs (List.range k) = putsTo s L xs k
  | 0 => rfl
  | k + 1 => by rw [List.range_succ, putsL_snoc, putsL_range s L xs k, putsTo]
def PlacePost (w : World) (b bq : Nat) (s : Pl) (tag : ByteArray) (xs : List Int) (e : Ending) (w' : World) : Prop :=
  ∃ v, e = .returned (.tuple #[v, .int .i64 (s.takeE tag (needV xs.length))]) ∧ OwnI w' w.heap.size v (s.takeL tag (needV xs.length)) ∧
    PoolAt w' b bq (if s.takeE tag (needV xs.length) = 0 then putsTo (s.takeS tag (needV xs.length)) (s.takeL tag (needV xs.length)) xs xs.length else s) ∧ Upd (pS b bq) w w'
set_option maxRecDepth 100000 in
set_option maxHeartbeats 3200000 in
theorem place_any {w : World} {b bq : Nat} {s : Pl} {c9 : Int} (h : PoolAt w b bq s) (hk : s.Ok c9) (tag : ByteArray) {B : Nat} {A : Option Addr} {n c : Nat} {xs : List Int} (hx : RdI w B .i8 (.slice A n c) xs) (h8 : ∀ v ∈ xs, -128 ≤ v ∧ v ≤ 127) (hap : ∀ b' o, A = some ⟨b', o, none⟩ → 0 < n → ¬ pS b bq b') :
    Calls Try.prog 34 #[.pointer (some ⟨b, 0, none⟩), .string tag, .slice A n c] w (PlacePost w b bq s tag xs) := by
  obtain ⟨A9, c8, e9, _, hmx, _⟩ := hx.form
  injection e9 with e1 e2 e3
  subst e1 e2 e3
  have hm63 : xs.length ≤ 9223372036854775807 := by unfold maxLen at hmx; omega
  clear hmx
  have hup : Upd (pS b bq) w ((w.alloc (.cells #[.pointer (some ⟨b, 0, none⟩)] 25)).alloc (.cells #[.slice A xs.length c] 54)) := ((Upd.refl _ w).alloc _).alloc _
  have HUP := hid_ hup
  have hp1 : ∀ m, Hid (PoolAt (((w.alloc (.cells #[.pointer (some ⟨b, 0, none⟩)] 25)).alloc (.cells #[.slice A xs.length c] 54)).drewN m) b bq s) := fun m => PoolMem.upd h (((((Upd.refl (fun _ => False) w).alloc _).alloc _).drewN m)) (fun h => h) (fun h => h)
  have HT := fun (w1 : World) (h1 : PoolAt w1 b bq s) => hid_ (take_any h1 hk tag (needV xs.length))
  have HN := fun (w1 : World) => hid_ (need_any (xs.length : Int) w1 (by unfold InI; omega))
  obtain ⟨te, hte⟩ : ∃ te, s.takeE tag (needV xs.length) = te := ⟨_, rfl⟩
  rw [hte] at HT
  unfold PlacePost
  rw [hte]
  by_cases he : te = 0
  · subst he
    rw [if_pos rfl]
    have hn : xs.length ≤ 1048576 := by
      have h1 := (Pl.ask_zero hte).2.2
      have h2 := hk.a0
      have h3 := Pl.free_le s
      have h4 := hk.len
      have h5 := need_eq xs.length
      omega
    obtain ⟨L, hL⟩ : ∃ L, s.takeL tag (needV xs.length) = L := ⟨_, rfl⟩
    obtain ⟨s1, hs1⟩ : ∃ s1, s.takeS tag (needV xs.length) = s1 := ⟨_, rfl⟩
    rw [hL, hs1] at HT ⊢
    have hLl : L.length = (needV xs.length).toNat := by
      rw [← hL]
      unfold Pl.takeL
      rw [if_pos hte, List.length_map, Pl.takeIx, List.length_take]
      have := Pl.ask_zero hte
      have h9 := hk.a0
      unfold Pl.free at this
      omega
    have HLl := hid_ hLl
    clear hLl
    have hbl := Blk.lt h.hb
    have hql := Blk.ex_lt h.tq
    have HS1 : Hid (s1.pages.length ≤ 256) := by show _ ≤ _; rw [← hs1, Pl.len_takeS]; exact hk.len
    clear hL hs1 hte
    have HC3 : Hid ((((w.alloc (.cells #[.pointer (some ⟨b, 0, none⟩)] 25)).alloc (.cells #[.slice A xs.length c] 54)).drew).cell? ⟨w.heap.size, 0, none⟩ = some (.pointer (some ⟨b, 0, none⟩))) :=
      (((Blk.new w 25 #[.pointer (some ⟨b, 0, none⟩)]).alloc (.cells #[.slice A xs.length c] 54)).cell 0).trans rfl
    have b5 := Blk.new (w.alloc (.cells #[.pointer (some ⟨b, 0, none⟩)] 25)) 54 #[.slice A xs.length c]
    rw [World.size_alloc] at b5
    have HC5 : Hid ((((w.alloc (.cells #[.pointer (some ⟨b, 0, none⟩)] 25)).alloc (.cells #[.slice A xs.length c] 54)).drew).cell? ⟨w.heap.size + 1, 0, none⟩ = some (.slice A xs.length c)) := (b5.cell 0).trans rfl
    clear b5
    refine (callsIn_wide (n := 3)).1 ?_
    refine callsIn_of_wp_marks Try.func34 rfl trivial ?_ rfl
    simp only [Try.ntmps34, List.size_toArray, List.length_cons, List.length_nil, Nat.reduceAdd, Nat.reduceSub, Array.replicate_succ, Array.replicate_zero, List.push_toArray, List.append_toArray, List.nil_append, List.cons_append]
    gi_wp2
    have hmo : Try.prog.follows .mixedOrders = true := by kernel_rfl
    refine Code.wpIn_mono (Q := Exit.then _ (fun _ _ _ => False)) (fun e a w he => by cases e <;> first | exact he | exact he.elim) ?_
    gi_region_with_o (first
      | (refine ⟨trivial, ?_⟩; gi_at_call 38; refine (callsIn_wide.2 (HN _).out).mono ?_; rintro e w1 ⟨rfl, rfl⟩)
      | (refine ⟨trivial, ?_⟩; gi_at_call 17; refine (callsIn_wide.2 (HT _ (hp1 1).out).out).mono ?_; rintro e w1 ⟨v1, rfl, ho, hp, hu⟩; obtain ⟨D, dc, rfl⟩ := own_slice_ ho; have k3 := (hu.cell (p := ⟨w.heap.size, 0, none⟩) (by simp <;> omega) (by rintro (h9 | h9) <;> (simp at h9; omega))).trans HC3.out; have k5 := (hu.cell (p := ⟨w.heap.size + 1, 0, none⟩) (by simp) (by rintro (h9 | h9) <;> (simp at h9; omega))).trans HC5.out; have HO := hid_ ho; have HP := hid_ hp; have HU := hid_ hu; clear ho hp hu))
    all_goals gi_wp2_with (refine ⟨trivial, ?_⟩; gi_at_call 77; refine (callsIn_wide.2 (places_any _ _ _ _ _)).mono ?_; rintro e w2 ⟨rfl, rfl⟩)
    all_goals (
      have hd9 : w.heap.size + 2 ≤ w1.heap.size := by have := HU.out.size; simp at this; omega
      have HB2 : Hid (Blk ((w1.alloc (.cells #[.slice D L.length dc] 33)).alloc (.cells #[.int .i64 xs.length] 3)) w1.heap.size 33 #[.slice D L.length dc]) := (Blk.new w1 33 _).alloc _
      have b6 := Blk.new (w1.alloc (.cells #[.slice D L.length dc] 33)) 3 #[.int .i64 xs.length]
      rw [World.size_alloc] at b6
      have HB3 := hid_ b6
      have hu2 : Upd (fun _ => False) w1 ((w1.alloc (.cells #[.slice D L.length dc] 33)).alloc (.cells #[.int .i64 xs.length] 3)) := ((Upd.refl _ w1).alloc _).alloc _
      have hsz2 : ((w1.alloc (.cells #[.slice D L.length dc] 33)).alloc (.cells #[.int .i64 xs.length] 3)).heap.size = w1.heap.size + 2 := by rw [World.size_alloc, World.size_alloc]
      have HU2 := hid_ hu2
      have HSZ := hid_ hsz2
      clear b6 hu2 hsz2
      generalize (w1.alloc (.cells #[.slice D L.length dc] 33)).alloc (.cells #[.int .i64 xs.length] 3) = w2 at *
      have hP0 : PoolAt w2 b bq s1 := PoolMem.upd HP.out HU2.out (fun h => h) (fun h => h)
      have hb2 : b < w2.heap.size := by have := HU2.out.size; omega
      have hq2 : bq < w2.heap.size := by have := HU2.out.size; omega
      refine wpIn_rangeFunc_ownH rfl (by decide) (gf := 92) (lb := #[.pointer (some ⟨w1.heap.size + 1, 0, none⟩), .pointer (some ⟨w1.heap.size, 0, none⟩)]) rfl trivial (enters_of Try.func92 (by kernel_rfl) rfl)
        (places_stops 2 (by decide) (w1.heap.size + 1) w1.heap.size (pS b bq) xs.length L.length dc D L w2 (by have := HSZ.out; omega) ⟨by have := HSZ.out; omega, by rintro (h9 | h9) <;> omega⟩ ((HB3.out.cell 0).trans rfl) ((HB2.out.cell 0).trans rfl) ?hL (by omega))
        KpS.trans (fun W l o o' hl _ _ _ => KpS.put W l o' hl) (Below.refl _ _) (fun _ => rfl)
        (fun pre W => PoolAt W b bq (putsL s1 L xs (pre.map Fin.val)) ∧ Upd (pS b bq) w2 W)
        (fun _ _ _ => False)
        (fun pre X Y row hs hg hr => ⟨PoolMem.upd hs.1 (S := fun k => some k = row) ((Upd.refl _ X).grown hg (fun k hk => .inl hk.symm)) (fun e => by have := (hr _ e.symm).1; omega) (fun e => by have := (hr _ e.symm).1; omega), hs.2.grown hg (fun k hk => .inr (hr k hk).1)⟩)
        (fun _ _ _ _ _ hs _ _ => hs)
        ⟨hP0, Upd.refl _ _⟩
        (fun x a' W => ∃ Bx, w2.heap.size ≤ Bx ∧ Blk W Bx 116 #[.int .i64 (L[x.val / 32]?.getD 0), .int .i64 ((x.val : Int) % 32)] ∧ a' = { tmps := #[.pointer (some ⟨b, 0, none⟩), .string tag, .slice A xs.length c, .pointer (some ⟨w.heap.size, 0, none⟩), undef, .pointer (some ⟨w.heap.size + 1, 0, none⟩), .slice none 0 0, .int .i64 0, .slice D L.length dc, .int .i64 0, .int .i64 (x.val : Int), .pointer (some ⟨Bx, 0, none⟩), .tuple #[.slice D L.length dc, .int .i64 0], .pointer (some ⟨b, 0, none⟩), .string tag, .slice A xs.length c, .int .i64 xs.length, .int .i64 (needV xs.length), .tuple #[.slice D L.length dc, .int .i64 0], .slice D L.length dc, .int .i64 0, .int .i64 0, .bool false, undef, .slice D L.length dc, .slice A xs.length c, .int .i64 xs.length, .func (.func 92) #[] #[.pointer (some ⟨w1.heap.size + 1, 0, none⟩), .pointer (some ⟨w1.heap.size, 0, none⟩)], .int .i64 (x.val : Int), .agg #[.int .i64 (L[x.val / 32]?.getD 0), .int .i64 ((x.val : Int) % 32)], undef, undef, undef, undef, undef, undef, undef, undef, undef, undef, undef, undef], defers := [] })
        (fun x a' _ X Y row hs hg hr => ?hAx) ?assign ?body ?done ?stop
      case hL =>
        intro i hi
        have hLL : L.length = (xs.length + 31) / 32 := by rw [HLl.out, need_eq]; rfl
        have hi32 : i / 32 < L.length := by omega
        obtain ⟨b1, o1, e9, d0⟩ := rdi_cell (Rd.of_own HO.out) (j := i / 32) hi32
        have hb1 := World.block_lt_of_cell? _ _ d0
        subst e9
        refine ⟨hi32, b1, o1, rfl, by have := HU2.out.size; exact Nat.lt_of_lt_of_le hb1 this, ?_, ?_⟩
        · obtain ⟨_, ⟨h10, _⟩ | ⟨g2, cap, cur, h10, hg2, _⟩⟩ := HO.out
          · cases h10
          · injection h10 with h10 _ _
            injection h10 with h10
            injection h10 with h10 _
            rintro (h9 | h9) <;> (simp at hg2; omega)
        · rw [← List.getD_eq_getElem?_getD]
          exact (HU2.out.cell (p := ⟨b1, o1 + i / 32, none⟩) hb1 (fun h => h)).trans d0
      case hAx =>
        obtain ⟨Bx, h1, h2, h3⟩ := hs
        refine ⟨Bx, h1, (hg.block Bx h2.lt (fun e => ?_)).trans h2, h3⟩
        obtain ⟨_, o, ho, hc⟩ := hr Bx e.symm
        rw [show X.heap[Bx]? = _ from h2] at ho
        cases ho
        cases hc
      case assign =>
        intro l pre x W K hI hK
        gi_wp2
        have hle : w2.heap.size ≤ W.heap.size := hI.2.size
        exact hK _ _ ((KeepsOthers.alloc _ _).from _) (KpS.of_upd ((Upd.refl _ W).alloc _) hle) ⟨PoolMem.upd hI.1 (S := fun _ => False) ((Upd.refl _ W).alloc _) (fun h => h) (fun h => h), hI.2.alloc _⟩ ⟨W.heap.size, hle, Blk.new W _ _, rfl⟩
      case body =>
        rintro l pre x a' W hl9 ⟨r9, hr9⟩ ⟨hP, hU⟩ ⟨Bx, hBx, hbk, rfl⟩ hlt
        have hle : w2.heap.size ≤ W.heap.size := hU.size
        have q3 := (hU.cell (p := ⟨w.heap.size, 0, none⟩) (by have := HU2.out.size; show w.heap.size < _; omega) (by rintro (h9 | h9) <;> (simp at h9; omega))).trans ((HU2.out.cell (p := ⟨w.heap.size, 0, none⟩) (by show w.heap.size < _; omega) (fun h => h)).trans k3)
        have q5 := (hU.cell (p := ⟨w.heap.size + 1, 0, none⟩) (by have := HU2.out.size; show w.heap.size + 1 < _; omega) (by rintro (h9 | h9) <;> (simp at h9; omega))).trans ((HU2.out.cell (p := ⟨w.heap.size + 1, 0, none⟩) (by show w.heap.size + 1 < _; omega) (fun h => h)).trans k5)
        have e0 : W.cell? ⟨Bx, 0, none⟩ = some (.int .i64 (L[x.val / 32]?.getD 0)) := (hbk.cell 0).trans rfl
        have e1 : W.cell? ⟨Bx, 1, none⟩ = some (.int .i64 ((x.val : Int) % 32)) := (hbk.cell 1).trans rfl
        have hUW : Upd (pS b bq) w W := ((HUP.out.drew.trans HU.out).trans (HU2.out.mono (fun _ _ h => h.elim))).trans hU
        obtain ⟨b1, o1, rfl, d0⟩ := rdi_cell hx (j := x.val) x.isLt
        have d1 := (hUW.cell (p := ⟨b1, o1 + x.val, none⟩) (World.block_lt_of_cell? _ _ d0) (hap b1 o1 rfl (Nat.lt_of_le_of_lt (Nat.zero_le _) x.isLt))).trans d0
        have hxl := x.isLt
        have HPut := hid_ (put_any (w := W.drewN 1) (PoolMem.upd hP (S := fun _ => False) ((Upd.refl _ W).drewN 1) (fun h => h) (fun h => h)) (s := putsL s1 L xs (pre.map Fin.val)) (by rw [len_putsL]; exact HS1.out) (L[x.val / 32]?.getD 0) ((x.val : Int) % 32) (xs.getD x.val 0))
        have HUW := hid_ hU
        have hmo : Try.prog.follows .mixedOrders = true := by kernel_rfl
        clear hP hU hbk hUW d0 hr9
        gi_wp2
        have q3d : W.drew.cell? ⟨w.heap.size, 0, none⟩ = some (.pointer (some ⟨b, 0, none⟩)) := q3
        have q5d : W.drew.cell? ⟨w.heap.size + 1, 0, none⟩ = some (.slice (some ⟨b1, o1, none⟩) xs.length c) := q5
        have e0d : W.drew.cell? ⟨Bx, 0, none⟩ = some (.int .i64 (L[x.val / 32]?.getD 0)) := e0
        have e1d : W.drew.cell? ⟨Bx, 1, none⟩ = some (.int .i64 ((x.val : Int) % 32)) := e1
        have d1d : W.drew.cell? ⟨b1, o1 + x.val, none⟩ = some (.int .i8 (xs.getD x.val 0)) := d1
        clear q3 q5 e0 e1 d1
        have hv8 : IntKind.i64.wrap xs[x.val] = xs[x.val] := by
          have := h8 xs[x.val] (List.getElem_mem _)
          rw [IntKind.wrap_i64]
          omega
        refine wpIn_region_round hmo 10 (fun i => i + 30) (fun i => match i with
            | 0 => .pointer (some ⟨b, 0, none⟩) | 1 => .pointer (some ⟨Bx, 0, none⟩) | 2 => .int .i64 (L[x.val / 32]?.getD 0) | 3 => .pointer (some ⟨Bx, 1, none⟩) | 4 => .int .i64 ((x.val : Int) % 32)
            | 5 => .slice (some ⟨b1, o1, none⟩) xs.length c | 6 => .int .i64 (x.val : Int) | 7 => .pointer (some ⟨b1, o1 + x.val, none⟩) | 8 => .int .i8 (xs.getD x.val 0) | _ => .int .i64 (xs.getD x.val 0))
          (fun a => a.tmps.size = 42 ∧ a.eval (.tmp 3) = .pointer (some ⟨w.heap.size, 0, none⟩) ∧ a.eval (.tmp 5) = .pointer (some ⟨w.heap.size + 1, 0, none⟩) ∧ a.eval (.tmp 10) = .int .i64 (x.val : Int) ∧ a.eval (.tmp 11) = .pointer (some ⟨Bx, 0, none⟩))
          rfl (by kernel_rfl) (by kernel_rfl) (fun i j h => by omega) ?_ ?_ ?_ ⟨rfl, rfl, rfl, rfl, rfl⟩
        · intro i oi a hi hoi hB hdeps K hK
          obtain ⟨_, f3, f5, f10, f11⟩ := hB
          have hc : i = 0 ∨ i = 1 ∨ i = 2 ∨ i = 3 ∨ i = 4 ∨ i = 5 ∨ i = 6 ∨ i = 7 ∨ i = 8 ∨ i = 9 := by omega
          rcases hc with rfl | rfl | rfl | rfl | rfl | rfl | rfl | rfl | rfl | rfl
          all_goals (obtain rfl := Option.some.inj hoi)
          · refine wpOpIn_yield rfl rfl rfl (fun _ => trivial) ?_ hK
            clear hK hdeps hoi
            generalize a.eval = ρ at *
            show Sem.run _ _ _ = _
            go_simp
          · refine wpOpIn_yield rfl rfl rfl (fun _ => trivial) ?_ hK
            clear hK hdeps hoi
            generalize a.eval = ρ at *
            show Sem.run _ _ _ = _
            go_simp
          · refine wpOpIn_yield rfl rfl rfl (fun _ => trivial) ?_ hK
            have g1 : a.eval (.tmp 31) = .pointer (some ⟨Bx, 0, none⟩) := hdeps ⟨1, .data⟩ (by simp) rfl
            clear hK hdeps hoi
            generalize a.eval = ρ at *
            show Sem.run _ _ _ = _
            go_simp
          · refine wpOpIn_yield rfl rfl rfl (fun _ => trivial) ?_ hK
            clear hK hdeps hoi
            generalize a.eval = ρ at *
            show Sem.run _ _ _ = _
            go_simp
          · refine wpOpIn_yield rfl rfl rfl (fun _ => trivial) ?_ hK
            have g3 : a.eval (.tmp 33) = .pointer (some ⟨Bx, 1, none⟩) := hdeps ⟨3, .data⟩ (by simp) rfl
            clear hK hdeps hoi
            generalize a.eval = ρ at *
            show Sem.run _ _ _ = _
            go_simp
          · refine wpOpIn_yield rfl rfl rfl (fun _ => trivial) ?_ hK
            clear hK hdeps hoi
            generalize a.eval = ρ at *
            show Sem.run _ _ _ = _
            go_simp
          · refine wpOpIn_yield rfl rfl rfl (fun _ => trivial) ?_ hK
            clear hK hdeps hoi
            generalize a.eval = ρ at *
            show Sem.run _ _ _ = _
            go_simp
          · refine wpOpIn_yield rfl rfl rfl (fun _ => trivial) ?_ hK
            have g5 : a.eval (.tmp 35) = .slice (some ⟨b1, o1, none⟩) xs.length c := hdeps ⟨5, .data⟩ (by simp) rfl
            have g6 : a.eval (.tmp 36) = .int .i64 (x.val : Int) := hdeps ⟨6, .data⟩ (by simp) rfl
            clear hK hdeps hoi
            generalize a.eval = ρ at *
            show Sem.run _ _ _ = _
            go_simp
          · refine wpOpIn_yield rfl rfl rfl (fun _ => trivial) ?_ hK
            have g7 : a.eval (.tmp 37) = .pointer (some ⟨b1, o1 + x.val, none⟩) := hdeps ⟨7, .data⟩ (by simp) rfl
            clear hK hdeps hoi
            generalize a.eval = ρ at *
            show Sem.run _ _ _ = _
            go_simp
          · refine wpOpIn_yield rfl rfl rfl (fun _ => trivial) ?_ hK
            have g8 : a.eval (.tmp 38) = .int .i8 (xs.getD x.val 0) := hdeps ⟨8, .data⟩ (by simp) rfl
            clear hK hdeps hoi
            generalize a.eval = ρ at *
            show Sem.run _ _ _ = _
            go_simp
        · intro i a hi ⟨g0, g1, g2, g3, g4⟩
          refine ⟨⟨?_, ?_, ?_, ?_, ?_⟩, ?_⟩
          · simp [Act.put, g0]
          · exact (eval_put_tmp (show (3 : Nat) ≠ i + 30 by omega)).trans g1
          · exact (eval_put_tmp (show (5 : Nat) ≠ i + 30 by omega)).trans g2
          · exact (eval_put_tmp (show (10 : Nat) ≠ i + 30 by omega)).trans g3
          · exact (eval_put_tmp (show (11 : Nat) ≠ i + 30 by omega)).trans g4
          · have hlt9 : i + 30 < a.tmps.size := by omega
            simp [Act.put, Act.eval, hlt9]
        · intro oN a hoN hB hdeps K hK
          obtain rfl := Option.some.inj hoN
          have g0 : a.eval (.tmp 30) = .pointer (some ⟨b, 0, none⟩) := hdeps ⟨0, .data⟩ (by simp) rfl
          have g2 : a.eval (.tmp 32) = .int .i64 (L[x.val / 32]?.getD 0) := hdeps ⟨2, .data⟩ (by simp) rfl
          have g4 : a.eval (.tmp 34) = .int .i64 ((x.val : Int) % 32) := hdeps ⟨4, .data⟩ (by simp) rfl
          have g9 : a.eval (.tmp 39) = .int .i64 (xs.getD x.val 0) := hdeps ⟨9, .data⟩ (by simp) rfl
          have hs : ∀ o : Oper, o.op = .call { callee := .value (.func 26), args := #[.tmp 30, .tmp 32, .tmp 34, .tmp 39], argTypes := #[25, 3, 3, 2] } → ((o.semAt (some l) a.eval).run Try.prog W.drew = .ok (.enter 26 #[.pointer (some ⟨b, 0, none⟩), .int .i64 (L[x.val / 32]?.getD 0), .int .i64 ((x.val : Int) % 32), .int .i64 (xs.getD x.val 0)]) W.drew) := by
            intro o ho
            have gf : a.eval (.func 26) = .func (.func 26) #[] #[] := rfl
            clear hK hdeps hoN hB
            generalize a.eval = ρ at *
            obtain ⟨dst, op, ty, pos, after, guard⟩ := o
            simp only at ho
            subst ho
            show Sem.run _ _ _ = _
            go_simp
          refine wpOpIn_call rfl rfl (fun _ => trivial) (hs _ rfl) ?_ (fun h => by cases h)
          refine (CallsIn.inRound l (callsIn_wide.2 HPut.out)).mono ?_
          rintro e w3 ⟨rfl, hp3, hu3⟩
          refine hK _ _ ?_
          have hu3 : Upd (pS b bq) W w3 := ((Upd.refl _ W).drewN 1).trans hu3
          refine show KeepsFrom w2.heap.size W w3 ∧ KpS (pS b bq) w2.heap.size W w3 ∧ PoolAt w3 b bq (putsL s1 L xs ((pre ++ [x]).map Fin.val)) ∧ Upd (pS b bq) w2 w3 from ⟨⟨hu3.size, fun k o9 hB9 hk9 _ => (hu3.block k (Array.getElem?_eq_some_iff.1 hk9).1 (fun h9 => by rcases h9 with h9 | h9 <;> omega)).trans hk9⟩, KpS.of_upd (A := W) hu3 hle, ?_, HUW.out.trans hu3⟩
          rw [List.map_append, List.map_cons, List.map_nil, putsL_snoc, List.getD_eq_getElem?_getD (l := L)]
          exact hp3
      case done =>
        rintro D9 ys W hD9 hys ⟨hP, hU⟩ hK9
        have hg9 := grownBy_putObj' W D9 (.deferred none)
        have hU9 : Upd (fun k => k = D9) W (W.putObj D9 (.deferred none)) := (Upd.refl _ W).grown hg9 (fun k hk9 => .inl (by injection hk9 with h9; exact h9.symm))
        have hpo := PoolMem.upd hP hU9 (fun h9 => by omega) (fun h9 => by omega)
        have hUW9 : Upd (pS b bq) w (W.putObj D9 (.deferred none)) := (((HUP.out.drew.trans HU.out).trans (HU2.out.mono (fun _ _ h => h.elim))).trans hU).grown hg9 (fun k hk9 => .inr (by injection hk9 with h9; have := HU2.out.size; omega))
        have ho1 := own_upd HO.out ((HU2.out.mono (T := pS b bq) (fun _ _ h => h.elim)).trans hU) (by rintro g (h9 | h9) hg _ <;> (simp at hg; omega))
        have ho2 := own_upd ho1 hU9 (by
          rintro g rfl hg hlt h9
          obtain ⟨_, ⟨h10, _⟩ | ⟨g2, cap, cur, h10, hg2, hh, _⟩⟩ := HO.out
          · rw [h10] at h9; simp [Value.ownBlock] at h9
          · rw [h10] at h9
            have : g2 = g := by simpa [Value.ownBlock] using h9
            have hl2 := (Array.getElem?_eq_some_iff.1 hh).1
            have := HU2.out.size
            omega)
        rw [hys, putsL_range] at hpo
        clear hP hU
        gi_wp2
        refine ⟨by simp, .inl ⟨_, _, rfl, run_takeDeferred hK9, ?_⟩⟩
        refine ⟨.tuple #[.slice D L.length dc, .int .i64 0], by simp [results, Try.f34, go_sem], .slice D L.length dc, rfl, ?_, hpo, hUW9⟩
        rcases ho2 with ⟨h9, h10 | ⟨g, cap, cur, h10, hg, hh⟩⟩
        · exact ⟨h9, .inl h10⟩
        · exact ⟨h9, .inr ⟨g, cap, cur, h10, by simp at hg; omega, hh⟩⟩
      case stop =>
        rintro D9 c0 pre W _ _ h9 _
        exact h9.elim)
  have hb : (te != 0) = true := bne_iff_ne.2 he
  rw [if_neg he]
  have hL : s.takeL tag (needV xs.length) = [] := by unfold Pl.takeL; rw [if_neg (by rw [hte]; exact he)]
  have hS : s.takeS tag (needV xs.length) = s := by unfold Pl.takeS; rw [if_neg (by rw [hte]; exact he)]
  rw [hS] at HT
  have HLL := hid_ hL
  clear hL hS he hte
  refine (callsIn_wide (n := 3)).1 ?_
  refine callsIn_of_wp_marks Try.func34 rfl trivial ?_ rfl
  simp only [Try.ntmps34, List.size_toArray, List.length_cons, List.length_nil, Nat.reduceAdd, Nat.reduceSub, Array.replicate_succ, Array.replicate_zero, List.push_toArray, List.append_toArray, List.nil_append, List.cons_append]
  gi_wp2
  have hmo : Try.prog.follows .mixedOrders = true := by kernel_rfl
  refine Code.wpIn_mono (Q := Exit.then _ (fun _ _ _ => False)) (fun e a w he => by cases e <;> first | exact he | exact he.elim) ?_
  gi_region_with_o (first
    | (refine ⟨trivial, ?_⟩; gi_at_call 38; refine (callsIn_wide.2 (HN _).out).mono ?_; rintro e w1 ⟨rfl, rfl⟩)
    | (refine ⟨trivial, ?_⟩; gi_at_call 17; refine (callsIn_wide.2 (HT _ (hp1 1).out).out).mono ?_; rintro e w1 ⟨v1, rfl, ho, hp, hu⟩; have HO := hid_ ho; have HP := hid_ hp; have HU := hid_ hu; clear ho hp hu))
  all_goals gi_wp2
  all_goals exact ⟨.tuple #[.slice none 0 0, .int .i64 te], by simp [results, Try.f34, go_sem], .slice none 0 0, rfl, by rw [HLL.out]; exact World.ownsRow_nil _ _ _ _, HP.out, HUP.out.drew.trans HU.out⟩
end Go.Proofs.Ytelmolblcnolnaa
