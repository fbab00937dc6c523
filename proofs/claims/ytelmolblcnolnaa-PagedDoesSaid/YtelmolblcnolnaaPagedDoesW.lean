/- 'PagedDoes', walked: it returns true. No condition. -/
import Derived.Test.YtelmolblcnolnaaPagedStep
import Derived.Test.YtelmolblcnolnaaPoolKeepsW
import Derived.Deep.RegionHeld3
namespace Go.Proofs.Ytelmolblcnolnaa
open Go.RowKit

/-- the act's own copy, as it lies in memory -/
structure OpAt (W : World) (g : Nat) (cs : Array Value) : Prop where
  at_ : ∀ (j : Nat) (x : Value), cs[j]? = some x → W.cell? ⟨g, j, none⟩ = some x
theorem OpAt.upd {S : Nat → Prop} {w W : World} {g : Nat} {t : TypeId} {cs : Array Value} (h : Blk w g t cs) (hu : Upd S w W) (hn : ¬ S g) : OpAt W g cs :=
  ⟨fun j _ hj => (hu.cell (p := ⟨g, j, none⟩) h.lt hn).trans ((h.cell j).trans hj)⟩
theorem BothTo.next {w w1 w2 : World} {b bq rb rq : Nat} {gs : Nat → Nat} {s : Pl} {c : Int} (h : BothTo w1 b bq rb rq gs s c w2) (hu : Upd (fun _ => False) w w1) : BothTo w b bq rb rq gs s c w2 := h.back hu
theorem rd_blk {w : World} {B : Nat} {k : IntKind} {b' o n c : Nat} {l : List Int} (h : RdI w B k (.slice (some ⟨b', o, none⟩) n c) l) (h0 : 0 < n) : b' < B := by
  obtain ⟨A, c', hv, _, _, hx⟩ := h
  injection hv with h1 h2 _
  obtain ⟨b1, o1, h3, h4, _⟩ := hx (by omega)
  rw [← h1] at h3
  injection h3 with h3
  injection h3 with h3 _ _
  omega
/-- where a round of acts stands, behind its act's copy -/
structure Mid (w wr w1 : World) (b bq rb rq : Nat) (gs : Nat → Nat) (s : Pl) (t : TypeId) (cs : Array Value) : Prop where
  both : Both w1 b bq rb rq gs s
  upd : Upd (fun _ => False) wr w1
  blk : Blk w1 wr.heap.size t cs
  bel : Below w.heap.size w w1
  far : ∀ q, bS b bq rb rq gs s.pages q → w.heap.size ≤ q
  new_ : ¬ bS b bq rb rq gs s.pages wr.heap.size
section
variable {w wr w1 w4 w5 : World} {b bq rb rq : Nat} {gs : Nat → Nat} {s s' : Pl} {t : TypeId} {cs : Array Value} {c : Int} {S : Nat → Prop}
theorem Mid.at_ (h : Mid w wr w1 b bq rb rq gs s t cs) (hS : ∀ q, S q → bS b bq rb rq gs s.pages q) (hu : Upd S w1 w4) : OpAt w4 wr.heap.size cs := OpAt.upd h.blk hu (fun hk => h.new_ (hS _ hk))
theorem Mid.rd (h : Mid w wr w1 b bq rb rq gs s t cs) {k : IntKind} {v : Value} {xs : List Int} (hx : RdI w w.heap.size k v xs) (hS : ∀ q, S q → bS b bq rb rq gs s.pages q) (hu : Upd S w1 w4) : RdI w4 w.heap.size k v xs :=
  (rdi_below hx h.bel).upd hu (fun q hq => h.far q (hS q hq))
theorem Mid.notP (h : Mid w wr w1 b bq rb rq gs s t cs) {b' : Nat} (hb : w1.heap.size ≤ b') : ¬ pS b bq b' := fun hk => by
  have := h.both.lt (k := b') (.inl hk)
  omega
theorem Mid.notR (h : Mid w wr w1 b bq rb rq gs s t cs) {k : IntKind} {b' o n c' : Nat} {xs : List Int} (hx : RdI w w.heap.size k (.slice (some ⟨b', o, none⟩) n c') xs) (h0 : 0 < n) : ¬ rS rb rq gs s.pages b' := fun hk => by
  have := h.far b' (.inr hk)
  have := rd_blk hx h0
  omega
theorem Mid.step (h : Mid w wr w1 b bq rb rq gs s t cs) (hp : PoolAt w4 b bq s') (hu : Upd (pS b bq) w1 w4) (hr : RefTo w4 rb rq gs s.pages s'.pages s'.aside w5) (hok : s'.Ok c) (hl : s'.pages.length = s.pages.length) : BothTo wr b bq rb rq gs s c w5 :=
  (h.both.step hp hu hr hok hl).back h.upd
theorem Mid.still (h : Mid w wr w1 b bq rb rq gs s t cs) (hu : Upd (fun _ => False) w1 w4) (hok : s.Ok c) : BothTo wr b bq rb rq gs s c w4 :=
  (BothTo.same (h.both.keep0 hu) (hu.mono (fun _ _ h => h.elim)) hok).back h.upd
end
set_option maxHeartbeats 8000000 in
set_option maxRecDepth 100000 in
theorem pagedDoes_walk (n : Int) (v : Value) (ops : List Opw) (w : World) (ho : OpwRd w v ops) :
    Calls Try.prog 8 #[.int .i64 n, v] w (TruePost w) := by
  obtain ⟨A, cp, rfl, hlc, hlm, hcell⟩ := ho
  have Hcell := hid_ hcell
  unfold maxLen at hlm
  have u1 := u64_nonneg' n
  obtain ⟨i0, hi0, hz0, hz1, hz2⟩ := info_parts Try.infoI8f
  obtain ⟨j0, hj0, jz0, jz1, jz2⟩ := info_parts Try.infoInt
  clear hcell
  have n0 : 0 ≤ IntKind.u64.wrap n % 40 ∧ IntKind.u64.wrap n % 40 < 40 := by omega
  obtain ⟨n0, n1⟩ := n0
  go_enter Try.func8, Try.ntmps8
  go_wp2_with fail
  obtain ⟨m, hm⟩ : ∃ m : Int, 1 + IntKind.u64.wrap n % 40 = m := ⟨_, rfl⟩
  have hm1 : 1 ≤ m := by omega
  have hm2 : m ≤ 40 := by omega
  rw [hm]
  generalize IntKind.u64.wrap n = un at *
  clear hm n0 n1 u1
  have hn : Pl.newE m = 0 := by unfold Pl.newE; rw [if_neg (by omega)]
  have HRN := fun W => hid_ (rnew_any m W hn)
  have Hok0 : Hid ((Pl.new m).Ok 1) := Pl.ok_new hn (by omega)
  refine (new_any m _ hn).mono ?_
  rintro e w1 ⟨b, bq, rfl, hp, hB, hb, hq⟩
  have hp1 := hid_ hp
  have HB := hid_ hB
  clear hp hB hn
  go_wp2_with fail
  refine (HRN _).out.mono ?_
  rintro e w2 ⟨rb, rq, gs, rfl, hr, hB, hrs⟩
  have HR : Hid (DoesR w b bq rb rq 1 w2) := by
    refine ⟨⟨Pl.new m, gs, ⟨?_, hr⟩, Hok0.out, fun q hk => ?_⟩, HB.out.trans (hB.mono HB.out.size)⟩
    · exact hp1.out.upd (S := fun _ => False) (Upd.of_below hB) (fun h => h) (fun h => h)
    · rcases hk with (rfl | rfl) | hk
      · exact hb
      · exact hq
      · exact Nat.le_trans HB.out.size (hrs q hk)
  clear hr hB hrs hp1 HB HRN Hok0 hb hq
  go_wp2_with fail
  go_loopg [9] (ops.length + 1) (fun g i wr => ∃ k : Nat, g = ops.length + 1 - k ∧ k ≤ ops.length ∧ k ≤ 50 ∧ i = .int .i64 k ∧ DoesR w b bq rb rq (1 + k) wr)
  case atStart => exact ⟨0, rfl, Nat.zero_le _, Nat.zero_le _, rfl, HR.out⟩
  case round =>
    obtain ⟨k, hg, hk, hk2, rfl, hr⟩ := hrel
    have Hg := hid_ hg
    obtain ⟨⟨s, gs, hbo, hok, hbl⟩, hbe⟩ := hr
    have Hbo := hid_ hbo
    have Hok := hid_ hok
    have Hbl := hid_ hbl
    have Hbe := hid_ hbe
    clear HR hg hbl hok
    by_cases hlt : k < ops.length ∧ k < 50
    · obtain ⟨hlt, hlt2⟩ := hlt
      obtain ⟨⟨b0, f0, rfl, hb0, hrng⟩, hopk⟩ := Hcell.out k _ (List.getElem?_eq_getElem hlt)
      generalize hop : ops[k] = o at *
      clear hop
      have hst : ∀ j, wr.cell? ⟨b0, j, none⟩ = w.cell? ⟨b0, j, none⟩ := fun j => hbe.cell (p := ⟨b0, j, none⟩) hb0
      have c0 := (hst _).trans (hrng 0 _ rfl)
      have c1 := (hst _).trans (hrng 1 _ rfl)
      have c2 := (hst _).trans (hrng 2 _ rfl)
      have c3 := (hst _).trans (hrng 3 _ rfl)
      have c4 := (hst _).trans (hrng 4 _ rfl)
      have c5 := (hst _).trans (hrng 5 _ rfl)
      rw [Nat.add_zero] at c0
      clear hst hrng
      obtain ⟨okind, otag, owv, ows, opv, ops1, on, ov⟩ := o
      obtain ⟨hw, fw, hpp, fp, w8, pI, wl, nI⟩ := hopk
      simp only at c0 c1 c2 c3 c4 c5 hw fw hpp fp w8 pI wl nI
      obtain ⟨Aw, cw, rfl, _⟩ := RdI.form hw
      obtain ⟨Ap, cpp, rfl, _, hpm, _⟩ := RdI.form hpp
      unfold maxLen at hpm
      have HN1 := fun W => hid_ (need_any on W nI)
      have HN2 := fun W => hid_ (rneed_any on W nI)
      have Hw := hid_ hw
      have Hfw := hid_ fw
      have Hpp := hid_ hpp
      have Hfp := hid_ fp
      have Hw8 := hid_ w8
      have HpI := hid_ pI
      have HnI := hid_ nI
      obtain ⟨nd, hnd⟩ : ∃ nd, needV on = nd := ⟨_, rfl⟩
      rw [hnd] at HN1 HN2
      have bnd : (nd != nd) = false := bne_self_eq_false nd
      clear hw fw hpp fp w8 pI nI hnd
      go_wp2_with fail
      have hua : Upd (fun _ => False) wr (wr.alloc (.cells #[.int .i64 okind, .string otag, .slice Aw ows.length cw, .slice Ap ops1.length cpp, .int .i64 on, .int .i64 ov] 62)) := (Upd.refl _ _).alloc _
      have hbk : Blk (wr.alloc (.cells #[.int .i64 okind, .string otag, .slice Aw ows.length cw, .slice Ap ops1.length cpp, .int .i64 on, .int .i64 ov] 62)) wr.heap.size 62 #[.int .i64 okind, .string otag, .slice Aw ows.length cw, .slice Ap ops1.length cpp, .int .i64 on, .int .i64 ov] := Blk.new _ _ _
      generalize (wr.alloc (.cells #[.int .i64 okind, .string otag, .slice Aw ows.length cw, .slice Ap ops1.length cpp, .int .i64 on, .int .i64 ov] 62)) = w0 at *
      have d3 := hbk.cell 3
      have d4 := hbk.cell 4
      simp only [List.getElem?_toArray, List.getElem?_cons_succ, List.getElem?_cons_zero] at d3 d4
      have Hbk := hid_ hbk
      have Hua := hid_ hua
      clear c0 c1 c2 c3 c4 c5 hua hbk hbo
      by_cases h100 : 100 < ops1.length
      · have h100' : (100 : Int) < (ops1.length : Int) := by omega
        have hd100 : decide ((100 : Int) < (ops1.length : Int)) = true := decide_eq_true h100'
        have HB9 : ∀ q, Hid (Below w.heap.size w (w0.drewN q)) := fun q => Hbe.out.trans ((Hua.out.drewN q).toBelow Hbe.out.size (fun _ h => h.elim))
        go_quiet (fail)
        go_wp2_with fail
        go_ret
        exact ⟨rfl, (HB9 _).out⟩
      · have h100' : ¬ (100 : Int) < (ops1.length : Int) := by omega
        have hd100 : decide ((100 : Int) < (ops1.length : Int)) = false := decide_eq_false h100'
        have HM : ∀ q, Hid (Mid w wr (w0.drewN q) b bq rb rq gs s 62 #[.int .i64 okind, .string otag, .slice Aw ows.length cw, .slice Ap ops1.length cpp, .int .i64 on, .int .i64 ov]) := fun q =>
          ⟨Hbo.out.keep0 (Hua.out.drewN q), Hua.out.drewN q, Hbk.out.upd ((Upd.refl (fun _ => False) w0).drewN q) (fun h => h), Hbe.out.trans ((Hua.out.drewN q).toBelow Hbe.out.size (fun _ h => h.elim)), Hbl.out, fun hk => by have := Hbo.out.lt hk; omega⟩
        go_quiet ((first | (go_at_call 38; exact Calls.quiet_of_same (Calls.mono (HN1 _).out (fun _ _ ⟨x, y⟩ => ⟨x, y.symm⟩))) | (go_at_call 39; exact Calls.quiet_of_same (Calls.mono (HN2 _).out (fun _ _ ⟨x, y⟩ => ⟨x, y.symm⟩)))))
        rename_i nq
        have HM1 := HM nq
        have e0 : (w0.drewN nq).cell? ⟨wr.heap.size, 0, none⟩ = some (.int .i64 okind) := (HM1.out.at_ (S := fun _ => False) (fun _ h => h.elim) (Upd.refl _ _)).at_ 0 _ rfl
        clear HM d3 d4 Hbk Hua HN1 HN2
        generalize w0.drewN nq = w1 at *
        go_upto_block 2 with fail
        go_cut [] (fun wx => Hid (BothTo wr b bq rb rq gs s (1 + (k + 1)) wx))
        case first =>
          have hcc : (1 + k : Int) < 1000000 := by omega
          rcases (by omega : okind = 0 ∨ okind = 1 ∨ okind = 2 ∨ okind = 3 ∨ okind = 4 ∨ (okind ≠ 0 ∧ okind ≠ 1 ∧ okind ≠ 2 ∧ okind ≠ 3 ∧ okind ≠ 4)) with rfl | rfl | rfl | rfl | rfl | ⟨h0, h1, h2, h3, h4⟩
          · obtain ⟨E, L, s', hPB⟩ := place_both Hok.out (by omega) b bq rb rq gs otag Hw8.out
            have HPB := hid_ hPB
            have O1 : Hid ((w1.alloc (.cells #[] 73)).drew.ownsRow w1.heap.size 73 1 (.slice (some ⟨w1.heap.size, 0, none⟩) 0 0) 0 []) := own_drew (own_empty_ w1 _) 1
            have U1 : Hid (Upd (fun _ => False) w1 (w1.alloc (.cells #[] 73)).drew) := ((Upd.refl _ _).alloc _).drew
            have X1 : Hid (RdI (w1.alloc (.cells #[] 73)).drew w.heap.size .i8 (.slice Aw ows.length cw) ows) := HM1.out.rd Hw.out (fun _ h => h.elim) U1.out
            have HP : ∀ (w3 : World) (A3 : Option Addr) (c3 : Nat), Upd (fun _ => False) w1 w3 → RdI w3 w3.heap.size .i8 (.slice A3 ows.length c3) ows → (∀ b' o, A3 = some ⟨b', o, none⟩ → 0 < ows.length → w1.heap.size ≤ b') → Hid (Calls Try.prog 34 #[.pointer (some ⟨b, 0, none⟩), .string otag, .slice A3 ows.length c3] w3 fun e w' => ∃ v, e = .returned (.tuple #[v, .int .i64 E]) ∧ OwnI w' w3.heap.size v L ∧ PoolAt w' b bq s' ∧ Upd (pS b bq) w3 w') :=
              fun w3 A3 c3 hu hx ha => HPB.out.prog (HM1.out.both.p.upd hu (fun h => h) (fun h => h)) hx (fun b' o h1 h2 => HM1.out.notP (ha b' o h1 h2))
            have HD : ∀ w4, Upd (pS b bq) w1 w4 → Hid (Calls Try.prog 40 #[.pointer (some ⟨rb, 0, none⟩), .string otag, .slice Aw ows.length cw] w4 fun e w' => ∃ v, e = .returned (.tuple #[v, .int .i64 E]) ∧ OwnI w' w4.heap.size v L ∧ RefTo w4 rb rq gs s.pages s'.pages s'.aside w') :=
              fun w4 hu => HPB.out.doc (HM1.out.both.ref_keep hu) (HM1.out.rd Hw.out (fun _ h => .inl h) hu) (fun b' o h1 h2 => by subst h1; exact HM1.out.notR Hw.out h2)
            have HS : Hid (∀ w4 w5 v4, PoolAt w4 b bq s' → Upd (pS b bq) w1 w4 → OwnI w4 w1.heap.size v4 L → RefTo w4 rb rq gs s.pages s'.pages s'.aside w5 → BothTo wr b bq rb rq gs s (1 + (k + 1)) w5 ∧ RdI w5 w5.heap.size .i64 v4 L) :=
              fun w4 w5 v4 hp hu ho hr => ⟨HM1.out.step hp hu hr (HPB.out.ok.mono (by omega)) HPB.out.len, Rd.of_own (own_keepR ho (HM1.out.both.ref_keep hu) (by decide) (by decide) (by decide) hr.upd)⟩
            have d1 := (HM1.out.at_ (S := fun _ => False) (fun _ h => h.elim) (Upd.refl _ _)).at_ 1 _ rfl
            have d2 := (HM1.out.at_ (S := fun _ => False) (fun _ h => h.elim) (Upd.refl _ _)).at_ 2 _ rfl
            have bE : (E != E) = false := bne_self_eq_false E
            clear hPB
            go_wp2_with fail
            go_region_held3 (fun w' => w'.cell? ⟨wr.heap.size, 1, none⟩ = some (.string otag) ∧ w'.cell? ⟨wr.heap.size, 2, none⟩ = some (.slice Aw ows.length cw)) (go_keep) ((first
              | (refine step_append_rd rfl (.tmp 79) (.tmp 81) 54 rfl _ 73 i0 (.int .i8 0) 1 Try.underlying54 hi0 hz0 hz1 hz2 rfl _ 0 [] rfl O1.out w.heap.size _ _ rfl X1.out Hfw.out (ints_one _) (by unfold maxLen; simp; omega) (by simp; omega) (by simp <;> omega) ?_; intro v3 w3 hO3 hg3; obtain ⟨A3, c3, rfl, hx3, ha3, hu3⟩ := copied2 U1.out (Nat.le_refl _) hO3 hg3; have HC3 := HP w3 A3 c3 hu3 hx3 ha3; have HU3 := hid_ hu3; have t1 := (HM1.out.at_ (fun _ h => h.elim) hu3).at_ 1 _ rfl; have t2 := (HM1.out.at_ (fun _ h => h.elim) hu3).at_ 2 _ rfl; clear hO3 hg3 hx3 ha3 hu3)
              | (go_at_call 34; refine HC3.out.mono ?_; rintro e w4 ⟨v4, rfl, ho4, hp4, hu4⟩; have HO4 := hid_ (own_base ho4 HU3.out.size : OwnI w4 w1.heap.size v4 L); have HU4 := hid_ ((HU3.out.mono (fun _ _ h => h.elim)).trans hu4 : Upd (pS b bq) w1 w4); have HP4 := hid_ hp4; have HD4 := HD w4 HU4.out; have t3 := (HM1.out.at_ (fun _ h => .inl h) HU4.out).at_ 1 _ rfl; have t4 := (HM1.out.at_ (fun _ h => .inl h) HU4.out).at_ 2 _ rfl; clear ho4 hp4 hu4)))
            go_wp2_with (first
              | ((go_at_call 40); (refine HD4.out.mono ?_); (rintro e w5 ⟨v5, rfl, ho5, hr5⟩); (have HS5 := hid_ (HS.out w4 w5 v4 HP4.out HU4.out HO4.out hr5)); (have HO5 := hid_ (Rd.of_own ho5 : RdI w5 w5.heap.size .i64 v5 L)); (clear ho5 hr5))
              | ((go_at_call 41); (refine (same7_true HS5.out.2 HO5.out).mono ?_); (rintro e w6 ⟨rfl, hu6⟩); (have HBT := hid_ (HS5.out.1.on hu6)); (clear hu6)))
            go_meet
            exact HBT
          · obtain ⟨E, l, hFB⟩ := fetch_both Hok.out b bq rb rq gs (L := ops1) (by omega) HnI.out
            have HFB := hid_ hFB
            have O1 : Hid ((w1.alloc (.cells #[] 3)).drew.ownsRow w1.heap.size 3 1 (.slice (some ⟨w1.heap.size, 0, none⟩) 0 0) 0 []) := own_drew (own_empty_ w1 _) 1
            have U1 : Hid (Upd (fun _ => False) w1 (w1.alloc (.cells #[] 3)).drew) := ((Upd.refl _ _).alloc _).drew
            have X1 : Hid (RdI (w1.alloc (.cells #[] 3)).drew w.heap.size .i64 (.slice Ap ops1.length cpp) ops1) := HM1.out.rd Hpp.out (fun _ h => h.elim) U1.out
            have HP : ∀ (w3 : World) (A3 : Option Addr) (c3 : Nat), Upd (fun _ => False) w1 w3 → RdI w3 w3.heap.size .i64 (.slice A3 ops1.length c3) ops1 → Hid (Calls Try.prog 35 #[.pointer (some ⟨b, 0, none⟩), .slice A3 ops1.length c3, .int .i64 on] w3 fun e w' => ∃ v, e = .returned (.tuple #[v, .int .i64 E]) ∧ RdI w' w'.heap.size .i8 v l ∧ Below w3.heap.size w3 w') :=
              fun w3 A3 c3 hu hx => HFB.out.prog (HM1.out.both.p.upd hu (fun h => h) (fun h => h)) hx
            have HD : ∀ w4, Upd (fun _ => False) w1 w4 → Hid (Calls Try.prog 42 #[.pointer (some ⟨rb, 0, none⟩), .slice Ap ops1.length cpp, .int .i64 on] w4 fun e w' => ∃ v, e = .returned (.tuple #[v, .int .i64 E]) ∧ RdI w' w'.heap.size .i8 v l ∧ Below w4.heap.size w4 w') :=
              fun w4 hu => HFB.out.doc (HM1.out.both.keep0 hu).r (HM1.out.rd Hpp.out (fun _ h => h.elim) hu)
            have d3 := (HM1.out.at_ (S := fun _ => False) (fun _ h => h.elim) (Upd.refl _ _)).at_ 3 _ rfl
            have d4 := (HM1.out.at_ (S := fun _ => False) (fun _ h => h.elim) (Upd.refl _ _)).at_ 4 _ rfl
            have bE : (E != E) = false := bne_self_eq_false E
            clear hFB
            go_wp2_with fail
            go_region_held3 (fun w' => w'.cell? ⟨wr.heap.size, 3, none⟩ = some (.slice Ap ops1.length cpp) ∧ w'.cell? ⟨wr.heap.size, 4, none⟩ = some (.int .i64 on)) (go_keep) ((first
              | (refine step_append_rd rfl (.tmp 108) (.tmp 110) 33 rfl _ 3 j0 (.int .i64 0) 8 Try.underlying33 hj0 jz0 jz1 jz2 rfl _ 0 [] rfl O1.out w.heap.size _ _ rfl X1.out Hfp.out (ints_one _) (by unfold maxLen; simp; omega) (by simp; omega) (by simp <;> omega) ?_; intro v3 w3 hO3 hg3; obtain ⟨A3, c3, rfl, hx3, ha3, hu3⟩ := copied2 U1.out (Nat.le_refl _) hO3 hg3; have HC3 := HP w3 A3 c3 hu3 hx3; have HU3 := hid_ hu3; have t1 := (HM1.out.at_ (fun _ h => h.elim) hu3).at_ 3 _ rfl; have t2 := (HM1.out.at_ (fun _ h => h.elim) hu3).at_ 4 _ rfl; clear hO3 hg3 hx3 ha3 hu3)
              | (go_at_call 35; refine HC3.out.mono ?_; rintro e w4 ⟨v4, rfl, ho4, hb4⟩; have HO4 := hid_ ho4; have HU4 := hid_ (HU3.out.trans (Upd.of_below hb4)); have HD4 := HD w4 HU4.out; have t3 := (HM1.out.at_ (fun _ h => h.elim) HU4.out).at_ 3 _ rfl; have t4 := (HM1.out.at_ (fun _ h => h.elim) HU4.out).at_ 4 _ rfl; clear ho4 hb4)))
            go_wp2_with (first
              | ((go_at_call 42); (refine HD4.out.mono ?_); (rintro e w5 ⟨v5, rfl, ho5, hb5⟩); (have HR4 := hid_ (rdi_below HO4.out hb5)); (have HO5 := hid_ ho5); (have HU5 := hid_ (HU4.out.trans (Upd.of_below hb5))); (clear ho5 hb5))
              | ((go_at_call 36); (refine (same8_true HR4.out HO5.out).mono ?_); (rintro e w6 ⟨rfl, hu6⟩); (have HBT : Hid (BothTo wr b bq rb rq gs s (1 + (k + 1)) w6) := HM1.out.still (HU5.out.trans hu6) (Hok.out.mono (by omega))); (clear hu6)))
            go_meet
            exact HBT
          · obtain ⟨E, s', hRB⟩ := rel_both Hok.out (by omega) hcc b bq rb rq gs (L := ops1) (by omega) HpI.out
            have HRB := hid_ hRB
            have O1 : Hid ((w1.alloc (.cells #[] 3)).drew.ownsRow w1.heap.size 3 1 (.slice (some ⟨w1.heap.size, 0, none⟩) 0 0) 0 []) := own_drew (own_empty_ w1 _) 1
            have U1 : Hid (Upd (fun _ => False) w1 (w1.alloc (.cells #[] 3)).drew) := ((Upd.refl _ _).alloc _).drew
            have X1 : Hid (RdI (w1.alloc (.cells #[] 3)).drew w.heap.size .i64 (.slice Ap ops1.length cpp) ops1) := HM1.out.rd Hpp.out (fun _ h => h.elim) U1.out
            have HP : ∀ (w3 : World) (A3 : Option Addr) (c3 : Nat), Upd (fun _ => False) w1 w3 → RdI w3 w3.heap.size .i64 (.slice A3 ops1.length c3) ops1 → (∀ b' o, A3 = some ⟨b', o, none⟩ → 0 < ops1.length → w1.heap.size ≤ b') → Hid (Calls Try.prog 37 #[.pointer (some ⟨b, 0, none⟩), .slice A3 ops1.length c3] w3 fun e w' => e = .returned (.int .i64 E) ∧ PoolAt w' b bq s' ∧ Upd (pS b bq) w3 w') :=
              fun w3 A3 c3 hu hx ha => HRB.out.prog (HM1.out.both.p.upd hu (fun h => h) (fun h => h)) hx (fun b' o h1 h2 => HM1.out.notP (ha b' o h1 h2))
            have HD : ∀ w4, Upd (pS b bq) w1 w4 → Hid (Calls Try.prog 43 #[.pointer (some ⟨rb, 0, none⟩), .slice Ap ops1.length cpp] w4 fun e w' => e = .returned (.int .i64 E) ∧ RefTo w4 rb rq gs s.pages s'.pages s'.aside w') :=
              fun w4 hu => HRB.out.doc (HM1.out.both.ref_keep hu) (HM1.out.rd Hpp.out (fun _ h => .inl h) hu) (fun b' o h1 h2 => by subst h1; exact HM1.out.notR Hpp.out h2)
            have HS : Hid (∀ w4 w5, PoolAt w4 b bq s' → Upd (pS b bq) w1 w4 → RefTo w4 rb rq gs s.pages s'.pages s'.aside w5 → BothTo wr b bq rb rq gs s (1 + (k + 1)) w5) :=
              fun w4 w5 hp hu hr => HM1.out.step hp hu hr (HRB.out.ok.mono (by omega)) HRB.out.len
            have d3 := (HM1.out.at_ (S := fun _ => False) (fun _ h => h.elim) (Upd.refl _ _)).at_ 3 _ rfl
            have bE : (E != E) = false := bne_self_eq_false E
            clear hRB
            go_wp2_with fail
            go_region_held3 (fun w' => w'.cell? ⟨wr.heap.size, 3, none⟩ = some (.slice Ap ops1.length cpp)) (go_keep) ((first
              | (refine step_append_rd rfl (.tmp 138) (.tmp 140) 33 rfl _ 3 j0 (.int .i64 0) 8 Try.underlying33 hj0 jz0 jz1 jz2 rfl _ 0 [] rfl O1.out w.heap.size _ _ rfl X1.out Hfp.out (ints_one _) (by unfold maxLen; simp; omega) (by simp; omega) (by simp <;> omega) ?_; intro v3 w3 hO3 hg3; obtain ⟨A3, c3, rfl, hx3, ha3, hu3⟩ := copied2 U1.out (Nat.le_refl _) hO3 hg3; have HC3 := HP w3 A3 c3 hu3 hx3 ha3; have HU3 := hid_ hu3; have t1 := (HM1.out.at_ (fun _ h => h.elim) hu3).at_ 3 _ rfl; clear hO3 hg3 hx3 ha3 hu3)
              | (go_at_call 37; refine HC3.out.mono ?_; rintro e w4 ⟨rfl, hp4, hu4⟩; have HU4 := hid_ ((HU3.out.mono (fun _ _ h => h.elim)).trans hu4 : Upd (pS b bq) w1 w4); have HP4 := hid_ hp4; have HD4 := HD w4 HU4.out; have t3 := (HM1.out.at_ (fun _ h => .inl h) HU4.out).at_ 3 _ rfl; clear hp4 hu4)
              | (go_at_call 43; refine HD4.out.mono ?_; rintro e w5 ⟨rfl, hr5⟩; have HBT := hid_ (HS.out w4 w5 HP4.out HU4.out hr5); have t5 := (HM1.out.at_ (fun _ h => h) ((HU4.out.mono (fun _ _ h => .inl h)).trans (hr5.upd.mono (fun _ _ h => .inr h)))).at_ 3 _ rfl; clear hr5)))
            go_wp2_with fail
            go_meet
            exact HBT
          · have HP := hid_ (share_any (HM1.out.both.p.drewN 1) Hok.out (by omega) on)
            have HD : ∀ w4, Upd (pS b bq) (w1.drewN 1) w4 → Hid (Calls Try.prog 44 #[.pointer (some ⟨rb, 0, none⟩), .int .i64 on] w4 fun e w' => e = .returned (.int .i64 (s.noneE on)) ∧ RefTo w4 rb rq gs s.pages (s.shareS on).pages (s.shareS on).aside w') :=
              fun w4 hu => rshare_any (HM1.out.both.ref_keep (((Upd.refl _ _).drewN 1).trans hu)) Hok.out (by omega) on
            have HS : Hid (∀ w4 w5, PoolAt w4 b bq (s.shareS on) → Upd (pS b bq) (w1.drewN 1) w4 → RefTo w4 rb rq gs s.pages (s.shareS on).pages (s.shareS on).aside w5 → BothTo wr b bq rb rq gs s (1 + (k + 1)) w5) :=
              fun w4 w5 hp hu hr => HM1.out.step hp (((Upd.refl _ _).drewN 1).trans hu) hr ((Hok.out.share on).mono (by omega)) (Pl.len_shareS s on)
            have d4 := (HM1.out.at_ (S := fun _ => False) (fun _ h => h.elim) (Upd.refl _ _)).at_ 4 _ rfl
            generalize s.noneE on = er at *
            generalize s.shareS on = s' at *
            have bE : (er != er) = false := bne_self_eq_false er
            go_wp2_with fail
            go_region_held3 (fun w' => w'.cell? ⟨wr.heap.size, 4, none⟩ = some (.int .i64 on)) (go_keep) ((first
              | (go_at_call 22; refine HP.out.mono ?_; rintro e w4 ⟨rfl, hp4, hu4⟩; have HU4 := hid_ (((Upd.refl (pS b bq) w1).drewN 1).trans hu4); have HP4 := hid_ hp4; have Hu4 := hid_ hu4; have HD4 := HD w4 hu4; have t4 := (HM1.out.at_ (fun _ h => .inl h) HU4.out).at_ 4 _ rfl; clear hp4 hu4)
              | (go_at_call 44; refine HD4.out.mono ?_; rintro e w5 ⟨rfl, hr5⟩; have HBT := hid_ (HS.out w4 w5 HP4.out Hu4.out hr5); have u4 := (HM1.out.at_ (fun _ h => h) ((HU4.out.mono (fun _ _ h => .inl h)).trans (hr5.upd.mono (fun _ _ h => .inr h)))).at_ 4 _ rfl; clear hr5)))
            go_wp2_with fail
            go_meet
            exact HBT
          · have HP := hid_ (put_any (HM1.out.both.p.drewN 1) Hok.out.len on 0 ov)
            have HD : ∀ w4, Upd (pS b bq) (w1.drewN 1) w4 → Hid (Calls Try.prog 45 #[.pointer (some ⟨rb, 0, none⟩), .int .i64 on, .int .i64 0, .int .i64 ov] w4 fun e w' => e = .returned (.int .i64 (s.cellE on 0)) ∧ RefTo w4 rb rq gs s.pages (s.putS on 0 ov).pages (s.putS on 0 ov).aside w') :=
              fun w4 hu => rput_any (HM1.out.both.ref_keep (((Upd.refl _ _).drewN 1).trans hu)) Hok.out on 0 ov
            have HS : Hid (∀ w4 w5, PoolAt w4 b bq (s.putS on 0 ov) → Upd (pS b bq) (w1.drewN 1) w4 → RefTo w4 rb rq gs s.pages (s.putS on 0 ov).pages (s.putS on 0 ov).aside w5 → BothTo wr b bq rb rq gs s (1 + (k + 1)) w5) :=
              fun w4 w5 hp hu hr => HM1.out.step hp (((Upd.refl _ _).drewN 1).trans hu) hr ((Hok.out.put on 0 ov).mono (by omega)) (Pl.len_putS s on 0 ov)
            have d4 := (HM1.out.at_ (S := fun _ => False) (fun _ h => h.elim) (Upd.refl _ _)).at_ 4 _ rfl
            have d5 := (HM1.out.at_ (S := fun _ => False) (fun _ h => h.elim) (Upd.refl _ _)).at_ 5 _ rfl
            generalize s.cellE on 0 = er at *
            generalize s.putS on 0 ov = s' at *
            have bE : (er != er) = false := bne_self_eq_false er
            go_wp2_with fail
            go_region_held3 (fun w' => w'.cell? ⟨wr.heap.size, 4, none⟩ = some (.int .i64 on) ∧ w'.cell? ⟨wr.heap.size, 5, none⟩ = some (.int .i64 ov)) (go_keep) ((first
              | (go_at_call 26; refine HP.out.mono ?_; rintro e w4 ⟨rfl, hp4, hu4⟩; have HU4 := hid_ (((Upd.refl (pS b bq) w1).drewN 1).trans hu4); have HP4 := hid_ hp4; have Hu4 := hid_ hu4; have HD4 := HD w4 hu4; have t4 := (HM1.out.at_ (fun _ h => .inl h) HU4.out).at_ 4 _ rfl; have t5 := (HM1.out.at_ (fun _ h => .inl h) HU4.out).at_ 5 _ rfl; clear hp4 hu4)
              | (go_at_call 45; refine HD4.out.mono ?_; rintro e w5 ⟨rfl, hr5⟩; have HBT := hid_ (HS.out w4 w5 HP4.out Hu4.out hr5); have u4 := (HM1.out.at_ (fun _ h => h) ((HU4.out.mono (fun _ _ h => .inl h)).trans (hr5.upd.mono (fun _ _ h => .inr h)))).at_ 4 _ rfl; have u5 := (HM1.out.at_ (fun _ h => h) ((HU4.out.mono (fun _ _ h => .inl h)).trans (hr5.upd.mono (fun _ _ h => .inr h)))).at_ 5 _ rfl; clear hr5)))
            go_wp2_with fail
            go_meet
            exact HBT
          · have b0 : (okind == 0) = false := beq_eq_false_iff_ne.2 h0
            have b1 : (okind == 1) = false := beq_eq_false_iff_ne.2 h1
            have b2 : (okind == 2) = false := beq_eq_false_iff_ne.2 h2
            have b3 : (okind == 3) = false := beq_eq_false_iff_ne.2 h3
            have b4 : (okind == 4) = false := beq_eq_false_iff_ne.2 h4
            have HBT : Hid (BothTo wr b bq rb rq gs s (1 + (k + 1)) w1) := HM1.out.still (Upd.refl _ _) (Hok.out.mono (by omega))
            clear h0 h1 h2 h3 h4
            go_wp2_with fail
            go_meet
            exact HBT
        case rest =>
          have HR4 : Hid (DoesR w b bq rb rq (1 + (k + 1 : Nat)) wc) := DoesR.step Hbe.out Hbl.out (hcut.out.mono (by omega))
          have HSM : Hid (Calls Try.prog 32 #[.pointer (some ⟨b, 0, none⟩), .pointer (some ⟨rb, 0, none⟩)] wc (StillPost wc)) := by
            obtain ⟨⟨s', gs', h1, h2, _⟩, _⟩ := HR4.out
            exact same11_any h1 h2
          clear hcut HM1 Hbo Hok Hbl Hbe e0
          go_wp2_with ((go_at_call 32); (refine HSM.out.mono ?_); (rintro e w6 ⟨rfl, hu6⟩); (have HR6 := hid_ (HR4.out.still hu6)); (clear hu6))
          go_roundg (ops.length + 1 - (k + 1))
          case measure => have := Hg.out; omega
          case rel => exact ⟨k + 1, rfl, by omega, by omega, by go_num, HR6.out⟩
    · have hd : k = ops.length ∨ (k < ops.length ∧ k = 50) := by omega
      clear hlt hbo hbe Hcell
      rcases hd with hd | ⟨hd, hd2⟩
      · subst hd
        go_wp2_with fail
        go_ret
        exact ⟨rfl, Hbe.out⟩
      · subst hd2
        go_wp2_with fail
        go_ret
        exact ⟨rfl, Hbe.out⟩

set_option maxRecDepth 100000 in
open Go.ChangeShapes Go.WideShapes Go.ChangeAt in
theorem pagedDoes_args {H : Type} {enc : TypeId × Value → H} {W : World} {base : Nat} {v0 v1 : Value} {d0 d1 : DataW H} {p0 p1 : List MemPlace} {tv : List TypeId} {gs : List (DataW H)}
    (h0 : DataW.Trod enc Try.prog W 0 (fun _ => true) true 3 v0 d0 p0) (k0 : Value.okWide Try.prog W .any base 3 v0)
    (h1 : DataW.Trod enc Try.prog W 0 (fun _ => true) true 60 v1 d1 p1) (k1 : Value.okWide Try.prog W .any base 60 v1)
    (hsz : (DataW.weightsEach Try.prog ([3, 60] ++ tv) ([d0, d1] ++ gs)).all (· ≤ reachBytes) = true) :
    Calls Try.prog 8 #[v0, v1] W (TruePost W) := by
  obtain ⟨a0, rfl, rfl, rfl, _⟩ := open_int Try.underlying3 k0 h0
  obtain ⟨ops, ho⟩ := opws_open h1 k1 (sz_each (sz_each hsz).2).1
  exact pagedDoes_walk a0 v1 ops W ho
end Go.Proofs.Ytelmolblcnolnaa
