/- ExpertMixes walked: it returns true. Conditions: what comes in is of bulk at most 1048576. -/
import Derived.Test.YtlpeijaeiioimaaExpertOthersW
import Derived.Test.YtlpeijaeiioimaaStepAppend
import Derived.Test.YtlpeijaeiioimaaMixWB
namespace Go.Proofs.Ytlpeijaeiioimaa
open Go.RowKit Go.ChangeShapes Go.WideShapes Go.ChangeAt

def RouteRow (w : World) (x : Int) (ch sh : List Int) (e : Ending) (w' : World) : Prop := ∃ A1 n1 c1 A2 n2 c2, e = .returned (.tuple #[.slice A1 n1 c1, .slice A2 n2 c2, .int .i64 x]) ∧ RdI w' w'.heap.size .i64 (.slice A1 n1 c1) (if x = 0 then ch else []) ∧ RdI w' w'.heap.size .i64 (.slice A2 n2 c2) (if x = 0 then sh else []) ∧ Below w.heap.size w w'
theorem routeRow_of {w w' : World} {router xs : List Int} {m : Nat} {k : Int} {e : Ending} (h : RouteAny w router xs m k e w') : RouteRow w (routeE router xs m k) (routeC router xs m k) (routeP router xs m k) e w' := by
  unfold RouteAny at h
  by_cases hx : routeE router xs m k = 0
  · rw [if_pos hx] at h
    obtain ⟨A1, c1, A2, c2, rfl, h1, h2, hb, _, _⟩ := h
    refine ⟨A1, _, c1, A2, _, c2, by rw [hx], ?_, ?_, hb⟩
    · rw [if_pos hx]; exact h1
    · rw [if_pos hx]; exact h2
  · rw [if_neg hx] at h
    obtain ⟨rfl, hb⟩ := h
    refine ⟨none, 0, 0, none, 0, 0, rfl, ?_, ?_, hb⟩
    · rw [if_neg hx]; exact rdi_nil _ _ _ _ _
    · rw [if_neg hx]; exact rdi_nil _ _ _ _ _
/-- an empty row of one's own, wherever it was made -/
def Emp (w : World) (e : TypeId) (v : Value) : Prop := ∃ b, v = .slice (some ⟨b, 0, none⟩) 0 0 ∧ w.ownsRow b e 1 v 0 []
theorem Emp.new (w : World) (e : TypeId) : Emp (w.alloc (.cells #[] e)) e (.slice (some ⟨w.heap.size, 0, none⟩) 0 0) := ⟨_, rfl, own_empty_ w e⟩
theorem Emp.below {w w' : World} {e : TypeId} {v : Value} (h : Emp w e v) (hb : Below w.heap.size w w') : Emp w' e v := h.imp fun _ h => ⟨h.1, own_below h.2 hb⟩

theorem copied_at {w2 W w3 : World} {e : TypeId} {k : IntKind} {v1 : Value} {l : List Int} {b : Nat} (hU : Below w2.heap.size w2 W) (hb : w2.heap.size ≤ b) (hO : w3.ownsRow b e 1 v1 (0 + (l.map (Value.int k)).length) ([] ++ l.map (Value.int k))) (hg : W.grownBy w3 (Value.slice (some ⟨b, 0, none⟩) 0 0).ownBlock) :
    ∃ A c, v1 = .slice A l.length c ∧ w3.ownsRow b e 1 (.slice A l.length c) l.length (l.map (Value.int k)) ∧ Below w2.heap.size w2 w3 := by
  have hO2 : w3.ownsRow b e 1 v1 l.length (l.map (Value.int k)) := by simpa using hO
  obtain ⟨A, c, rfl⟩ := own_slice_ hO2
  refine ⟨A, c, rfl, hO2, ((Upd.of_below (S := fun _ => False) hU).grown hg (fun g h => .inr ?_)).toB⟩
  have h9 : some b = some g := h
  injection h9 with h9
  omega
set_option linter.unusedVariables false in
/-- a row that grows leaves the rows of other types as they were -/
theorem own_grown {W w3 : World} {e e' : TypeId} {v v' : Value} {b b' n n' : Nat} {xs xs' : List Value} (h : W.ownsRow b e 1 v n xs) (h' : W.ownsRow b' e' 1 v' n' xs') (hne : e ≠ e') (hg : W.grownBy w3 v'.ownBlock) : w3.ownsRow b e 1 v n xs :=
  own_upd h ((Upd.refl (fun k => some k = v'.ownBlock) W).grown hg (fun k hk => .inl hk.symm)) (fun k hk _ _ hb => own_ty h h' hne hk hb)
theorem OwnAt.grown {W w3 : World} {e' : TypeId} {v v' : Value} {b b' n' : Nat} {L : List (List Int)} {xs' : List Value} (h : OwnAt W b v L) (h' : W.ownsRow b' e' 1 v' n' xs') (h1 : 22 ≠ e') (h2 : 87 ≠ e') (hg : W.grownBy w3 v'.ownBlock) : OwnAt w3 b v L := by
  obtain ⟨vs, k1, k2, k3⟩ := h
  exact ⟨vs, own_grown k1 h' h1 hg, k2, fun j hj => (k3 j hj).imp fun _ h => own_grown h h' h2 hg⟩
/-- the grown world leaves what another type's empty row is -/
theorem Emp.grown {W w3 : World} {e e' : TypeId} {v v' : Value} {b n : Nat} {xs : List Value} (h : Emp W e v) (h' : W.ownsRow b e' 1 v' n xs) (hne : e ≠ e') (hg : W.grownBy w3 v'.ownBlock) : Emp w3 e v := by
  obtain ⟨b1, rfl, h1⟩ := h
  exact ⟨b1, rfl, own_upd h1 ((Upd.refl (fun k => some k = v'.ownBlock) W).grown hg (fun k hk => .inl hk.symm)) (fun k hk _ _ hb => own_ty h1 h' hne hk hb)⟩
theorem Emp.drew {w : World} {e : TypeId} {v : Value} (h : Emp w e v) : Emp w.drew e v := h.imp fun _ h => ⟨h.1, own_drew h.2 1⟩

set_option maxRecDepth 100000 in
set_option maxHeartbeats 6400000 in
theorem expertMixes_walk {w : World} {B : Nat} {A0 A1 A2 A3 : Option Addr} {L0 c0 u c1 dd c2 n c3 : Nat} {router xs : List Int} {U D : List (List Int)} {hidden k : Int} (hr : RdI w B .i8 (.slice A0 L0 c0) router) (f0 : Form (.slice A0 L0 c0)) (hu : RdF w B (.slice A1 u c1) U) (hd : RdF w B (.slice A2 dd c2) D) (hx : RdI w B .i64 (.slice A3 n c3) xs) (f3 : Form (.slice A3 n c3)) (hw : Wt router) (hbig : L0 ≤ 1048576) (hbx : n ≤ 1048576) (hwu : WtR U) (hwd : WtR D) (hbu : u ≤ 4294967296) (hbd : dd ≤ 4294967296) :
    Calls Try.prog 5 #[.agg #[.slice A0 L0 c0, .slice A1 u c1, .slice A2 dd c2, .int .i64 hidden, .int .i64 k, .slice A3 n c3]] w (TruePost w) := by
  obtain ⟨i0, hi0, hz0, hz1, hz2⟩ := info_parts Try.infoI64_
  obtain ⟨j0, hj0, jz0, jz1, jz2⟩ := info_parts Try.infoI8_
  have HC : Hid (CaseAt (w.alloc (.cells #[.slice A0 L0 c0, .slice A1 u c1, .slice A2 dd c2, .int .i64 hidden, .int .i64 k, .slice A3 n c3] 44)) w.heap.size (.slice A0 L0 c0) (.slice A1 u c1) (.slice A2 dd c2) (.int .i64 hidden) (.int .i64 k) (.slice A3 n c3)) := Blk.new w _ _
  have HB0 : Hid (Below w.heap.size w (w.alloc (.cells #[.slice A0 L0 c0, .slice A1 u c1, .slice A2 dd c2, .int .i64 hidden, .int .i64 k, .slice A3 n c3] 44))) := below_alloc w _
  have hul := (rdr_len hu.r).1
  have hdl := (rdr_len hd.r).1
  have hrl := (rdi_len hr).1
  have hxl := (rdi_len hx).1
  have HRr := hid_ hr
  have HF0 := hid_ f0
  have HF3 := hid_ f3
  have HUu := hid_ hu
  have HDd := hid_ hd
  have HXx := hid_ hx
  have HW := hid_ hw
  have HWU := hid_ hwu
  have HWD := hid_ hwd
  have HUL := hid_ hul
  have HDL := hid_ hdl
  have HRL := hid_ hrl
  have HXL := hid_ hxl
  obtain ⟨gv, hgv⟩ : ∃ gv, greatB u dd L0 = gv := ⟨_, rfl⟩
  have hG := hid_ (fun w => great_any (A0 := A0) (A1 := A1) (A2 := A2) (A3 := A3) (L0 := L0) (c0 := c0) (u := u) (c1 := c1) (dd := dd) (c2 := c2) (n := n) (c3 := c3) (hidden := hidden) (k := k) w)
  rw [hgv] at hG
  clear hr hu hd hx hw hwu hwd hul hdl hgv hrl hxl f0 f3
  go_enter Try.func5, Try.ntmps5
  go_upto_region 1 with fail
  obtain ⟨d0, d1, d2, d3, d4, d5⟩ := HC.out.cells
  generalize (w.alloc (.cells #[.slice A0 L0 c0, .slice A1 u c1, .slice A2 dd c2, .int .i64 hidden, .int .i64 k, .slice A3 n c3] 44)) = w0 at *
  cases gv with
  | true =>
    go_wp2_with ((go_at_call 23); (refine (hG.out _).mono ?_); (rintro e w2 ⟨rfl, hb⟩); (have HB2 := hid_ (below_comp HB0.out hb)); (clear hb))
    go_ret
    exact ⟨rfl, HB2.out⟩
  | false =>
    go_wp2_with ((go_at_call 23); (refine (hG.out _).mono ?_); (rintro e w2 ⟨rfl, hb⟩); (have HC2 := hid_ (HC.out.below hb)); (clear d0 d1 d2 d3 d4 d5); (obtain ⟨d0, d1, d2, d3, d4, d5⟩ := HC2.out.cells); (have HB2 := hid_ (below_comp HB0.out hb)); (clear hb))
    obtain ⟨x, hx⟩ : ∃ x, mixE router U D hidden k xs = x := ⟨_, rfl⟩
    obtain ⟨l, hl⟩ : ∃ l, (if x = 0 then mixL router U D hidden k xs else []) = l := ⟨_, rfl⟩
    have HMX := hid_ hx
    have HML := hid_ hl
    clear hx hl
    have hrl2 : router.length ≤ 1048576 := by rw [HRL.out]; exact hbig
    have hxl2 : xs.length ≤ 1048576 := by rw [HXL.out]; exact hbx
    go_cut [3, 4] (fun v3 v4 wx => ∃ A n c, v3 = .slice A n c ∧ v4 = .int .i64 x ∧ Hid (RdI wx wx.heap.size .i64 (.slice A n c) l) ∧ Hid (Below w2.heap.size w2 wx))
    case first =>
      have W1 : Hid (Below w2.heap.size w2 (w2.alloc (.cells #[] 87)).drew) := below_comp (below_alloc w2 _) (below_drawn ⟨1, rfl⟩)
      have W2 : Hid (Below w2.heap.size w2 ((w2.alloc (.cells #[] 87)).alloc (.cells #[] 2)).drew) := below_comp (below_comp (below_alloc w2 _) (below_alloc _ _)) (below_drawn ⟨1, rfl⟩)
      have W3 : Hid (Below w2.heap.size w2 ((w2.alloc (.cells #[] 2)).alloc (.cells #[] 87)).drew) := below_comp (below_comp (below_alloc w2 _) (below_alloc _ _)) (below_drawn ⟨1, rfl⟩)
      have O1 : Hid ((w2.alloc (.cells #[] 87)).drew.ownsRow w2.heap.size 87 1 (.slice (some ⟨w2.heap.size, 0, none⟩) 0 0) 0 []) := own_drew (own_empty_ w2 _) 1
      have O2 : Hid (((w2.alloc (.cells #[] 87)).alloc (.cells #[] 2)).drew.ownsRow w2.heap.size 87 1 (.slice (some ⟨w2.heap.size, 0, none⟩) 0 0) 0 []) := own_drew ((own_empty_ w2 _).alloc _) 1
      have O3 : Hid (((w2.alloc (.cells #[] 2)).alloc (.cells #[] 87)).drew.ownsRow (w2.heap.size + 1) 87 1 (.slice (some ⟨w2.heap.size + 1, 0, none⟩) 0 0) 0 []) := by
        have h := own_drew (own_empty_ (w2.alloc (.cells #[] 2)) 87) 1
        rw [World.size_alloc] at h
        exact h
      have M2 : Hid (Emp ((w2.alloc (.cells #[] 87)).alloc (.cells #[] 2)).drew 2 (.slice (some ⟨w2.heap.size + 1, 0, none⟩) 0 0)) := by
        have h := (Emp.new (w2.alloc (.cells #[] 87)) 2).drew
        rw [World.size_alloc] at h
        exact h
      have M3 : Hid (Emp ((w2.alloc (.cells #[] 2)).alloc (.cells #[] 87)).drew 2 (.slice (some ⟨w2.heap.size, 0, none⟩) 0 0)) := ((Emp.new w2 2).below (below_alloc _ _)).drew
      go_region_held3 (fun w' => w'.cell? ⟨w.heap.size, 0, none⟩ = some (.slice A0 L0 c0) ∧ w'.cell? ⟨w.heap.size, 1, none⟩ = some (.slice A1 u c1) ∧ w'.cell? ⟨w.heap.size, 2, none⟩ = some (.slice A2 dd c2) ∧ w'.cell? ⟨w.heap.size, 3, none⟩ = some (.int .i64 hidden) ∧ w'.cell? ⟨w.heap.size, 4, none⟩ = some (.int .i64 k) ∧ w'.cell? ⟨w.heap.size, 5, none⟩ = some (.slice A3 n c3)) (go_keep) ((first
        | (go_at_call 24; have hM := (mix_any (hidden := hidden) (k := k) (Rd.of_own HP6.out) (Rd.of_own HX6.out) HW.out (by omega) HQ6.out.r HO6.out.r HWU.out HWD.out).mono (fun _ _ h => mixRow_of h); rw [HMX.out] at hM; refine hM.mono ?_; rintro e w7 ⟨A9, n9, c9, rfl, hr7, hb7⟩; rw [HML.out] at hr7; have HR7 := hid_ hr7; have HB7 := hid_ (below_comp HB6.out hb7); obtain ⟨t0, t1, t2, t3, t4, t5⟩ := (HC2.out.below HB7.out).cells; clear hM hr7 hb7)
        | (obtain ⟨b9, hv9, ho9⟩ := HE5.out; injection hv9 with hv9 _ _; injection hv9 with hv9; injection hv9 with hv9 _ _; subst hv9; have hW := HB5.out; have hp := HP5.out; have hq := HQ5.out; have ho := HO5.out; refine step_append_rd rfl (.tmp 30) (.tmp 32) 23 rfl _ 2 i0 (.int .i64 0) 8 Try.underlying23 hi0 hz0 hz1 hz2 rfl _ 0 [] rfl ho9 B _ _ rfl (rdi_below HXx.out (below_comp HB2.out hW)) HF3.out (ints_one _) (by unfold maxLen; simp; omega) (by simp; omega) (by obtain ⟨_, hb9, _⟩ := own_blk ho9; exact Nat.le_of_lt hb9.lt) ?_; intro v6 w6 hO9 hg9; have HP6 := hid_ (own_grown hp ho9 (by decide) hg9); have HQ6 := hid_ (hq.grown ho9 (by decide) (by decide) hg9); have HO6 := hid_ (ho.grown ho9 (by decide) (by decide) hg9); obtain ⟨A8, c8, rfl, hx6, hb6⟩ := copied_at hW (by have := HB3.out.size; have := HB4.out.size; have := HB5.out.size; omega) hO9 hg9; have HX6 := hid_ hx6; have HB6 := hid_ hb6; obtain ⟨t0, t1, t2, t3, t4, t5⟩ := (HC2.out.below hb6).cells; clear hO9 hg9 hx6 hb6 ho9 hW hp hq ho)
        | (have ho9 := own_empty_ w5 2; have hW := below_comp HB5.out (below_alloc w5 (.cells #[] 2)); have hp := own_below HP5.out (below_alloc w5 (.cells #[] 2)); have hq := HQ5.out.below (Upd.of_below (below_alloc w5 (.cells #[] 2))); have ho := HO5.out.below (Upd.of_below (below_alloc w5 (.cells #[] 2))); refine step_append_rd rfl (.tmp 30) (.tmp 32) 23 rfl _ 2 i0 (.int .i64 0) 8 Try.underlying23 hi0 hz0 hz1 hz2 rfl _ 0 [] rfl ho9 B _ _ rfl (rdi_below HXx.out (below_comp HB2.out hW)) HF3.out (ints_one _) (by unfold maxLen; simp; omega) (by simp; omega) (by obtain ⟨_, hb9, _⟩ := own_blk ho9; exact Nat.le_of_lt hb9.lt) ?_; intro v6 w6 hO9 hg9; have HP6 := hid_ (own_grown hp ho9 (by decide) hg9); have HQ6 := hid_ (hq.grown ho9 (by decide) (by decide) hg9); have HO6 := hid_ (ho.grown ho9 (by decide) (by decide) hg9); obtain ⟨A8, c8, rfl, hx6, hb6⟩ := copied_at hW (by have := HB3.out.size; have := HB4.out.size; have := HB5.out.size; omega) hO9 hg9; have HX6 := hid_ hx6; have HB6 := hid_ hb6; obtain ⟨t0, t1, t2, t3, t4, t5⟩ := (HC2.out.below hb6).cells; clear hO9 hg9 hx6 hb6 ho9 hW hp hq ho)
        | (refine step_append_rd rfl (.tmp 16) (.tmp 18) 22 rfl _ 87 j0 (.int .i8 0) 1 Try.underlying22 hj0 jz0 jz1 jz2 rfl _ 0 [] rfl O1.out B _ _ rfl (rdi_below HRr.out (below_comp HB2.out W1.out)) HF0.out (ints_one _) (by unfold maxLen; simp; omega) (by simp; omega) (by simp <;> omega) ?_; intro v3 w3 hO3 hg3; obtain ⟨A6, c6, rfl, hp3, hb3⟩ := copied_at W1.out (Nat.le_refl _) hO3 hg3; have HP3 := hid_ hp3; have HB3 := hid_ hb3; obtain ⟨t0, t1, t2, t3, t4, t5⟩ := (HC2.out.below hb3).cells; clear hO3 hg3 hp3 hb3)
        | (refine step_append_rd rfl (.tmp 16) (.tmp 18) 22 rfl _ 87 j0 (.int .i8 0) 1 Try.underlying22 hj0 jz0 jz1 jz2 rfl _ 0 [] rfl O2.out B _ _ rfl (rdi_below HRr.out (below_comp HB2.out W2.out)) HF0.out (ints_one _) (by unfold maxLen; simp; omega) (by simp; omega) (by simp <;> omega) ?_; intro v3 w3 hO3 hg3; have HE3 := hid_ (Emp.grown M2.out O2.out (by decide) hg3); obtain ⟨A6, c6, rfl, hp3, hb3⟩ := copied_at W2.out (Nat.le_refl _) hO3 hg3; have HP3 := hid_ hp3; have HB3 := hid_ hb3; obtain ⟨t0, t1, t2, t3, t4, t5⟩ := (HC2.out.below hb3).cells; clear hO3 hg3 hp3 hb3)
        | (refine step_append_rd rfl (.tmp 16) (.tmp 18) 22 rfl _ 87 j0 (.int .i8 0) 1 Try.underlying22 hj0 jz0 jz1 jz2 rfl _ 0 [] rfl O3.out B _ _ rfl (rdi_below HRr.out (below_comp HB2.out W3.out)) HF0.out (ints_one _) (by unfold maxLen; simp; omega) (by simp; omega) (by simp <;> omega) ?_; intro v3 w3 hO3 hg3; have HE3 := hid_ (Emp.grown M3.out O3.out (by decide) hg3); obtain ⟨A6, c6, rfl, hp3, hb3⟩ := copied_at W3.out (Nat.le_succ _) hO3 hg3; have HP3 := hid_ hp3; have HB3 := hid_ hb3; obtain ⟨t0, t1, t2, t3, t4, t5⟩ := (HC2.out.below hb3).cells; clear hO3 hg3 hp3 hb3)
        | (go_at_call 25; have hq := HO4.out; have he := HE4.out; refine (own_any (rdf_below HDd.out (below_comp HB2.out HB4.out)) hbd (fun i hi => (HWD.out i hi).2)).mono ?_; rintro e w5 ⟨B5, f5, rfl, hO, hb⟩; have HE5 := hid_ (he.below hb); clear he; have HP5 := hid_ (own_below HP4.out hb); have HQ5 := hid_ (hq.below (Upd.of_below hb)); clear hq; have HO5 := hid_ hO; have HB5 := hid_ (below_comp HB4.out hb); obtain ⟨t0, t1, t2, t3, t4, t5⟩ := (HC2.out.below HB5.out).cells; clear hO hb)
        | (go_at_call 25; have hq := HO4.out; have he := (Emp.new w4 2); show Calls _ _ _ (World.alloc _ _) _; refine (own_any (rdf_below HDd.out (below_comp HB2.out (below_comp HB4.out (below_alloc w4 (.cells #[] 2))))) hbd (fun i hi => (HWD.out i hi).2)).mono ?_; rintro e w5 ⟨B5, f5, rfl, hO, hb⟩; have HE5 := hid_ (he.below hb); clear he; have HP5 := hid_ (own_below (own_below HP4.out (below_alloc w4 (.cells #[] 2))) hb); have HQ5 := hid_ ((hq.below (Upd.of_below (below_alloc w4 (.cells #[] 2)))).below (Upd.of_below hb)); clear hq; have HO5 := hid_ hO; have HB5 := hid_ (below_comp (below_comp HB4.out (below_alloc w4 (.cells #[] 2))) hb); obtain ⟨t0, t1, t2, t3, t4, t5⟩ := (HC2.out.below HB5.out).cells; clear hO hb)
        | (go_at_call 25; have hq := HO4.out; refine (own_any (rdf_below HDd.out (below_comp HB2.out HB4.out)) hbd (fun i hi => (HWD.out i hi).2)).mono ?_; rintro e w5 ⟨B5, f5, rfl, hO, hb⟩; have HP5 := hid_ (own_below HP4.out hb); have HQ5 := hid_ (hq.below (Upd.of_below hb)); clear hq; have HO5 := hid_ hO; have HB5 := hid_ (below_comp HB4.out hb); obtain ⟨t0, t1, t2, t3, t4, t5⟩ := (HC2.out.below HB5.out).cells; clear hO hb)
        | (go_at_call 25; have he := HE3.out; refine (own_any (rdf_below HUu.out (below_comp HB2.out HB3.out)) hbu (fun i hi => (HWU.out i hi).2)).mono ?_; rintro e w4 ⟨B4, f4, rfl, hO, hb⟩; have HE4 := hid_ (he.below hb); clear he; have HP4 := hid_ (own_below HP3.out hb); have HO4 := hid_ hO; have HB4 := hid_ (below_comp HB3.out hb); obtain ⟨t0, t1, t2, t3, t4, t5⟩ := (HC2.out.below HB4.out).cells; clear hO hb)
        | (go_at_call 25; have he := (Emp.new w3 2); show Calls _ _ _ (World.alloc _ _) _; refine (own_any (rdf_below HUu.out (below_comp HB2.out (below_comp HB3.out (below_alloc w3 (.cells #[] 2))))) hbu (fun i hi => (HWU.out i hi).2)).mono ?_; rintro e w4 ⟨B4, f4, rfl, hO, hb⟩; have HE4 := hid_ (he.below hb); clear he; have HP4 := hid_ (own_below (own_below HP3.out (below_alloc w3 (.cells #[] 2))) hb); have HO4 := hid_ hO; have HB4 := hid_ (below_comp (below_comp HB3.out (below_alloc w3 (.cells #[] 2))) hb); obtain ⟨t0, t1, t2, t3, t4, t5⟩ := (HC2.out.below HB4.out).cells; clear hO hb)
        | (go_at_call 25; refine (own_any (rdf_below HUu.out (below_comp HB2.out HB3.out)) hbu (fun i hi => (HWU.out i hi).2)).mono ?_; rintro e w4 ⟨B4, f4, rfl, hO, hb⟩; have HP4 := hid_ (own_below HP3.out hb); have HO4 := hid_ hO; have HB4 := hid_ (below_comp HB3.out hb); obtain ⟨t0, t1, t2, t3, t4, t5⟩ := (HC2.out.below HB4.out).cells; clear hO hb)))
      all_goals ((try go_wp2_with fail); go_meet; exact ⟨_, _, _, rfl, rfl, HR7, HB7⟩)
    case rest =>
    obtain ⟨A9, n9, c9, rfl, rfl, HR3, HB3⟩ := hcut
    clear d0 d1 d2 d3 d4 d5
    obtain ⟨d0, d1, d2, d3, d4, d5⟩ := (HC2.out.below HB3.out).cells
    go_wp2_with ((go_at_call 26); (have hM := (rmix_any (hidden := hidden) (k := k) (rdi_below HRr.out (below_comp HB2.out HB3.out)) (rdi_below HXx.out (below_comp HB2.out HB3.out)) HW.out (by omega) (rdr_below HUu.out.r (below_comp HB2.out HB3.out)) (rdr_below HDd.out.r (below_comp HB2.out HB3.out)) HWU.out HWD.out).mono (fun _ _ h => mixRow_of h)); (rw [HMX.out] at hM); (refine hM.mono ?_); (rintro e w4 ⟨A10, n10, c10, rfl, hr4, hb4⟩); (rw [HML.out] at hr4); (have HR4 := hid_ hr4); (have HR34 := hid_ (rdi_below HR3.out hb4)); (have HB4 := hid_ (below_comp HB3.out hb4)); (clear d0 d1 d2 d3 d4 d5); (obtain ⟨d0, d1, d2, d3, d4, d5⟩ := (HC2.out.below HB4.out).cells); (clear hM hr4 hb4))
    obtain ⟨ee, hee⟩ : ∃ ee, routeE router xs u k = ee := ⟨_, rfl⟩
    obtain ⟨ch, hch⟩ : ∃ ch, (if ee = 0 then routeC router xs u k else []) = ch := ⟨_, rfl⟩
    obtain ⟨sh, hsh⟩ : ∃ sh, (if ee = 0 then routeP router xs u k else []) = sh := ⟨_, rfl⟩
    have HEE := hid_ hee
    have HCH := hid_ hch
    have HSH := hid_ hsh
    clear hee hch hsh
    go_cut [7, 8, 9] (fun v7 v8 v9 wx => ∃ A n c A' n' c', v7 = .slice A n c ∧ v8 = .slice A' n' c' ∧ v9 = .int .i64 ee ∧ Hid (RdI wx wx.heap.size .i64 (.slice A n c) ch) ∧ Hid (RdI wx wx.heap.size .i64 (.slice A' n' c') sh) ∧ Hid (Below w4.heap.size w4 wx))
    case first =>
      have X1 : Hid (Below w4.heap.size w4 (w4.alloc (.cells #[] 87)).drew) := below_comp (below_alloc w4 _) (below_drawn ⟨1, rfl⟩)
      have X2 : Hid (Below w4.heap.size w4 ((w4.alloc (.cells #[] 87)).alloc (.cells #[] 2)).drew) := below_comp (below_comp (below_alloc w4 _) (below_alloc _ _)) (below_drawn ⟨1, rfl⟩)
      have X3 : Hid (Below w4.heap.size w4 ((w4.alloc (.cells #[] 2)).alloc (.cells #[] 87)).drew) := below_comp (below_comp (below_alloc w4 _) (below_alloc _ _)) (below_drawn ⟨1, rfl⟩)
      have Y1 : Hid ((w4.alloc (.cells #[] 87)).drew.ownsRow w4.heap.size 87 1 (.slice (some ⟨w4.heap.size, 0, none⟩) 0 0) 0 []) := own_drew (own_empty_ w4 _) 1
      have Y2 : Hid (((w4.alloc (.cells #[] 87)).alloc (.cells #[] 2)).drew.ownsRow w4.heap.size 87 1 (.slice (some ⟨w4.heap.size, 0, none⟩) 0 0) 0 []) := own_drew ((own_empty_ w4 _).alloc _) 1
      have Y3 : Hid (((w4.alloc (.cells #[] 2)).alloc (.cells #[] 87)).drew.ownsRow (w4.heap.size + 1) 87 1 (.slice (some ⟨w4.heap.size + 1, 0, none⟩) 0 0) 0 []) := by
        have h := own_drew (own_empty_ (w4.alloc (.cells #[] 2)) 87) 1
        rw [World.size_alloc] at h
        exact h
      have Z2 : Hid (Emp ((w4.alloc (.cells #[] 87)).alloc (.cells #[] 2)).drew 2 (.slice (some ⟨w4.heap.size + 1, 0, none⟩) 0 0)) := by
        have h := (Emp.new (w4.alloc (.cells #[] 87)) 2).drew
        rw [World.size_alloc] at h
        exact h
      have Z3 : Hid (Emp ((w4.alloc (.cells #[] 2)).alloc (.cells #[] 87)).drew 2 (.slice (some ⟨w4.heap.size, 0, none⟩) 0 0)) := ((Emp.new w4 2).below (below_alloc _ _)).drew
      go_region_held3 (fun w' => w'.cell? ⟨w.heap.size, 0, none⟩ = some (.slice A0 L0 c0) ∧ w'.cell? ⟨w.heap.size, 1, none⟩ = some (.slice A1 u c1) ∧ w'.cell? ⟨w.heap.size, 4, none⟩ = some (.int .i64 k) ∧ w'.cell? ⟨w.heap.size, 5, none⟩ = some (.slice A3 n c3)) (go_keep) ((first
        | (go_at_call 27; have hM := (route_any (m := u) (k := k) (Rd.of_own HP6.out) (Rd.of_own HX6.out) HW.out (by omega)).mono (fun _ _ h => routeRow_of h); rw [HEE.out] at hM; refine hM.mono ?_; rintro e w7 ⟨A11, n11, c11, A12, n12, c12, rfl, hr7, hs7, hb7⟩; rw [HCH.out] at hr7; rw [HSH.out] at hs7; have HR7 := hid_ hr7; have HS7 := hid_ hs7; have HB7 := hid_ (below_comp HB6.out hb7); obtain ⟨t0, t1, t2, t3, t4, t5⟩ := (HC2.out.below (below_comp HB4.out HB7.out)).cells; clear hM hr7 hs7 hb7)
        | (obtain ⟨b9, hv9, ho9⟩ := HE5.out; injection hv9 with hv9 _ _; injection hv9 with hv9; injection hv9 with hv9 _ _; subst hv9; have hW := HB5.out; have hp := HP5.out; refine step_append_rd rfl (.tmp 63) (.tmp 65) 23 rfl _ 2 i0 (.int .i64 0) 8 Try.underlying23 hi0 hz0 hz1 hz2 rfl _ 0 [] rfl ho9 B _ _ rfl (rdi_below HXx.out (below_comp HB2.out (below_comp HB4.out hW))) HF3.out (ints_one _) (by unfold maxLen; simp; omega) (by simp; omega) (by obtain ⟨_, hb9, _⟩ := own_blk ho9; exact Nat.le_of_lt hb9.lt) ?_; intro v6 w6 hO9 hg9; have HP6 := hid_ (own_grown hp ho9 (by decide) hg9); obtain ⟨A8, c8, rfl, hx6, hb6⟩ := copied_at hW (by have := HB5.out.size; omega) hO9 hg9; have HX6 := hid_ hx6; have HB6 := hid_ hb6; obtain ⟨t0, t1, t2, t3, t4, t5⟩ := (HC2.out.below (below_comp HB4.out hb6)).cells; clear hO9 hg9 hx6 hb6 ho9 hW hp)
        | (have ho9 := own_empty_ w5 2; have hW := below_comp HB5.out (below_alloc w5 (.cells #[] 2)); have hp := own_below HP5.out (below_alloc w5 (.cells #[] 2)); refine step_append_rd rfl (.tmp 63) (.tmp 65) 23 rfl _ 2 i0 (.int .i64 0) 8 Try.underlying23 hi0 hz0 hz1 hz2 rfl _ 0 [] rfl ho9 B _ _ rfl (rdi_below HXx.out (below_comp HB2.out (below_comp HB4.out hW))) HF3.out (ints_one _) (by unfold maxLen; simp; omega) (by simp; omega) (by obtain ⟨_, hb9, _⟩ := own_blk ho9; exact Nat.le_of_lt hb9.lt) ?_; intro v6 w6 hO9 hg9; have HP6 := hid_ (own_grown hp ho9 (by decide) hg9); obtain ⟨A8, c8, rfl, hx6, hb6⟩ := copied_at hW (by have := HB5.out.size; omega) hO9 hg9; have HX6 := hid_ hx6; have HB6 := hid_ hb6; obtain ⟨t0, t1, t2, t3, t4, t5⟩ := (HC2.out.below (below_comp HB4.out hb6)).cells; clear hO9 hg9 hx6 hb6 ho9 hW hp)
        | (refine step_append_rd rfl (.tmp 54) (.tmp 56) 22 rfl _ 87 j0 (.int .i8 0) 1 Try.underlying22 hj0 jz0 jz1 jz2 rfl _ 0 [] rfl Y1.out B _ _ rfl (rdi_below HRr.out (below_comp HB2.out (below_comp HB4.out X1.out))) HF0.out (ints_one _) (by unfold maxLen; simp; omega) (by simp; omega) (by simp <;> omega) ?_; intro v5 w5 hO5 hg5; obtain ⟨A6, c6, rfl, hp5, hb5⟩ := copied_at X1.out (Nat.le_refl _) hO5 hg5; have HP5 := hid_ hp5; have HB5 := hid_ hb5; obtain ⟨t0, t1, t2, t3, t4, t5⟩ := (HC2.out.below (below_comp HB4.out hb5)).cells; clear hO5 hg5 hp5 hb5)
        | (refine step_append_rd rfl (.tmp 54) (.tmp 56) 22 rfl _ 87 j0 (.int .i8 0) 1 Try.underlying22 hj0 jz0 jz1 jz2 rfl _ 0 [] rfl Y2.out B _ _ rfl (rdi_below HRr.out (below_comp HB2.out (below_comp HB4.out X2.out))) HF0.out (ints_one _) (by unfold maxLen; simp; omega) (by simp; omega) (by simp <;> omega) ?_; intro v5 w5 hO5 hg5; have HE5 := hid_ (Emp.grown Z2.out Y2.out (by decide) hg5); obtain ⟨A6, c6, rfl, hp5, hb5⟩ := copied_at X2.out (Nat.le_refl _) hO5 hg5; have HP5 := hid_ hp5; have HB5 := hid_ hb5; obtain ⟨t0, t1, t2, t3, t4, t5⟩ := (HC2.out.below (below_comp HB4.out hb5)).cells; clear hO5 hg5 hp5 hb5)
        | (refine step_append_rd rfl (.tmp 54) (.tmp 56) 22 rfl _ 87 j0 (.int .i8 0) 1 Try.underlying22 hj0 jz0 jz1 jz2 rfl _ 0 [] rfl Y3.out B _ _ rfl (rdi_below HRr.out (below_comp HB2.out (below_comp HB4.out X3.out))) HF0.out (ints_one _) (by unfold maxLen; simp; omega) (by simp; omega) (by simp <;> omega) ?_; intro v5 w5 hO5 hg5; have HE5 := hid_ (Emp.grown Z3.out Y3.out (by decide) hg5); obtain ⟨A6, c6, rfl, hp5, hb5⟩ := copied_at X3.out (Nat.le_succ _) hO5 hg5; have HP5 := hid_ hp5; have HB5 := hid_ hb5; obtain ⟨t0, t1, t2, t3, t4, t5⟩ := (HC2.out.below (below_comp HB4.out hb5)).cells; clear hO5 hg5 hp5 hb5)))
      all_goals ((try go_wp2_with fail); go_meet; exact ⟨_, _, _, _, _, _, rfl, rfl, rfl, HR7, HS7, HB7⟩)
    case rest =>
    obtain ⟨A11, n11, c11, A12, n12, c12, rfl, rfl, rfl, HR5, HS5, HB5⟩ := hcut
    clear d0 d1 d2 d3 d4 d5
    have HB25 := hid_ (below_comp HB4.out HB5.out)
    have HRa := hid_ (rdi_below HR34.out HB5.out)
    have HRb := hid_ (rdi_below HR4.out HB5.out)
    obtain ⟨d0, d1, d2, d3, d4, d5⟩ := (HC2.out.below HB25.out).cells
    go_wp2_with (first
      | ((go_at_call 28); (have hM := (rroute_any (m := u) (k := k) (rdi_below HRr.out (below_comp HB2.out HB25.out)) (rdi_below HXx.out (below_comp HB2.out HB25.out)) HW.out (by omega)).mono (fun _ _ h => routeRow_of h)); (rw [HEE.out] at hM); (refine hM.mono ?_); (rintro e w6 ⟨A13, n13, c13, A14, n14, c14, rfl, hr6, hs6, hb6⟩); (rw [HCH.out] at hr6); (rw [HSH.out] at hs6); (have HR6 := hid_ hr6); (have HS6 := hid_ hs6); (have HR56 := hid_ (rdi_below HR5.out hb6)); (have HS56 := hid_ (rdi_below HS5.out hb6)); (have HRa6 := hid_ (rdi_below HRa.out hb6)); (have HRb6 := hid_ (rdi_below HRb.out hb6)); (have HB6 := hid_ (below_comp HB25.out hb6)); (clear hM hr6 hs6 hb6))
      | ((go_at_call 29); (refine (same7c HR57.out HR67.out).mono ?_); (rintro e w8 ⟨rfl, hb8⟩); (have HS58 := hid_ (rdi_below HS57.out hb8)); (have HS68 := hid_ (rdi_below HS67.out hb8)); (have HB8 := hid_ (below_comp HB7.out hb8)); (clear hb8))
      | ((go_at_call 15); (refine (same4q HS58.out HS68.out).mono ?_); (rintro e w9 ⟨rfl, hb9⟩); (have HB9 := hid_ (below_comp HB8.out hb9)); (clear hb9))
      | ((go_at_call 15); (refine (same4q HRa6.out HRb6.out).mono ?_); (rintro e w7 ⟨rfl, hb7⟩); (have HR57 := hid_ (rdi_below HR56.out hb7)); (have HR67 := hid_ (rdi_below HR6.out hb7)); (have HS57 := hid_ (rdi_below HS56.out hb7)); (have HS67 := hid_ (rdi_below HS6.out hb7)); (have HB7 := hid_ (below_comp HB6.out hb7)); (clear hb7)))
    go_ret
    exact ⟨rfl, below_comp HB2.out HB9.out⟩

set_option maxRecDepth 100000 in
theorem expertMixes_args {H : Type} {enc : TypeId × Value → H} {W : World} {base : Nat} {v0 : Value} {d0 : DataW H} {p0 : List MemPlace} {gs : List (DataW H)}
    (h0 : DataW.Trod enc Try.prog W 0 (fun _ => true) true 44 v0 d0 p0) (k0 : Value.okWide Try.prog W .any base 44 v0)
    (hk : Rows.uptoSmall H ([d0] ++ gs) = true) :
    Calls Try.prog 5 #[v0] W (TruePost W) := by
  have hb := bulk_all hk
  have hb0 := bulk_mem (d := d0) (l := [d0] ++ gs) (by simp)
  obtain ⟨A0, A1, A2, A3, L0, c0, u, c1, dd, c2, n, c3, hidden, k, router, xs, U, D, rfl, hr, f0, w0, hu, _, hd, _, wu, wd, hx, f3, l0, l1, l2, l3⟩ := case_open h0 k0
  have e1 := (rdi_len hr).1
  have e2 := (rdr_len hu.r).1
  have e3 := (rdr_len hd.r).1
  have e4 := (rdi_len hx).1
  exact expertMixes_walk hr f0 hu hd hx f3 (wf_i8 w0) (by omega) (by omega) (fun i hi => ⟨wf_i8 (wu i hi).1, by have := (wu i hi).2; omega⟩) (fun i hi => ⟨wf_i8 (wd i hi).1, by have := (wd i hi).2; omega⟩) (by omega) (by omega)
end Go.Proofs.Ytlpeijaeiioimaa
