/- aviarylaw16.own walked: a copy of rows of weights. Conditions: the slices read as the lists; fewer than 2^32 of each. -/
import Derived.Test.YtlpeijaeiioimaaCaseArgs
import Derived.Test.YtlpeijaeiioimaaExpertFirstW
namespace Go.Proofs.Ytlpeijaeiioimaa
open Go.RowKit Go.ChangeShapes Go.WideShapes Go.ChangeAt

theorem Try.infoR8o : (Try.prog.info? 22).map (fun i => (i.zero, i.size, i.bytes)) = some (some (.slice none 0 0), 1, 24) := by kernel_rfl
theorem own_ty {w : World} {b1 b2 n1 n2 : Nat} {e1 e2 : TypeId} {v1 v2 : Value} {x1 x2 : List Value} (h1 : w.ownsRow b1 e1 1 v1 n1 x1) (h2 : w.ownsRow b2 e2 1 v2 n2 x2) (hne : e1 ≠ e2) {g : Nat} (hg : some g = v2.ownBlock) : v1.ownBlock ≠ some g := by
  intro hk
  rcases h1.2 with ⟨h0, _⟩ | ⟨g1, cap, cur, hv, _, hblk, _⟩
  · rw [h0] at hk
    cases hk
  · rw [hv] at hk
    have hgg : g1 = g := by injection hk
    subst hgg
    exact own_ne_blk h2 hblk hne hg
where
  own_ne_blk {w : World} {base n b : Nat} {e t : TypeId} {v : Value} {xs : List Value} {cs : Array Value} (h : w.ownsRow base e 1 v n xs) (hb : Blk w b t cs) (hne : t ≠ e) : some b ≠ v.ownBlock := by
    intro hk
    rcases h.2 with ⟨h0, _⟩ | ⟨g, cap, cur, hv, _, hblk, _⟩
    · rw [h0] at hk
      cases hk
    · rw [hv] at hk
      have hg : b = g := by injection hk
      exact Blk.ne_ hb hblk hne hg
def ORows (w : World) (vs : List Value) (L : List (List Int)) (i : Nat) : Prop :=
  vs.length = i ∧ ∀ j, j < i → ∃ base, w.ownsRow base 87 1 (vs.getD j (.slice none 0 0)) (L.getD j []).length ((L.getD j []).map (Value.int .i8))
theorem orows_below {w w' : World} {vs : List Value} {L : List (List Int)} {i : Nat} (h : ORows w vs L i) (hb : Upd (fun _ => False) w w') : ORows w' vs L i :=
  ⟨h.1, fun j hj => (h.2 j hj).imp fun _ h => own_upd h hb (fun _ h => h.elim)⟩
theorem orows_next {w3 w5 : World} {i cc m base base2 : Nat} {Ai : Option Addr} {vs : List Value} {L : List (List Int)} {v1 : Value} (HO : w3.ownsRow base 22 1 (.slice Ai i cc) i vs) (HZ : ORows w3 vs L i) (hm : (L.getD i []).length = m)
    (h1 : w3.ownsRow base2 87 1 v1 m ((L.getD i []).map (Value.int .i8))) (hg5 : (w3.alloc (.cells #[v1] 22)).grownBy w5 (Value.slice Ai i cc).ownBlock) : ORows w5 (vs ++ [v1]) L (i + 1) := by
  have hu : Upd (fun k => some k = (Value.slice Ai i cc).ownBlock) (w3.alloc (.cells #[v1] 22)) w5 := (Upd.refl _ _).grown hg5 (fun k hk => .inl hk.symm)
  have keep : ∀ {b n v xs}, w3.ownsRow b 87 1 v n xs → w5.ownsRow b 87 1 v n xs := fun h => own_upd (h.alloc (.cells #[v1] 22)) hu (fun k hk _ _ => own_ty (h.alloc (.cells #[v1] 22)) (HO.alloc (.cells #[v1] 22)) (by decide) hk)
  refine ⟨by rw [List.length_append, HZ.1]; rfl, fun j hj => ?_⟩
  by_cases h : j < i
  · obtain ⟨b, h2⟩ := HZ.2 j h
    refine ⟨b, ?_⟩
    rw [List.getD_eq_getElem?_getD, List.getElem?_append_left (by rw [HZ.1]; exact h), ← List.getD_eq_getElem?_getD]
    exact keep h2
  · obtain rfl : j = i := by omega
    refine ⟨base2, ?_⟩
    rw [List.getD_eq_getElem?_getD, List.getElem?_append_right (by rw [HZ.1]; exact Nat.le_refl _), HZ.1, Nat.sub_self, hm]
    exact keep h1
/-- a copy of rows -/
def OwnAt (w : World) (base : Nat) (v : Value) (L : List (List Int)) : Prop := ∃ vs, w.ownsRow base 22 1 v L.length vs ∧ ORows w vs L L.length
theorem OwnAt.r {w : World} {base : Nat} {v : Value} {L : List (List Int)} (h : OwnAt w base v L) : RdR w w.heap.size v L := by
  obtain ⟨vs, h1, h2, h3⟩ := h
  exact ⟨vs, Rd.of_own h1, h2, fun i hi => (h3 i hi).elim fun _ h => ⟨w.heap.size, Rd.of_own h⟩⟩
theorem OwnAt.below {w w' : World} {base : Nat} {v : Value} {L : List (List Int)} (h : OwnAt w base v L) (hb : Upd (fun _ => False) w w') : OwnAt w' base v L := by
  obtain ⟨vs, h1, h2⟩ := h
  exact ⟨vs, own_upd h1 hb (fun _ h => h.elim), orows_below h2 hb⟩

set_option maxRecDepth 100000 in
set_option maxHeartbeats 3200000 in
theorem own_any {w : World} {B : Nat} {A : Option Addr} {n c : Nat} {L : List (List Int)} (h : RdF w B (.slice A n c) L) (hn : n ≤ 4294967296) (hr : ∀ i, i < L.length → (L.getD i []).length ≤ 4294967296) :
    Calls Try.prog 25 #[.slice A n c] w (fun e w' => ∃ A' c', e = .returned (.slice A' n c') ∧ OwnAt w' w.heap.size (.slice A' n c') L ∧ Below w.heap.size w w') := by
  obtain ⟨i0, hi0, hz0, hz1, hz2⟩ := info_parts Try.infoR8o
  obtain ⟨j0, hj0, jz0, jz1, jz2⟩ := info_parts Try.infoI8_
  have hL := (rdr_len h.r).1
  have HF := hid_ h
  have HL := hid_ hL
  have HRL := hid_ hr
  clear h hr hL
  go_enter Try.func25, Try.ntmps25
  go_wp2_with fail
  go_loopg [3, 4] n (fun g sv iv wr => ∃ (i cc : Nat) (Ai : Option Addr) (vs : List Value), i ≤ n ∧ n ≤ g + i ∧ iv = .int .i64 i ∧ sv = .slice Ai i cc ∧ Hid (wr.ownsRow w.heap.size 22 1 (.slice Ai i cc) i vs) ∧ Hid (ORows wr vs L i) ∧ Hid (Upd (fun _ => False) w wr))
  case atStart => exact ⟨0, 0, none, [], Nat.zero_le _, by omega, rfl, rfl, hid_ (World.ownsRow_nil _ _ _ _), hid_ ⟨rfl, fun j hj => by omega⟩, hid_ (Upd.refl _ _)⟩
  case round =>
    obtain ⟨i, cc, Ai, vs, hid, hg, rfl, rfl, HO, HZ, HU⟩ := hrel
    by_cases hlt : i < n
    · have hlt' : (i : Int) < (n : Int) := by omega
      obtain ⟨b2, o2, E2, m2, e2, B2, rfl, x2, r2, f2⟩ := rdf_cell (rdf_below HF.out HU.out.toB) (j := i) (by rw [HL.out]; exact hlt)
      have hm2 := (rdi_len r2).1
      have hm3 := HRL.out i (by rw [HL.out]; exact hlt)
      have HM2 := hid_ hm2
      have HE1 := hid_ (own_empty_ wr 87)
      have HR1 := hid_ (rdi_below r2 ((Upd.refl (fun _ => False) wr).alloc (.cells #[] 87)).toB)
      have HF1 := hid_ f2
      have x3 := cell_below x2 (below_alloc wr (.cells #[] 87))
      obtain ⟨l, hl⟩ : ∃ l, L.getD i [] = l := ⟨_, rfl⟩
      rw [hl] at hm2 hm3 HR1
      have HLL := hid_ hl
      clear r2 f2 hl HM2
      subst hm2
      go_wp2_with (at_builtin; refine wpList_append_rd rfl (.tmp 12) (.tmp 16) 22 rfl wr.heap.size 87 j0 (.int .i8 0) 1 Try.underlying22 hj0 jz0 jz1 jz2 rfl _ 0 [] rfl HE1.out B2 _ _ rfl HR1.out HF1.out (ints_one _) ?c3 ?c4 ?c5 ?_)
      case c3 => unfold maxLen; simp; omega
      case c4 => simp; omega
      case c5 => simp
      intro v1 w3 hO1 hg1
      obtain ⟨D1, d1, rfl, hr1, hb1⟩ := copied hO1 hg1
      have hO2 : w3.ownsRow wr.heap.size 87 1 (.slice D1 l.length d1) l.length (l.map (Value.int .i8)) := by simpa using hO1
      have HO3 := hid_ (own_below HO.out hb1)
      have HZ3 := hid_ (orows_below HZ.out (Upd.of_below hb1))
      have HU3 := hid_ (HU.out.below hb1)
      have hfin : ∀ (v' : Value) (w5 : World), w5.ownsRow w.heap.size 22 1 v' (i + 1) (vs ++ [.slice D1 l.length d1]) → (w3.alloc (.cells #[.slice D1 l.length d1] 22)).grownBy w5 (Value.slice Ai i cc).ownBlock →
          ∃ A5 c5, v' = .slice A5 (i + 1) c5 ∧ w5.ownsRow w.heap.size 22 1 (.slice A5 (i + 1) c5) (i + 1) (vs ++ [.slice D1 l.length d1]) ∧ ORows w5 (vs ++ [.slice D1 l.length d1]) L (i + 1) ∧ Upd (fun _ => False) w w5 := by
        intro v' w5 h5 hg5
        obtain ⟨A5, c5, rfl⟩ := own_slice_ h5
        exact ⟨A5, c5, rfl, h5, orows_next (base2 := wr.heap.size) HO3.out HZ3.out (by rw [HLL.out]) (by rw [HLL.out]; exact hO2) hg5, app_upd1 HO3.out HU3.out (Nat.le_refl _) hg5⟩
      have HF9 := hid_ hfin
      have hsz := HU3.out.size
      clear hfin hO1 hg1 hr1 hb1 hO2 HE1 HR1 HF1
      go_wp2_with (at_builtin; refine wpList_append_own _ rfl (.tmp 11) (.tmp 18) 42 rfl w.heap.size 22 i0 (.slice none 0 0) 1 24 Try.underlying42 hi0 hz0 hz1 hz2 rfl (by decide) _ i _ rfl (HO3.out.alloc _) ⟨w3.heap.size, 0, none⟩ 1 1 [.slice D1 l.length d1] rfl rfl (one_new rfl) (one_cell rfl) ?c3 ?c4 ?c5 ?_)
      case c3 => unfold maxLen; omega
      case c4 => omega
      case c5 => simp; omega
      intro v' w5 h5 hg5 _
      obtain ⟨A5, c5, rfl, hO5, hZ5, hU5⟩ := HF9.out v' w5 h5 hg5
      have HO5 := hid_ hO5
      have HZ5 := hid_ hZ5
      have HU5 := hid_ hU5
      clear h5 hg5 hO5 hZ5 hU5 HF9
      go_wp2_with fail
      go_roundg (n - (i + 1))
      case measure => omega
      case rel => exact ⟨i + 1, c5, A5, _, by omega, by omega, by go_num, rfl, HO5, HZ5, HU5⟩
    · obtain rfl : i = n := by omega
      go_wp2_with fail
      go_ret
      exact ⟨Ai, cc, rfl, ⟨vs, by rw [HL.out]; exact HO.out, by rw [HL.out]; exact HZ.out⟩, HU.out.toB⟩
end Go.Proofs.Ytlpeijaeiioimaa
