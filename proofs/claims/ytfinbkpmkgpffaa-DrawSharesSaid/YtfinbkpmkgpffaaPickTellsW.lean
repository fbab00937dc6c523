/- PickTells walked: it returns true. Conditions: none beyond the reading of the arguments. -/
import Derived.Test.YtfinbkpmkgpffaaPickMax
import Derived.Test.YtfinbkpmkgpffaaLawRow
import Derived.Test.YtfinbkpmkgpffaaSame
import Derived.ChangeSlices
import Derived.Laws.AppendOwnNone
namespace Go.Proofs.Ytfinbkpmkgpffaa
open Go.RowKit Go.ChangeShapes Go.WideShapes Go.ChangeAt

theorem Try.cellsI64 : Try.prog.cellsOf 2 = 1 := by kernel_rfl
theorem Try.infoI64 : (Try.prog.info? 2).map (fun i => (i.zero, i.size, i.bytes)) = some (some (.int .i64 0), 1, 8) := by kernel_rfl
section
variable {H : Type} {enc : TypeId × Value → H} {W : World} {base : Nat} {v : Value} {d : DataW H} {p : List MemPlace}
set_option maxRecDepth 100000 in
theorem ints_open (h : DataW.Trod enc Try.prog W 0 (fun _ => true) true 29 v d p) (k : Value.okWide Try.prog W .any base 29 v) : ∃ xs, RdI W W.heap.size .i64 v xs ∧ (v = .slice none 0 0 ∨ ∃ a n c, v = .slice (some a) n c) := by
  obtain ⟨a0, len0, cap0, rfl⟩ := okWide_slice Try.underlying29 k
  obtain ⟨fuel, hf⟩ := h
  rcases open_ints Try.underlying29 Try.underlying2 Try.cellsI64 hf with ⟨hcs, _⟩ | ⟨a, len, cap, zs, hcs, hb, hl, hm, hzl, _, hcell, _⟩
  · simp [Value.cells] at hcs
    obtain ⟨rfl, rfl, rfl⟩ := hcs
    exact ⟨[], ⟨none, 0, rfl, Nat.le_refl _, Nat.zero_le _, fun h => absurd h (by simp)⟩, .inl rfl⟩
  · simp [Value.cells] at hcs
    obtain ⟨rfl, rfl, rfl⟩ := hcs
    have hzl2 : len0 ≤ zs.length := by rw [hzl]; split <;> omega
    have hlen : ((zs.take len0).map (Value.int .i64)).length = len0 := by simp; omega
    refine ⟨zs.take len0, ⟨some a, cap0, by rw [hlen], by rw [hlen]; exact hl, by rw [hlen]; omega, fun h0 => ?_⟩, .inr ⟨_, _, _, rfl⟩⟩
    rw [hlen] at h0
    have c0 := hcell 0 (by omega)
    obtain ⟨b, f, spot⟩ := a
    have hsp := World.cell?_spot c0
    have hspot : spot = none := by simpa [Addr.add] using hsp
    subst hspot
    have ha : ∀ j, (⟨b, f, none⟩ : Addr).add j = ⟨b, f + j, none⟩ := fun j => by unfold Addr.add; split <;> simp_all
    have hb9 : b < W.heap.size := World.block_lt_of_cell? W _ c0 |> fun h => by rw [ha] at h; exact h
    refine ⟨b, f, rfl, hb9, hb9, fun j u hj => ?_⟩
    have hj' : j < len0 := by
      rcases Nat.lt_or_ge j len0 with h1 | h1
      · exact h1
      · rw [List.getElem?_eq_none (by rw [hlen]; exact h1)] at hj; cases hj
    have := hcell j (by omega)
    rw [ha] at this
    rw [← hj]
    refine Eq.trans this ?_
    simp [hj', List.getElem?_eq_getElem (show j < zs.length by omega), List.getD_eq_getElem?_getD]
end

/-- where the law's own copy and the argument read as the numbers -/
structure St (w0 : World) (u v : Value) (xs : List Int) (w : World) : Prop where
  u : RdI w w.heap.size .i64 u xs
  v : RdI w w.heap.size .i64 v xs
  b : Upd (fun _ => False) w0 w
theorem St.next {w0 w w' : World} {u v : Value} {xs : List Int} (h : St w0 u v xs w) (hb : Below w.heap.size w w') : St w0 u v xs w' :=
  ⟨(h.u.upd (Upd.of_below (S := fun _ => False) hb) (fun _ h => h.elim)).low, (h.v.upd (Upd.of_below (S := fun _ => False) hb) (fun _ h => h.elim)).low, h.b.below hb⟩
theorem below_drew {w w' : World} (h : ∃ n, w' = w.drewN n) : Below w.heap.size w w' := by
  obtain ⟨n, rfl⟩ := h
  exact ((Upd.refl (fun _ => False) w).drewN n).toBelow (Nat.le_refl _) (fun _ h => h.elim)
theorem RdI.next {w w' : World} {v : Value} {xs : List Int} (h : RdI w w.heap.size .i64 v xs) (hb : Below w.heap.size w w') : RdI w' w'.heap.size .i64 v xs := (h.upd (Upd.of_below (S := fun _ => False) hb) (fun _ h => h.elim)).low

theorem same7t {w : World} {B B' : Nat} {v u : Value} {l : List Int} (h1 : RdI w B .i64 v l) (h2 : RdI w B' .i64 u l) : Calls Try.prog 22 #[v, u] w (fun e w' => e = .returned (.bool true) ∧ Below w.heap.size w w') := by
  refine (same07_any h1 h2).mono ?_
  rintro e w' ⟨rfl, h⟩
  exact ⟨by rw [decide_eq_true rfl], below_drew h⟩
theorem same4t {w : World} {B B' : Nat} {v u : Value} {l : List Int} (h1 : RdI w B .i64 v l) (h2 : RdI w B' .i64 u l) : Calls Try.prog 27 #[v, u] w (fun e w' => e = .returned (.bool true) ∧ Below w.heap.size w w') := by
  refine (same04_any h1 h2).mono ?_
  rintro e w' ⟨rfl, h⟩
  exact ⟨by rw [decide_eq_true rfl], below_drew h⟩
theorem addr_add (b o j : Nat) : (⟨b, o, none⟩ : Addr).add j = ⟨b, o + j, none⟩ := by unfold Addr.add; split <;> simp_all
theorem own_empty (w : World) (e : TypeId) : (w.alloc (.cells #[] e)).ownsRow w.heap.size e 1 (.slice (some ⟨w.heap.size, 0, none⟩) 0 0) 0 [] := World.ownsRow_made w #[] 0 (Nat.le_refl _) (Nat.zero_le _) rfl

set_option maxRecDepth 100000 in
set_option maxHeartbeats 6400000 in
theorem pickTells_walk {w : World} {v : Value} {xs : List Int} (hx : RdI w w.heap.size .i64 v xs) (hv : v = .slice none 0 0 ∨ ∃ a n c, v = .slice (some a) n c) (k i : Int) :
    Calls Try.prog 4 #[v, .int .i64 k, .int .i64 i] w (TruePost w) := by
  obtain ⟨i0, hi0, hz0, hz1, hz2⟩ := info_parts Try.infoI64
  have HX := hid_ hx
  have HE := hid_ (own_empty w 2)
  have hu1 : Upd (fun _ => False) w (w.alloc (.cells #[] 2)) := (Upd.refl _ w).alloc _
  have HX1 := hid_ (hx.upd hu1 (fun _ h => h.elim))
  have HU1 := hid_ hu1
  clear hu1
  by_cases h40 : 40 < xs.length
  · have h40' : (40 : Int) < (xs.length : Int) := by omega
    obtain ⟨A, c, hv2, hc, hm, hcx⟩ := hx.form
    subst hv2
    clear hx hcx hm hc hv
    go_enter Try.func4, Try.ntmps4
    go_wp2_with fail
    go_ret
    exact ⟨rfl, Below.refl _ _⟩
  have hn : xs.length ≤ 4294967296 := by omega
  obtain ⟨A, c, hv2, hc, hm, hcx⟩ := hx.form
  rcases hv with rfl | ⟨a, n, c9, rfl⟩
  · injection hv2 with e1 e2 e3
    have hxs : xs = [] := List.length_eq_zero_iff.1 e2.symm
    subst hxs
    clear hx hcx hm hc e1 e2 e3
    go_enter Try.func4, Try.ntmps4
    go_wp2_with (at_builtin; refine wpList_append_own_none rfl (.tmp 11) (.tmp 12) 29 rfl w.heap.size 2 i0 1 Try.underlying29 hi0 _ 0 [] rfl HE.out rfl ?_)
    have HS0 : Hid (St w (.slice (some ⟨w.heap.size, 0, none⟩) 0 0) (.slice none 0 0) [] (w.alloc (.cells #[] 2))) := ⟨Rd.of_own HE.out, HX1.out.low, HU1.out⟩
    clear HE HX HX1 HU1
    generalize (w.alloc (.cells #[] 2)) = w0 at *
    go_wp2_with (first
        | ((go_at_call 20); (refine (maxP_any HS0.out.u).mono ?_); (rintro e w1 ⟨rfl, hb⟩); (have HS1 := hid_ (HS0.out.next hb)); (clear hb))
        | ((go_at_call 21); (refine (rmax_any HS1.out.v hn).mono ?_); (rintro e w2 ⟨rfl, hb⟩); (have HS2 := hid_ (HS1.out.next hb)); (clear hb))
        | ((go_at_call 23); (refine (top_any HS2.out.u hn k).mono ?_); (rintro e w3 ⟨v1, rfl, hr, hb⟩); (have HS3 := hid_ (HS2.out.next hb)); (have HR1 := hid_ hr); (clear hb hr))
        | ((go_at_call 24); (refine (rtop_any HS3.out.v hn k).mono ?_); (rintro e w4 ⟨v2, rfl, hr, hb⟩); (have HS4 := hid_ (HS3.out.next hb)); (have HR2 := hid_ hr); (have HR3 := hid_ (HR1.out.next hb)); (clear hb hr))
        | ((go_at_call 22); (refine (same7t HR3.out HR2.out).mono ?_); (rintro e w5 ⟨rfl, hb⟩); (have HS5 := hid_ (HS4.out.next hb)); (clear hb))
        | ((go_at_call 25); (refine (rank_any HS5.out.u hn i).mono ?_); (rintro e w6 ⟨rfl, hb⟩); (have HS6 := hid_ (HS5.out.next hb)); (clear hb))
        | ((go_at_call 26); (refine (rrank_any HS6.out.v i).mono ?_); (rintro e w7 ⟨rfl, hb⟩); (have HS7 := hid_ (HS6.out.next (below_drew hb))); (clear hb))
        | ((go_at_call 27); (refine (same4t HS7.out.u HS7.out.v).mono ?_); (rintro e w8 ⟨rfl, hb⟩); (have HS8 := hid_ (HS7.out.next hb)); (clear hb)))
    go_ret
    exact ⟨rfl, HS8.out.b.toBelow (Nat.le_refl _) (fun _ h => h.elim)⟩
  · injection hv2 with e1 e2 e3
    subst e2 e3 e1
    have h40' : ¬ (40 : Int) < (xs.length : Int) := by omega
    have hcells : ∀ j u, (xs.map (Value.int .i64))[j]? = some u → (w.alloc (.cells #[] 2)).cell? (a.add j) = some u := by
      obtain ⟨A2, c2, hv3, _, _, hc3⟩ := HX1.out
      intro j u hj
      have hj' : j < (xs.map (Value.int .i64)).length := by
        rcases Nat.lt_or_ge j (xs.map (Value.int .i64)).length with h1 | h1
        · exact h1
        · rw [List.getElem?_eq_none h1] at hj; cases hj
      obtain ⟨b, o, hA, _, _, hc4⟩ := hc3 (by omega)
      injection hv3 with e1 _ _
      rw [hA] at e1
      injection e1 with e1
      subst e1
      rw [addr_add]
      exact hc4 j u hj
    have HCE := hid_ hcells
    have hone : ∀ u ∈ xs.map (Value.int .i64), u.oneCell' = true := by
      intro u hu
      obtain ⟨z, _, rfl⟩ := List.mem_map.1 hu
      rfl
    have HON := hid_ hone
    clear hx hcx hm hc hcells hone
    go_enter Try.func4, Try.ntmps4
    go_wp2_with (at_builtin; refine wpList_append_own _ rfl (.tmp 11) (.tmp 12) 29 rfl w.heap.size 2 i0 (.int .i64 0) 1 8 Try.underlying29 hi0 hz0 hz1 hz2 rfl (by decide) _ 0 [] rfl HE.out a xs.length c9 (xs.map (Value.int .i64)) rfl (by simp) HCE.out HON.out ?c3 ?c4 ?c5 ?_)
    any_goals first | (unfold maxLen; omega) | omega | (simp; done)
    intro v' w5 hown5 hgrow5 hnil5
    have hU5 : Upd (fun _ => False) w w5 := HU1.out.grown hgrow5 (fun g hg => .inr (by
      have h9 : some w.heap.size = some g := hg
      cases h9
      exact Nat.le_refl _))
    have HS0 : Hid (St w v' (.slice (some a) xs.length c9) xs w5) := ⟨Rd.of_own hown5, (HX.out.upd hU5 (fun _ h => h.elim)).low, hU5⟩
    clear hown5 hgrow5 hnil5 hU5 HE HX HX1 HU1 HCE HON
    go_wp2_with (first
        | ((go_at_call 20); (refine (maxP_any HS0.out.u).mono ?_); (rintro e w1 ⟨rfl, hb⟩); (have HS1 := hid_ (HS0.out.next hb)); (clear hb))
        | ((go_at_call 21); (refine (rmax_any HS1.out.v hn).mono ?_); (rintro e w2 ⟨rfl, hb⟩); (have HS2 := hid_ (HS1.out.next hb)); (clear hb))
        | ((go_at_call 23); (refine (top_any HS2.out.u hn k).mono ?_); (rintro e w3 ⟨v1, rfl, hr, hb⟩); (have HS3 := hid_ (HS2.out.next hb)); (have HR1 := hid_ hr); (clear hb hr))
        | ((go_at_call 24); (refine (rtop_any HS3.out.v hn k).mono ?_); (rintro e w4 ⟨v2, rfl, hr, hb⟩); (have HS4 := hid_ (HS3.out.next hb)); (have HR2 := hid_ hr); (have HR3 := hid_ (HR1.out.next hb)); (clear hb hr))
        | ((go_at_call 22); (refine (same7t HR3.out HR2.out).mono ?_); (rintro e w5 ⟨rfl, hb⟩); (have HS5 := hid_ (HS4.out.next hb)); (clear hb))
        | ((go_at_call 25); (refine (rank_any HS5.out.u hn i).mono ?_); (rintro e w6 ⟨rfl, hb⟩); (have HS6 := hid_ (HS5.out.next hb)); (clear hb))
        | ((go_at_call 26); (refine (rrank_any HS6.out.v i).mono ?_); (rintro e w7 ⟨rfl, hb⟩); (have HS7 := hid_ (HS6.out.next (below_drew hb))); (clear hb))
        | ((go_at_call 27); (refine (same4t HS7.out.u HS7.out.v).mono ?_); (rintro e w8 ⟨rfl, hb⟩); (have HS8 := hid_ (HS7.out.next hb)); (clear hb)))
    go_ret
    exact ⟨rfl, HS8.out.b.toBelow (Nat.le_refl _) (fun _ h => h.elim)⟩
set_option maxRecDepth 100000 in
theorem pickTells_args {H : Type} {enc : TypeId × Value → H} {W : World} {base : Nat} {v0 v1 v2 : Value} {d0 d1 d2 : DataW H} {p0 p1 p2 : List MemPlace} {tv : List TypeId} {gs : List (DataW H)}
    (h0 : DataW.Trod enc Try.prog W 0 (fun _ => true) true 29 v0 d0 p0) (k0 : Value.okWide Try.prog W .any base 29 v0) (h1 : DataW.Trod enc Try.prog W 0 (fun _ => true) true 3 v1 d1 p1) (k1 : Value.okWide Try.prog W .any base 3 v1)
    (h2 : DataW.Trod enc Try.prog W 0 (fun _ => true) true 3 v2 d2 p2) (k2 : Value.okWide Try.prog W .any base 3 v2)
    (_hsz : (DataW.weightsEach Try.prog ([29, 3, 3] ++ tv) ([d0, d1, d2] ++ gs)).all (· ≤ reachBytes) = true) :
    Calls Try.prog 4 #[v0, v1, v2] W (TruePost W) := by
  obtain ⟨xs, hx, hv⟩ := ints_open h0 k0
  obtain ⟨a1, rfl, rfl, rfl, _⟩ := open_int Try.underlying3 k1 h1
  obtain ⟨a2, rfl, rfl, rfl, _⟩ := open_int Try.underlying3 k2 h2
  exact pickTells_walk hx hv a1 a2
end Go.Proofs.Ytfinbkpmkgpffaa
