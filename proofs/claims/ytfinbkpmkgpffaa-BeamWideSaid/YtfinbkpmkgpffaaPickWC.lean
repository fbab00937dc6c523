/- pick.Rank and the document's Top and Max walked. Conditions: the slices read as the lists, of no more than 2^32 numbers. -/
import Derived.Test.YtfinbkpmkgpffaaPickLaw
namespace Go.Proofs.Ytfinbkpmkgpffaa
open Go.RowKit

def IntPost (w : World) (r : Int) (e : Ending) (w' : World) : Prop := e = .returned (.int .i64 r) ∧ Below w.heap.size w w'

theorem take_clamp_all (xs : List Int) : (order xs).take (clamp (xs.length : Nat) xs.length) = order xs := by
  have : clamp (xs.length : Nat) xs.length = xs.length := by unfold clamp; omega
  rw [this, List.take_of_length_le (by rw [order_length]; exact Nat.le_refl _)]

set_option maxHeartbeats 1600000 in
theorem rank_any {w : World} {B : Nat} {v : Value} {xs : List Int} (hx : RdI w B .i64 v xs) (hn : xs.length ≤ 4294967296) (i : Int) :
    Calls Try.prog 25 #[v, .int .i64 i] w (IntPost w (rankV xs i)) := by
  obtain ⟨A, c, hv, hc, hm, hcx⟩ := hx.form
  have HX := hid_ hx
  clear hcx hx hm hc
  obtain ⟨res, hres⟩ : ∃ res, rankV xs i = res := ⟨_, rfl⟩
  rw [hres]
  have HR := hid_ hres
  have hT := hid_ (top_any HX.out hn (xs.length : Nat))
  rw [take_clamp_all] at hT
  subst hv
  clear hres
  by_cases h0 : i < 0
  · have hr : rankV xs i = -1 := by rw [rankV, if_pos (.inl h0)]
    have HR1 := hid_ hr
    clear hr hT
    go_enter Try.func25, Try.ntmps25
    go_wp2_with fail
    go_ret
    exact ⟨by rw [← HR.out, HR1.out]; rfl, Below.refl _ _⟩
  by_cases hn2 : (xs.length : Int) ≤ i
  · have hr : rankV xs i = -1 := by rw [rankV, if_pos (.inr hn2)]
    have HR1 := hid_ hr
    clear hr hT
    go_enter Try.func25, Try.ntmps25
    go_wp2_with fail
    go_ret
    exact ⟨by rw [← HR.out, HR1.out]; rfl, Below.refl _ _⟩
  have hi : 0 ≤ i ∧ i < (xs.length : Int) := by omega
  have HI := hid_ hi
  clear hi
  go_enter Try.func25, Try.ntmps25
  go_wp2_with (first
    | ((go_at_call 23); (refine hT.out.mono ?_); (rintro e w1 ⟨v1, rfl, hR1, hB1⟩); (have HR1 := hid_ hR1); (have HB1 := hid_ hB1); (have HIX := hid_ (index_any hR1 i)); (clear hR1 hB1 hT))
    | ((go_at_call 48); (refine HIX.out.mono ?_); (rintro e w2 ⟨r, rfl, hr, n, rfl⟩); (have HRR := hid_ hr); (clear hr)))
  go_ret
  refine ⟨?_, ((Upd.of_below (S := fun _ => False) HB1.out).drewN n).toBelow (Nat.le_refl _) (fun _ h => h.elim)⟩
  rw [← HR.out]
  rcases HRR.out with ⟨_, h⟩ | ⟨t, ht, rfl, h⟩
  · exfalso
    obtain ⟨s, hs, he⟩ := List.getElem_of_mem (mem_order.2 HI.out)
    refine h s hs ?_
    rw [List.getD_eq_getElem?_getD, List.getElem?_eq_getElem hs]
    exact he
  · rw [← h, rankV_order (by rw [order_length] at ht; exact ht)]
    rfl
def Own1 (w : World) (base : Nat) (v : Value) (xs : List Int) : Prop := w.ownsRow base 3 1 v xs.length (xs.map (Value.int .i64))
theorem Own1.rd {w : World} {base : Nat} {v : Value} {xs : List Int} (h : Own1 w base v xs) : RdI w w.heap.size .i64 v xs := Rd.of_own h

theorem refT_len {xs : List Int} {t : Nat} (h : t ≤ xs.length) : (refT xs t).length = t := by rw [refT_eq h, List.length_take, order_length]; omega
theorem iota_succ (k : Nat) : iota (k + 1) = iota k ++ [(k : Int)] := by unfold iota; rw [List.range_succ, List.map_append]; rfl
theorem iota_prefix {k n : Nat} (h : k ≤ n) : (iota k).Sublist (iota n) := by
  unfold iota
  refine List.Sublist.map _ ?_
  rw [show List.range k = (List.range n).take k by rw [List.take_range]; congr 1; omega]
  exact List.take_sublist _ _
theorem part_len {xs : List Int} {t k : Nat} (h : t < xs.length) (hk : k ≤ xs.length) : ((iota k).filter (fun i => decide (rankV xs i = t))).length ≤ 1 := by
  have := ((iota_prefix hk).filter (fun i => decide (rankV xs i = t))).length_le
  rw [filter_rank h] at this
  exact this

def part (xs : List Int) (t i : Nat) : List Int := refT xs t ++ (iota i).filter (fun i => decide (rankV xs i = t))
theorem part_zero (xs : List Int) (t : Nat) : part xs t 0 = refT xs t := by simp [part, iota]
theorem part_all (xs : List Int) (t : Nat) : part xs t xs.length = refT xs (t + 1) := rfl
theorem part_yes {xs : List Int} {t i : Nat} (h : rankV xs i = t) : part xs t (i + 1) = part xs t i ++ [(i : Int)] := by
  unfold part
  rw [iota_succ, List.filter_append, ← List.append_assoc]
  congr 1
  simp [h]
theorem part_no {xs : List Int} {t i : Nat} (h : rankV xs i ≠ t) : part xs t (i + 1) = part xs t i := by
  unfold part
  rw [iota_succ, List.filter_append]
  simp [h]
theorem part_le {xs : List Int} {t k : Nat} (h : t < xs.length) (hk : k ≤ xs.length) : (part xs t k).length ≤ t + 1 := by
  have := part_len h hk
  rw [part, List.length_append, refT_len (by omega)]
  omega

theorem fresh_own {w w' : World} {e : TypeId} {n : Nat} {v : Value} {xs : List Value} (h : w'.ownsRow w.heap.size e 1 v n xs) : Fresh w v := by
  intro b o m c hv _
  rcases h.2 with ⟨h0, _⟩ | ⟨g', cap, cur, hv2, hb', _⟩
  · rw [hv] at h0
    cases h0
  · rw [hv] at hv2
    injection hv2 with h1 _ _
    injection h1 with h1
    injection h1 with h1 _ _
    omega
set_option maxHeartbeats 3200000 in
theorem rtopF_any {w : World} {B : Nat} {v : Value} {xs : List Int} (hx : RdI w B .i64 v xs) (hn : xs.length ≤ 4294967296) (k : Int) :
    Calls Try.prog 24 #[v, .int .i64 k] w (TopPostF w ((order xs).take (clamp k xs.length))) := by
  obtain ⟨i0, hi0, hz0, hz1, hz2⟩ := info_parts Try.infoInt
  obtain ⟨A, c, hv, hc, hm, hcx⟩ := hx.form
  have HX := hid_ hx.low
  obtain ⟨m, hmc⟩ : ∃ m, m = clamp k xs.length := ⟨_, rfl⟩
  have hmn : m ≤ xs.length := by rw [hmc]; unfold clamp; omega
  have hlast : ∀ t : Nat, t ≤ m → ((t < xs.length ∧ (t : Int) < k) ↔ t < m) := fun t ht => by rw [hmc] at *; unfold clamp at *; omega
  rw [← hmc, ← refT_eq hmn]
  have HLAST := hid_ hlast
  clear hcx hx hm hc hmc hlast
  subst hv
  go_enter Try.func24, Try.ntmps24
  go_wp2_with fail
  go_loopg [5, 6] m (fun g ov tv wr => ∃ (t c' : Nat) (A' : Option Addr), t ≤ m ∧ m ≤ g + t ∧ tv = .int .i64 t ∧ ov = .slice A' t c' ∧ Own1 wr w.heap.size (.slice A' t c') (refT xs t) ∧ Upd (fun _ => False) w wr)
  case atStart => exact ⟨0, 0, none, Nat.zero_le _, by omega, rfl, rfl, World.ownsRow_nil _ _ _ _, Upd.refl _ _⟩
  case round =>
    obtain ⟨t, c', A', htm, hg, rfl, rfl, hO, hU⟩ := hrel
    have HO := hid_ hO
    have HU := hid_ hU
    clear hO hU
    by_cases hlt : t < m
    · have h2 := (HLAST.out t htm).2 hlt
      have h3 : (t : Int) < (xs.length : Int) := by omega
      have h4 : (t : Int) < k := h2.2
      clear h2
      go_wp2_with fail
      have ht9 : t < xs.length := by omega
      go_loopg [5, 7] xs.length (fun g2 ov iv wr => ∃ (i mm c2 : Nat) (A2 : Option Addr), i ≤ xs.length ∧ xs.length ≤ g2 + i ∧ iv = .int .i64 i ∧ mm = (part xs t i).length ∧ ov = .slice A2 mm c2 ∧ wr.ownsRow w.heap.size 3 1 (.slice A2 mm c2) mm ((part xs t i).map (Value.int .i64)) ∧ Upd (fun _ => False) w wr)
      case atStart =>
        have h9 := HO.out
        unfold Own1 at h9
        rw [refT_len (by omega)] at h9
        exact ⟨0, t, c', A', Nat.zero_le _, by omega, rfl, by rw [part_zero, refT_len (by omega)], rfl, by rw [part_zero]; exact h9, HU.out⟩
      case round =>
        obtain ⟨i, mm, c2, A2, hi, hg2, rfl, hmm, rfl, hO2, hU2⟩ := hrel
        have hle := part_le ht9 hi
        rw [← hmm] at hle
        have HO2 := hid_ hO2
        have HU2 := hid_ hU2
        have HMM := hid_ hmm
        clear hO2 hU2 hmm HO HU
        by_cases hin : i < xs.length
        · have hin' : (i : Int) < (xs.length : Int) := by omega
          have hC := rrank_any (HX.out.upd HU2.out (fun _ h => h.elim)) (i : Int)
          have hK : ∀ w1, (∃ n, w1 = wr.drewN n) → w1.ownsRow w.heap.size 3 1 (.slice A2 mm c2) mm ((part xs t i).map (Value.int .i64)) ∧ Upd (fun _ => False) w w1 := by
            rintro w1 ⟨n, rfl⟩
            exact ⟨own_upd HO2.out ((Upd.refl (fun _ => False) _).drewN n) (fun _ h => h.elim), HU2.out.drewN n⟩
          have HK := hid_ hK
          by_cases hr : rankV xs i = t
          · rw [hr] at hC
            have HC := hid_ hC
            have HP := hid_ (part_yes hr)
            clear hC hK hr
            go_wp2_with (first
              | ((go_at_call 26); (refine HC.out.mono ?_); (rintro e w1 ⟨rfl, hw1⟩); (have HO3 := hid_ (HK.out w1 hw1).1); (have HU3 := hid_ (HK.out w1 hw1).2); (clear hw1))
              | (at_builtin; refine wpList_append_own _ rfl (.tmp 30) (.tmp 32) 32 rfl w.heap.size 3 i0 (.int .i64 0) 1 8 Try.underlying32 hi0 hz0 hz1 hz2 rfl (by decide) _ mm _ rfl (HO3.out.alloc _) ⟨w1.heap.size, 0, none⟩ 1 1 [.int .i64 (i : Int)] rfl rfl (one_new rfl) (one_cell rfl) ?c3 ?c4 ?c5 ?_))
            case c3 => unfold maxLen; omega
            case c4 => omega
            case c5 => have := HU3.out.size; simp; omega
            intro v' w5 hown5 hgrow5 hnil5
            have hform : ∃ A5 c5, v' = .slice A5 (mm + 1) c5 := by
              rcases hown5.2 with ⟨_, h0⟩ | ⟨g, cap, cur, hv, _⟩
              · omega
              · exact ⟨_, _, hv⟩
            obtain ⟨A5, c5, rfl⟩ := hform
            have hrow : ∀ g, Value.ownBlock (.slice A2 mm c2) = some g → w.heap.size ≤ g := by
              intro g hg
              rcases HO3.out.2 with ⟨h0, _⟩ | ⟨g', cap, cur, hv, hb', _⟩
              · injection h0 with h0 _ _
                subst h0
                cases hg
              · injection hv with hv _ _
                subst hv
                injection hg with hg
                subst hg
                exact hb'
            have HU5 : Hid (Upd (fun _ => False) w w5) := (HU3.out.alloc _).grown hgrow5 (fun g hg => .inr (hrow g hg))
            have HO5 := hid_ hown5
            clear hgrow5 hown5 hnil5 hrow
            go_wp2_with fail
            go_roundg (xs.length - (i + 1))
            case measure => omega
            case rel =>
              have hrel2 : ∃ (j m2 c3 : Nat) (A3 : Option Addr), j ≤ xs.length ∧ xs.length ≤ (xs.length - (i + 1)) + j ∧ Value.int .i64 ((i : Int) + 1) = .int .i64 j ∧ m2 = (part xs t j).length ∧ Value.slice A5 (mm + 1) c5 = .slice A3 m2 c3 ∧ w5.ownsRow w.heap.size 3 1 (.slice A3 m2 c3) m2 ((part xs t j).map (Value.int .i64)) ∧ Upd (fun _ => False) w w5 :=
                ⟨i + 1, mm + 1, c5, A5, by omega, by omega, by go_num, by rw [HP.out, List.length_append, ← HMM.out]; rfl, rfl, by rw [HP.out, List.map_append]; exact HO5.out, HU5.out⟩
              first | exact hrel2 | ((repeat apply Exists.intro); exact ⟨hrel2, rfl⟩)
          · have hP := part_no hr
            obtain ⟨r, hrr⟩ : ∃ r, rankV xs i = r := ⟨_, rfl⟩
            rw [hrr] at hC hr
            have hb : (r == (t : Int)) = false := beq_eq_false_iff_ne.2 hr
            have HC := hid_ hC
            have HP := hid_ hP
            have HRR := hid_ hrr
            clear hC hK hP hrr
            go_wp2_with ((go_at_call 26); (refine HC.out.mono ?_); (rintro e w1 ⟨rfl, hw1⟩); (have HO3 := hid_ (HK.out w1 hw1).1); (have HU3 := hid_ (HK.out w1 hw1).2); (clear hw1))
            go_roundg (xs.length - (i + 1))
            case measure => omega
            case rel => exact ⟨i + 1, mm, c2, A2, by omega, by omega, by go_num, by rw [HP.out]; exact HMM.out, rfl, by rw [HP.out]; exact HO3.out, HU3.out⟩
        · obtain rfl : i = xs.length := by omega
          have hO9 := HO2.out
          have hmm := HMM.out
          rw [part_all] at hO9 hmm
          rw [refT_len (by omega)] at hmm
          subst hmm
          have HO9 : Hid (Own1 wr w.heap.size (.slice A2 (t + 1) c2) (refT xs (t + 1))) := by show World.ownsRow _ _ _ _ _ _ _; rw [refT_len (by omega)]; exact hO9
          clear hO9 HMM
          go_wp2_with fail
          go_roundg (m - (t + 1))
          case measure => omega
          case rel => exact ⟨t + 1, c2, A2, by omega, by omega, by go_num, rfl, HO9.out, HU2.out⟩
    · have h2 : ¬ (t < xs.length ∧ (t : Int) < k) := fun h => hlt ((HLAST.out t htm).1 h)
      obtain rfl : t = m := by omega
      by_cases h3 : (t : Int) < (xs.length : Int)
      · have h4 : ¬ (t : Int) < k := fun h => h2 ⟨by omega, h⟩
        clear h2
        go_wp2_with fail
        go_ret
        exact ⟨_, rfl, HO.out.rd, HU.out.toBelow (Nat.le_refl _) (fun _ h => h.elim), fresh_own HO.out⟩
      · clear h2
        go_wp2_with fail
        go_ret
        exact ⟨_, rfl, HO.out.rd, HU.out.toBelow (Nat.le_refl _) (fun _ h => h.elim), fresh_own HO.out⟩
theorem rtop_any {w : World} {B : Nat} {v : Value} {xs : List Int} (hx : RdI w B .i64 v xs) (hn : xs.length ≤ 4294967296) (k : Int) :
    Calls Try.prog 24 #[v, .int .i64 k] w (TopPost w ((order xs).take (clamp k xs.length))) :=
  (rtopF_any hx hn k).mono (fun _ _ ⟨v, h1, h2, h3, _⟩ => ⟨v, h1, h2, h3⟩)
end Go.Proofs.Ytfinbkpmkgpffaa
