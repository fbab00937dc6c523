/- Whether what is asked is right, walked: the program's and the document's. Conditions: the prompt reads as the tokens; the heat's word has 64 bits; the vocabulary lies between 2 and 16. -/
import Derived.Test.YtlpeijaeiioimaaCfgW
import Derived.Test.YtlpeijaeiioimaaFixWC
namespace Go.Proofs.Ytlpeijaeiioimaa
open Go.RowKit

theorem cfg_eq (d h L v hd e k wd : Int) : cfgP d h L v hd e k wd = cfgD d h L v hd e k wd := by
  have key : ∀ dn : Fin 9, ∀ hn : Fin 9, (inB (dn.val : Int) 2 8 && (inB (hn.val : Int) 1 dn.val && (!(wrap64 (wrap64 ((dn.val : Int).tdiv hn.val) * hn.val) != dn.val) && !((wrap64 ((dn.val : Int).tdiv hn.val)).tmod 2 != 0)))) =
      (inB (dn.val : Int) 2 8 && (!((dn.val : Int).tmod 2 != 0) && (inB (hn.val : Int) 1 4 && (!((dn.val : Int).tmod hn.val != 0) && !((wrap64 ((dn.val : Int).tdiv hn.val)).tmod 2 != 0))))) := by decide +kernel
  have five : (inB d 2 8 && (inB h 1 d && (!(wrap64 (wrap64 (d.tdiv h) * h) != d) && !((wrap64 (d.tdiv h)).tmod 2 != 0)))) =
      (inB d 2 8 && (!(d.tmod 2 != 0) && (inB h 1 4 && (!(d.tmod h != 0) && !((wrap64 (d.tdiv h)).tmod 2 != 0))))) := by
    by_cases hdd : inB d 2 8 = true
    · have h1 := inB_iff.1 hdd
      by_cases hh : 0 ≤ h ∧ h < 9
      · have := key ⟨d.toNat, by omega⟩ ⟨h.toNat, by omega⟩
        simp only [Int.toNat_of_nonneg (show 0 ≤ d by omega), Int.toNat_of_nonneg hh.1] at this
        exact this
      · have e1 : inB h 1 d = false := by
          cases hb : inB h 1 d with
          | false => rfl
          | true => have := inB_iff.1 hb; omega
        have e2 : inB h 1 4 = false := by
          cases hb : inB h 1 4 with
          | false => rfl
          | true => have := inB_iff.1 hb; omega
        rw [e1, e2]
        simp
    · have e1 : inB d 2 8 = false := by simpa using hdd
      rw [e1]; rfl
  unfold cfgP cfgD
  generalize ((e == 0 && k == 0) || (inB e 2 4 && inB k 1 e)) = mx
  generalize inB L 1 2 = b1
  generalize inB v 2 16 = b2
  generalize inB hd 1 8 = b3
  generalize inB wd 0 16 = b4
  generalize (!(wrap64 (wrap64 (d.tdiv h) * h) != d)) = c1 at *
  generalize (!((wrap64 (d.tdiv h)).tmod 2 != 0)) = c2 at *
  generalize (!(d.tmod 2 != 0)) = c3 at *
  generalize (!(d.tmod h != 0)) = c4 at *
  generalize inB d 2 8 = a1 at *
  generalize inB h 1 d = a2 at *
  generalize inB h 1 4 = a3 at *
  clear key
  revert five
  revert mx b1 b2 b3 b4 c1 c2 c3 c4 a1 a2 a3
  decide +kernel
/-- as the program asks it -/
def rightP (V kind : Int) (xs : List Int) (len stop topk : Int) (nan : Int) (beams pen : Int) : Bool :=
  !xs.isEmpty && (xs.all (fun t => inB t 0 (V - 1)) && (if kind = 2 then (inB topk 1 V && (nan == 0)) && (decide (1 ≤ len) && decide (stop < V)) else if kind = 1 then decide (1 ≤ len) && decide (stop < V)
    else if kind = 3 then inB beams 1 4 && (inB pen 0 64 && (decide (1 ≤ len) && decide (stop < V))) else (kind == 4)))
theorem take_snoc9 (l : List Int) {k : Nat} (hk : k < l.length) : l.take (k + 1) = l.take k ++ [l.getD k 0] := by
  rw [List.take_add_one, List.getElem?_eq_getElem hk, List.getD_eq_getElem?_getD, List.getElem?_eq_getElem hk]
  rfl
set_option maxRecDepth 100000 in
set_option maxHeartbeats 6400000 in
theorem right_walk {w : World} {B : Nat} {A : Option Addr} {n c : Nat} {xs : List Int} (hx : RdI w B .i64 (.slice A n c) xs) {d h L V hd e k wd kind len stop seed topk beams pen : Int} {x : Nat} (hxx : x < 18446744073709551616) (hV : 2 ≤ V ∧ V ≤ 16) :
    Calls Try.prog 46 #[.agg #[.int .i64 d, .int .i64 h, .int .i64 L, .int .i64 V, .int .i64 hd, .int .i64 e, .int .i64 k, .int .i64 wd], .agg #[.int .i64 kind, .slice A n c, .int .i64 len, .int .i64 stop, .int .u64 seed, .int .i64 topk, .float .f64 x, .int .i64 beams, .int .i64 pen]] w
      (BoolPost w (rightP V kind xs len stop topk (fixE x) beams pen)) := by
  have hl := (rdi_len hx).1
  have hmx := (rdi_len hx).2.2
  unfold maxLen at hmx
  have HI := gin_any
  have HH := fun w => heat_any (fix_any hxx) w
  have HB : Hid (Below w.heap.size w ((w.alloc (.cells #[.int .i64 d, .int .i64 h, .int .i64 L, .int .i64 V, .int .i64 hd, .int .i64 e, .int .i64 k, .int .i64 wd] 30)).alloc (.cells #[.int .i64 kind, .slice A n c, .int .i64 len, .int .i64 stop, .int .u64 seed, .int .i64 topk, .float .f64 x, .int .i64 beams, .int .i64 pen] 35))) :=
    below_comp (below_alloc0 w _) (below_alloc0 _ _)
  have HR := hid_ (rdi_below hx HB.out)
  clear hx
  have hv1 : wrap64 (V - 1) = V - 1 := w64_id (by unfold InI64; omega)
  by_cases h0 : n = 0
  · subst h0
    have hxs : xs = [] := List.length_eq_zero_iff.1 (by omega)
    go_enter Try.func46, Try.ntmps46
    go_wp2_with fail
    go_ret
    exact ⟨by rw [hxs]; rfl, HB.out⟩
  have g : ((n : Int) == 0) = false := beq_eq_false_iff_ne.2 (by omega)
  have hne : xs.isEmpty = false := by cases xs with
    | nil => exact absurd hl.symm h0
    | cons => rfl
  go_enter Try.func46, Try.ntmps46
  go_wp2_with fail
  go_loop [17] (fun iv => ∃ i : Nat, i ≤ n ∧ iv = .int .i64 i ∧ Hid ((xs.take i).all (fun t => inB t 0 (V - 1)) = true)) (fun iv => n - (intOf iv).toNat)
  case atStart => exact ⟨0, Nat.zero_le _, rfl, rfl⟩
  case round =>
    obtain ⟨i, hi, rfl, HA⟩ := hrel
    by_cases hlt : i < n
    · have hlt' : (i : Int) < (n : Int) := by omega
      obtain ⟨b, o, rfl, d1⟩ := rdi_cell HR.out (j := i) (by rw [hl]; exact hlt)
      have htk := take_snoc9 xs (k := i) (by rw [hl]; exact hlt)
      generalize xs.getD i 0 = t at *
      by_cases ht : inB t 0 (V - 1) = true
      · go_wp2_with ((go_at_call 75); (refine (HI _ _ _ _).mono ?_); (rintro e w1 ⟨rfl, rfl⟩))
        go_round
        case rel => exact ⟨i + 1, by omega, by go_num, by show _ = true; rw [htk, List.all_append, HA.out]; simp [ht]⟩
        case measure => simp [intOf]; omega
      · have ht' : inB t 0 (V - 1) = false := by simpa using ht
        have hall : xs.all (fun t => inB t 0 (V - 1)) = false := by
          have e : xs = xs.take (i + 1) ++ xs.drop (i + 1) := (List.take_append_drop _ _).symm
          rw [e, htk, List.all_append, List.all_append]
          simp [ht']
        clear htk ht
        go_wp2_with ((go_at_call 75); (refine (HI _ _ _ _).mono ?_); (rintro e w1 ⟨rfl, rfl⟩))
        go_ret
        exact ⟨by rw [rightP, hall, hne]; rfl, HB.out⟩
    · obtain rfl : i = n := by omega
      have hall : xs.all (fun t => inB t 0 (V - 1)) = true := by
        have := HA.out
        rwa [List.take_of_length_le (by omega)] at this
      have HRP : Hid (∀ fe : Int, rightP V kind xs len stop topk fe beams pen = (if kind = 2 then (inB topk 1 V && (fe == 0)) && (decide (1 ≤ len) && decide (stop < V)) else if kind = 1 then decide (1 ≤ len) && decide (stop < V)
        else if kind = 3 then inB beams 1 4 && (inB pen 0 64 && (decide (1 ≤ len) && decide (stop < V))) else (kind == 4))) := by
        intro fe
        rw [rightP, hall, hne]
        rfl
      clear hall HA hl hne hlt hi HR
      generalize fixE x = fe at *
      by_cases k2 : kind = 2
      · subst k2
        go_wp2_with (first
          | ((go_at_call 75); (refine (HI _ _ _ _).mono ?_); (rintro e w1 ⟨rfl, rfl⟩))
          | ((go_at_call 76); (refine (HH _).mono ?_); (rintro e w1 ⟨rfl, rfl⟩)))
        all_goals go_ret
        all_goals exact ⟨by rw [HRP.out]; simp [*] <;> omega, HB.out⟩
      have k2' : (kind == 2) = false := beq_eq_false_iff_ne.2 k2
      by_cases k1 : kind = 1
      · subst k1
        go_wp2_with ((go_at_call 75); (refine (HI _ _ _ _).mono ?_); (rintro e w1 ⟨rfl, rfl⟩))
        all_goals go_ret
        all_goals exact ⟨by rw [HRP.out]; simp [*] <;> omega, HB.out⟩
      have k1' : (kind == 1) = false := beq_eq_false_iff_ne.2 k1
      by_cases k3 : kind = 3
      · subst k3
        go_wp2_with ((go_at_call 75); (refine (HI _ _ _ _).mono ?_); (rintro e w1 ⟨rfl, rfl⟩))
        all_goals go_ret
        all_goals exact ⟨by rw [HRP.out]; simp [*] <;> omega, HB.out⟩
      have k3' : (kind == 3) = false := beq_eq_false_iff_ne.2 k3
      go_wp2_with fail
      all_goals go_ret
      all_goals exact ⟨by rw [HRP.out]; simp [*] <;> omega, HB.out⟩
end Go.Proofs.Ytlpeijaeiioimaa
