/- PickFewer walked: it returns true. Conditions: none beyond the reading of the arguments. -/
import Derived.Test.YtfinbkpmkgpffaaPickAllW
namespace Go.Proofs.Ytfinbkpmkgpffaa
open Go.RowKit Go.ChangeShapes Go.WideShapes Go.ChangeAt

theorem topS_any {w : World} {B : Nat} {v : Value} {xs : List Int} (hx : RdI w B .i64 v xs) (hn : xs.length ≤ 4294967296) (k : Nat) :
    Calls Try.prog 23 #[v, .int .i64 (k : Int)] w (ShapePost w (min k xs.length) ((order xs).take (min k xs.length))) := by
  have h1 := top_any hx hn (k : Int)
  have hc : clamp (k : Int) xs.length = min k xs.length := by unfold clamp; omega
  rw [hc] at h1
  exact h1.mono (fun _ _ h => shape_of (by rw [List.length_take, order_length]; omega) h)
theorem maxQ_any {w : World} {B : Nat} {v : Value} {xs : List Int} (hx : RdI w B .i64 v xs) :
    Calls Try.prog 20 #[v] w (fun e w' => e = .returned (.int .i64 (maxV xs)) ∧ ∃ n, w' = w.drewN n) := by
  refine (max_any hx).mono ?_
  rintro e w' ⟨r, rfl, hr, h⟩
  exact ⟨by rw [maxIs_eq hr], h⟩

theorem shape_len {w : World} {k n : Nat} {l : List Int} (h : n = k) : ∀ e w', ShapePost w n (l.take n) e w' → ShapePost w k (l.take k) e w' := by subst h; exact fun _ _ h => h
theorem topK_any {w : World} {B : Nat} {v : Value} {xs : List Int} (hx : RdI w B .i64 v xs) (hn : xs.length ≤ 4294967296) (k q : Nat) (h : min k xs.length = q) :
    Calls Try.prog 23 #[v, .int .i64 (k : Int)] w (ShapePost w q ((order xs).take q)) := (topS_any hx hn k).mono (shape_len h)
theorem rdi_take {w : World} {B : Nat} {k : IntKind} {A : Option Addr} {n c p : Nat} {l : List Int} (h : RdI w B k (.slice A n c) l) (hp : p ≤ n) : RdI w B k (.slice A p c) (l.take p) := by
  obtain ⟨A', c', hv, hc, hm, hx⟩ := h
  injection hv with h1 h2 h3
  subst h1 h3
  have hl : ((l.take p).map (Value.int k)).length = p := by simp at h2 ⊢; omega
  refine ⟨A, c, by rw [hl], by rw [hl]; omega, by rw [hl]; omega, fun h0 => ?_⟩
  rw [hl] at h0
  obtain ⟨b, o, ha, hb, hbs, hcell⟩ := hx (by omega)
  refine ⟨b, o, ha, hb, hbs, fun j u hj => hcell j u ?_⟩
  have hj' : j < p := by
    rcases Nat.lt_or_ge j p with h1 | h1
    · exact h1
    · rw [List.getElem?_eq_none (by rw [hl]; exact h1)] at hj; cases hj
  rw [← hj, List.getElem?_map, List.getElem?_map, List.getElem?_take, if_pos hj']
theorem same7q {w : World} {B B' : Nat} {v u : Value} {l : List Int} (h1 : RdI w B .i64 v l) (h2 : RdI w B' .i64 u l) : Calls Try.prog 22 #[v, u] w (fun e w' => e = .returned (.bool true) ∧ ∃ n, w' = w.drewN n) := by
  refine (same07_any h1 h2).mono ?_
  rintro e w' ⟨rfl, h⟩
  exact ⟨by rw [decide_eq_true rfl], h⟩
theorem rdi_drew {w : World} {B : Nat} {k : IntKind} {v : Value} {l : List Int} (h : RdI w B k v l) (n : Nat) : RdI (w.drewN n) B k v l := h.upd ((Upd.refl (fun _ => False) w).drewN n) (fun _ h => h.elim)
theorem max_first {xs : List Int} {q : Nat} (h : 0 < q) (hq : q ≤ xs.length) : ((order xs).take q).getD 0 0 = maxV xs := by
  have hl := order_length xs
  rw [maxV, if_neg (by omega)]
  cases ho : order xs with
  | nil => rw [ho] at hl; simp at hl; omega
  | cons x r =>
    obtain ⟨q', rfl⟩ : ∃ q', q = q' + 1 := ⟨q - 1, by omega⟩
    rfl

set_option linter.unusedVariables false in
set_option maxRecDepth 100000 in
set_option maxHeartbeats 1600000 in
theorem fewer_a1 {w : World} {xs : List Int} {A : Option Addr} {c : Nat} (hx : RdI w w.heap.size .i64 (.slice A xs.length c) xs) (h300 : ¬ 300 < xs.length) (a b : Int) (ka kb : Nat) (la : ka < 400) (lb : kb < 400) (qa : IntKind.u64.wrap a % 400 = (ka : Int)) (qb : IntKind.u64.wrap b % 400 = (kb : Int)) (hab : ka < kb) (hle : kb ≤ xs.length) :
    Calls Try.prog 6 #[.slice A xs.length c, .int .i64 a, .int .i64 b] w (TruePost w) := by
  have HX := hid_ hx
  have HW := hid_ (works07_any w)
  have hab' : ka ≤ kb := by omega
  have h300' : ¬ (300 : Int) < (xs.length : Int) := by omega
  have ua : 0 ≤ IntKind.u64.wrap a := by rw [IntKind.wrap_u64]; omega
  have ub : 0 ≤ IntKind.u64.wrap b := by rw [IntKind.wrap_u64]; omega
  have HT1 := hid_ (fun (w1 : World) (h : RdI w1 w1.heap.size .i64 (.slice A xs.length c) xs) => topK_any h (by omega) ka ka (by omega))
  have HT2 := hid_ (fun (w1 : World) (h : RdI w1 w1.heap.size .i64 (.slice A xs.length c) xs) => topK_any h (by omega) kb kb (by omega))
  have hpq : ka ≤ kb := by omega
  have hqn : kb ≤ xs.length := by omega
  have HMX := hid_ (fun (h : 0 < kb) => max_first h hqn)
  have HPQ := hid_ hpq
  clear hx
  go_enter Try.func6, Try.ntmps6
  go_upto_region 7 with (first
      | ((go_at_call 28); (refine HW.out.mono ?_); (rintro e w1 ⟨rfl, hb⟩); (have HX1 := hid_ (HX.out.next hb)); (have HB1 := hid_ (Upd.of_below (S := fun _ => False) hb)); (clear hb))
      | ((go_at_call 23); (have h9 := HX2.out); (clear h9); (refine (HT2.out _ HX2.out).mono ?_); (rintro e w3 ⟨A3, c3, rfl, hr, hb⟩); (have HX3 := hid_ (HX2.out.next hb)); (have HB3 := hid_ (HB2.out.below hb)); (have HR3 := hid_ hr); (have HR2b := hid_ (HR2.out.next hb)); (clear hb hr))
      | ((go_at_call 23); (refine (HT1.out _ HX1.out).mono ?_); (rintro e w2 ⟨A2, c2, rfl, hr, hb⟩); (have HX2 := hid_ (HX1.out.next hb)); (have HB2 := hid_ (HB1.out.below hb)); (have HR2 := hid_ hr); (clear hb hr)))
  go_wp2_with fail
  have hcap : kb ≤ c3 := by
    obtain ⟨A9, c9, e9, h9, _⟩ := HR3.out.form
    injection e9 with _ e2 e3
    rw [← e2, ← e3] at h9
    exact h9
  have hcap2 : ka ≤ c3 := Nat.le_trans HPQ.out hcap
  have hSM : ∀ n, Calls Try.prog 22 #[.slice A2 ka c2, .slice A3 ka c3] (w3.drewN n) (fun e w' => e = .returned (.bool true) ∧ ∃ m, w' = (w3.drewN n).drewN m) := fun n => by
    have h2 := rdi_take HR3.out HPQ.out
    rw [List.take_take, Nat.min_eq_left HPQ.out] at h2
    exact same7q (rdi_drew HR2b.out n) (rdi_drew h2 n)
  have HSM := hid_ hSM
  clear hSM
  by_cases hq0 : 0 < kb
  · obtain ⟨A9, c9, e9, h9, _, hcell⟩ := HR3.out.form
    have hlq : ((order xs).take kb).length = kb := by rw [List.length_take, order_length]; omega
    obtain ⟨b9, o9, hA9, _, _, hc9⟩ := hcell 0 (by rw [hlq]; exact hq0)
    injection e9 with e1 e2 e3
    rw [← e1] at hA9
    subst hA9
    rw [HMX.out hq0, Nat.add_zero] at hc9
    have hMQ : ∀ n, Calls Try.prog 20 #[.slice A xs.length c] (w3.drewN n) (fun e w' => e = .returned (.int .i64 (maxV xs)) ∧ ∃ m, w' = (w3.drewN n).drewN m) := fun n => maxQ_any (rdi_drew HX3.out n)
    have HMQ := hid_ hMQ
    have hz : ((kb : Int) == 0) = false := by rw [beq_eq_false_iff_ne]; omega
    have hz2 : (kb == 0) = false := by rw [beq_eq_false_iff_ne]; omega
    have hz3 : ¬ kb = 0 := by omega
    clear hMQ hlq h9 hcell e1 e2 e3
    generalize maxV xs = mv at *
    go_quiet ((first | (go_at_call 22; exact Calls.quiet_of (HSM.out _)) | (go_at_call 20; exact Calls.quiet_of (HMQ.out _))))
    go_wp2_with fail
    go_ret
    exact ⟨rfl, (HB3.out.drewN _).toBelow (Nat.le_refl _) (fun _ h => h.elim)⟩
  · have hz : ((kb : Int) == 0) = true := by rw [beq_iff_eq]; omega
    have hz2 : (kb == 0) = true := by rw [beq_iff_eq]; omega
    have hz3 : kb = 0 := by omega
    have HZ := hid_ hz3
    clear hz3
    go_quiet ((go_at_call 22; exact Calls.quiet_of (HSM.out _)))
    go_wp2_with fail
    go_ret
    exact ⟨rfl, (HB3.out.drewN _).toBelow (Nat.le_refl _) (fun _ h => h.elim)⟩
set_option linter.unusedVariables false in
set_option maxRecDepth 100000 in
set_option maxHeartbeats 1600000 in
theorem fewer_a2 {w : World} {xs : List Int} {A : Option Addr} {c : Nat} (hx : RdI w w.heap.size .i64 (.slice A xs.length c) xs) (h300 : ¬ 300 < xs.length) (a b : Int) (ka kb : Nat) (la : ka < 400) (lb : kb < 400) (qa : IntKind.u64.wrap a % 400 = (ka : Int)) (qb : IntKind.u64.wrap b % 400 = (kb : Int)) (hab : ka < kb) (hle : ka ≤ xs.length ∧ xs.length < kb) :
    Calls Try.prog 6 #[.slice A xs.length c, .int .i64 a, .int .i64 b] w (TruePost w) := by
  have HX := hid_ hx
  have HW := hid_ (works07_any w)
  have hab' : ka ≤ kb := by omega
  have h300' : ¬ (300 : Int) < (xs.length : Int) := by omega
  have ua : 0 ≤ IntKind.u64.wrap a := by rw [IntKind.wrap_u64]; omega
  have ub : 0 ≤ IntKind.u64.wrap b := by rw [IntKind.wrap_u64]; omega
  have HT1 := hid_ (fun (w1 : World) (h : RdI w1 w1.heap.size .i64 (.slice A xs.length c) xs) => topK_any h (by omega) ka ka (by omega))
  have HT2 := hid_ (fun (w1 : World) (h : RdI w1 w1.heap.size .i64 (.slice A xs.length c) xs) => topK_any h (by omega) kb xs.length (by omega))
  have hpq : ka ≤ xs.length := by omega
  have hqn : xs.length ≤ xs.length := by omega
  have HMX := hid_ (fun (h : 0 < xs.length) => max_first h hqn)
  have HPQ := hid_ hpq
  clear hx
  go_enter Try.func6, Try.ntmps6
  go_upto_region 7 with (first
      | ((go_at_call 28); (refine HW.out.mono ?_); (rintro e w1 ⟨rfl, hb⟩); (have HX1 := hid_ (HX.out.next hb)); (have HB1 := hid_ (Upd.of_below (S := fun _ => False) hb)); (clear hb))
      | ((go_at_call 23); (have h9 := HX2.out); (clear h9); (refine (HT2.out _ HX2.out).mono ?_); (rintro e w3 ⟨A3, c3, rfl, hr, hb⟩); (have HX3 := hid_ (HX2.out.next hb)); (have HB3 := hid_ (HB2.out.below hb)); (have HR3 := hid_ hr); (have HR2b := hid_ (HR2.out.next hb)); (clear hb hr))
      | ((go_at_call 23); (refine (HT1.out _ HX1.out).mono ?_); (rintro e w2 ⟨A2, c2, rfl, hr, hb⟩); (have HX2 := hid_ (HX1.out.next hb)); (have HB2 := hid_ (HB1.out.below hb)); (have HR2 := hid_ hr); (clear hb hr)))
  go_wp2_with fail
  have hcap : xs.length ≤ c3 := by
    obtain ⟨A9, c9, e9, h9, _⟩ := HR3.out.form
    injection e9 with _ e2 e3
    rw [← e2, ← e3] at h9
    exact h9
  have hcap2 : ka ≤ c3 := Nat.le_trans HPQ.out hcap
  have hSM : ∀ n, Calls Try.prog 22 #[.slice A2 ka c2, .slice A3 ka c3] (w3.drewN n) (fun e w' => e = .returned (.bool true) ∧ ∃ m, w' = (w3.drewN n).drewN m) := fun n => by
    have h2 := rdi_take HR3.out HPQ.out
    rw [List.take_take, Nat.min_eq_left HPQ.out] at h2
    exact same7q (rdi_drew HR2b.out n) (rdi_drew h2 n)
  have HSM := hid_ hSM
  clear hSM
  by_cases hq0 : 0 < xs.length
  · obtain ⟨A9, c9, e9, h9, _, hcell⟩ := HR3.out.form
    have hlq : ((order xs).take xs.length).length = xs.length := by rw [List.length_take, order_length]; omega
    obtain ⟨b9, o9, hA9, _, _, hc9⟩ := hcell 0 (by rw [hlq]; exact hq0)
    injection e9 with e1 e2 e3
    rw [← e1] at hA9
    subst hA9
    rw [HMX.out hq0, Nat.add_zero] at hc9
    have hMQ : ∀ n, Calls Try.prog 20 #[.slice A xs.length c] (w3.drewN n) (fun e w' => e = .returned (.int .i64 (maxV xs)) ∧ ∃ m, w' = (w3.drewN n).drewN m) := fun n => maxQ_any (rdi_drew HX3.out n)
    have HMQ := hid_ hMQ
    have hz : ((xs.length : Int) == 0) = false := by rw [beq_eq_false_iff_ne]; omega
    have hz2 : (xs.length == 0) = false := by rw [beq_eq_false_iff_ne]; omega
    have hz3 : ¬ xs.length = 0 := by omega
    clear hMQ hlq h9 hcell e1 e2 e3
    generalize maxV xs = mv at *
    go_quiet ((first | (go_at_call 22; exact Calls.quiet_of (HSM.out _)) | (go_at_call 20; exact Calls.quiet_of (HMQ.out _))))
    go_wp2_with fail
    go_ret
    exact ⟨rfl, (HB3.out.drewN _).toBelow (Nat.le_refl _) (fun _ h => h.elim)⟩
  · have hz : ((xs.length : Int) == 0) = true := by rw [beq_iff_eq]; omega
    have hz2 : (xs.length == 0) = true := by rw [beq_iff_eq]; omega
    have hz3 : xs.length = 0 := by omega
    have HZ := hid_ hz3
    clear hz3
    go_quiet ((go_at_call 22; exact Calls.quiet_of (HSM.out _)))
    go_wp2_with fail
    go_ret
    exact ⟨rfl, (HB3.out.drewN _).toBelow (Nat.le_refl _) (fun _ h => h.elim)⟩
set_option linter.unusedVariables false in
set_option maxRecDepth 100000 in
set_option maxHeartbeats 1600000 in
theorem fewer_a3 {w : World} {xs : List Int} {A : Option Addr} {c : Nat} (hx : RdI w w.heap.size .i64 (.slice A xs.length c) xs) (h300 : ¬ 300 < xs.length) (a b : Int) (ka kb : Nat) (la : ka < 400) (lb : kb < 400) (qa : IntKind.u64.wrap a % 400 = (ka : Int)) (qb : IntKind.u64.wrap b % 400 = (kb : Int)) (hab : ka < kb) (hle : xs.length < ka) :
    Calls Try.prog 6 #[.slice A xs.length c, .int .i64 a, .int .i64 b] w (TruePost w) := by
  have HX := hid_ hx
  have HW := hid_ (works07_any w)
  have hab' : ka ≤ kb := by omega
  have h300' : ¬ (300 : Int) < (xs.length : Int) := by omega
  have ua : 0 ≤ IntKind.u64.wrap a := by rw [IntKind.wrap_u64]; omega
  have ub : 0 ≤ IntKind.u64.wrap b := by rw [IntKind.wrap_u64]; omega
  have HT1 := hid_ (fun (w1 : World) (h : RdI w1 w1.heap.size .i64 (.slice A xs.length c) xs) => topK_any h (by omega) ka xs.length (by omega))
  have HT2 := hid_ (fun (w1 : World) (h : RdI w1 w1.heap.size .i64 (.slice A xs.length c) xs) => topK_any h (by omega) kb xs.length (by omega))
  have hpq : xs.length ≤ xs.length := by omega
  have hqn : xs.length ≤ xs.length := by omega
  have HMX := hid_ (fun (h : 0 < xs.length) => max_first h hqn)
  have HPQ := hid_ hpq
  clear hx
  go_enter Try.func6, Try.ntmps6
  go_upto_region 7 with (first
      | ((go_at_call 28); (refine HW.out.mono ?_); (rintro e w1 ⟨rfl, hb⟩); (have HX1 := hid_ (HX.out.next hb)); (have HB1 := hid_ (Upd.of_below (S := fun _ => False) hb)); (clear hb))
      | ((go_at_call 23); (have h9 := HX2.out); (clear h9); (refine (HT2.out _ HX2.out).mono ?_); (rintro e w3 ⟨A3, c3, rfl, hr, hb⟩); (have HX3 := hid_ (HX2.out.next hb)); (have HB3 := hid_ (HB2.out.below hb)); (have HR3 := hid_ hr); (have HR2b := hid_ (HR2.out.next hb)); (clear hb hr))
      | ((go_at_call 23); (refine (HT1.out _ HX1.out).mono ?_); (rintro e w2 ⟨A2, c2, rfl, hr, hb⟩); (have HX2 := hid_ (HX1.out.next hb)); (have HB2 := hid_ (HB1.out.below hb)); (have HR2 := hid_ hr); (clear hb hr)))
  go_wp2_with fail
  have hcap : xs.length ≤ c3 := by
    obtain ⟨A9, c9, e9, h9, _⟩ := HR3.out.form
    injection e9 with _ e2 e3
    rw [← e2, ← e3] at h9
    exact h9
  have hcap2 : xs.length ≤ c3 := Nat.le_trans HPQ.out hcap
  have hSM : ∀ n, Calls Try.prog 22 #[.slice A2 xs.length c2, .slice A3 xs.length c3] (w3.drewN n) (fun e w' => e = .returned (.bool true) ∧ ∃ m, w' = (w3.drewN n).drewN m) := fun n => by
    have h2 := rdi_take HR3.out HPQ.out
    rw [List.take_take, Nat.min_eq_left HPQ.out] at h2
    exact same7q (rdi_drew HR2b.out n) (rdi_drew h2 n)
  have HSM := hid_ hSM
  clear hSM
  by_cases hq0 : 0 < xs.length
  · obtain ⟨A9, c9, e9, h9, _, hcell⟩ := HR3.out.form
    have hlq : ((order xs).take xs.length).length = xs.length := by rw [List.length_take, order_length]; omega
    obtain ⟨b9, o9, hA9, _, _, hc9⟩ := hcell 0 (by rw [hlq]; exact hq0)
    injection e9 with e1 e2 e3
    rw [← e1] at hA9
    subst hA9
    rw [HMX.out hq0, Nat.add_zero] at hc9
    have hMQ : ∀ n, Calls Try.prog 20 #[.slice A xs.length c] (w3.drewN n) (fun e w' => e = .returned (.int .i64 (maxV xs)) ∧ ∃ m, w' = (w3.drewN n).drewN m) := fun n => maxQ_any (rdi_drew HX3.out n)
    have HMQ := hid_ hMQ
    have hz : ((xs.length : Int) == 0) = false := by rw [beq_eq_false_iff_ne]; omega
    have hz2 : (xs.length == 0) = false := by rw [beq_eq_false_iff_ne]; omega
    have hz3 : ¬ xs.length = 0 := by omega
    clear hMQ hlq h9 hcell e1 e2 e3
    generalize maxV xs = mv at *
    go_quiet ((first | (go_at_call 22; exact Calls.quiet_of (HSM.out _)) | (go_at_call 20; exact Calls.quiet_of (HMQ.out _))))
    go_wp2_with fail
    go_ret
    exact ⟨rfl, (HB3.out.drewN _).toBelow (Nat.le_refl _) (fun _ h => h.elim)⟩
  · have hz : ((xs.length : Int) == 0) = true := by rw [beq_iff_eq]; omega
    have hz2 : (xs.length == 0) = true := by rw [beq_iff_eq]; omega
    have hz3 : xs.length = 0 := by omega
    have HZ := hid_ hz3
    clear hz3
    go_quiet ((go_at_call 22; exact Calls.quiet_of (HSM.out _)))
    go_wp2_with fail
    go_ret
    exact ⟨rfl, (HB3.out.drewN _).toBelow (Nat.le_refl _) (fun _ h => h.elim)⟩
set_option linter.unusedVariables false in
set_option maxRecDepth 100000 in
set_option maxHeartbeats 1600000 in
theorem fewer_b1 {w : World} {xs : List Int} {A : Option Addr} {c : Nat} (hx : RdI w w.heap.size .i64 (.slice A xs.length c) xs) (h300 : ¬ 300 < xs.length) (a b : Int) (ka kb : Nat) (la : ka < 400) (lb : kb < 400) (qa : IntKind.u64.wrap a % 400 = (ka : Int)) (qb : IntKind.u64.wrap b % 400 = (kb : Int)) (hab : kb < ka) (hle : ka ≤ xs.length) :
    Calls Try.prog 6 #[.slice A xs.length c, .int .i64 a, .int .i64 b] w (TruePost w) := by
  have HX := hid_ hx
  have HW := hid_ (works07_any w)
  have hab' : kb ≤ ka := by omega
  have h300' : ¬ (300 : Int) < (xs.length : Int) := by omega
  have ua : 0 ≤ IntKind.u64.wrap a := by rw [IntKind.wrap_u64]; omega
  have ub : 0 ≤ IntKind.u64.wrap b := by rw [IntKind.wrap_u64]; omega
  have HT1 := hid_ (fun (w1 : World) (h : RdI w1 w1.heap.size .i64 (.slice A xs.length c) xs) => topK_any h (by omega) kb kb (by omega))
  have HT2 := hid_ (fun (w1 : World) (h : RdI w1 w1.heap.size .i64 (.slice A xs.length c) xs) => topK_any h (by omega) ka ka (by omega))
  have hpq : kb ≤ ka := by omega
  have hqn : ka ≤ xs.length := by omega
  have HMX := hid_ (fun (h : 0 < ka) => max_first h hqn)
  have HPQ := hid_ hpq
  clear hx
  go_enter Try.func6, Try.ntmps6
  go_upto_region 7 with (first
      | ((go_at_call 28); (refine HW.out.mono ?_); (rintro e w1 ⟨rfl, hb⟩); (have HX1 := hid_ (HX.out.next hb)); (have HB1 := hid_ (Upd.of_below (S := fun _ => False) hb)); (clear hb))
      | ((go_at_call 23); (have h9 := HX2.out); (clear h9); (refine (HT2.out _ HX2.out).mono ?_); (rintro e w3 ⟨A3, c3, rfl, hr, hb⟩); (have HX3 := hid_ (HX2.out.next hb)); (have HB3 := hid_ (HB2.out.below hb)); (have HR3 := hid_ hr); (have HR2b := hid_ (HR2.out.next hb)); (clear hb hr))
      | ((go_at_call 23); (refine (HT1.out _ HX1.out).mono ?_); (rintro e w2 ⟨A2, c2, rfl, hr, hb⟩); (have HX2 := hid_ (HX1.out.next hb)); (have HB2 := hid_ (HB1.out.below hb)); (have HR2 := hid_ hr); (clear hb hr)))
  go_wp2_with fail
  have hcap : ka ≤ c3 := by
    obtain ⟨A9, c9, e9, h9, _⟩ := HR3.out.form
    injection e9 with _ e2 e3
    rw [← e2, ← e3] at h9
    exact h9
  have hcap2 : kb ≤ c3 := Nat.le_trans HPQ.out hcap
  have hSM : ∀ n, Calls Try.prog 22 #[.slice A2 kb c2, .slice A3 kb c3] (w3.drewN n) (fun e w' => e = .returned (.bool true) ∧ ∃ m, w' = (w3.drewN n).drewN m) := fun n => by
    have h2 := rdi_take HR3.out HPQ.out
    rw [List.take_take, Nat.min_eq_left HPQ.out] at h2
    exact same7q (rdi_drew HR2b.out n) (rdi_drew h2 n)
  have HSM := hid_ hSM
  clear hSM
  by_cases hq0 : 0 < ka
  · obtain ⟨A9, c9, e9, h9, _, hcell⟩ := HR3.out.form
    have hlq : ((order xs).take ka).length = ka := by rw [List.length_take, order_length]; omega
    obtain ⟨b9, o9, hA9, _, _, hc9⟩ := hcell 0 (by rw [hlq]; exact hq0)
    injection e9 with e1 e2 e3
    rw [← e1] at hA9
    subst hA9
    rw [HMX.out hq0, Nat.add_zero] at hc9
    have hMQ : ∀ n, Calls Try.prog 20 #[.slice A xs.length c] (w3.drewN n) (fun e w' => e = .returned (.int .i64 (maxV xs)) ∧ ∃ m, w' = (w3.drewN n).drewN m) := fun n => maxQ_any (rdi_drew HX3.out n)
    have HMQ := hid_ hMQ
    have hz : ((ka : Int) == 0) = false := by rw [beq_eq_false_iff_ne]; omega
    have hz2 : (ka == 0) = false := by rw [beq_eq_false_iff_ne]; omega
    have hz3 : ¬ ka = 0 := by omega
    clear hMQ hlq h9 hcell e1 e2 e3
    generalize maxV xs = mv at *
    go_quiet ((first | (go_at_call 22; exact Calls.quiet_of (HSM.out _)) | (go_at_call 20; exact Calls.quiet_of (HMQ.out _))))
    go_wp2_with fail
    go_ret
    exact ⟨rfl, (HB3.out.drewN _).toBelow (Nat.le_refl _) (fun _ h => h.elim)⟩
  · have hz : ((ka : Int) == 0) = true := by rw [beq_iff_eq]; omega
    have hz2 : (ka == 0) = true := by rw [beq_iff_eq]; omega
    have hz3 : ka = 0 := by omega
    have HZ := hid_ hz3
    clear hz3
    go_quiet ((go_at_call 22; exact Calls.quiet_of (HSM.out _)))
    go_wp2_with fail
    go_ret
    exact ⟨rfl, (HB3.out.drewN _).toBelow (Nat.le_refl _) (fun _ h => h.elim)⟩
set_option linter.unusedVariables false in
set_option maxRecDepth 100000 in
set_option maxHeartbeats 1600000 in
theorem fewer_b2 {w : World} {xs : List Int} {A : Option Addr} {c : Nat} (hx : RdI w w.heap.size .i64 (.slice A xs.length c) xs) (h300 : ¬ 300 < xs.length) (a b : Int) (ka kb : Nat) (la : ka < 400) (lb : kb < 400) (qa : IntKind.u64.wrap a % 400 = (ka : Int)) (qb : IntKind.u64.wrap b % 400 = (kb : Int)) (hab : kb < ka) (hle : kb ≤ xs.length ∧ xs.length < ka) :
    Calls Try.prog 6 #[.slice A xs.length c, .int .i64 a, .int .i64 b] w (TruePost w) := by
  have HX := hid_ hx
  have HW := hid_ (works07_any w)
  have hab' : kb ≤ ka := by omega
  have h300' : ¬ (300 : Int) < (xs.length : Int) := by omega
  have ua : 0 ≤ IntKind.u64.wrap a := by rw [IntKind.wrap_u64]; omega
  have ub : 0 ≤ IntKind.u64.wrap b := by rw [IntKind.wrap_u64]; omega
  have HT1 := hid_ (fun (w1 : World) (h : RdI w1 w1.heap.size .i64 (.slice A xs.length c) xs) => topK_any h (by omega) kb kb (by omega))
  have HT2 := hid_ (fun (w1 : World) (h : RdI w1 w1.heap.size .i64 (.slice A xs.length c) xs) => topK_any h (by omega) ka xs.length (by omega))
  have hpq : kb ≤ xs.length := by omega
  have hqn : xs.length ≤ xs.length := by omega
  have HMX := hid_ (fun (h : 0 < xs.length) => max_first h hqn)
  have HPQ := hid_ hpq
  clear hx
  go_enter Try.func6, Try.ntmps6
  go_upto_region 7 with (first
      | ((go_at_call 28); (refine HW.out.mono ?_); (rintro e w1 ⟨rfl, hb⟩); (have HX1 := hid_ (HX.out.next hb)); (have HB1 := hid_ (Upd.of_below (S := fun _ => False) hb)); (clear hb))
      | ((go_at_call 23); (have h9 := HX2.out); (clear h9); (refine (HT2.out _ HX2.out).mono ?_); (rintro e w3 ⟨A3, c3, rfl, hr, hb⟩); (have HX3 := hid_ (HX2.out.next hb)); (have HB3 := hid_ (HB2.out.below hb)); (have HR3 := hid_ hr); (have HR2b := hid_ (HR2.out.next hb)); (clear hb hr))
      | ((go_at_call 23); (refine (HT1.out _ HX1.out).mono ?_); (rintro e w2 ⟨A2, c2, rfl, hr, hb⟩); (have HX2 := hid_ (HX1.out.next hb)); (have HB2 := hid_ (HB1.out.below hb)); (have HR2 := hid_ hr); (clear hb hr)))
  go_wp2_with fail
  have hcap : xs.length ≤ c3 := by
    obtain ⟨A9, c9, e9, h9, _⟩ := HR3.out.form
    injection e9 with _ e2 e3
    rw [← e2, ← e3] at h9
    exact h9
  have hcap2 : kb ≤ c3 := Nat.le_trans HPQ.out hcap
  have hSM : ∀ n, Calls Try.prog 22 #[.slice A2 kb c2, .slice A3 kb c3] (w3.drewN n) (fun e w' => e = .returned (.bool true) ∧ ∃ m, w' = (w3.drewN n).drewN m) := fun n => by
    have h2 := rdi_take HR3.out HPQ.out
    rw [List.take_take, Nat.min_eq_left HPQ.out] at h2
    exact same7q (rdi_drew HR2b.out n) (rdi_drew h2 n)
  have HSM := hid_ hSM
  clear hSM
  by_cases hq0 : 0 < xs.length
  · obtain ⟨A9, c9, e9, h9, _, hcell⟩ := HR3.out.form
    have hlq : ((order xs).take xs.length).length = xs.length := by rw [List.length_take, order_length]; omega
    obtain ⟨b9, o9, hA9, _, _, hc9⟩ := hcell 0 (by rw [hlq]; exact hq0)
    injection e9 with e1 e2 e3
    rw [← e1] at hA9
    subst hA9
    rw [HMX.out hq0, Nat.add_zero] at hc9
    have hMQ : ∀ n, Calls Try.prog 20 #[.slice A xs.length c] (w3.drewN n) (fun e w' => e = .returned (.int .i64 (maxV xs)) ∧ ∃ m, w' = (w3.drewN n).drewN m) := fun n => maxQ_any (rdi_drew HX3.out n)
    have HMQ := hid_ hMQ
    have hz : ((xs.length : Int) == 0) = false := by rw [beq_eq_false_iff_ne]; omega
    have hz2 : (xs.length == 0) = false := by rw [beq_eq_false_iff_ne]; omega
    have hz3 : ¬ xs.length = 0 := by omega
    clear hMQ hlq h9 hcell e1 e2 e3
    generalize maxV xs = mv at *
    go_quiet ((first | (go_at_call 22; exact Calls.quiet_of (HSM.out _)) | (go_at_call 20; exact Calls.quiet_of (HMQ.out _))))
    go_wp2_with fail
    go_ret
    exact ⟨rfl, (HB3.out.drewN _).toBelow (Nat.le_refl _) (fun _ h => h.elim)⟩
  · have hz : ((xs.length : Int) == 0) = true := by rw [beq_iff_eq]; omega
    have hz2 : (xs.length == 0) = true := by rw [beq_iff_eq]; omega
    have hz3 : xs.length = 0 := by omega
    have HZ := hid_ hz3
    clear hz3
    go_quiet ((go_at_call 22; exact Calls.quiet_of (HSM.out _)))
    go_wp2_with fail
    go_ret
    exact ⟨rfl, (HB3.out.drewN _).toBelow (Nat.le_refl _) (fun _ h => h.elim)⟩
set_option linter.unusedVariables false in
set_option maxRecDepth 100000 in
set_option maxHeartbeats 1600000 in
theorem fewer_b3 {w : World} {xs : List Int} {A : Option Addr} {c : Nat} (hx : RdI w w.heap.size .i64 (.slice A xs.length c) xs) (h300 : ¬ 300 < xs.length) (a b : Int) (ka kb : Nat) (la : ka < 400) (lb : kb < 400) (qa : IntKind.u64.wrap a % 400 = (ka : Int)) (qb : IntKind.u64.wrap b % 400 = (kb : Int)) (hab : kb < ka) (hle : xs.length < kb) :
    Calls Try.prog 6 #[.slice A xs.length c, .int .i64 a, .int .i64 b] w (TruePost w) := by
  have HX := hid_ hx
  have HW := hid_ (works07_any w)
  have hab' : kb ≤ ka := by omega
  have h300' : ¬ (300 : Int) < (xs.length : Int) := by omega
  have ua : 0 ≤ IntKind.u64.wrap a := by rw [IntKind.wrap_u64]; omega
  have ub : 0 ≤ IntKind.u64.wrap b := by rw [IntKind.wrap_u64]; omega
  have HT1 := hid_ (fun (w1 : World) (h : RdI w1 w1.heap.size .i64 (.slice A xs.length c) xs) => topK_any h (by omega) kb xs.length (by omega))
  have HT2 := hid_ (fun (w1 : World) (h : RdI w1 w1.heap.size .i64 (.slice A xs.length c) xs) => topK_any h (by omega) ka xs.length (by omega))
  have hpq : xs.length ≤ xs.length := by omega
  have hqn : xs.length ≤ xs.length := by omega
  have HMX := hid_ (fun (h : 0 < xs.length) => max_first h hqn)
  have HPQ := hid_ hpq
  clear hx
  go_enter Try.func6, Try.ntmps6
  go_upto_region 7 with (first
      | ((go_at_call 28); (refine HW.out.mono ?_); (rintro e w1 ⟨rfl, hb⟩); (have HX1 := hid_ (HX.out.next hb)); (have HB1 := hid_ (Upd.of_below (S := fun _ => False) hb)); (clear hb))
      | ((go_at_call 23); (have h9 := HX2.out); (clear h9); (refine (HT2.out _ HX2.out).mono ?_); (rintro e w3 ⟨A3, c3, rfl, hr, hb⟩); (have HX3 := hid_ (HX2.out.next hb)); (have HB3 := hid_ (HB2.out.below hb)); (have HR3 := hid_ hr); (have HR2b := hid_ (HR2.out.next hb)); (clear hb hr))
      | ((go_at_call 23); (refine (HT1.out _ HX1.out).mono ?_); (rintro e w2 ⟨A2, c2, rfl, hr, hb⟩); (have HX2 := hid_ (HX1.out.next hb)); (have HB2 := hid_ (HB1.out.below hb)); (have HR2 := hid_ hr); (clear hb hr)))
  go_wp2_with fail
  have hcap : xs.length ≤ c3 := by
    obtain ⟨A9, c9, e9, h9, _⟩ := HR3.out.form
    injection e9 with _ e2 e3
    rw [← e2, ← e3] at h9
    exact h9
  have hcap2 : xs.length ≤ c3 := Nat.le_trans HPQ.out hcap
  have hSM : ∀ n, Calls Try.prog 22 #[.slice A2 xs.length c2, .slice A3 xs.length c3] (w3.drewN n) (fun e w' => e = .returned (.bool true) ∧ ∃ m, w' = (w3.drewN n).drewN m) := fun n => by
    have h2 := rdi_take HR3.out HPQ.out
    rw [List.take_take, Nat.min_eq_left HPQ.out] at h2
    exact same7q (rdi_drew HR2b.out n) (rdi_drew h2 n)
  have HSM := hid_ hSM
  clear hSM
  by_cases hq0 : 0 < xs.length
  · obtain ⟨A9, c9, e9, h9, _, hcell⟩ := HR3.out.form
    have hlq : ((order xs).take xs.length).length = xs.length := by rw [List.length_take, order_length]; omega
    obtain ⟨b9, o9, hA9, _, _, hc9⟩ := hcell 0 (by rw [hlq]; exact hq0)
    injection e9 with e1 e2 e3
    rw [← e1] at hA9
    subst hA9
    rw [HMX.out hq0, Nat.add_zero] at hc9
    have hMQ : ∀ n, Calls Try.prog 20 #[.slice A xs.length c] (w3.drewN n) (fun e w' => e = .returned (.int .i64 (maxV xs)) ∧ ∃ m, w' = (w3.drewN n).drewN m) := fun n => maxQ_any (rdi_drew HX3.out n)
    have HMQ := hid_ hMQ
    have hz : ((xs.length : Int) == 0) = false := by rw [beq_eq_false_iff_ne]; omega
    have hz2 : (xs.length == 0) = false := by rw [beq_eq_false_iff_ne]; omega
    have hz3 : ¬ xs.length = 0 := by omega
    clear hMQ hlq h9 hcell e1 e2 e3
    generalize maxV xs = mv at *
    go_quiet ((first | (go_at_call 22; exact Calls.quiet_of (HSM.out _)) | (go_at_call 20; exact Calls.quiet_of (HMQ.out _))))
    go_wp2_with fail
    go_ret
    exact ⟨rfl, (HB3.out.drewN _).toBelow (Nat.le_refl _) (fun _ h => h.elim)⟩
  · have hz : ((xs.length : Int) == 0) = true := by rw [beq_iff_eq]; omega
    have hz2 : (xs.length == 0) = true := by rw [beq_iff_eq]; omega
    have hz3 : xs.length = 0 := by omega
    have HZ := hid_ hz3
    clear hz3
    go_quiet ((go_at_call 22; exact Calls.quiet_of (HSM.out _)))
    go_wp2_with fail
    go_ret
    exact ⟨rfl, (HB3.out.drewN _).toBelow (Nat.le_refl _) (fun _ h => h.elim)⟩
set_option linter.unusedVariables false in
set_option maxRecDepth 100000 in
set_option maxHeartbeats 1600000 in
theorem fewer_c1 {w : World} {xs : List Int} {A : Option Addr} {c : Nat} (hx : RdI w w.heap.size .i64 (.slice A xs.length c) xs) (h300 : ¬ 300 < xs.length) (a b : Int) (ka kb : Nat) (la : ka < 400) (lb : kb < 400) (qa : IntKind.u64.wrap a % 400 = (ka : Int)) (qb : IntKind.u64.wrap b % 400 = (ka : Int)) (hab : kb < 400) (hle : ka ≤ xs.length) :
    Calls Try.prog 6 #[.slice A xs.length c, .int .i64 a, .int .i64 b] w (TruePost w) := by
  have HX := hid_ hx
  have HW := hid_ (works07_any w)
  have hab' : ka ≤ ka := by omega
  have h300' : ¬ (300 : Int) < (xs.length : Int) := by omega
  have ua : 0 ≤ IntKind.u64.wrap a := by rw [IntKind.wrap_u64]; omega
  have ub : 0 ≤ IntKind.u64.wrap b := by rw [IntKind.wrap_u64]; omega
  have HT1 := hid_ (fun (w1 : World) (h : RdI w1 w1.heap.size .i64 (.slice A xs.length c) xs) => topK_any h (by omega) ka ka (by omega))
  have HT2 := hid_ (fun (w1 : World) (h : RdI w1 w1.heap.size .i64 (.slice A xs.length c) xs) => topK_any h (by omega) ka ka (by omega))
  have hpq : ka ≤ ka := by omega
  have hqn : ka ≤ xs.length := by omega
  have HMX := hid_ (fun (h : 0 < ka) => max_first h hqn)
  have HPQ := hid_ hpq
  clear hx
  go_enter Try.func6, Try.ntmps6
  go_upto_region 7 with (first
      | ((go_at_call 28); (refine HW.out.mono ?_); (rintro e w1 ⟨rfl, hb⟩); (have HX1 := hid_ (HX.out.next hb)); (have HB1 := hid_ (Upd.of_below (S := fun _ => False) hb)); (clear hb))
      | ((go_at_call 23); (have h9 := HX2.out); (clear h9); (refine (HT2.out _ HX2.out).mono ?_); (rintro e w3 ⟨A3, c3, rfl, hr, hb⟩); (have HX3 := hid_ (HX2.out.next hb)); (have HB3 := hid_ (HB2.out.below hb)); (have HR3 := hid_ hr); (have HR2b := hid_ (HR2.out.next hb)); (clear hb hr))
      | ((go_at_call 23); (refine (HT1.out _ HX1.out).mono ?_); (rintro e w2 ⟨A2, c2, rfl, hr, hb⟩); (have HX2 := hid_ (HX1.out.next hb)); (have HB2 := hid_ (HB1.out.below hb)); (have HR2 := hid_ hr); (clear hb hr)))
  go_wp2_with fail
  have hcap : ka ≤ c3 := by
    obtain ⟨A9, c9, e9, h9, _⟩ := HR3.out.form
    injection e9 with _ e2 e3
    rw [← e2, ← e3] at h9
    exact h9
  have hcap2 : ka ≤ c3 := Nat.le_trans HPQ.out hcap
  have hSM : ∀ n, Calls Try.prog 22 #[.slice A2 ka c2, .slice A3 ka c3] (w3.drewN n) (fun e w' => e = .returned (.bool true) ∧ ∃ m, w' = (w3.drewN n).drewN m) := fun n => by
    have h2 := rdi_take HR3.out HPQ.out
    rw [List.take_take, Nat.min_eq_left HPQ.out] at h2
    exact same7q (rdi_drew HR2b.out n) (rdi_drew h2 n)
  have HSM := hid_ hSM
  clear hSM
  by_cases hq0 : 0 < ka
  · obtain ⟨A9, c9, e9, h9, _, hcell⟩ := HR3.out.form
    have hlq : ((order xs).take ka).length = ka := by rw [List.length_take, order_length]; omega
    obtain ⟨b9, o9, hA9, _, _, hc9⟩ := hcell 0 (by rw [hlq]; exact hq0)
    injection e9 with e1 e2 e3
    rw [← e1] at hA9
    subst hA9
    rw [HMX.out hq0, Nat.add_zero] at hc9
    have hMQ : ∀ n, Calls Try.prog 20 #[.slice A xs.length c] (w3.drewN n) (fun e w' => e = .returned (.int .i64 (maxV xs)) ∧ ∃ m, w' = (w3.drewN n).drewN m) := fun n => maxQ_any (rdi_drew HX3.out n)
    have HMQ := hid_ hMQ
    have hz : ((ka : Int) == 0) = false := by rw [beq_eq_false_iff_ne]; omega
    have hz2 : (ka == 0) = false := by rw [beq_eq_false_iff_ne]; omega
    have hz3 : ¬ ka = 0 := by omega
    clear hMQ hlq h9 hcell e1 e2 e3
    generalize maxV xs = mv at *
    go_quiet ((first | (go_at_call 22; exact Calls.quiet_of (HSM.out _)) | (go_at_call 20; exact Calls.quiet_of (HMQ.out _))))
    go_wp2_with fail
    go_ret
    exact ⟨rfl, (HB3.out.drewN _).toBelow (Nat.le_refl _) (fun _ h => h.elim)⟩
  · have hz : ((ka : Int) == 0) = true := by rw [beq_iff_eq]; omega
    have hz2 : (ka == 0) = true := by rw [beq_iff_eq]; omega
    have hz3 : ka = 0 := by omega
    have HZ := hid_ hz3
    clear hz3
    go_quiet ((go_at_call 22; exact Calls.quiet_of (HSM.out _)))
    go_wp2_with fail
    go_ret
    exact ⟨rfl, (HB3.out.drewN _).toBelow (Nat.le_refl _) (fun _ h => h.elim)⟩
set_option linter.unusedVariables false in
set_option maxRecDepth 100000 in
set_option maxHeartbeats 1600000 in
theorem fewer_c3 {w : World} {xs : List Int} {A : Option Addr} {c : Nat} (hx : RdI w w.heap.size .i64 (.slice A xs.length c) xs) (h300 : ¬ 300 < xs.length) (a b : Int) (ka kb : Nat) (la : ka < 400) (lb : kb < 400) (qa : IntKind.u64.wrap a % 400 = (ka : Int)) (qb : IntKind.u64.wrap b % 400 = (ka : Int)) (hab : kb < 400) (hle : xs.length < ka) :
    Calls Try.prog 6 #[.slice A xs.length c, .int .i64 a, .int .i64 b] w (TruePost w) := by
  have HX := hid_ hx
  have HW := hid_ (works07_any w)
  have hab' : ka ≤ ka := by omega
  have h300' : ¬ (300 : Int) < (xs.length : Int) := by omega
  have ua : 0 ≤ IntKind.u64.wrap a := by rw [IntKind.wrap_u64]; omega
  have ub : 0 ≤ IntKind.u64.wrap b := by rw [IntKind.wrap_u64]; omega
  have HT1 := hid_ (fun (w1 : World) (h : RdI w1 w1.heap.size .i64 (.slice A xs.length c) xs) => topK_any h (by omega) ka xs.length (by omega))
  have HT2 := hid_ (fun (w1 : World) (h : RdI w1 w1.heap.size .i64 (.slice A xs.length c) xs) => topK_any h (by omega) ka xs.length (by omega))
  have hpq : xs.length ≤ xs.length := by omega
  have hqn : xs.length ≤ xs.length := by omega
  have HMX := hid_ (fun (h : 0 < xs.length) => max_first h hqn)
  have HPQ := hid_ hpq
  clear hx
  go_enter Try.func6, Try.ntmps6
  go_upto_region 7 with (first
      | ((go_at_call 28); (refine HW.out.mono ?_); (rintro e w1 ⟨rfl, hb⟩); (have HX1 := hid_ (HX.out.next hb)); (have HB1 := hid_ (Upd.of_below (S := fun _ => False) hb)); (clear hb))
      | ((go_at_call 23); (have h9 := HX2.out); (clear h9); (refine (HT2.out _ HX2.out).mono ?_); (rintro e w3 ⟨A3, c3, rfl, hr, hb⟩); (have HX3 := hid_ (HX2.out.next hb)); (have HB3 := hid_ (HB2.out.below hb)); (have HR3 := hid_ hr); (have HR2b := hid_ (HR2.out.next hb)); (clear hb hr))
      | ((go_at_call 23); (refine (HT1.out _ HX1.out).mono ?_); (rintro e w2 ⟨A2, c2, rfl, hr, hb⟩); (have HX2 := hid_ (HX1.out.next hb)); (have HB2 := hid_ (HB1.out.below hb)); (have HR2 := hid_ hr); (clear hb hr)))
  go_wp2_with fail
  have hcap : xs.length ≤ c3 := by
    obtain ⟨A9, c9, e9, h9, _⟩ := HR3.out.form
    injection e9 with _ e2 e3
    rw [← e2, ← e3] at h9
    exact h9
  have hcap2 : xs.length ≤ c3 := Nat.le_trans HPQ.out hcap
  have hSM : ∀ n, Calls Try.prog 22 #[.slice A2 xs.length c2, .slice A3 xs.length c3] (w3.drewN n) (fun e w' => e = .returned (.bool true) ∧ ∃ m, w' = (w3.drewN n).drewN m) := fun n => by
    have h2 := rdi_take HR3.out HPQ.out
    rw [List.take_take, Nat.min_eq_left HPQ.out] at h2
    exact same7q (rdi_drew HR2b.out n) (rdi_drew h2 n)
  have HSM := hid_ hSM
  clear hSM
  by_cases hq0 : 0 < xs.length
  · obtain ⟨A9, c9, e9, h9, _, hcell⟩ := HR3.out.form
    have hlq : ((order xs).take xs.length).length = xs.length := by rw [List.length_take, order_length]; omega
    obtain ⟨b9, o9, hA9, _, _, hc9⟩ := hcell 0 (by rw [hlq]; exact hq0)
    injection e9 with e1 e2 e3
    rw [← e1] at hA9
    subst hA9
    rw [HMX.out hq0, Nat.add_zero] at hc9
    have hMQ : ∀ n, Calls Try.prog 20 #[.slice A xs.length c] (w3.drewN n) (fun e w' => e = .returned (.int .i64 (maxV xs)) ∧ ∃ m, w' = (w3.drewN n).drewN m) := fun n => maxQ_any (rdi_drew HX3.out n)
    have HMQ := hid_ hMQ
    have hz : ((xs.length : Int) == 0) = false := by rw [beq_eq_false_iff_ne]; omega
    have hz2 : (xs.length == 0) = false := by rw [beq_eq_false_iff_ne]; omega
    have hz3 : ¬ xs.length = 0 := by omega
    clear hMQ hlq h9 hcell e1 e2 e3
    generalize maxV xs = mv at *
    go_quiet ((first | (go_at_call 22; exact Calls.quiet_of (HSM.out _)) | (go_at_call 20; exact Calls.quiet_of (HMQ.out _))))
    go_wp2_with fail
    go_ret
    exact ⟨rfl, (HB3.out.drewN _).toBelow (Nat.le_refl _) (fun _ h => h.elim)⟩
  · have hz : ((xs.length : Int) == 0) = true := by rw [beq_iff_eq]; omega
    have hz2 : (xs.length == 0) = true := by rw [beq_iff_eq]; omega
    have hz3 : xs.length = 0 := by omega
    have HZ := hid_ hz3
    clear hz3
    go_quiet ((go_at_call 22; exact Calls.quiet_of (HSM.out _)))
    go_wp2_with fail
    go_ret
    exact ⟨rfl, (HB3.out.drewN _).toBelow (Nat.le_refl _) (fun _ h => h.elim)⟩

set_option maxRecDepth 100000 in
set_option maxHeartbeats 800000 in
theorem pickFewer_walk {w : World} {v : Value} {xs : List Int} (hx : RdI w w.heap.size .i64 v xs) (a b : Int) :
    Calls Try.prog 6 #[v, .int .i64 a, .int .i64 b] w (TruePost w) := by
  obtain ⟨A, c, hv, hc, hm, hcx⟩ := hx.form
  clear hcx hm hc
  subst hv
  by_cases h300 : 300 < xs.length
  · have h300' : (300 : Int) < (xs.length : Int) := by omega
    have HX := hid_ hx
    have HW := hid_ (works07_any w)
    clear hx
    go_enter Try.func6, Try.ntmps6
    go_wp2_with ((go_at_call 28); (refine HW.out.mono ?_); (rintro e w1 ⟨rfl, hb⟩); (have HB := hid_ hb); (clear hb))
    go_ret
    exact ⟨rfl, HB.out⟩
  have ua : 0 ≤ IntKind.u64.wrap a := by rw [IntKind.wrap_u64]; omega
  have ub : 0 ≤ IntKind.u64.wrap b := by rw [IntKind.wrap_u64]; omega
  obtain ⟨ka, hka⟩ : ∃ k : Nat, (k : Int) = IntKind.u64.wrap a % 400 := ⟨(IntKind.u64.wrap a % 400).toNat, by omega⟩
  obtain ⟨kb, hkb⟩ : ∃ k : Nat, (k : Int) = IntKind.u64.wrap b % 400 := ⟨(IntKind.u64.wrap b % 400).toNat, by omega⟩
  have la : ka < 400 := by omega
  have lb : kb < 400 := by omega
  rcases Nat.lt_trichotomy ka kb with h | h | h
  · by_cases h1 : kb ≤ xs.length
    · exact fewer_a1 hx h300 a b ka kb la lb hka.symm hkb.symm h h1
    · by_cases h2 : ka ≤ xs.length
      · exact fewer_a2 hx h300 a b ka kb la lb hka.symm hkb.symm h ⟨h2, by omega⟩
      · exact fewer_a3 hx h300 a b ka kb la lb hka.symm hkb.symm h (by omega)
  · subst h
    by_cases h1 : ka ≤ xs.length
    · exact fewer_c1 hx h300 a b ka ka la lb hka.symm hkb.symm lb h1
    · exact fewer_c3 hx h300 a b ka ka la lb hka.symm hkb.symm lb (by omega)
  · by_cases h1 : ka ≤ xs.length
    · exact fewer_b1 hx h300 a b ka kb la lb hka.symm hkb.symm h h1
    · by_cases h2 : kb ≤ xs.length
      · exact fewer_b2 hx h300 a b ka kb la lb hka.symm hkb.symm h ⟨h2, by omega⟩
      · exact fewer_b3 hx h300 a b ka kb la lb hka.symm hkb.symm h (by omega)

set_option maxRecDepth 100000 in
theorem pickFewer_args {H : Type} {enc : TypeId × Value → H} {W : World} {base : Nat} {v0 v1 v2 : Value} {d0 d1 d2 : DataW H} {p0 p1 p2 : List MemPlace} {tv : List TypeId} {gs : List (DataW H)}
    (h0 : DataW.Trod enc Try.prog W 0 (fun _ => true) true 29 v0 d0 p0) (k0 : Value.okWide Try.prog W .any base 29 v0) (h1 : DataW.Trod enc Try.prog W 0 (fun _ => true) true 3 v1 d1 p1) (k1 : Value.okWide Try.prog W .any base 3 v1)
    (h2 : DataW.Trod enc Try.prog W 0 (fun _ => true) true 3 v2 d2 p2) (k2 : Value.okWide Try.prog W .any base 3 v2)
    (_hsz : (DataW.weightsEach Try.prog ([29, 3, 3] ++ tv) ([d0, d1, d2] ++ gs)).all (· ≤ reachBytes) = true) :
    Calls Try.prog 6 #[v0, v1, v2] W (TruePost W) := by
  obtain ⟨xs, hx, _⟩ := ints_open h0 k0
  obtain ⟨a1, rfl, rfl, rfl, _⟩ := open_int Try.underlying3 k1 h1
  obtain ⟨a2, rfl, rfl, rfl, _⟩ := open_int Try.underlying3 k2 h2
  exact pickFewer_walk hx a1 a2
end Go.Proofs.Ytfinbkpmkgpffaa
