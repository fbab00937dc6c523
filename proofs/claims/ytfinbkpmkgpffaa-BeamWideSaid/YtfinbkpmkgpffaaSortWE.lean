/- The library's merge in place by a comparison, at ints, walked: it does what the plain function does. Conditions: the row is the whole block; the comparison only reads and answers by a plain function on the row's numbers; both ranges hold a number. -/
import Derived.Test.YtfinbkpmkgpffaaSortWD
namespace Go.Proofs.Ytfinbkpmkgpffaa
open Go.RowKit

theorem getD_dom {dom : Int → Prop} (h0 : dom 0) {d : List Int} (h : ∀ x ∈ d, dom x) (i : Nat) : dom (d.getD i 0) := by
  rcases Nat.lt_or_ge i d.length with hi | hi
  · exact h _ (mem_of_getD hi)
  · rw [List.getD_eq_getElem?_getD, List.getElem?_eq_none hi]; exact h0
theorem swapAt_dom0 {dom : Int → Prop} (h0 : dom 0) {d : List Int} (h : ∀ x ∈ d, dom x) (i j : Nat) : ∀ x ∈ swapAt d i j, dom x := by
  intro x hx
  rcases List.mem_or_eq_of_mem_set hx with hx | rfl
  · rcases List.mem_or_eq_of_mem_set hx with hx | rfl
    · exact h x hx
    · exact getD_dom h0 h _
  · exact getD_dom h0 h _
theorem swR_dom {dom : Int → Prop} (h0 : dom 0) {d : List Int} (h : ∀ x ∈ d, dom x) (a b : Nat) : ∀ k, ∀ x ∈ swR d a b k, dom x
  | 0 => h
  | k + 1 => swapAt_dom0 h0 (swR_dom h0 h a b k) _ _
theorem rot_dom {dom : Int → Prop} (h0 : dom 0) (m : Nat) : ∀ (f i j : Nat) {d : List Int}, (∀ x ∈ d, dom x) → ∀ x ∈ rot m f i j d, dom x
  | 0, i, j, d, h => swR_dom h0 h _ _ _
  | f + 1, i, j, d, h => by
    unfold rot
    split
    · exact swR_dom h0 h _ _ _
    · split
      · exact rot_dom h0 m f _ _ (swR_dom h0 h _ _ _)
      · exact rot_dom h0 m f _ _ (swR_dom h0 h _ _ _)
theorem upR_dom {dom : Int → Prop} (h0 : dom 0) {d : List Int} (h : ∀ x ∈ d, dom x) (a : Nat) : ∀ k, ∀ x ∈ upR d a k, dom x
  | 0 => h
  | k + 1 => swapAt_dom0 h0 (upR_dom h0 h a k) _ _
theorem dnR_dom {dom : Int → Prop} (h0 : dom 0) {d : List Int} (h : ∀ x ∈ d, dom x) (a : Nat) : ∀ k, ∀ x ∈ dnR d a k, dom x
  | 0 => h
  | k + 1 => swapAt_dom0 h0 (dnR_dom h0 h a k) _ _
theorem symM_dom {dom : Int → Prop} (h0 : dom 0) (cf : Int → Int → Int) : ∀ (f a m b : Nat) {d : List Int}, (∀ x ∈ d, dom x) → ∀ x ∈ symM cf f a m b d, dom x
  | 0, a, m, b, d, h => h
  | f + 1, a, m, b, d, h => by
    unfold symM
    split
    · exact upR_dom h0 h _ _
    · split
      · exact dnR_dom h0 h _ _
      · have h1 : ∀ x ∈ (if stM cf a m b d < m ∧ m < (a + b) / 2 + m - stM cf a m b d then rot m ((a + b) / 2 + m - stM cf a m b d - stM cf a m b d) (m - stM cf a m b d) ((a + b) / 2 + m - stM cf a m b d - m) d else d), dom x := by
          split
          · exact rot_dom h0 _ _ _ _ h
          · exact h
        have h2 : ∀ x ∈ (if a < stM cf a m b d ∧ stM cf a m b d < (a + b) / 2 then symM cf f a (stM cf a m b d) ((a + b) / 2) (if stM cf a m b d < m ∧ m < (a + b) / 2 + m - stM cf a m b d then rot m ((a + b) / 2 + m - stM cf a m b d - stM cf a m b d) (m - stM cf a m b d) ((a + b) / 2 + m - stM cf a m b d - m) d else d) else (if stM cf a m b d < m ∧ m < (a + b) / 2 + m - stM cf a m b d then rot m ((a + b) / 2 + m - stM cf a m b d - stM cf a m b d) (m - stM cf a m b d) ((a + b) / 2 + m - stM cf a m b d - m) d else d)), dom x := by
          split
          · exact symM_dom h0 cf f _ _ _ h1
          · exact h1
        dsimp only
        split
        · exact symM_dom h0 cf f _ _ _ h2
        · exact h2
theorem upR_len (d : List Int) (a n : Nat) : (upR d a n).length = d.length := upR_length d a n
theorem symM_length (cf : Int → Int → Int) : ∀ (f a m b : Nat) (d : List Int), (symM cf f a m b d).length = d.length
  | 0, a, m, b, d => rfl
  | f + 1, a, m, b, d => by
    unfold symM
    split
    · exact upR_length _ _ _
    · split
      · exact dnR_length _ _ _
      · dsimp only
        split
        · rw [symM_length cf f]
          split
          · rw [symM_length cf f]
            split
            · exact rot_length _ _ _ _ _
            · rfl
          · split
            · exact rot_length _ _ _ _ _
            · rfl
        · split
          · rw [symM_length cf f]
            split
            · exact rot_length _ _ _ _ _
            · rfl
          · split
            · exact rot_length _ _ _ _ _
            · rfl

set_option maxRecDepth 100000 in
set_option maxHeartbeats 6400000 in
theorem symMerge_any {blk c xb : Nat} {cf : Int → Int → Int} {dom : Int → Prop} (h00 : dom 0) : ∀ (f : Nat) {w : World} {a m b : Nat} {d : List Int} (_ : Blk w blk 3 (rowc d)) (_ : CmpQ xb cf dom blk w) (_ : ∀ x ∈ d, dom x) (_ : d.length < 1152921504606846976) (_ : a < m) (_ : m < b) (_ : b ≤ d.length) (_ : b - a ≤ f),
    Calls Try.prog 77 #[.slice (some ⟨blk, 0, none⟩) d.length c, .int .i64 a, .int .i64 m, .int .i64 b, cmpv xb] w (RowPost w blk 3 (symM cf f a m b d)) := by
  intro f
  induction f with
  | zero => intro w a m b d h hq hd hm ham hmb hbl hf; omega
  | succ f ih =>
    intro w a m b d h hq hd hm ham hmb hbl hf
    by_cases h1 : m - a = 1
    · rw [symM, if_pos h1]
      exact symL h hq hd hm ham hmb hbl h1
    by_cases h2 : b - m = 1
    · rw [symM, if_neg h1, if_pos h2]
      exact symR h hq hd hm ham hmb hbl h1 h2
    have IH := hid_ (fun (w : World) (a m b : Nat) (d : List Int) => @ih w a m b d)
    clear ih
    obtain ⟨res, hres⟩ : ∃ res, symM cf (f + 1) a m b d = res := ⟨_, rfl⟩
    rw [hres]
    rw [symM, if_neg h1, if_neg h2] at hres
    obtain ⟨mid, hmid⟩ : ∃ mid, mid = (a + b) / 2 := ⟨_, rfl⟩
    obtain ⟨st, hst⟩ : ∃ st, st = stM cf a m b d := ⟨_, rfl⟩
    obtain ⟨n, hn⟩ : ∃ n, n = mid + m := ⟨_, rfl⟩
    obtain ⟨s0, hs0⟩ : ∃ s0, s0 = (if mid < m then n - b else a) := ⟨_, rfl⟩
    obtain ⟨r0, hr0⟩ : ∃ r0, r0 = (if mid < m then mid else m) := ⟨_, rfl⟩
    have hst2 : bs (tM cf d n) (b - a) s0 r0 = st := by rw [hs0, hr0, hn, hst, stM, hmid]
    have hs1 : s0 ≤ r0 := by rw [hs0, hr0]; split <;> omega
    have hs2 : a ≤ s0 := by rw [hs0]; split <;> omega
    have hr1 : r0 ≤ m := by rw [hr0]; split <;> omega
    have hr2 : r0 ≤ mid := by rw [hr0]; split <;> omega
    have hs3 : n - b ≤ s0 := by rw [hs0]; split <;> omega
    have hst3 := bs_le (tM cf d n) (b - a) s0 r0 hs1
    rw [hst2] at hst3
    have hmid2 : a < mid := by omega
    have hmid3 : mid < b := by omega
    rw [← hst, ← hmid] at hres
    dsimp only at hres
    obtain ⟨en, hen⟩ : ∃ en, en = n - st := ⟨_, rfl⟩
    rw [← hn, ← hen] at hres
    obtain ⟨d1, hd1⟩ : ∃ d1, d1 = (if st < m ∧ m < en then rot m (en - st) (m - st) (en - m) d else d) := ⟨_, rfl⟩
    rw [← hd1] at hres
    obtain ⟨d2, hd2⟩ : ∃ d2, d2 = (if a < st ∧ st < mid then symM cf f a st mid d1 else d1) := ⟨_, rfl⟩
    rw [← hd2] at hres
    have l1 : d1.length = d.length := by rw [hd1]; split; exact rot_length _ _ _ _ _; rfl
    have l2 : d2.length = d.length := by rw [hd2]; split; rw [symM_length, l1]; exact l1
    have m1 : ∀ x ∈ d1, dom x := by rw [hd1]; split; exact rot_dom h00 _ _ _ _ hd; exact hd
    have m2 : ∀ x ∈ d2, dom x := by rw [hd2]; split; exact symM_dom h00 _ _ _ _ _ m1; exact m1
    have H := hid_ h
    have HQ := hid_ hq
    have HD := hid_ hd
    have L1 := hid_ l1
    have L2 := hid_ l2
    have M1 := hid_ m1
    have M2 := hid_ m2
    have HRES := hid_ hres
    have HD1 := hid_ hd1
    have HD2 := hid_ hd2
    have HST := hid_ hst2
    have HS0 := hid_ hs0
    have HR0 := hid_ hr0
    obtain ⟨x, hx⟩ : ∃ x : Nat, x = m - a := ⟨_, rfl⟩
    have a1 : (m : Int) - a = (x : Int) := by omega
    have a2 : IntKind.i64.wrap ((m : Int) - a) = (x : Int) := by rw [a1]; exact w64 (by omega) (by omega)
    have a3 : ((x : Int) == 1) = false := by rw [beq_eq_false_iff_ne]; omega
    have a4 : ¬ (x : Int) = 1 := by omega
    obtain ⟨y, hy⟩ : ∃ y : Nat, y = b - m := ⟨_, rfl⟩
    have b1 : (b : Int) - m = (y : Int) := by omega
    have b2 : IntKind.i64.wrap ((b : Int) - m) = (y : Int) := by rw [b1]; exact w64 (by omega) (by omega)
    have b3 : ((y : Int) == 1) = false := by rw [beq_eq_false_iff_ne]; omega
    have b4 : ¬ (y : Int) = 1 := by omega
    have i1 : IntKind.i64.wrap ((a : Int) + b) = (a : Int) + b := w64 (by omega) (by omega)
    have i2 : ((a : Int) + b) / 2 = (mid : Int) := by omega
    have i3 : (mid : Int) + m = (n : Int) := by omega
    have i4 : IntKind.i64.wrap ((mid : Int) + m) = (n : Int) := by rw [i3]; exact w64 (by omega) (by omega)
    have HMID := hid_ hmid
    have HN := hid_ hn
    have HEN := hid_ hen
    have HST3 := hid_ hst3
    clear h hq hd h1 h2 l1 l2 m1 m2 hres hd1 hd2 hst hst2 hs0 hr0 hx hy hmid hn hen hst3
    unfold cmpv
    go_enter Try.func77, Try.ntmps77
    go_upto_if 140 with fail
    go_cut [20, 21] (fun s r wx => s = .int .i64 s0 ∧ r = .int .i64 r0 ∧ wx = w)
    case first =>
      by_cases hmm : mid < m
      · have hmm' : (mid : Int) < (m : Int) := by omega
        have hS := HS0.out
        have hR := HR0.out
        have hN := HN.out
        rw [if_pos hmm] at hS hR
        have j1 : (n : Int) - b = (s0 : Int) := by omega
        have j2 : IntKind.i64.wrap ((n : Int) - b) = (s0 : Int) := by rw [j1]; exact w64 (by omega) (by omega)
        have HRR := hid_ hR
        clear hS hR hN
        go_wp2_with fail
        go_meet
        exact ⟨rfl, by rw [HRR.out], rfl⟩
      · have hmm' : ¬ (mid : Int) < (m : Int) := by omega
        have hS := HS0.out
        have hR := HR0.out
        rw [if_neg hmm] at hS hR
        have HSS := hid_ hS
        have HRR := hid_ hR
        clear hS hR
        go_wp2_with fail
        go_meet
        exact ⟨by rw [HSS.out], by rw [HRR.out], rfl⟩
    case rest =>
      obtain ⟨rfl, rfl, hw0⟩ := hcut
      have hw1 : w = wc := hw0.symm
      subst hw1
      obtain ⟨p, hp⟩ : ∃ p : Nat, p = n - 1 := ⟨_, rfl⟩
      have hN := HN.out
      have p1 : (n : Int) - 1 = (p : Int) := by omega
      have p2 : IntKind.i64.wrap ((n : Int) - 1) = (p : Int) := by rw [p1]; exact w64 (by omega) (by omega)
      have HP := hid_ hp
      have HM := HMID.out
      have hmid4 : mid - a ≤ b - mid := by omega
      clear hp hN HM a1 a2 a3 a4 b1 b2 b3 b4 i1 i2 i3 i4 HS0 HR0
      have hq9 : ∀ t, s0 ≤ t → t < r0 → n - 1 - t < d.length ∧ t ≤ n - 1 := fun t h1 h2 => by
        have := HN.out
        omega
      have HQ9 := hid_ hq9
      clear hq9
      go_upto_block 8 with fail
      go_cut [20] (fun sv wx => sv = .int .i64 st ∧ Blk wx blk 3 (rowc d) ∧ Only blk w wx)
      case first =>
       as_aux_lemma =>
        clear HST3 HEN HD1 HD2 HRES M1 M2 L1 L2 IH hmid4 hmid2 hmid3 hs3 hr2 HMID
        go_wp2_with fail
        go_loopw [20, 21] (fun i j wr => ∃ (g ki kj : Nat), s0 ≤ ki ∧ ki ≤ kj ∧ kj ≤ r0 ∧ kj - ki ≤ g ∧ i = .int .i64 ki ∧ j = .int .i64 kj ∧ Blk wr blk 3 (rowc d) ∧ Only blk w wr ∧ Hid (bs (tM cf d n) g ki kj = st)) (fun i j _ => (intOf j).toNat - (intOf i).toNat)
        case atStart => exact ⟨b - a, s0, r0, Nat.le_refl _, hs1, Nat.le_refl _, by omega, rfl, rfl, H.out, Only.refl _ _, HST.out⟩
        case round =>
          obtain ⟨g, ki, kj, hi, hij, hj, hf2, rfl, rfl, hB, hO, HR⟩ := hrel
          have HB := hid_ hB
          have HO := hid_ hO
          clear hB hO
          by_cases hlt : ki < kj
          · have hlt' : (ki : Int) < (kj : Int) := by omega
            obtain ⟨g', rfl⟩ : ∃ g', g = g' + 1 := ⟨g - 1, by omega⟩
            obtain ⟨t, ht⟩ : ∃ t : Nat, t = (ki + kj) / 2 := ⟨_, rfl⟩
            have s1 : IntKind.i64.wrap ((ki : Int) + kj) = (ki : Int) + kj := w64 (by omega) (by omega)
            have t1 : ((ki : Int) + kj) / 2 = (t : Int) := by omega
            have t2 : ki ≤ t := by omega
            have t3 : t < kj := by omega
            have t4 : (t : Int) < (d.length : Int) := by omega
            have hP := HP.out
            obtain ⟨hN, hN2⟩ := HQ9.out t (by omega) (by omega)
            obtain ⟨q, hq⟩ : ∃ q : Nat, q = n - 1 - t := ⟨_, rfl⟩
            have q1 : (p : Int) - t = (q : Int) := by omega
            have q2 : IntKind.i64.wrap ((p : Int) - t) = (q : Int) := by rw [q1]; exact w64 (by omega) (by omega)
            have q3 : q < d.length := by omega
            have q4 : (q : Int) < (d.length : Int) := by omega
            have hR := HR.out
            rw [bs, if_pos hlt, ← ht] at hR
            have c1 := rowc_cell HB.out (i := t) (by omega)
            have c2 := rowc_cell HB.out (i := q) (by omega)
            have hc := HQ.out.at_ HO.out (HD.out _ (mem_of_getD (i := q) (by omega))) (HD.out _ (mem_of_getD (i := t) (by omega)))
            have hT : tM cf d n t = !decide (cf (d.getD q 0) (d.getD t 0) < 0) := by rw [hq]; rfl
            obtain ⟨u, hu⟩ : ∃ u, d.getD q 0 = u := ⟨_, rfl⟩
            obtain ⟨v, hv⟩ : ∃ v, d.getD t 0 = v := ⟨_, rfl⟩
            rw [hu] at c2 hc hT
            rw [hv] at c1 hc hT
            have HC := hid_ hc
            rw [hT] at hR
            have HR2 := hid_ hR
            clear hR ht hc hu hv hT hq hP hN hN2
            by_cases hlv : cf u v < 0
            · go_wp2_with fail
              go_quiet ((go_at_call 46; exact Calls.quiet_of (HC.out _)))
              go_wp2_with fail
              go_roundw
              case rel =>
                have h5 := HR2.out
                rw [if_neg (by rw [decide_eq_true hlv]; exact Bool.false_ne_true)] at h5
                exact ⟨g', ki, t, by omega, by omega, by omega, by omega, rfl, by first | rfl | go_num, HB.out, HO.out.drewN _, h5⟩
              case measure => simp [intOf]; omega
            · have hlf : decide (cf u v < 0) = false := decide_eq_false hlv
              go_wp2_with fail
              go_quiet ((go_at_call 46; exact Calls.quiet_of (HC.out _)))
              go_wp2_with fail
              go_roundw
              case rel =>
                have h5 := HR2.out
                rw [if_pos (by rw [hlf]; rfl)] at h5
                exact ⟨g', t + 1, kj, by omega, by omega, by omega, by omega, by first | rfl | go_num, rfl, HB.out, HO.out.drewN _, h5⟩
              case measure => simp [intOf]; omega
          · obtain rfl : ki = kj := by omega
            have h5 := HR.out
            rw [bs_end] at h5
            go_wp2_with fail
            go_meet
            exact ⟨by rw [h5], HB.out, HO.out⟩
      case rest =>
       as_aux_lemma =>
        clear HQ9 HST HD H
        obtain ⟨rfl, hB, hO⟩ := hcut
        obtain ⟨w1, hw1⟩ : ∃ w1, w1 = wc := ⟨_, rfl⟩
        subst hw1
        have HB := hid_ hB
        have HO := hid_ hO
        clear hB hO hw0
        obtain ⟨st1, st2⟩ := HST3.out
        have hE := HEN.out
        have hN := HN.out
        have e1 : (n : Int) - st = (en : Int) := by omega
        have e2 : IntKind.i64.wrap ((n : Int) - st) = (en : Int) := by rw [e1]; exact w64 (by omega) (by omega)
        have e3 : en ≤ b := by omega
        have e4 : mid ≤ en := by omega
        have e5 : en - m = mid - st := by omega
        have e6 : mid - a ≤ f := by omega
        have e7 : b - mid ≤ f := by omega
        clear hE hN hs1 hs2 hr1 hr2 hs3 hmid4 st1 st2
        obtain ⟨g1, hg1⟩ : ∃ g1 : Bool, g1 = decide (st < m ∧ m < en) := ⟨_, rfl⟩
        have HG1 := hid_ hg1
        clear hg1
        go_upto_region 39 with fail
        go_cut [185] (fun gv wx => gv = .bool g1 ∧ wx = w1)
        case first =>
         as_aux_lemma =>
          clear IH HQ HD1 HD2 HRES L1 L2 M1 M2
          by_cases hg1 : st < m
          · have hg1' : (st : Int) < (m : Int) := by omega
            by_cases hg2 : m < en
            · have hg2' : (m : Int) < (en : Int) := by omega
              go_wp2_with fail
              go_meet
              exact ⟨by rw [HG1.out, decide_eq_true ⟨hg1, hg2⟩], rfl⟩
            · have hg2' : ¬ (m : Int) < (en : Int) := by omega
              go_wp2_with fail
              go_meet
              exact ⟨by rw [HG1.out, decide_eq_false (fun h => hg2 h.2)], rfl⟩
          · have hg1' : ¬ (st : Int) < (m : Int) := by omega
            go_wp2_with fail
            go_meet
            exact ⟨by rw [HG1.out, decide_eq_false (fun h => hg1 h.1)], rfl⟩
        case rest =>
        obtain ⟨rfl, hw⟩ := hcut
        have hw2 : w1 = wc := hw.symm
        subst hw2
        clear hw
        go_upto_if 185 with fail
        go_cut [] (fun wx => Blk wx blk 3 (rowc d1) ∧ Only blk w wx)
        case first =>
         as_aux_lemma =>
          cases g1 with
          | true =>
            have hg := of_decide_eq_true HG1.out.symm
            have hS := rotate_any (c := c) (a := st) (m := m) (b := en) (fv := cmpv xb) HB.out hm hg.1 hg.2 (by omega)
            unfold cmpv at hS
            have HS := hid_ hS
            clear hS hg
            go_wp2_with (go_at_call 88; refine HS.out.mono ?_; rintro e w2 ⟨rfl, hB1, hO1⟩; (have HB1 := hid_ hB1); (have HO1 := hid_ hO1); clear hB1 hO1)
            go_meet
            have h7 := HD1.out
            rw [if_pos (of_decide_eq_true HG1.out.symm)] at h7
            exact ⟨h7 ▸ HB1.out, HO.out.trans HO1.out⟩
          | false =>
            go_wp2_with fail
            go_meet
            have h7 := HD1.out
            rw [if_neg (of_decide_eq_false HG1.out.symm)] at h7
            exact ⟨h7 ▸ HB.out, HO.out⟩
        case rest =>
        clear HB HO
        obtain ⟨hB, hO⟩ := hcut
        obtain ⟨w2, hw2⟩ : ∃ w2, w2 = wc := ⟨_, rfl⟩
        subst hw2
        have HB := hid_ hB
        have HO := hid_ hO
        clear hB hO HG1
        obtain ⟨g2, hg2⟩ : ∃ g2 : Bool, g2 = decide (a < st ∧ st < mid) := ⟨_, rfl⟩
        have HG2 := hid_ hg2
        clear hg2
        go_upto_region 41 with fail
        go_cut [199] (fun gv wx => gv = .bool g2 ∧ wx = w2)
        case first =>
         as_aux_lemma =>
          clear IH HQ HD1 HD2 HRES L1 L2 M1 M2
          by_cases hg1 : a < st
          · have hg1' : (a : Int) < (st : Int) := by omega
            by_cases hg2 : st < mid
            · have hg2' : (st : Int) < (mid : Int) := by omega
              go_wp2_with fail
              go_meet
              exact ⟨by rw [HG2.out, decide_eq_true ⟨hg1, hg2⟩], rfl⟩
            · have hg2' : ¬ (st : Int) < (mid : Int) := by omega
              go_wp2_with fail
              go_meet
              exact ⟨by rw [HG2.out, decide_eq_false (fun h => hg2 h.2)], rfl⟩
          · have hg1' : ¬ (a : Int) < (st : Int) := by omega
            go_wp2_with fail
            go_meet
            exact ⟨by rw [HG2.out, decide_eq_false (fun h => hg1 h.1)], rfl⟩
        case rest =>
        obtain ⟨rfl, hw⟩ := hcut
        have hw2 : w2 = wc := hw.symm
        subst hw2
        clear hw
        go_upto_if 199 with fail
        go_cut [] (fun wx => Blk wx blk 3 (rowc d2) ∧ Only blk w wx)
        case first =>
         as_aux_lemma =>
          cases g2 with
          | true =>
            have hg := of_decide_eq_true HG2.out.symm
            have hL := L1.out
            have hS := IH.out w2 a st mid d1 HB.out (HQ.out.next HO.out) M1.out (by omega) hg.1 hg.2 (by omega) e6
            rw [hL] at hS
            unfold cmpv at hS
            have HS := hid_ hS
            clear hS hg hL
            go_wp2_with (go_at_call 77; refine HS.out.mono ?_; rintro e w3 ⟨rfl, hB1, hO1⟩; (have HB1 := hid_ hB1); (have HO1 := hid_ hO1); clear hB1 hO1)
            go_meet
            have h7 := HD2.out
            rw [if_pos (of_decide_eq_true HG2.out.symm)] at h7
            exact ⟨h7 ▸ HB1.out, HO.out.trans HO1.out⟩
          | false =>
            go_wp2_with fail
            go_meet
            have h7 := HD2.out
            rw [if_neg (of_decide_eq_false HG2.out.symm)] at h7
            exact ⟨h7 ▸ HB.out, HO.out⟩
        case rest =>
        clear HB HO
        obtain ⟨hB, hO⟩ := hcut
        obtain ⟨w3, hw3⟩ : ∃ w3, w3 = wc := ⟨_, rfl⟩
        subst hw3
        have HB := hid_ hB
        have HO := hid_ hO
        clear hB hO HG2
        obtain ⟨g3, hg3⟩ : ∃ g3 : Bool, g3 = decide (mid < en ∧ en < b) := ⟨_, rfl⟩
        have HG3 := hid_ hg3
        clear hg3
        go_upto_region 43 with fail
        go_cut [213] (fun gv wx => gv = .bool g3 ∧ wx = w3)
        case first =>
         as_aux_lemma =>
          clear IH HQ HD1 HD2 HRES L1 L2 M1 M2
          by_cases hg1 : mid < en
          · have hg1' : (mid : Int) < (en : Int) := by omega
            by_cases hg2 : en < b
            · have hg2' : (en : Int) < (b : Int) := by omega
              go_wp2_with fail
              go_meet
              exact ⟨by rw [HG3.out, decide_eq_true ⟨hg1, hg2⟩], rfl⟩
            · have hg2' : ¬ (en : Int) < (b : Int) := by omega
              go_wp2_with fail
              go_meet
              exact ⟨by rw [HG3.out, decide_eq_false (fun h => hg2 h.2)], rfl⟩
          · have hg1' : ¬ (mid : Int) < (en : Int) := by omega
            go_wp2_with fail
            go_meet
            exact ⟨by rw [HG3.out, decide_eq_false (fun h => hg1 h.1)], rfl⟩
        case rest =>
        obtain ⟨rfl, hw⟩ := hcut
        have hw2 : w3 = wc := hw.symm
        subst hw2
        clear hw
        cases g3 with
        | true =>
          have hg := of_decide_eq_true HG3.out.symm
          have hL := L2.out
          have hS := IH.out w3 mid en b d2 HB.out (HQ.out.next HO.out) M2.out (by omega) hg.1 hg.2 (by omega) e7
          rw [hL] at hS
          unfold cmpv at hS
          have HS := hid_ hS
          clear hS hg hL
          go_wp2_with (go_at_call 77; refine HS.out.mono ?_; rintro e w4 ⟨rfl, hB1, hO1⟩; (have HB1 := hid_ hB1); (have HO1 := hid_ hO1); clear hB1 hO1)
          go_end0
          have h7 := HRES.out
          rw [if_pos (of_decide_eq_true HG3.out.symm)] at h7
          exact ⟨rfl, h7 ▸ HB1.out, HO.out.trans HO1.out⟩
        | false =>
          go_wp2_with fail
          go_end0
          have h7 := HRES.out
          rw [if_neg (of_decide_eq_false HG3.out.symm)] at h7
          exact ⟨rfl, h7 ▸ HB.out, HO.out⟩
end Go.Proofs.Ytfinbkpmkgpffaa
