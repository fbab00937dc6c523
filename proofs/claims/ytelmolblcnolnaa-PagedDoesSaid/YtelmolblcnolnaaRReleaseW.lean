/- Pages let go of, walked: the document's. Conditions: its pool is whole; the pages are read in a slice that is none of the pool's blocks. -/
import Derived.Test.YtelmolblcnolnaaRPlaceW
import Derived.Test.YtelmolblcnolnaaReleaseW
namespace Go.Proofs.Ytelmolblcnolnaa
open Go.RowKit

def overA (s : Pl) (L : List Int) (i : Nat) : Bool := decide (s.owners (L.getD i 0) < (L.count (L.getD i 0) : Int))
theorem count_take_le (L : List Int) (k : Nat) (x : Int) : (L.take k).count x ≤ L.count x := (List.take_sublist k L).count_le x
theorem over_of {s : Pl} {L : List Int} (h0 : ∀ x, 0 ≤ s.owners x) (x : Int) : ∀ j, j ≤ L.length → s.owners x < ((L.take j).count x : Int) → ∃ k, k < j ∧ overK s L k = true
  | 0, _, h => by
    have := h0 x
    simp at h
    omega
  | j + 1, hj, h => by
    by_cases hx : L.getD j 0 = x
    · refine ⟨j, by omega, ?_⟩
      unfold overK
      rw [hx]
      exact decide_eq_true h
    · rw [take_snoc8 L (k := j) (by omega), List.count_append, List.count_singleton] at h
      rw [show (L.getD j 0 == x) = false from beq_eq_false_iff_ne.2 hx] at h
      obtain ⟨k, hk, ho⟩ := over_of (s := s) (L := L) h0 x j (by omega) (by simpa using h)
      exact ⟨k, by omega, ho⟩
theorem relE_all (s : Pl) (L : List Int) (h0 : ∀ x, 0 ≤ s.owners x) : relE s L = if (List.range L.length).any (overA s L) then 25 else 0 := by
  unfold relE
  have e : (List.range L.length).any (overK s L) = (List.range L.length).any (overA s L) := by
    rw [Bool.eq_iff_iff, List.any_eq_true, List.any_eq_true]
    constructor
    · rintro ⟨k, hk, ho⟩
      refine ⟨k, hk, ?_⟩
      have h1 : s.owners (L.getD k 0) < ((L.take (k + 1)).count (L.getD k 0) : Int) := of_decide_eq_true ho
      have h2 := count_take_le L (k + 1) (L.getD k 0)
      exact decide_eq_true (by omega)
    · rintro ⟨i, hi, ho⟩
      have h1 : s.owners (L.getD i 0) < (L.count (L.getD i 0) : Int) := of_decide_eq_true ho
      obtain ⟨k, hk, h2⟩ := over_of h0 (L.getD i 0) L.length (Nat.le_refl _) (by rw [List.take_length]; exact h1)
      exact ⟨k, List.mem_range.2 hk, h2⟩
  rw [e]
theorem relE_stopA {s : Pl} {L : List Int} {k m : Nat} (h0 : ∀ x, 0 ≤ s.owners x) (hl : L.length = m) (hk : k < m) (h : overA s L k = true) : relE s L = 25 := by
  rw [relE_all s L h0, if_pos (any_first (by omega) h)]
theorem relE_runA {s : Pl} {L : List Int} {m : Nat} (h0 : ∀ x, 0 ≤ s.owners x) (hl : L.length = m) (h : ∀ i, i < m → overA s L i = false) : relE s L = 0 := by
  rw [relE_all s L h0, any_none (fun k hk => h k (by omega))]
  rfl

set_option maxRecDepth 100000 in
set_option maxHeartbeats 3200000 in
theorem rrelease_any {w : World} {rb rq : Nat} {gs : Nat → Nat} {s : Pl} {c9 : Int} (h : RefAt w rb rq gs s) (hk : s.Ok c9) (hc0 : 0 ≤ c9) (hc9 : c9 < 4611686018427387904) {B : Nat} {A : Option Addr} {m c : Nat} {L : List Int} (hp : RdI w B .i64 (.slice A m c) L) (hm : m ≤ 1048576)
    (hap : ∀ b' o, A = some ⟨b', o, none⟩ → 0 < m → ¬ rS rb rq gs s.pages b') :
    Calls Try.prog 43 #[.pointer (some ⟨rb, 0, none⟩), .slice A m c] w fun e w' => e = .returned (.int .i64 (relE s L)) ∧ RTo w rb rq gs s (relS s L) w' := by
  have hpl := (rdi_len hp).1
  have H0 : Hid (∀ x, 0 ≤ s.owners x) := fun x => (hk.page_own hc0 x).1
  have HLN := hid_ hpl
  have HP := hid_ hp
  have HH := hid_ h
  have HK := hid_ hk
  have HAP := hid_ hap
  clear hp h hk hpl hap
  go_enter Try.func43, Try.ntmps43
  go_wp2_with fail
  go_loopw [5] (fun iv wr => ∃ i : Nat, i ≤ m ∧ iv = .int .i64 i ∧ Hid (∀ j, j < i → overA s L j = false) ∧ Hid (∃ q, wr = w.drewN q)) (fun iv _ => m - (intOf iv).toNat)
  case atStart => exact ⟨0, Nat.zero_le _, rfl, hid_ (fun j hj => absurd hj (by omega)), hid_ ⟨0, rfl⟩⟩
  case round =>
    obtain ⟨i, him, rfl, HO, HW⟩ := hrel
    by_cases hlt : i < m
    · have hlt' : (i : Int) < (m : Int) := by omega
      have hx : ∀ W, Hid (∃ q, W = w.drewN q) → ∃ b1 o1, A = some ⟨b1, o1, none⟩ ∧ W.cell? ⟨b1, o1 + i, none⟩ = some (.int .i64 (L.getD i 0)) := fun W hW => rdi_cell (rdi_drawn HP.out hW.out) (by have := HLN.out; omega)
      obtain ⟨b1, o1, hA, _⟩ := hx wr HW
      subst hA
      have HX : Hid (∀ W, Hid (∃ q, W = w.drewN q) → W.cell? ⟨b1, o1 + i, none⟩ = some (.int .i64 (L.getD i 0))) := fun W hW => by
        obtain ⟨b2, o2, h2, h3⟩ := hx W hW
        injection h2 with h2
        injection h2 with h2 h4 _
        subst h2 h4
        exact h3
      clear hx
      obtain ⟨x, hxx⟩ : ∃ x, L.getD i 0 = x := ⟨_, rfl⟩
      have HOV : Hid (overA s L i = decide (s.owners x < (L.count x : Int))) := by unfold overA; rw [hxx]; exact hid_ rfl
      rw [hxx] at HX
      clear hxx
      obtain ⟨wo, hwo⟩ : ∃ wo : World, wo = wr := ⟨_, rfl⟩
      rw [← hwo] at HW ⊢
      clear hwo
      go_wp2_with fail
      go_loopw [6, 7] (fun nv kv wr => ∃ j : Nat, j ≤ m ∧ kv = .int .i64 j ∧ nv = .int .i64 (((L.take j).count x : Nat) : Int) ∧ Hid (∃ q, wr = w.drewN q)) (fun _ kv _ => m - (intOf kv).toNat)
      case atStart => exact ⟨0, Nat.zero_le _, rfl, rfl, HW⟩
      case round =>
        obtain ⟨j, hjm, rfl, rfl, HW2⟩ := hrel
        have hcl : (L.take j).count x ≤ j := Nat.le_trans List.count_le_length (by rw [List.length_take]; omega)
        by_cases hjt : j < m
        · have hjt' : (j : Int) < (m : Int) := by omega
          have hjl : j < L.length := by have := HLN.out; omega
          have d1 := HX.out _ HW2
          obtain ⟨b2, o2, h2, d2⟩ := rdi_cell (rdi_drawn HP.out HW2.out) hjl
          injection h2 with h2
          injection h2 with h2 h4 _
          subst h2 h4
          have htk := take_snoc8 L hjl
          obtain ⟨y, hy⟩ : ∃ y, L.getD j 0 = y := ⟨_, rfl⟩
          rw [hy] at d2 htk
          have hcn : (L.take (j + 1)).count x = (L.take j).count x + if y = x then 1 else 0 := by
            rw [htk, List.count_append, List.count_singleton]
            by_cases hyx : y = x
            · rw [if_pos hyx, hyx]; simp
            · rw [if_neg hyx, show (y == x) = false from beq_eq_false_iff_ne.2 hyx]; simp
          obtain ⟨ct, hct⟩ : ∃ ct, (L.take j).count x = ct := ⟨_, rfl⟩
          rw [hct] at hcn hcl ⊢
          by_cases hyx : y = x
          · subst hyx
            rw [if_pos rfl] at hcn
            have HCN := hid_ hcn
            have HWN := fun q => hid_ (drawn_next HW2.out q)
            clear hcn htk hy hct
            go_wp2_with fail
            go_quiet (fail)
            go_wp2_with fail
            go_roundw
            case rel => exact ⟨j + 1, by omega, by go_num, by rw [HCN.out]; go_num, HWN _⟩
            case measure => simp [intOf]; omega
          · rw [if_neg hyx] at hcn
            have HCN := hid_ hcn
            have HWN := fun q => hid_ (drawn_next HW2.out q)
            have hbq : (y == x) = false := beq_eq_false_iff_ne.2 hyx
            clear hcn htk hy hct hyx
            go_wp2_with fail
            go_quiet (fail)
            go_wp2_with fail
            go_roundw
            case rel => exact ⟨j + 1, by omega, by go_num, by rw [HCN.out]; go_num, HWN _⟩
            case measure => simp [intOf]; omega
        · obtain rfl : j = m := by omega
          have d1 := HX.out _ HW2
          have htl : L.take j = L := by rw [← HLN.out]; exact List.take_length
          rw [htl] at hcl ⊢
          clear htl
          have HR2 : Hid (RefAt wr rb rq gs s) := by
            obtain ⟨q, hq⟩ := HW2.out
            rw [hq]
            exact RefAt.drewN HH.out q
          have HOW := hid_ (rowners_any HR2.out HK.out x)
          obtain ⟨ow, how⟩ : ∃ ow, s.owners x = ow := ⟨_, rfl⟩
          obtain ⟨ct, hct⟩ : ∃ ct, L.count x = ct := ⟨_, rfl⟩
          rw [how, hct] at HOV
          rw [how] at HOW
          rw [hct] at hcl ⊢
          clear how hct
          by_cases hlo : ow < (ct : Int)
          · have HE : Hid (relE s L = 25) := relE_stopA H0.out HLN.out hlt (HOV.out.trans (decide_eq_true hlo))
            go_wp2_with ((go_at_call 75); (refine HOW.out.mono ?_); (rintro e w3 ⟨rfl, rfl⟩))
            go_ret
            refine ⟨by rw [HE.out]; rfl, ?_⟩
            rw [relS_stop HE.out]
            obtain ⟨q, hq⟩ := HW2.out
            subst hq
            exact RefTo.same HR2.out ((Upd.refl _ _).drewN q)
          · have HO2 : Hid (∀ j, j < i + 1 → overA s L j = false) := fun j hj => by
              rcases Nat.lt_or_ge j i with h1 | h1
              · exact HO.out j h1
              · obtain rfl : j = i := by omega
                exact HOV.out.trans (decide_eq_false hlo)
            go_wp2_with ((go_at_call 75); (refine HOW.out.mono ?_); (rintro e w3 ⟨rfl, rfl⟩))
            go_roundw
            case rel => exact ⟨i + 1, by omega, by go_num, HO2, HW2⟩
            case measure => simp [intOf]; omega
    · obtain rfl : i = m := by omega
      have HE := hid_ (relE_runA H0.out HLN.out HO.out)
      have HR := hid_ (relS_run HLN.out HE.out)
      have HR0 : Hid (RTo w rb rq gs s (dropTo s L 0) wr) := by
        obtain ⟨q, hq⟩ := HW.out
        subst hq
        exact RefTo.same (RefAt.drewN HH.out q) ((Upd.refl _ _).drewN q)
      clear hlt him HO
      obtain ⟨wo, hwo⟩ : ∃ wo : World, wo = wr := ⟨_, rfl⟩
      rw [← hwo] at HR0 ⊢
      clear hwo
      go_wp2_with fail
      go_loopw [8] (fun iv wr => ∃ k : Nat, k ≤ i ∧ iv = .int .i64 k ∧ Hid (RTo w rb rq gs s (dropTo s L k) wr ∧ (dropTo s L k).Ok c9)) (fun iv _ => i - (intOf iv).toNat)
      case atStart => exact ⟨0, Nat.zero_le _, rfl, hid_ ⟨HR0.out, HK.out⟩⟩
      case round =>
        obtain ⟨k, hki, rfl, HI⟩ := hrel
        by_cases hlt : k < i
        · have hlt' : (k : Int) < (i : Int) := by omega
          obtain ⟨b1, o1, rfl, d0⟩ := rdi_cell HP.out (j := k) (by have := HLN.out; omega)
          have d1 := (HI.out.1.upd.cell (p := ⟨b1, o1 + k, none⟩) (World.block_lt_of_cell? _ _ d0) (HAP.out b1 o1 rfl (by omega))).trans d0
          obtain ⟨gs1, hm1, hg1⟩ := HI.out.1.ex
          have HDr := hid_ (rdrop_any (s := dropTo s L k) hm1 HI.out.2 (by omega) (L.getD k 0))
          have HOk : Hid ((dropTo s L (k + 1)).Ok c9) := (HI.out.2.drop (L.getD k 0) hc0)
          have HDT : Hid (dropTo s L (k + 1) = (dropTo s L k).dropS (L.getD k 0)) := rfl
          have HST : Hid (∀ w3, RefTo wr rb rq gs1 (dropTo s L k).pages ((dropTo s L k).dropS (L.getD k 0)).pages ((dropTo s L k).dropS (L.getD k 0)).aside w3 → RTo w rb rq gs s (dropTo s L (k + 1)) w3 ∧ (dropTo s L (k + 1)).Ok c9) := fun w3 h3 => ⟨RefTo.trans HI.out.1.upd hg1 h3, HOk.out⟩
          generalize L.getD k 0 = x at *
          clear d0 hm1 hg1
          go_wp2_with ((go_at_call 72); (refine HDr.out.mono ?_); (rintro e w3 ⟨rfl, hr3⟩); (have HI3 := hid_ (HST.out w3 hr3)); (clear hr3))
          go_roundw
          case rel => exact ⟨k + 1, by omega, by go_num, HI3⟩
          case measure => simp [intOf]; omega
        · obtain rfl : k = i := by omega
          go_wp2_with fail
          go_ret
          exact ⟨by rw [HE.out]; rfl, by rw [HR.out]; exact HI.out.1⟩
end Go.Proofs.Ytelmolblcnolnaa
