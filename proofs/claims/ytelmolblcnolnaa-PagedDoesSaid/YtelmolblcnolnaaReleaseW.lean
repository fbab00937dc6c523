/- Pages given back, walked: the program's. Conditions: the pool is whole; the pages are read in a slice that is none of the pool's blocks. -/
import Derived.Test.YtelmolblcnolnaaPlacesW
import Derived.Test.YtelmolblcnolnaaGrow
import Derived.Maps.OwnOps
import Derived.Maps.Views
import Derived.Deep.DeepCutAuto
namespace Go.Proofs.Ytelmolblcnolnaa
open Go.RowKit

def overK (s : Pl) (L : List Int) (k : Nat) : Bool := decide (s.owners (L.getD k 0) < ((L.take (k + 1)).count (L.getD k 0) : Int))
/-- whether a list names a page too often -/
def relE (s : Pl) (L : List Int) : Int := if (List.range L.length).any (overK s L) then 25 else 0
def dropTo (s : Pl) (L : List Int) : Nat → Pl
  | 0 => s
  | k + 1 => (dropTo s L k).dropS (L.getD k 0)
def relS (s : Pl) (L : List Int) : Pl := if relE s L = 0 then dropTo s L L.length else s
structure CountMap (D : DataW Unit) (l : List Int) : Prop where
  map : Maps.IsMap D
  at_ : ∀ x : Int, D.atKey (.int .i64 x) (.lit (.int .i64 0)) = .lit (.int .i64 (l.count x : Int))
theorem CountMap.put {D : DataW Unit} {l : List Int} (h : CountMap D l) (x : Int) : CountMap (D.put (.int .i64 x) (.lit (.int .i64 ((l.count x : Int) + 1)))) (l ++ [x]) := by
  refine ⟨h.map.put _ _, fun y => ?_⟩
  by_cases e : y = x
  · subst e
    rw [Maps.atKey_put_same h.map (show WideAt.IsKeyLit (.int .i64 y) from trivial), List.count_append]
    simp
  · rw [Maps.atKey_put_other (fun h9 => e (by injection h9)), h.at_, List.count_append]
    have : [x].count y = 0 := by simp [Ne.symm e]
    rw [this]
    rfl
theorem take_snoc8 (l : List Int) {k : Nat} (hk : k < l.length) : l.take (k + 1) = l.take k ++ [l.getD k 0] := by
  rw [List.take_add_one, List.getElem?_eq_getElem hk, List.getD_eq_getElem?_getD, List.getElem?_eq_getElem hk]
  rfl
theorem wf_i64_ {x : Int} (h : InI x) : (Lit.int .i64 x).wf = true := by
  unfold InI at h
  have e1 : IntKind.i64.min = -9223372036854775808 := by decide
  have e2 : IntKind.i64.max = 9223372036854775807 := by decide
  simp [Lit.wf]
  omega
theorem any_first {p : Nat → Bool} {n k : Nat} (hk : k < n) (h : p k = true) : (List.range n).any p = true := List.any_eq_true.2 ⟨k, List.mem_range.2 hk, h⟩
theorem any_none {p : Nat → Bool} {n : Nat} (h : ∀ k, k < n → p k = false) : (List.range n).any p = false := by
  rw [List.any_eq_false]
  intro k hk
  rw [h k (List.mem_range.1 hk)]
  decide
theorem lit_i64 {a b : Int} (h : (DataW.lit (.int .i64 a) : DataW Unit) = .lit (.int .i64 b)) : a = b := by
  injection h with h
  injection h
theorem relE_stop {s : Pl} {L : List Int} {k m : Nat} {b : Bool} (hl : L.length = m) (hk : k < m) (h : overK s L k = b) (hb : b = true) : relE s L = 25 := by
  unfold relE
  rw [any_first (show k < L.length by omega) (h.trans hb)]
  rfl
theorem relE_run {s : Pl} {L : List Int} {m : Nat} (hl : L.length = m) (h : ∀ i, i < m → overK s L i = false) : relE s L = 0 := by
  unfold relE
  rw [any_none (fun i hi => h i (by omega))]
  rfl
theorem relS_run {s : Pl} {L : List Int} {m : Nat} (hl : L.length = m) (h : relE s L = 0) : relS s L = dropTo s L m := by
  unfold relS
  rw [if_pos h, hl]
theorem relS_stop {s : Pl} {L : List Int} (h : relE s L = 25) : relS s L = s := by
  unfold relS
  rw [if_neg (by rw [h]; decide)]
theorem over_next {s : Pl} {L : List Int} {k : Nat} {b : Bool} (h : ∀ i, i < k → overK s L i = false) (h1 : overK s L k = b) (hb : b = false) : ∀ i, i < k + 1 → overK s L i = false := by
  intro i hi
  rcases Nat.lt_or_ge i k with h2 | h2
  · exact h i h2
  · obtain rfl : i = k := by omega
    exact h1.trans hb
set_option maxRecDepth 100000 in
set_option maxHeartbeats 3200000 in
theorem release_any {w : World} {b bq : Nat} {s : Pl} {c9 : Int} (h : PoolAt w b bq s) (hk : s.Ok c9) (hc0 : 0 ≤ c9) (hc9 : c9 < 4611686018427387904) {B : Nat} {A : Option Addr} {m c : Nat} {L : List Int} (hp : RdI w B .i64 (.slice A m c) L) (hm : m ≤ 1048576) (hwf : ∀ x ∈ L, InI x)
    (hap : ∀ b' o, A = some ⟨b', o, none⟩ → 0 < m → ¬ pS b bq b') :
    Calls Try.prog 37 #[.pointer (some ⟨b, 0, none⟩), .slice A m c] w fun e w' => e = .returned (.int .i64 (relE s L)) ∧ PoolAt w' b bq (relS s L) ∧ Upd (pS b bq) w w' := by
  have hpl := (rdi_len hp).1
  have HLN := hid_ hpl
  have HP := hid_ hp
  have HH := hid_ h
  have HK := hid_ hk
  have hu1 : Upd (fun _ => False) w (w.alloc (.map #[] 0)) := (Upd.refl _ w).alloc _
  have HU1 := hid_ hu1
  have HM0 := hid_ (World.ownsMap_made (H := Unit) w Try.prog 3 (plainElem Try.prog 3))
  clear hp h hk hu1
  have hmm := fun t w => run_makeMap (P := Try.prog) t w
  go_enter Try.func37, Try.ntmps37
  go_wp2_with fail
  go_loopw [13] (fun iv wr => ∃ k : Nat, k ≤ m ∧ iv = .int .i64 k ∧ Hid (∃ D : DataW Unit, wr.ownsMap Try.prog 3 (plainElem Try.prog 3) w.heap.size k D ∧ CountMap D (L.take k)) ∧ Hid (∀ i, i < k → overK s L i = false) ∧ Hid (Upd (fun _ => False) w wr)) (fun iv _ => m - (intOf iv).toNat)
  case atStart => exact ⟨0, Nat.zero_le _, rfl, hid_ ⟨_, HM0.out, ⟨_, rfl⟩, fun x => rfl⟩, hid_ (fun i hi => absurd hi (by omega)), HU1⟩
  case round =>
    obtain ⟨k, hkm, rfl, HD, HO, HU⟩ := hrel
    by_cases hlt : k < m
    · have hlt' : (k : Int) < (m : Int) := by omega
      obtain ⟨D, hD, hcm⟩ := HD.out
      obtain ⟨b1, o1, rfl, d1⟩ := rdi_cell (rdi_below HP.out HU.out.toB) (j := k) (by have := HLN.out; omega)
      have hkl : k < L.length := by have := HLN.out; omega
      have hxI : InI (L.getD k 0) := hwf _ (by rw [List.getD_eq_getElem?_getD, List.getElem?_eq_getElem hkl]; exact List.getElem_mem hkl)
      have htk := take_snoc8 L hkl
      have hcl : (L.take k).count (L.getD k 0) ≤ k := Nat.le_trans List.count_le_length (by rw [List.length_take]; omega)
      have hov : overK s L k = decide (s.owners (L.getD k 0) < (((L.take k).count (L.getD k 0) : Int) + 1)) := by
        unfold overK
        rw [htk, List.count_append]
        simp
      obtain ⟨x, hx⟩ : ∃ x, L.getD k 0 = x := ⟨_, rfl⟩
      rw [hx] at d1 hxI htk hcl hov
      have hcp := hcm.put x
      have hat := hcm.at_ x
      obtain ⟨ct, hct⟩ : ∃ ct, (L.take k).count x = ct := ⟨_, rfl⟩
      rw [hct] at hcp hat hcl hov
      rw [← htk] at hcp
      have hwfx : (Lit.int .i64 x).wf = true := wf_i64_ hxI
      have hkey : keyOf Try.prog 3 (.int .i64 x) = some (.int .i64 x) := Maps.keyOf_int_mk Try.underlying3 hwfx
      obtain ⟨c0, hrun, hat2, _⟩ := hD.lookup_int (Maps.int_keyed Try.underlying3) Try.underlying117 Try.underlying3 (by kernel_rfl) hkey
      have hc0 : c0 = (ct : Int) := by
        rw [hat] at hat2
        injection hat2 with h9
        injection h9 with _ h9
        exact h9.symm
      subst hc0
      have hw1 : wrap64 ((ct : Int) + 1) = (ct : Int) + 1 := by unfold wrap64; omega
      have hc1 : (L.take (k + 1)).count x = ct + 1 := by
        rw [htk, List.count_append, hct]
        simp
      have HC1 := hid_ hc1
      clear hc1
      have HCP := hid_ hcp
      have HOWN := hid_ hD
      have HOV := hid_ hov
      have HWF : Hid (plainElem (H := Unit) Try.prog 3 (.int .i64 ((ct : Int) + 1)) = some (.lit (.int .i64 ((ct : Int) + 1)), [])) := plainElem_int Try.underlying3 (wf_i64_ (by unfold InI; omega))
      have HKEY := hid_ hkey
      clear hcp hD hov hkey hat hat2 hcm htk hct hwfx
      go_upto_region 6 with (at_mapUpdate; refine wpList_mapUpdate_own _ rfl (.tmp 17) (.tmp 18) (.tmp 20) 117 rfl 3 3 (Maps.int_keyed Try.underlying3) Try.underlying117 (plainElem Try.prog 3) w.heap.size k D rfl HOWN.out (by unfold maxLen; omega) _ _ _ rfl rfl HKEY.out _ [] HWF.out ?_; intro w1 hown1 hgrow1)
      have hU2 : Upd (fun _ => False) w w1 := HU.out.grown hgrow1 (fun g hg => .inr (by injection hg with hg; omega))
      have HU2 := hid_ hU2
      have HOWN2 := hid_ hown1
      have hP2 : ∀ q, Hid (PoolAt (w1.drewN q) b bq s) := fun q => PoolMem.upd HH.out (hU2.drewN q) (fun h => h) (fun h => h)
      have HOW := fun q => hid_ (owners_any (hP2 q).out HK.out.len x)
      have HLK : ∀ q, (Instr.lookup 117 (.map (some w.heap.size)) (.int .i64 x) false).run Try.prog (w1.drewN q) = .ok (.int .i64 ((ct : Int) + 1)) (w1.drewN q) := fun q => by
        obtain ⟨c1, hrun1, hat1, _⟩ := World.ownsMap.lookup_int (w := w1.drewN q) hown1 (Maps.int_keyed Try.underlying3) Try.underlying117 Try.underlying3 (by kernel_rfl) HKEY.out
        rw [HCP.out.at_ x, HC1.out] at hat1
        have h9 := lit_i64 hat1
        rw [← h9] at hrun1
        exact hrun1
      clear hown1 hgrow1 hU2 hrun d1
      obtain ⟨ow, how⟩ : ∃ ow, s.owners x = ow := ⟨_, rfl⟩
      rw [how] at HOW HOV
      clear how
      go_quiet ((go_at_call 24; exact Calls.quiet_of_same (Calls.mono (HOW _).out (fun _ _ ⟨x, y⟩ => ⟨x, y.symm⟩))))
      by_cases hlo : ow < (ct : Int) + 1
      · have hkm' : k < m := hlt
        rw [decide_eq_true hlo]
        go_wp2_with fail
        go_ret
        have hE : relE s L = 25 := relE_stop HLN.out hkm' HOV.out (decide_eq_true hlo)
        refine ⟨by rw [hE]; rfl, ?_, (HU2.out.mono (fun _ _ h => h.elim)).drewN _⟩
        rw [relS_stop hE]
        exact (hP2 _).out
      · have HO2 : Hid (∀ i, i < k + 1 → overK s L i = false) := over_next HO.out HOV.out (decide_eq_false hlo)
        rw [decide_eq_false hlo]
        go_wp2_with fail
        go_roundw
        case rel => exact ⟨k + 1, by omega, by go_num, hid_ ⟨_, HOWN2.out, HCP.out⟩, HO2, hid_ (HU2.out.drewN _)⟩
        case measure => simp [intOf]; omega
    · obtain rfl : k = m := by omega
      have HE := hid_ (relE_run HLN.out HO.out)
      have HR := hid_ (relS_run HLN.out HE.out)
      clear hlt hkm HD HO HM0
      obtain ⟨wo, hwo⟩ : ∃ wo : World, wo = wr := ⟨_, rfl⟩
      rw [← hwo] at HU ⊢
      clear hwo
      go_wp2_with fail
      go_loopw [31] (fun iv wr2 => ∃ i : Nat, i ≤ k ∧ iv = .int .i64 i ∧ Hid (PoolAt wr2 b bq (dropTo s L i) ∧ (dropTo s L i).Ok c9 ∧ Upd (pS b bq) w wr2)) (fun iv _ => k - (intOf iv).toNat)
      case atStart => exact ⟨0, Nat.zero_le _, rfl, hid_ ⟨PoolMem.upd HH.out HU.out (fun h => h) (fun h => h), HK.out, HU.out.mono (fun _ _ h => h.elim)⟩⟩
      case round =>
        obtain ⟨i, hi, rfl, HI⟩ := hrel
        by_cases hlt : i < k
        · have hlt' : (i : Int) < (k : Int) := by omega
          obtain ⟨b1, o1, rfl, d0⟩ := rdi_cell HP.out (j := i) (by have := HLN.out; omega)
          have d1 := (HI.out.2.2.cell (p := ⟨b1, o1 + i, none⟩) (World.block_lt_of_cell? _ _ d0) (hap b1 o1 rfl (by omega))).trans d0
          have HDr := hid_ (drop_any HI.out.1 HI.out.2.1 (by omega) (L.getD i 0))
          have HOk : Hid ((dropTo s L (i + 1)).Ok c9) := (HI.out.2.1.drop (L.getD i 0) hc0)
          have HDT : Hid (dropTo s L (i + 1) = (dropTo s L i).dropS (L.getD i 0)) := rfl
          generalize L.getD i 0 = x at *
          clear d0
          go_wp2_with ((go_at_call 16); (refine HDr.out.mono ?_); (rintro e w3 ⟨rfl, hp3, hu3⟩); (have HI3 : Hid (PoolAt w3 b bq (dropTo s L (i + 1)) ∧ (dropTo s L (i + 1)).Ok c9 ∧ Upd (pS b bq) w w3) := ⟨by rw [HDT.out]; exact hp3, HOk.out, HI.out.2.2.trans hu3⟩); (clear hp3 hu3))
          go_roundw
          case rel => exact ⟨i + 1, by omega, by go_num, HI3⟩
          case measure => simp [intOf]; omega
        · obtain rfl : i = k := by omega
          go_wp2_with fail
          go_ret
          exact ⟨by rw [HE.out]; rfl, by rw [HR.out]; exact HI.out.1, HI.out.2.2⟩
end Go.Proofs.Ytelmolblcnolnaa
