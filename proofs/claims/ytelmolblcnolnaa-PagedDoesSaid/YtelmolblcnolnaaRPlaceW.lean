/- Weights laid into pages, walked: the document's. Conditions: its pool is whole; the weights are read in a slice that is none of the pool's blocks. -/
import Derived.Test.YtelmolblcnolnaaBackMem
import Derived.Test.YtelmolblcnolnaaSame11
namespace Go.Proofs.Ytelmolblcnolnaa
open Go.RowKit

theorem rneed_any (n : Int) (w : World) (hn : InI n) : Calls Try.prog 39 #[.int .i64 n] w fun e w' => e = .returned (.int .i64 (needV n)) ∧ w = w' := by
  unfold InI at hn
  by_cases h0 : n < 1
  · have e : needV n = 0 := by unfold needV; rw [if_pos h0]
    rw [e]
    go_enter Try.func39, Try.ntmps39
    go_wp2_with fail
    go_ret
    exact ⟨rfl, rfl⟩
  · have h1 : 1 ≤ n := by omega
    have h2 : wrap64 (n - 1) = n - 1 := by unfold wrap64; omega
    have h3 : (n - 1).tdiv 32 = (n - 1) / 32 := Int.tdiv_eq_ediv_of_nonneg (by omega)
    have h4 : wrap64 ((n - 1) / 32) = (n - 1) / 32 := by unfold wrap64; omega
    have h5 : wrap64 ((n - 1) / 32 + 1) = (n - 1) / 32 + 1 := by unfold wrap64; omega
    have e : needV n = (n - 1) / 32 + 1 := by unfold needV; rw [if_neg h0]
    have HE := hid_ e
    clear e
    go_enter Try.func39, Try.ntmps39
    go_wp2_with fail
    go_ret
    exact ⟨by rw [HE.out]; rfl, rfl⟩
theorem RefTo.trans {w w1 w2 : World} {rb rq : Nat} {gs gs1 : Nat → Nat} {l l1 l2 : List Pg} {a2 : Int} (hu : Upd (rS rb rq gs l) w w1) (hg : ∀ k, rS rb rq gs1 l1 k → rS rb rq gs l k ∨ w.heap.size ≤ k) (h : RefTo w1 rb rq gs1 l1 l2 a2 w2) : RefTo w rb rq gs l l2 a2 w2 := by
  obtain ⟨gs2, h1, h2⟩ := h.ex
  refine ⟨⟨gs2, h1, fun k hk => ?_⟩, hu.step h.upd (fun k hk _ => (hg k hk).imp (fun h => h) (fun h => h))⟩
  rcases h2 k hk with h3 | h3
  · exact hg k h3
  · exact .inr (Nat.le_trans hu.size h3)
theorem own_ex {w : World} {base n k : Nat} {e : TypeId} {v : Value} {xs : List Value} (h : w.ownsRow base e 1 v n xs) (hk : v.ownBlock = some k) : Blk.ex w k e := by
  rcases h.2 with ⟨h0, _⟩ | ⟨g, cap, cur, hv, _, hblk, _⟩
  · rw [h0] at hk
    cases hk
  · rw [hv] at hk
    have hg : g = k := by injection hk
    subst hg
    exact ⟨_, hblk⟩
theorem own_keepR {w w' : World} {rb rq base n : Nat} {gs : Nat → Nat} {l : List Pg} {a : Int} {e : TypeId} {v : Value} {xs : List Value} (h : w.ownsRow base e 1 v n xs) (hr : RefMem w rb rq gs l a) (h1 : e ≠ 107) (h2 : e ≠ 111) (h3 : e ≠ 2) (hu : Upd (rS rb rq gs l) w w') : w'.ownsRow base e 1 v n xs :=
  own_upd h hu (fun _ hk _ _ hb => hr.notIn (own_ex h hb) h1 h2 h3 hk)
theorem RefTo.back_ {w w1 w2 : World} {rb rq : Nat} {gs : Nat → Nat} {l l1 : List Pg} {a : Int} (hu : Upd (fun _ => False) w w1) (h : RefTo w1 rb rq gs l l1 a w2) : RefTo w rb rq gs l l1 a w2 := by
  obtain ⟨gs2, h1, h2⟩ := h.ex
  exact ⟨⟨gs2, h1, fun k hk => (h2 k hk).imp (fun h => h) (fun h => Nat.le_trans hu.size h)⟩, (hu.mono (fun _ _ h => h.elim)).trans h.upd⟩
/-- what the document's call leaves, said of its plain data -/
def RTo (w : World) (rb rq : Nat) (gs : Nat → Nat) (s s' : Pl) (w' : World) : Prop := RefTo w rb rq gs s.pages s'.pages s'.aside w'
theorem RTo.refl {w : World} {rb rq : Nat} {gs : Nat → Nat} {s : Pl} (h : RefAt w rb rq gs s) : RTo w rb rq gs s s w := RefTo.same h (Upd.refl _ _)
theorem RTo.old {w w' : World} {rb rq k : Nat} {gs : Nat → Nat} {s s' : Pl} (h : RTo w rb rq gs s s' w') (hk : k < w.heap.size) (hn : ¬ rS rb rq gs s.pages k) : w'.heap[k]? = w.heap[k]? := h.upd.block k hk hn
theorem rdi_cell0 {w : World} {B : Nat} {k : IntKind} {A : Option Addr} {n c j : Nat} {l : List Int} (h : RdI w B k (.slice A n c) l) (hj : j < n) : ∃ b o, A = some ⟨b, o, none⟩ ∧ w.cell? ⟨b, o + j, none⟩ = some (.int k (l.getD j 0)) := rdi_cell h (by rw [(rdi_len h).1]; exact hj)
def RPlacePost (w : World) (rb rq : Nat) (gs : Nat → Nat) (s : Pl) (tag : ByteArray) (xs : List Int) (e : Ending) (w' : World) : Prop :=
  ∃ v, e = .returned (.tuple #[v, .int .i64 (s.takeE tag (needV xs.length))]) ∧ OwnI w' w.heap.size v (s.takeL tag (needV xs.length)) ∧
    RTo w rb rq gs s (if s.takeE tag (needV xs.length) = 0 then putsTo (s.takeS tag (needV xs.length)) (s.takeL tag (needV xs.length)) xs xs.length else s) w'
set_option maxRecDepth 100000 in
set_option maxHeartbeats 3200000 in
theorem rplace_any {w : World} {rb rq : Nat} {gs : Nat → Nat} {s : Pl} {c9 : Int} (h : RefAt w rb rq gs s) (hk : s.Ok c9) (hc1 : 1 ≤ c9) (tag : ByteArray) {B : Nat} {A : Option Addr} {n c : Nat} {xs : List Int} (hx : RdI w B .i8 (.slice A n c) xs) (h8 : ∀ v ∈ xs, -128 ≤ v ∧ v ≤ 127) (hap : ∀ b' o, A = some ⟨b', o, none⟩ → 0 < n → ¬ rS rb rq gs s.pages b') :
    Calls Try.prog 40 #[.pointer (some ⟨rb, 0, none⟩), .string tag, .slice A n c] w (RPlacePost w rb rq gs s tag xs) := by
  have hnl := (rdi_len hx).1
  have hmx := (rdi_len hx).2.2
  have hm63 : n ≤ 9223372036854775807 := by unfold maxLen at hmx; omega
  subst hnl
  have HT := hid_ (rtake_any h hk tag (needV xs.length))
  have HN := fun (w1 : World) => hid_ (rneed_any (xs.length : Int) w1 (by unfold InI; omega))
  obtain ⟨nd, hnd⟩ : ∃ nd, needV (xs.length : Int) = nd := ⟨_, rfl⟩
  unfold RPlacePost
  rw [hnd] at HT HN ⊢
  obtain ⟨te, hte⟩ : ∃ te, s.takeE tag nd = te := ⟨_, rfl⟩
  rw [hte] at HT ⊢
  by_cases he : te = 0
  · subst he
    rw [if_pos rfl]
    have hn32 : xs.length ≤ 1048576 := by
      have h1 := (Pl.ask_zero hte).2.2
      have h2 := hk.a0
      have h3 := Pl.free_le s
      have h4 := hk.len
      have h5 := need_eq xs.length
      omega
    have hLl : (s.takeL tag nd).length = (xs.length + 31) / 32 := by
      have h1 : ((s.takeL tag nd).length : Int) = ((xs.length + 31) / 32 : Nat) := by rw [← need_eq, hnd]; exact Pl.take_len hk hte
      exact Int.ofNat_inj.1 h1
    have HOK := hid_ (hk.take hc1 tag nd)
    obtain ⟨L, hL⟩ : ∃ L, s.takeL tag nd = L := ⟨_, rfl⟩
    obtain ⟨s1, hs1⟩ : ∃ s1, s.takeS tag nd = s1 := ⟨_, rfl⟩
    rw [hL] at HT hLl ⊢
    rw [hs1] at HT HOK ⊢
    have HX := hid_ hx
    have HAP := hid_ hap
    have H8 := hid_ h8
    clear h8
    have HLl := hid_ hLl
    have hlen31 : (xs.length + 31) / 32 ≤ 32768 := by omega
    clear hnd hte hL hs1 hx hap hLl hmx hm63
    go_enter Try.func40, Try.ntmps40
    go_wp2_with (first
      | ((go_at_call 39); (refine (HN _).out.mono ?_); (rintro e w1 ⟨rfl, rfl⟩))
      | ((go_at_call 68); (have q1 := HT.out); (refine q1.mono ?_); (rintro e w1 ⟨v1, rfl, ho1, hr1⟩); (have HO1 := hid_ ho1); (have HR1 : Hid (RTo w rb rq gs s s1 w1) := hr1); (clear HT q1 ho1 hr1)))
    obtain ⟨A1, c1, rfl⟩ := own_slice_ HO1.out
    go_loopw [10] (fun iv wr => ∃ k : Nat, k ≤ xs.length ∧ iv = .int .i64 k ∧ Hid (OwnI wr w.heap.size (.slice A1 L.length c1) L) ∧ Hid (RTo w rb rq gs s (putsTo s1 L xs k) wr)) (fun iv _ => xs.length - (intOf iv).toNat)
    case atStart => exact ⟨0, Nat.zero_le _, rfl, HO1, HR1⟩
    case round =>
      obtain ⟨k, hkm, rfl, HO, HR⟩ := hrel
      by_cases hlt : k < xs.length
      · have hlt' : (k : Int) < (xs.length : Int) := by omega
        have hk32 : k / 32 < L.length := by have := HLl.out; omega
        obtain ⟨b8, o8, rfl, d8⟩ := rdi_cell0 HX.out hlt
        obtain ⟨b9, o9, h9, d9⟩ := rdi_cell0 HO.out.rd hk32
        obtain ⟨g, hg, hgb⟩ := own_form HO.out (by omega)
        rw [hg] at h9
        injection h9 with h9
        injection h9 with h9 h9' _
        subst hg h9 h9'
        have t8 : wr.cell? ⟨b8, o8 + k, none⟩ = some (.int .i8 (xs.getD k 0)) := cell_upd2 d8 HR.out.upd (HAP.out _ _ rfl (by omega))
        rw [Nat.zero_add] at d9
        obtain ⟨gs1, hm1, hg1⟩ := HR.out.ex
        have hb8 := World.block_lt_of_cell? _ _ d8
        have hn9 : ¬ rS rb rq gs1 (putsTo s1 L xs k).pages g := hm1.notIn (own_ex HO.out rfl) (by decide) (by decide) (by decide)
        have hn8 : ¬ rS rb rq gs1 (putsTo s1 L xs k).pages b8 := fun hk8 => by
          rcases hg1 _ hk8 with h9 | h9
          · exact HAP.out _ _ rfl (by omega) h9
          · have : b8 < w.heap.size := hb8
            omega
        have KP := fun q => hid_ (rput_any (RefAt.drewN hm1 q) (ok_putsTo HOK.out L xs k) (L.getD (k / 32) 0) ((k % 32 : Nat) : Int) (xs.getD k 0))
        have HS5 : ∀ q w5, Hid (RefTo (wr.drewN q) rb rq gs1 (putsTo s1 L xs k).pages ((putsTo s1 L xs k).putS (L.getD (k / 32) 0) ((k % 32 : Nat) : Int) (xs.getD k 0)).pages ((putsTo s1 L xs k).putS (L.getD (k / 32) 0) ((k % 32 : Nat) : Int) (xs.getD k 0)).aside w5 →
            RTo w rb rq gs s (putsTo s1 L xs (k + 1)) w5 ∧ OwnI w5 w.heap.size (.slice (some ⟨g, 0, none⟩) L.length c1) L ∧ w5.cell? ⟨g, k / 32, none⟩ = some (.int .i64 (L.getD (k / 32) 0)) ∧ w5.cell? ⟨b8, o8 + k, none⟩ = some (.int .i8 (xs.getD k 0))) := fun q w5 hr => by
          have hr2 := RefTo.back_ ((Upd.refl (fun _ => False) wr).drewN q) hr
          exact ⟨RefTo.trans HR.out.upd hg1 hr2, own_keepR HO.out hm1 (by decide) (by decide) (by decide) hr2.upd, cell_upd2 d9 hr2.upd hn9, cell_upd2 t8 hr2.upd hn8⟩
        have e1 : ((k : Int) / 32).toNat = k / 32 := by omega
        have e2 : ((k % 32 : Nat) : Int) = (k : Int) % 32 := by omega
        have e3 : 0 ≤ (k : Int) / 32 := by omega
        have e5 : IntKind.i64.wrap ((k : Int).tdiv 32) = (k : Int) / 32 := IntWalk.i64_quo _ _ (by omega)
        have e7 : IntKind.i64.wrap ((k : Int) / 32) = (k : Int) / 32 := IntWalk.i64_in _ (by omega)
        have e6 : (k : Int).tmod 32 = (k : Int) % 32 := IntWalk.rem_in _ _ (by omega)
        have e4 : (k : Int) / 32 < (L.length : Int) := by omega
        rw [e2] at KP
        simp only [e2] at HS5
        clear e2
        have hz8 := World.block_lt_of_cell? _ _ t8
        have hz9 := World.block_lt_of_cell? _ _ d9
        clear d8 hb8 hn9 hn8 hm1 hg1
        have hxk : IntKind.i64.wrap (xs.getD k 0) = xs.getD k 0 := by
          have h9 := H8.out (xs.getD k 0) (by rw [List.getD_eq_getElem?_getD, List.getElem?_eq_getElem hlt]; exact List.getElem_mem hlt)
          exact IntWalk.i64_in _ (by omega)
        generalize L.getD (k / 32) 0 = lk at *
        generalize xs.getD k 0 = xk at *
        go_upto_region 7 with fail
        go_region_held3 (fun w' => w'.cell? ⟨g, k / 32, none⟩ = some (.int .i64 lk) ∧ w'.cell? ⟨b8, o8 + k, none⟩ = some (.int .i8 xk)) (go_keep) ((go_at_call 45; refine (KP _).out.mono ?_; rintro e w5 ⟨rfl, hr5⟩; obtain ⟨hs1, hs2, t9, t85⟩ := (HS5 _ w5).out hr5; have HR5 := hid_ hs1; have HO5 := hid_ hs2; clear hs1 hs2 hr5))
        all_goals
          (try go_wp2_with fail)
          go_roundw
          case rel => exact ⟨k + 1, by omega, by go_num, HO5, HR5⟩
          case measure => simp [intOf]; omega
      · obtain rfl : k = xs.length := by omega
        go_wp2_with fail
        go_ret2
        exact ⟨_, rfl, HO.out, HR.out⟩
  · rw [if_neg he]
    have hL : s.takeL tag nd = [] := by unfold Pl.takeL; rw [hte, if_neg he]
    have hS : s.takeS tag nd = s := by unfold Pl.takeS; rw [hte, if_neg he]
    rw [hL, hS] at HT
    rw [hL]
    have hne : ((te : Int) != 0) = true := bne_iff_ne.2 he
    clear hL hS hx hap hnd hte hmx
    go_enter Try.func40, Try.ntmps40
    go_wp2_with (first
      | ((go_at_call 39); (refine (HN _).out.mono ?_); (rintro e w1 ⟨rfl, rfl⟩))
      | ((go_at_call 68); (have q1 := HT.out); (refine q1.mono ?_); (rintro e w1 ⟨v1, rfl, ho1, hr1⟩); (have HO1 := hid_ ho1); (have HR1 : Hid (RTo w rb rq gs s s w1) := hr1); (clear HT q1 ho1 hr1)))
    go_ret2
    exact ⟨_, rfl, World.ownsRow_nil _ _ _ _, HR1.out⟩
end Go.Proofs.Ytelmolblcnolnaa
