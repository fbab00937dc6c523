/- The pool's functions that take pages, lay some aside, count and make them, walked. Conditions: the pool lies in memory as 'PoolAt' says, and is sound ('Pl.Ok'). -/
import Derived.Test.YtelmolblcnolnaaPoolWalkC
namespace Go.Proofs.Ytelmolblcnolnaa
open Go.RowKit

theorem Try.infoInt : (Try.prog.info? 3).map (fun i => (i.zero, i.size, i.bytes)) = some (some (.int .i64 0), 1, 8) := by kernel_rfl
theorem Try.infoPage : (Try.prog.info? 99).map (fun i => (i.zero, i.size, i.bytes)) = some (some (.agg Pg.zero.vals.toArray), 34, 280) := by kernel_rfl

def natVals (l : List Nat) : List Value := l.map fun (j : Nat) => Value.int .i64 (j : Int)
theorem natVals_snoc (l : List Nat) (i : Nat) : natVals (l ++ [i]) = natVals l ++ [Value.int .i64 (i : Int)] := by
  unfold natVals
  rw [List.map_append]; rfl

/-- The first k of the free ones among the first i. -/
def tk (l : List Pg) (k i : Nat) : List Nat := (freeIx l i).take k
theorem tk_le (l : List Pg) (k i : Nat) : (tk l k i).length ≤ k := by unfold tk; rw [List.length_take]; omega
theorem tk_lt {l : List Pg} {k i j : Nat} (h : j ∈ tk l k i) : j < i := freeIx_lt (List.mem_of_mem_take h)
theorem tk_free {l : List Pg} {k i : Nat} (h : (tk l k i).length < k) (ho : (l.getD i Pg.zero).own = 0) : tk l k (i + 1) = tk l k i ++ [i] := by
  unfold tk at h ⊢
  rw [List.length_take] at h
  rw [freeIx_succ, if_pos ho, List.take_of_length_le (l := freeIx l i) (by omega), List.take_of_length_le (by rw [List.length_append]; show _ + 1 ≤ k; omega)]
theorem tk_used {l : List Pg} {k i : Nat} (ho : (l.getD i Pg.zero).own ≠ 0) : tk l k (i + 1) = tk l k i := by
  unfold tk
  rw [freeIx_succ, if_neg ho, List.append_nil]
theorem tk_done {l : List Pg} {k i : Nat} (hi : i ≤ l.length) (h : (tk l k i).length = k) : tk l k i = tk l k l.length := by
  unfold tk at h ⊢
  rw [List.length_take] at h
  exact (freeIx_take hi (by omega)).symm
theorem tk_room {l : List Pg} {k i : Nat} (hi : i ≤ l.length) (hk : k ≤ (freeIx l l.length).length) (h : (tk l k i).length < k) : i < l.length := by
  rcases Nat.lt_or_ge i l.length with h1 | h1
  · exact h1
  · obtain rfl : i = l.length := by omega
    unfold tk at h
    rw [List.length_take] at h
    omega

section
variable {w : World} {b bq : Nat} {s : Pl}

set_option maxHeartbeats 1600000 in
set_option maxRecDepth 100000 in
theorem take_core {l : List Pg} {f a : Int} (h : PoolMem w b bq l f a) (hl : l.length ≤ 256) (k : Nat) (hk : k ≤ (freeIx l l.length).length) (hf : (k : Int) ≤ f) (hf2 : f ≤ 256) (tag : ByteArray) :
    Calls Try.prog 66 #[.pointer (some ⟨b, 0, none⟩), .string tag, .int .i64 (k : Int)] w fun e w' =>
      ∃ v, e = .returned v ∧ w'.ownsRow w.heap.size 3 1 v k (natVals (tk l k l.length)) ∧ PoolMem w' b bq (putAt tag l (tk l k l.length)) (f - k) a ∧ Upd (pS b bq) w w' := by
  obtain ⟨i0, hi0, hz0, hz1, hz2⟩ := info_parts Try.infoInt
  have hkl : k ≤ 256 := by have := freeIx_len_le l l.length; omega
  have hbw : b < w.heap.size := h.hb.lt
  have hqw : bq < w.heap.size := Blk.ex_lt h.tq
  have Hh := hid_ h
  have Hk := hid_ hk
  clear h hk
  go_enter Try.func66, Try.ntmps66
  go_wp2_with (at_make; refine wpList_make_own _ rfl _ _ 33 rfl w.heap.size 3 i0 (.int .i64 0) 1 Try.underlying33 hi0 hz0 hz1 _ _ _ k rfl rfl rfl ?b2 ?b3 (Nat.le_refl _) ?_)
  case b2 => rw [hz2]; omega
  case b3 => unfold maxLen; omega
  intro w0 hown0 hgrow0
  go_wp2_with fail
  go_loopw [7, 8] (fun v iv wr => ∃ i m : Nat, i ≤ l.length ∧ iv = .int .i64 i ∧ m = (tk l k i).length ∧ v = .slice (some ⟨w.heap.size, 0, none⟩) m k ∧
      wr.ownsRow w.heap.size 3 1 (.slice (some ⟨w.heap.size, 0, none⟩) m k) m (natVals (tk l k i)) ∧ PoolMem wr b bq (putAt tag l (tk l k i)) f a ∧ Upd (pS b bq) w wr ∧ w.heap.size < wr.heap.size)
    (fun _ iv _ => l.length - (intOf iv).toNat)
  case atStart =>
    have hu : Upd (pS b bq) w w0 := (Upd.refl _ _).grown hgrow0 (fun _ h => by cases h)
    have e0 : tk l k 0 = [] := by unfold tk freeIx; simp
    refine ⟨0, 0, Nat.zero_le _, rfl, by rw [e0]; rfl, rfl, by rw [e0]; exact hown0, ?_, hu, ?_⟩
    · rw [e0]
      exact Hh.out.upd ((Upd.refl (fun _ => False) _).grown hgrow0 (fun _ h => by cases h)) (fun h => h) (fun h => h)
    · rcases hown0.2 with ⟨h1, _⟩ | ⟨g, cap, cur, hv, _, hh, _⟩
      · cases h1
      · injection hv with hv _ _
        injection hv with hv
        injection hv with hv _ _
        subst hv
        rcases Nat.lt_or_ge w.heap.size w0.heap.size with hlt | hge
        · exact hlt
        · rw [Array.getElem?_eq_none hge] at hh; cases hh
  case round =>
    obtain ⟨i, m, hil, rfl, hm, rfl, hown, hp, hu, hsz⟩ := hrel
    have Hm := hid_ hm
    have Hp := hid_ hp
    have Hu := hid_ hu
    have hmk : m ≤ k := by rw [hm]; exact tk_le l k i
    have c0 := hp.c0
    rw [putAt_length] at c0
    have fb1 := hp.fb 1
    have cf := hp.c1
    by_cases hmlt : m < k
    · have hi : i < l.length := tk_room hil Hk.out (by rw [← Hm.out]; exact hmlt)
      have hnot : i ∉ tk l k i := fun hin => absurd (tk_lt hin) (by omega)
      have hpi : (putAt tag l (tk l k i))[i]? = some (l.getD i Pg.zero) := by
        rw [putAt_other hnot, List.getD_eq_getElem?_getD, List.getElem?_eq_getElem hi]; rfl
      have co := hp.cown hpi
      by_cases ho : (l.getD i Pg.zero).own = 0
      · have Ht := hid_ (tk_free (k := k) (by rw [← Hm.out]; exact hmlt) ho)
        have hi' : i < (putAt tag l (tk l k i)).length := by rw [putAt_length]; exact hi
        have Hs := hid_ (hp.setPage hi' (Pg.one tag) rfl)
        have Hth := hid_ (hp.there hi')
        have Hown2 := hid_ (own_upd hown (Upd.setCells (S := fun j => j = bq) (.inl rfl) (Pg.one tag).vals (i * 34) (Upd.refl _ wr)) (fun j hj _ _ e => by subst hj; injection e with e; omega))
        rw [ho] at co
        clear hm hp hu ho hpi cf fb1
        go_wp2_with (first
          | ((with_reducible refine wpList_store_agg (ty := 99) (x := .tmp 33) (y := .tmp 32) bq (i * 34) (Pg.one tag).vals 34 ?hx ?hy ?hn ?ht ?hi ?h1 ?_); (case hx => rfl); (case hy => rfl); (case hn => rfl); (case ht => exact Hth.out); (case hi => kernel_rfl); (case h1 => rfl))
          | (at_builtin; refine wpList_append_fits _ rfl (.tmp 34) (.tmp 36) 33 rfl w.heap.size 3 i0 1 Try.underlying33 hi0 hz1 w.heap.size m k _ rfl (Hown2.out.alloc _) ⟨wr.heap.size, 0, none⟩ 1 1 [.int .i64 (i : Int)] rfl rfl (one_new (size_setCells_ _ _ _ _)) (one_cell rfl) (by omega) ?_; intro w1 hown1 hgrow1))
        go_roundw
        case rel =>
          have hu1 : Upd (pS b bq) w w1 := (((upd_qs Hu.out _ _).alloc _).grown hgrow1 (fun j hj => by injection hj with hj; subst hj; exact .inr (Nat.le_refl _)))
          refine ⟨i + 1, m + 1, by omega, by go_num, by rw [Ht.out, List.length_append, ← Hm.out]; rfl, rfl, by rw [Ht.out, natVals_snoc]; exact hown1, ?_, hu1, ?_⟩
          · rw [Ht.out, putAt_snoc]
            exact Hs.out.upd (((Upd.refl (fun j => j = w.heap.size) _).alloc _).grown hgrow1 (fun j hj => by injection hj with hj; exact .inl hj.symm)) (by omega) (by omega)
          · have := hgrow1.size
            simp at this
            omega
        case measure => simp [intOf]; omega
      · have Ht := hid_ (tk_used (k := k) ho)
        have hb0 : ((l.getD i Pg.zero).own == 0) = false := beq_eq_false_iff_ne.2 ho
        generalize (l.getD i Pg.zero).own = o at *
        clear hm hp hu ho hpi cf fb1
        go_wp2_with fail
        go_roundw
        case rel => exact ⟨i + 1, m, by omega, by go_num, by rw [Ht.out]; exact Hm.out, rfl, by rw [Ht.out]; exact hown, by rw [Ht.out]; exact Hp.out, Hu.out, hsz⟩
        case measure => simp [intOf]; omega
    · have hmk' : m = k := by omega
      have Ht := hid_ (tk_done hil (by rw [← Hm.out]; exact hmk'))
      have Hs := hid_ (hp.setFree (f - k))
      clear hm hp hu
      subst hmk'
      go_wp2_with fail
      go_ret
      refine ⟨.slice (some ⟨w.heap.size, 0, none⟩) m m, rfl, ?_, ?_, upd_b Hu.out _ _⟩
      · rw [← Ht.out]
        exact own_upd hown (Upd.setCell (Upd.refl (fun j => j = b) _) (p := ⟨b, 1, none⟩) (.inl rfl) _) (fun j hj _ _ e => by subst hj; injection e with e; omega)
      · rw [← Ht.out]; exact Hs.out
end
end Go.Proofs.Ytelmolblcnolnaa
