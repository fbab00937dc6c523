/- The document's pool's Free, Count, take, Take, Reserve, Unreserve, Draw, New, walked. Conditions: the pool lies in memory as 'RefAt' says, and is sound ('Pl.Ok'); for New: none. -/
import Derived.Test.YtelmolblcnolnaaRefWalk
import Derived.Deep.DeepCutAuto
import Derived.Deep.CutBlock
import Derived.Deep.RegionHeld3
namespace Go.Proofs.Ytelmolblcnolnaa
open Go.RowKit

theorem Try.infoI64 : (Try.prog.info? 2).map (fun i => (i.zero, i.size, i.bytes)) = some (some (.int .i64 0), 1, 8) := by kernel_rfl
def rzero : List Value := [.string ⟨#[]⟩, .int .i64 0, .slice none 0 0]
theorem Try.infoRPage : (Try.prog.info? 111).map (fun i => (i.zero, i.size, i.bytes)) = some (some (.agg rzero.toArray), 3, 48) := by kernel_rfl

section
variable {w : World} {rb rq : Nat} {gs : Nat → Nat} {s : Pl} {c : Int}

set_option maxHeartbeats 800000 in
theorem rfree_any (h : RefAt w rb rq gs s) (hl : s.pages.length ≤ 256) :
    Calls Try.prog 74 #[.pointer (some ⟨rb, 0, none⟩)] w fun e w' => e = .returned (.int .i64 s.free) ∧ w = w' := by
  have c0 := RefMem.c0 h
  have Hh := hid_ h
  have hle := fun k => freeIx_len_le s.pages k
  have Hle := hid_ hle
  clear h hle
  go_enter Try.func74, Try.ntmps74
  go_wp2_with fail
  go_loop [3, 4] (fun n i => ∃ k : Nat, k ≤ s.pages.length ∧ i = .int .i64 k ∧ n = .int .i64 (((freeIx s.pages k).length : Nat) : Int)) (fun _ i => s.pages.length - (intOf i).toNat)
  case atStart => exact ⟨0, Nat.zero_le _, rfl, rfl⟩
  case round =>
    obtain ⟨k, hk, rfl, rfl⟩ := hrel
    by_cases hlt : k < s.pages.length
    · have hp : s.pages[k]? = some (s.page (k : Int)) := pl_page_get hlt
      have co := RefMem.cown Hh.out hp
      have hb := Hle.out k
      have Hs := hid_ (freeIx_succ s.pages k)
      have hgd : s.pages.getD k Pg.zero = s.page (k : Int) := (pl_page_nat s k).symm
      rw [hgd] at Hs
      clear hp hgd
      by_cases ho : (s.page (k : Int)).own = 0
      · rw [ho] at co
        have Hc : Hid ((freeIx s.pages (k + 1)).length = (freeIx s.pages k).length + 1) := by
          show _ = _
          rw [Hs.out, if_pos ho, List.length_append]; rfl
        clear Hs ho
        generalize (freeIx s.pages k).length = n at *
        go_wp2_with fail
        go_round
        case rel => exact ⟨k + 1, by omega, by go_num, by rw [Hc.out]; go_num⟩
        case measure => simp [intOf]; omega
      · have hbf : ((s.page (k : Int)).own == 0) = false := beq_eq_false_iff_ne.2 ho
        have Hc : Hid ((freeIx s.pages (k + 1)).length = (freeIx s.pages k).length) := by
          show _ = _
          rw [Hs.out, if_neg ho, List.append_nil]
        clear Hs ho
        generalize (freeIx s.pages k).length = n at *
        go_wp2_with fail
        go_round
        case rel => exact ⟨k + 1, by omega, by go_num, by rw [Hc.out]⟩
        case measure => simp [intOf]; omega
    · have hke : k = s.pages.length := by omega
      go_wp2_with fail
      go_ret
      exact ⟨rfl, rfl⟩

set_option maxHeartbeats 800000 in
theorem rcount_any (h : RefAt w rb rq gs s) (hl : s.pages.length ≤ 256) (tag : ByteArray) :
    Calls Try.prog 31 #[.pointer (some ⟨rb, 0, none⟩), .string tag] w fun e w' => e = .returned (.int .i64 (s.count tag)) ∧ w = w' := by
  have c0 := RefMem.c0 h
  have Hh := hid_ h
  have Hlen : ∀ k, Hid (((s.pages.take k).countP (cntB tag)) ≤ k) := fun k => by
    have h1 := List.countP_le_length (p := cntB tag) (l := s.pages.take k)
    rw [List.length_take] at h1
    show _ ≤ _
    omega
  clear h
  go_enter Try.func31, Try.ntmps31
  go_wp2_with fail
  go_loop [5, 6] (fun n i => ∃ k : Nat, k ≤ s.pages.length ∧ i = .int .i64 k ∧ n = .int .i64 (((s.pages.take k).countP (cntB tag) : Nat) : Int)) (fun _ i => s.pages.length - (intOf i).toNat)
  case atStart => exact ⟨0, Nat.zero_le _, rfl, rfl⟩
  case round =>
    obtain ⟨k, hk, rfl, rfl⟩ := hrel
    by_cases hlt : k < s.pages.length
    · have hp : s.pages[k]? = some s.pages[k] := List.getElem?_eq_getElem hlt
      have co := RefMem.cown Hh.out hp
      have ct := RefMem.ctag Hh.out hp
      have hle : (s.pages.take k).countP (cntB tag) ≤ k := (Hlen k)
      have Hs := hid_ (countP_take_succ (cntB tag) s.pages k _ hp)
      generalize (s.pages.take k).countP (cntB tag) = n at *
      generalize hq : s.pages[k] = q at *
      clear hq hp
      by_cases ho : 0 < q.own
      · by_cases hb : (q.tag.toList == tag.toList) = true
        · have Hc : Hid ((s.pages.take (k + 1)).countP (cntB tag) = n + 1) := by
            show _ = _
            rw [Hs.out]; simp [cntB, ho, hb]
          clear Hs
          go_wp2_with fail
          go_round
          case rel => exact ⟨k + 1, by omega, by go_num, by rw [Hc.out]; go_num⟩
          case measure => simp [intOf]; omega
        · have hb' : (q.tag.toList == tag.toList) = false := by simpa using hb
          have Hc : Hid ((s.pages.take (k + 1)).countP (cntB tag) = n) := by
            show _ = _
            rw [Hs.out]; simp [cntB, hb']
          clear Hs hb
          go_wp2_with fail
          go_round
          case rel => exact ⟨k + 1, by omega, by go_num, by rw [Hc.out]⟩
          case measure => simp [intOf]; omega
      · have Hc : Hid ((s.pages.take (k + 1)).countP (cntB tag) = n) := by
          show _ = _
          rw [Hs.out]; simp [cntB, ho]
        clear Hs
        go_wp2_with fail
        go_round
        case rel => exact ⟨k + 1, by omega, by go_num, by rw [Hc.out]⟩
        case measure => simp [intOf]; omega
    · have hke : k = s.pages.length := by omega
      go_wp2_with fail
      go_ret
      refine ⟨ret_int ?_, rfl⟩
      have e : cntB tag = fun p => decide (0 < p.own) && (p.tag.data.toList == tag.data.toList) := by
        funext p
        unfold cntB
        rw [ByteArray.toList_eq, ByteArray.toList_eq]
      unfold Pl.count
      rw [← e]

theorem rS_take {rb rq : Nat} {gs gs' : Nat → Nat} {l l' : List Pg} {w : World} (h : ∀ i p, l'[i]? = some p → p.own ≠ 0 → (∃ q, l[i]? = some q ∧ q.own ≠ 0 ∧ gs' i = gs i) ∨ w.heap.size ≤ gs' i) {k : Nat} (hk : rS rb rq gs' l' k) : rS rb rq gs l k ∨ w.heap.size ≤ k := by
  rcases hk with h1 | h1 | ⟨i, p, hp, ho, rfl⟩
  · exact .inl (.inl h1)
  · exact .inl (.inr (.inl h1))
  · rcases h i p hp ho with ⟨q, hq, hqo, he⟩ | h2
    · rw [he]; exact .inl (.inr (.inr ⟨i, q, hq, hqo, rfl⟩))
    · exact .inr h2

def zcells : Array Value := (zeros32.map (Value.int .i64)).toArray
theorem make32 (w : World) : (Instr.makeSlice 109 (.int .i64 32) (.int .i64 32)).run Try.prog w = .ok (.slice (some ⟨w.heap.size, 0, none⟩) 32 32) (w.alloc (.cells zcells 2)) := by kernel_rfl
/-- What the loop of 'take' hands on. -/
structure RTake (w : World) (rb rq : Nat) (gs : Nat → Nat) (l : List Pg) (a : Int) (tag : ByteArray) (ix : List Nat) (wr : World) : Prop where
  ex : ∃ gs', RefMem wr rb rq gs' (putAt tag l ix) a ∧ ∀ i p, (putAt tag l ix)[i]? = some p → p.own ≠ 0 → (∃ q, l[i]? = some q ∧ q.own ≠ 0 ∧ gs' i = gs i) ∨ w.heap.size ≤ gs' i
  upd : Upd (fun k => k = rq) w wr

set_option maxHeartbeats 1600000 in
set_option maxRecDepth 100000 in
theorem rtake_core {l : List Pg} {a : Int} (h : RefMem w rb rq gs l a) (hl : l.length ≤ 256) (k : Nat) (hk : k ≤ (freeIx l l.length).length) (tag : ByteArray) :
    Calls Try.prog 91 #[.pointer (some ⟨rb, 0, none⟩), .string tag, .int .i64 (k : Int)] w fun e w' =>
      ∃ v, e = .returned v ∧ w'.ownsRow w.heap.size 3 1 v k (natVals (tk l k l.length)) ∧ RTake w rb rq gs l a tag (tk l k l.length) w' := by
  obtain ⟨i0, hi0, hz0, hz1, hz2⟩ := info_parts Try.infoInt
  obtain ⟨j0, hj0, hy0, hy1, hy2⟩ := info_parts Try.infoI64
  have hkl : k ≤ 256 := by have := freeIx_len_le l l.length; omega
  have hbw : rb < w.heap.size := h.hb.lt
  have hqw : rq < w.heap.size := Blk.ex_lt h.tq
  have Hh := hid_ h
  have Hk := hid_ hk
  have hmk32 := make32
  clear h hk
  go_enter Try.func91, Try.ntmps91
  go_wp2_with fail
  go_loopw [7, 8] (fun vv iv wr => ∃ (i m c' : Nat) (A' : Option Addr), i ≤ l.length ∧ iv = .int .i64 i ∧ m = (tk l k i).length ∧ vv = .slice A' m c' ∧
      wr.ownsRow w.heap.size 3 1 (.slice A' m c') m (natVals (tk l k i)) ∧ RTake w rb rq gs l a tag (tk l k i) wr)
    (fun _ iv _ => l.length - (intOf iv).toNat)
  case atStart =>
    have e0 : tk l k 0 = [] := by unfold tk freeIx; simp
    refine ⟨0, 0, 0, none, Nat.zero_le _, rfl, by rw [e0]; rfl, rfl, by rw [e0]; exact own_nil _ _ _, ?_⟩
    rw [e0]
    exact ⟨⟨gs, Hh.out, fun i p hp ho => .inl ⟨p, hp, ho, rfl⟩⟩, Upd.refl _ _⟩
  case round =>
    obtain ⟨i, m, c', A', hil, rfl, hm, rfl, hown, hrt⟩ := hrel
    have Hm := hid_ hm
    have Hu := hid_ hrt.upd
    obtain ⟨gs', hp, hgs⟩ := hrt.ex
    have Hgs := hid_ hgs
    have Hp := hid_ hp
    have Hrt := hid_ hrt
    have hmk : m ≤ k := by rw [hm]; exact tk_le l k i
    have c0 := hp.c0
    rw [putAt_length] at c0
    have Hown := hid_ hown
    have hsz := hrt.upd.size
    clear hrt hgs
    by_cases hin : i < l.length ∧ m < k
    · obtain ⟨hi, hmlt⟩ := hin
      have hnot : i ∉ tk l k i := fun hin => absurd (tk_lt hin) (by omega)
      have hpi : (putAt tag l (tk l k i))[i]? = some (l.getD i Pg.zero) := by
        rw [putAt_other hnot, List.getD_eq_getElem?_getD, List.getElem?_eq_getElem hi]; rfl
      have co := hp.cown hpi
      by_cases ho : (l.getD i Pg.zero).own = 0
      · have Ht := hid_ (tk_free (k := k) (by rw [← Hm.out]; exact hmlt) ho)
        have hi' : i < (putAt tag l (tk l k i)).length := by rw [putAt_length]; exact hi
        obtain ⟨x0, hx0, _⟩ := hp.pg i _ hpi
        have ct := hp.ctag hpi
        have cx : wr.cell? ⟨rq, i * 3 + 2, none⟩ = some x0 := hx0 2 _ rfl
        have ft0 := hp.fq (i * 3)
        have ft1 := hp.fq (i * 3 + 1)
        have ft2 := hp.fq (i * 3 + 2)
        have hpa : RefMem (wr.alloc (.cells zcells 2)) rb rq gs' (putAt tag l (tk l k i)) a := hp.upd ((Upd.refl (fun _ => False) _).alloc _) (fun _ _ h => h)
        have ac0 := hpa.c0
        rw [putAt_length] at ac0
        have act := hpa.ctag hpi
        have aco := hpa.cown hpi
        have acx : (wr.alloc (.cells zcells 2)).cell? ⟨rq, i * 3 + 2, none⟩ = some x0 := (World.cell?_alloc_lt wr _ ⟨rq, i * 3 + 2, none⟩ (Blk.ex_lt hp.tq)).trans cx
        have aft0 := hpa.fq (i * 3)
        have aft1 := hpa.fq (i * 3 + 1)
        have aft2 := hpa.fq (i * 3 + 2)
        have hu1 : Upd (fun _ => False) wr (wr.alloc (.cells zcells 2)) := (Upd.refl _ _).alloc _
        have Hs := hid_ (hp.setOne hi' tag (w1 := wr.alloc (.cells zcells 2)) wr.heap.size (Nat.le_refl _) hu1 (Blk.new wr 2 zcells))
        have HU1 := hid_ (Upd.setCells (S := fun k => k = rq) (b := rq) (.inl rfl) [.string tag, .int .i64 1, .slice (some ⟨wr.heap.size, 0, none⟩) 32 32] (i * 3) (Hu.out.trans (hu1.mono (fun _ _ h => h.elim))))
        have Hown3 := hid_ (own_upd (own_upd Hown.out hu1 (fun _ h => h.elim)) (Upd.setCells (S := fun j => j = rq) (.inl rfl) [.string tag, .int .i64 1, .slice (some ⟨wr.heap.size, 0, none⟩) 32 32] (i * 3) (Upd.refl _ _)) (fun j hj hb _ => by omega))
        rw [ho] at co aco
        clear hm hp hpa hown ho hpi hx0 hu1
        go_upto_region 6 with fail
        go_region
        change Exit.then _ _ Exit.normal _ (World.drew (World.setCells (wr.alloc (.cells zcells 2)) rq (i * 3) [.string tag, .int .i64 1, .slice (some ⟨wr.heap.size, 0, none⟩) 32 32]))
        have Hs := hid_ (show RefMem (World.drew (World.setCells (wr.alloc (.cells zcells 2)) rq (i * 3) [.string tag, .int .i64 1, .slice (some ⟨wr.heap.size, 0, none⟩) 32 32])) _ _ _ _ _ from Hs.out.upd (S := fun _ => False) ((Upd.refl _ _).drew) (fun _ _ h => h))
        have HU1 := hid_ (show Upd _ _ (World.drew (World.setCells (wr.alloc (.cells zcells 2)) rq (i * 3) [.string tag, .int .i64 1, .slice (some ⟨wr.heap.size, 0, none⟩) 32 32])) from HU1.out.drew)
        have Hown3 := hid_ (show World.ownsRow (World.drew (World.setCells (wr.alloc (.cells zcells 2)) rq (i * 3) [.string tag, .int .i64 1, .slice (some ⟨wr.heap.size, 0, none⟩) 32 32])) _ _ _ _ _ _ from own_upd (S := fun _ => False) Hown3.out ((Upd.refl _ _).drew) (fun _ h => h.elim))
        have hsz1 : wr.heap.size ≤ (World.drew (World.setCells (wr.alloc (.cells zcells 2)) rq (i * 3) [.string tag, .int .i64 1, .slice (some ⟨wr.heap.size, 0, none⟩) 32 32])).heap.size := by
          show wr.heap.size ≤ (World.setCells _ _ _ _).heap.size
          rw [size_setCells_]
          simp
        generalize World.drew (World.setCells (wr.alloc (.cells zcells 2)) rq (i * 3) [.string tag, .int .i64 1, .slice (some ⟨wr.heap.size, 0, none⟩) 32 32]) = w1 at *
        clear ct co cx c0 ac0 act aco acx aft0 aft1 aft2 ft0 ft1 ft2
        go_wp2_with (at_builtin; refine wpList_append_own _ rfl (.tmp 42) (.tmp 44) 33 rfl w.heap.size 3 i0 (.int .i64 0) 1 8 Try.underlying33 hi0 hz0 hz1 hz2 rfl (by decide) _ m _ rfl (Hown3.out.alloc _) ⟨w1.heap.size, 0, none⟩ 1 1 [.int .i64 (i : Int)] rfl rfl (one_new rfl) (one_cell rfl) ?c3 ?c4 ?c5 ?_)
        case c3 => unfold maxLen; omega
        case c4 => omega
        case c5 => simp; omega
        intro v' w5 hown5 hgrow5 hnil5
        have hform : ∃ A5 c5, v' = .slice A5 (m + 1) c5 := by
          rcases hown5.2 with ⟨_, h0⟩ | ⟨g, cap, cur, hv, _⟩
          · omega
          · exact ⟨_, _, hv⟩
        obtain ⟨A5, c5, rfl⟩ := hform
        have hrow : ∀ g, Value.ownBlock (.slice A' m c') = some g → w.heap.size ≤ g := by
          intro g hg
          rcases Hown.out.2 with ⟨h0, _⟩ | ⟨g', cap, cur, hv, hb', _⟩
          · injection h0 with h0 _ _
            subst h0
            cases hg
          · injection hv with hv _ _
            subst hv
            injection hg with hg
            subst hg
            exact hb'
        have hgrow6 : Upd (fun q => w.heap.size ≤ q ∧ q ≠ wr.heap.size ∧ q ≠ rq ∧ q ≠ rb ∧ ∀ j p, (putAt tag l (tk l k i))[j]? = some p → p.own ≠ 0 → q ≠ gs' j) w1 w5 :=
          ((Upd.refl _ _).alloc _).grown hgrow5 (fun g hg => .inl ⟨hrow g hg, by
            rcases Hown.out.2 with ⟨h0, _⟩ | ⟨g', cap, cur, hv, hb', hh, _⟩
            · injection h0 with h0 _ _
              subst h0
              cases hg
            · injection hv with hv _ _
              subst hv
              injection hg with hg
              subst hg
              have hbl : Blk wr g' 3 cur := hh
              refine ⟨by have := hbl.lt; show g' ≠ _; omega, Blk.ex_ne ⟨_, hbl⟩ Hp.out.tq (by decide), Blk.ne_ hbl Hp.out.hb (by decide), fun j p hp ho => Blk.ne_ hbl (Hp.out.blk hp ho) (by decide)⟩⟩)
        have hmem : RefMem w5 rb rq (fun j => if j = i then wr.heap.size else gs' j) ((putAt tag l (tk l k i)).set i (Pg.one tag)) a := by
          refine Hs.out.upd hgrow6 ?_
          rintro q (rfl | rfl | ⟨j, p, hp, ho, rfl⟩) ⟨q1, q2, q3, q4, q5⟩
          · exact q4 rfl
          · exact q3 rfl
          · by_cases e : j = i
            · exact q2 (if_pos e)
            · have q6 : ∀ (j' : Nat) (p : Pg), (putAt tag l (tk l k i))[j']? = some p → p.own ≠ 0 → gs' j ≠ gs' j' := fun j' p h1 h2 h3 => q5 j' p h1 h2 ((if_neg e).trans h3)
              rw [List.getElem?_set_ne (Ne.symm e)] at hp
              exact q6 j p hp ho rfl
        have HX5 : Hid (RTake w rb rq gs l a tag (tk l k (i + 1)) w5) := by
          refine ⟨⟨_, by rw [Ht.out, putAt_snoc]; exact hmem, fun j p hp ho => ?_⟩, (HU1.out.alloc _).grown hgrow5 (fun g hg => .inr (hrow g hg))⟩
          rw [Ht.out, putAt_snoc] at hp
          by_cases e : j = i
          · subst e
            right
            show w.heap.size ≤ (if j = j then wr.heap.size else gs' j)
            rw [if_pos rfl]
            exact hsz
          · rw [List.getElem?_set_ne (Ne.symm e)] at hp
            show (∃ q, l[j]? = some q ∧ q.own ≠ 0 ∧ (if j = i then wr.heap.size else gs' j) = gs j) ∨ w.heap.size ≤ (if j = i then wr.heap.size else gs' j)
            rw [if_neg e]
            exact Hgs.out j p hp ho
        have HO5 := hid_ hown5
        clear hgrow5 hgrow6 hown5 hnil5 hmem hrow Hs Hown3 HU1
        go_wp2_with fail
        go_roundw
        case rel =>
          have hrel2 : ∃ (j mm c'' : Nat) (A'' : Option Addr), j ≤ l.length ∧ Value.int .i64 ((i : Int) + 1) = .int .i64 j ∧ mm = (tk l k j).length ∧ Value.slice A5 (m + 1) c5 = .slice A'' mm c'' ∧
              w5.ownsRow w.heap.size 3 1 (.slice A'' mm c'') mm (natVals (tk l k j)) ∧ RTake w rb rq gs l a tag (tk l k j) w5 :=
            ⟨i + 1, m + 1, c5, A5, by omega, by go_num, by rw [Ht.out, List.length_append, ← Hm.out]; rfl, rfl, by rw [Ht.out, natVals_snoc]; exact HO5.out, HX5.out⟩
          first | exact hrel2 | ((repeat apply Exists.intro); exact ⟨hrel2, rfl⟩)
        case measure => simp [intOf]; omega
      · have Ht := hid_ (tk_used (k := k) ho)
        have hb0 : ((l.getD i Pg.zero).own == 0) = false := beq_eq_false_iff_ne.2 ho
        generalize (l.getD i Pg.zero).own = o at *
        clear hm hp hown ho hpi
        go_wp2_with fail
        go_roundw
        case rel => exact ⟨i + 1, m, c', A', by omega, by go_num, by rw [Ht.out]; exact Hm.out, rfl, by rw [Ht.out]; exact Hown.out, by rw [Ht.out]; exact Hrt.out⟩
        case measure => simp [intOf]; omega
    · have hend : tk l k i = tk l k l.length ∧ m = k := by
        by_cases hmk2 : m = k
        · exact ⟨tk_done hil (by rw [← hm]; exact hmk2), hmk2⟩
        · have hil2 : i = l.length := by omega
          have := Hk.out
          rw [hil2] at hm ⊢
          have h2 : (tk l k l.length).length = k := by unfold tk; rw [List.length_take]; omega
          exact ⟨rfl, by omega⟩
      obtain ⟨h1, h2⟩ := hend
      have H1 := hid_ h1
      clear hm hp hown h1
      subst h2
      rcases (by omega : i = l.length ∨ i < l.length) with h3 | h3
      · subst h3
        go_wp2_with fail
        go_ret
        exact ⟨_, rfl, Hown.out, Hrt.out⟩
      · go_wp2_with fail
        go_ret
        refine ⟨_, rfl, ?_, ?_⟩
        · rw [← H1.out]; exact Hown.out
        · rw [← H1.out]; exact Hrt.out
end
end Go.Proofs.Ytelmolblcnolnaa
