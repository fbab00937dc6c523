/- Count and New of the pool, walked. Conditions: the pool lies in memory as 'PoolAt' says; for New: none. -/
import Derived.Test.YtelmolblcnolnaaPoolWalkE
namespace Go.Proofs.Ytelmolblcnolnaa
open Go.RowKit

theorem countP_take_succ {α : Type} (p : α → Bool) (l : List α) (k : Nat) (x : α) (h : l[k]? = some x) : (l.take (k + 1)).countP p = (l.take k).countP p + (if p x = true then 1 else 0) := by
  rw [List.take_add_one, h, List.countP_append]
  simp [List.countP_cons]

section
variable {w : World} {b bq : Nat} {s : Pl}

def cntB (tag : ByteArray) (p : Pg) : Bool := decide (0 < p.own) && (p.tag.toList == tag.toList)

set_option maxHeartbeats 800000 in
theorem count_any (h : PoolAt w b bq s) (hl : s.pages.length ≤ 256) (tag : ByteArray) :
    Calls Try.prog 18 #[.pointer (some ⟨b, 0, none⟩), .string tag] w fun e w' => e = .returned (.int .i64 (s.count tag)) ∧ w = w' := by
  have c0 := PoolMem.c0 h
  have Hh := hid_ h
  have Hlen : ∀ k, Hid (((s.pages.take k).countP (cntB tag)) ≤ k) := fun k => by
    have h1 := List.countP_le_length (p := cntB tag) (l := s.pages.take k)
    rw [List.length_take] at h1
    show _ ≤ _
    omega
  clear h
  go_enter Try.func18, Try.ntmps18
  go_wp2_with fail
  go_loop [5, 12] (fun n i => ∃ k : Nat, k ≤ s.pages.length ∧ i = .int .i64 k ∧ n = .int .i64 (((s.pages.take k).countP (cntB tag) : Nat) : Int)) (fun _ i => s.pages.length - (intOf i).toNat)
  case atStart => exact ⟨0, Nat.zero_le _, rfl, rfl⟩
  case round =>
    obtain ⟨k, hk, rfl, rfl⟩ := hrel
    by_cases hlt : k < s.pages.length
    · have hp : s.pages[k]? = some s.pages[k] := List.getElem?_eq_getElem hlt
      have co := PoolMem.cown Hh.out hp
      have ct := PoolMem.ctag Hh.out hp
      have hle : (s.pages.take k).countP (cntB tag) ≤ k := (Hlen k)
      have Hs := hid_ (countP_take_succ (cntB tag) s.pages k _ hp)
      generalize (s.pages.take k).countP (cntB tag) = n at *
      generalize hq : s.pages[k] = q at *
      clear hq hp
      by_cases ho : 0 < q.own
      · by_cases hb : (q.tag.toList == tag.toList) = true
        · have Hc : Hid ((s.pages.take (k + 1)).countP (cntB tag) = n + 1) := by
            show _ = _
            rw [Hs.out]; simp [cntB, ho, hb]
          clear Hs
          go_wp2_with fail
          go_round
          case rel => exact ⟨k + 1, by omega, by go_num, by rw [Hc.out]; go_num⟩
          case measure => simp [intOf]; omega
        · have hb' : (q.tag.toList == tag.toList) = false := by simpa using hb
          have Hc : Hid ((s.pages.take (k + 1)).countP (cntB tag) = n) := by
            show _ = _
            rw [Hs.out]; simp [cntB, hb']
          clear Hs hb
          go_wp2_with fail
          go_round
          case rel => exact ⟨k + 1, by omega, by go_num, by rw [Hc.out]⟩
          case measure => simp [intOf]; omega
      · have Hc : Hid ((s.pages.take (k + 1)).countP (cntB tag) = n) := by
          show _ = _
          rw [Hs.out]; simp [cntB, ho]
        clear Hs
        go_wp2_with fail
        go_round
        case rel => exact ⟨k + 1, by omega, by go_num, by rw [Hc.out]⟩
        case measure => simp [intOf]; omega
    · have hke : k = s.pages.length := by omega
      go_wp2_with fail
      go_ret
      refine ⟨ret_int ?_, rfl⟩
      have e : cntB tag = fun p => decide (0 < p.own) && (p.tag.data.toList == tag.data.toList) := by
        funext p
        unfold cntB
        rw [ByteArray.toList_eq, ByteArray.toList_eq]
      unfold Pl.count
      rw [← e]

theorem made_zero (n i j : Nat) (hi : i < n) (hj : j < 34) : (madeCells Pg.zero.vals.toArray (n * 34))[i * 34 + j]? = Pg.zero.vals[j]? := by
  have hz : Pg.zero.vals.toArray.size = 34 := rfl
  have hlt : i * 34 + j < n * 34 := by omega
  unfold madeCells
  rw [Array.getElem?_map, Array.getElem?_range, if_pos hlt, Option.map_some, hz]
  have e : (i * 34 + j) % 34 = j := by omega
  rw [e]
  have hv : j < Pg.zero.vals.length := hj
  rw [List.getElem?_eq_getElem hv]
  simp [hv]

def NewPost (n : Int) (w : World) (e : Ending) (w' : World) : Prop :=
  ∃ b bq, e = .returned (.tuple #[.pointer (some ⟨b, 0, none⟩), .int .i64 0]) ∧ PoolAt w' b bq (Pl.new n) ∧ Below w.heap.size w w' ∧ w.heap.size ≤ b ∧ w.heap.size ≤ bq

set_option maxHeartbeats 800000 in
set_option maxRecDepth 100000 in
theorem new_any (n : Int) (w : World) (hn : Pl.newE n = 0) :
    Calls Try.prog 15 #[.int .i64 n] w (NewPost n w) := by
  have hb : 1 ≤ n ∧ n ≤ 256 := by
    unfold Pl.newE at hn
    by_cases h1 : n < 1 ∨ 256 < n
    · rw [if_pos h1] at hn; cases hn
    · omega
  obtain ⟨h1, h2⟩ := hb
  obtain ⟨m, rfl⟩ := Int.eq_ofNat_of_zero_le (show 0 ≤ n by omega)
  obtain ⟨i0, hi0, hz0, hz1, hz2⟩ := info_parts Try.infoPage
  clear hn
  go_enter Try.func15, Try.ntmps15
  go_wp2_with (at_make; refine wpList_make_full _ rfl _ _ 92 rfl w.heap.size 99 i0 (.agg Pg.zero.vals.toArray) 34 Try.underlying92 hi0 hz0 hz1 _ _ _ _ m rfl rfl rfl rfl ?b2 ?b3 (Nat.le_refl _) ?_)
  case b2 => rw [hz2]; omega
  case b3 => unfold maxLen; omega
  intro w0 hown0 hgrow0
  rcases hown0.2 with ⟨h1, _⟩ | ⟨g, cap, cur, hv, hg, hh, hc, hm, hz, ht⟩
  · cases h1
  injection hv with hv _ hcap
  injection hv with hv
  injection hv with hv _ _
  subst hv hcap
  rw [List.take_of_length_le (by rw [Array.length_toList]; omega)] at ht
  have hcur : cur = madeCells Pg.zero.vals.toArray (m * 34) := Array.toList_inj.1 ht
  subst hcur
  have hsz : w.heap.size < w0.heap.size := Blk.lt (w := w0) hh
  have Hh := hid_ hh
  have Hg := hid_ hgrow0
  have Hs := hid_ hsz
  clear hown0 hgrow0 hh ht hz hsz hz0 hi0 hz1 hz2 hg hc hm
  go_wp2_with fail
  go_ret2
  refine ⟨w0.heap.size, w.heap.size, rfl, ?_, ?_, Nat.le_of_lt Hs.out, Nat.le_refl _⟩
  · have hb : Blk (w0.alloc (.cells #[.slice (some ⟨w.heap.size, 0, none⟩) m m, .int .i64 (m : Int), .int .i64 0] 94)) w.heap.size 99 (madeCells Pg.zero.vals.toArray (m * 34)) := Blk.alloc (w := w0) Hh.out _
    have hf : (Pl.new (m : Int)).free = m := by
      have e : freeIx (List.replicate m Pg.zero) m = List.range m := by
        unfold freeIx
        rw [List.filter_eq_self]
        intro j hj
        rw [List.mem_range] at hj
        rw [List.getD_eq_getElem?_getD, List.getElem?_replicate, if_pos hj]
        rfl
      show (((freeIx (List.replicate (m : Int).toNat Pg.zero) (List.replicate (m : Int).toNat Pg.zero).length).length : Nat) : Int) = m
      rw [Int.toNat_natCast, List.length_replicate, e, List.length_range]
    unfold PoolAt
    rw [hf]
    refine ⟨?_, ⟨_, hb⟩, fun i p hp j v hv => ?_, fun p hp => ?_⟩
    · have := Blk.new w0 94 #[.slice (some ⟨w.heap.size, 0, none⟩) m m, .int .i64 (m : Int), .int .i64 0]
      show Blk _ _ _ #[.slice _ (List.replicate (m : Int).toNat Pg.zero).length (List.replicate (m : Int).toNat Pg.zero).length, _, _]
      rw [Int.toNat_natCast, List.length_replicate]
      exact this
    · change (List.replicate (m : Int).toNat Pg.zero)[i]? = some p at hp
      rw [Int.toNat_natCast, List.getElem?_replicate] at hp
      split at hp
      · injection hp with hp
        subst hp
        have hj : j < 34 := (List.getElem?_eq_some_iff.1 hv).1
        rw [hb.cell, made_zero m i j (by assumption) hj, hv]
      · cases hp
    · rw [(List.mem_replicate.1 hp).2]; rfl
  · exact ((Below.refl _ _).grown Hg.out (Nat.le_refl _) (fun _ h => by cases h)).alloc (Nat.le_of_lt Hs.out) _

set_option maxHeartbeats 400000 in
theorem new_no (n : Int) (w : World) (hn : Pl.newE n ≠ 0) :
    Calls Try.prog 15 #[.int .i64 n] w fun e w' => e = .returned (.tuple #[.pointer none, .int .i64 20]) ∧ w = w' := by
  have hb : n < 1 ∨ 256 < n := by
    unfold Pl.newE at hn
    by_cases h1 : n < 1 ∨ 256 < n
    · exact h1
    · rw [if_neg h1] at hn; exact absurd rfl hn
  clear hn
  rcases hb with hb | hb
  all_goals
    go_enter Try.func15, Try.ntmps15
    go_wp2_with fail
    go_ret2
    exact ⟨rfl, rfl⟩
end
end Go.Proofs.Ytelmolblcnolnaa
