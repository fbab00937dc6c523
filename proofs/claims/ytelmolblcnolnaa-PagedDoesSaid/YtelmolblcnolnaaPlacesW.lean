/- Where weights lie, handed out in order: the iterator's contract, for every loop body that keeps its pages. Conditions: each theorem's own. -/
import Derived.RangeFuncNested
import Derived.RangeFuncBound
import Derived.RangeFuncCalls
import Derived.RangeFuncLeaves
import Derived.Shelf.Abstract
import Derived.Shelf.RegionOpen
import Derived.OwnWalkIn
import Derived.TacticsInMore
import Derived.LoopNIn
import Derived.LoopIn
import Derived.Test.YtelmolblcnolnaaRefWalkC
namespace Go.Proofs.Ytelmolblcnolnaa
open Go.RowKit Go.Shelf
attribute [local go_sem] Oper.semAt_some

/-- what a round keeps: of the blocks below n₀ all but S -/
def KpS (S : Nat → Prop) (n₀ : Nat) (W W' : World) : Prop := W.heap.size ≤ W'.heap.size ∧ ∀ k, k < n₀ → ¬ S k → W'.heap[k]? = W.heap[k]?
theorem KpS.refl (S : Nat → Prop) (n₀ : Nat) (W : World) : KpS S n₀ W W := ⟨Nat.le_refl _, fun _ _ _ => rfl⟩
theorem KpS.trans {S : Nat → Prop} {n₀ : Nat} {A B C : World} (h : KpS S n₀ A B) (k : KpS S n₀ B C) : KpS S n₀ A C := ⟨Nat.le_trans h.1 k.1, fun i hi hn => (k.2 i hi hn).trans (h.2 i hi hn)⟩
theorem KpS.of_upd {S : Nat → Prop} {n₀ : Nat} {A B : World} (h : Upd S A B) (hn : n₀ ≤ A.heap.size) : KpS S n₀ A B := ⟨h.size, fun k hk hs => h.block k (by omega) hs⟩
theorem KpS.cell {S : Nat → Prop} {n₀ : Nat} {A B : World} (h : KpS S n₀ A B) {p : Addr} (hp : p.block < n₀) (hs : ¬ S p.block) : B.cell? p = A.cell? p := World.cell?_of_block (w := A) (h.2 p.block hp hs)
theorem KpS.put {S : Nat → Prop} {n₀ : Nat} (W : World) (l : Nat) (o : Obj) (hl : n₀ ≤ l) : KpS S n₀ W (W.putObj l o) := ⟨by simp [World.putObj], fun k hk _ => World.putObj_heap_other (by omega)⟩

abbrev encP (L : List Int) {n : Nat} (x : Fin n) : Array Value := #[.int .i64 (x.val : Int), .agg #[.int .i64 (L[x.val / 32]?.getD 0), .int .i64 ((x.val : Int) % 32)]]
theorem tdiv32 (k : Nat) : (k : Int).tdiv 32 = ((k / 32 : Nat) : Int) := rfl
theorem tmod32 (k : Nat) : (k : Int).tmod 32 = ((k % 32 : Nat) : Int) := rfl
def InI (n : Int) : Prop := -9223372036854775808 ≤ n ∧ n ≤ 9223372036854775807
set_option maxRecDepth 100000 in
set_option maxHeartbeats 2000000 in
theorem places1_in (N : Nat) (hN : 1 ≤ N) (l bn bp n₀ : Nat) (S : Nat → Prop) (n m c : Nat) (A : Option Addr) (L : List Int) (J Jx : List (Fin n) → World → Prop)
    (hY : ∀ pre (x : Fin n) W, J pre W → pre.length < n → YieldAt Fence.wide (N - 1) Try.prog l (encP L x) W fun e W' =>
      (e = .returned (.bool true) ∧ J (pre ++ [x]) W' ∧ KpS S n₀ W W') ∨ (e = .returned (.bool false) ∧ Jx (pre ++ [x]) W'))
    (W : World) (hbp : bp < n₀ ∧ ¬ S bp) (c1 : W.cell? ⟨bn, 0, none⟩ = some (.int .i64 n)) (c2 : W.cell? ⟨bp, 0, none⟩ = some (.slice A m c))
    (hL : ∀ i : Nat, i < n → i / 32 < m ∧ ∃ b o, A = some ⟨b, o, none⟩ ∧ b < n₀ ∧ ¬ S b ∧ W.cell? ⟨b, o + i / 32, none⟩ = some (.int .i64 (L[i / 32]?.getD 0))) (hmx : n < 4611686018427387904) (h0 : J [] W) :
    CallsIn Fence.wide N Try.prog 92 #[.func (.yield l) #[] #[], .pointer (some ⟨bn, 0, none⟩), .pointer (some ⟨bp, 0, none⟩)] W fun e W' => (∃ v, e = .returned v) ∧
      ((∃ ys : List (Fin n), ys.map Fin.val = List.range n ∧ J ys W') ∨ (∃ pre : List (Fin n), (∃ k, k ≤ n ∧ pre.map Fin.val = List.range k) ∧ Jx pre W')) := by
  refine callsIn_of_wp Try.func92 rfl trivial ?_ rfl
  simp only [Try.ntmps92, List.size_toArray, List.length_cons, List.length_nil, Nat.reduceAdd, Nat.reduceSub, Array.replicate_succ, Array.replicate_zero, List.push_toArray, List.append_toArray, List.nil_append, List.cons_append]
  gi_wp2
  gi_loopw [6] (fun i wr => ∃ (k : Nat) (pre : List (Fin n)), k ≤ n ∧ i = .int .i64 k ∧ pre.map Fin.val = List.range k ∧ J pre wr ∧ KpS S n₀ W wr)
    (fun i _ => n - (intOf i).toNat)
  case atStart => exact ⟨0, [], Nat.zero_le _, rfl, rfl, h0, KpS.refl _ _ _⟩
  case round =>
    obtain ⟨k, pre, hk, rfl, hpre, hJs, hnx⟩ := hrel
    have hpl : pre.length = k := by have := congrArg List.length hpre; simpa using this
    by_cases hlt : k < n
    · obtain ⟨hkm, b, o, rfl, hb, hbs, hc⟩ := hL k hlt
      have hc' := (hnx.cell (p := ⟨b, o + k / 32, none⟩) hb hbs).trans hc
      have c2' := (hnx.cell (p := ⟨bp, 0, none⟩) hbp.1 hbp.2).trans c2
      obtain ⟨fn, tmps, assign, body, hy, hR⟩ := hY pre ⟨k, hlt⟩ wr hJs (by omega)
      dsimp only [encP] at hy
      have t1 := tdiv32 k
      have t2 := tmod32 k
      gi_wp2
      refine hR.mono ?_
      rintro e W3 (⟨rfl, hJ3, hk3⟩ | ⟨rfl, hJx3⟩)
      · gi_wp2
        go_roundw
        case rel => exact ⟨k + 1, pre ++ [⟨k, hlt⟩], by omega, by go_num, by rw [List.map_append, hpre, List.range_succ]; rfl, hJ3, hnx.trans hk3⟩
        case measure => simp [intOf]; omega
      · gi_wp2
        refine bodyPost_ret (results_none rfl _ _ _) rfl ?_
        exact ⟨⟨_, rfl⟩, .inr ⟨_, ⟨k + 1, by omega, by rw [List.map_append, hpre, List.range_succ]; rfl⟩, hJx3⟩⟩
    · obtain rfl : k = n := by omega
      gi_wp2
      go_end0
      exact ⟨⟨_, rfl⟩, .inl ⟨_, hpre, hJs⟩⟩
theorem places_stops (N : Nat) (hN : 1 ≤ N) (bn bp : Nat) (S : Nat → Prop) (n m c : Nat) (A : Option Addr) (L : List Int) (w0 : World) (hbn : bn < w0.heap.size) (hbp : bp < w0.heap.size ∧ ¬ S bp) (c1 : w0.cell? ⟨bn, 0, none⟩ = some (.int .i64 n)) (c2 : w0.cell? ⟨bp, 0, none⟩ = some (.slice A m c))
    (hL : ∀ i : Nat, i < n → i / 32 < m ∧ ∃ b o, A = some ⟨b, o, none⟩ ∧ b < w0.heap.size ∧ ¬ S b ∧ w0.cell? ⟨b, o + i / 32, none⟩ = some (.int .i64 (L[i / 32]?.getD 0))) (hmx : n < 4611686018427387904) :
    SeqStopsK Fence.wide N Try.prog 92 #[.pointer (some ⟨bn, 0, none⟩), .pointer (some ⟨bp, 0, none⟩)] (encP L (n := n)) (KpS S w0.heap.size)
      (fun ys => ys.map Fin.val = List.range n) (fun pre => ∃ k, k ≤ n ∧ pre.map Fin.val = List.range k) n w0 := fun l J Jx W hW _ _ hY h0 => by
  refine (places1_in N hN l bn bp w0.heap.size S n m c A L J Jx hY W hbp ((hW.cell (p := ⟨bn, 0, none⟩) hbn).trans c1) ((hW.cell (p := ⟨bp, 0, none⟩) hbp.1).trans c2) (fun i hi => ?_) hmx h0)
  obtain ⟨h1, b, o, rfl, hb, hs, hc⟩ := hL i hi
  exact ⟨h1, b, o, rfl, hb, hs, (hW.cell (p := ⟨b, o + i / 32, none⟩) hb).trans hc⟩
set_option maxHeartbeats 1000000 in
theorem places_any (A : Option Addr) (m c : Nat) (n : Int) (w : World) : Calls Try.prog 77 #[.slice A m c, .int .i64 n] w fun e w' =>
    e = .returned (.func (.func 92) #[] #[.pointer (some ⟨w.heap.size + 1, 0, none⟩), .pointer (some ⟨w.heap.size, 0, none⟩)]) ∧ w' = (w.alloc (.cells #[.slice A m c] 33)).alloc (.cells #[.int .i64 n] 3) := by
  go_enter Try.func77, Try.ntmps77
  go_wp2_with fail
  go_ret
  exact ⟨rfl, rfl⟩
/-- how many pages so many weights take -/
def needV (n : Int) : Int := if n < 1 then 0 else (n - 1) / 32 + 1
theorem need_eq (n : Nat) : needV n = ((n + 31) / 32 : Nat) := by unfold needV; split <;> omega
set_option maxHeartbeats 1000000 in
theorem need_any (n : Int) (w : World) (hn : InI n) : Calls Try.prog 38 #[.int .i64 n] w fun e w' => e = .returned (.int .i64 (needV n)) ∧ w = w' := by
  unfold InI at hn
  by_cases h0 : n < 1
  · have h1 : ¬ 0 < n := by omega
    have e : needV n = 0 := by unfold needV; rw [if_pos h0]
    rw [e]
    by_cases h2 : n < 0
    · go_enter Try.func38, Try.ntmps38
      go_wp2_with fail
      all_goals go_ret
      all_goals exact ⟨by simp <;> omega, rfl⟩
    · obtain rfl : n = 0 := by omega
      go_enter Try.func38, Try.ntmps38
      go_wp2_with fail
      all_goals go_ret
      all_goals exact ⟨by simp, rfl⟩
  · obtain ⟨k, rfl⟩ : ∃ k : Nat, n = k := ⟨n.toNat, by omega⟩
    have h1 : 0 < k := by omega
    have h1' : (0 : Int) < (k : Int) := by omega
    have h2 : ¬ (k : Int) < 0 := by omega
    have e : needV (k : Int) = if k % 32 = 0 then ((k / 32 : Nat) : Int) else ((k / 32 : Nat) : Int) + 1 := by unfold needV; rw [if_neg h0]; split <;> omega
    rw [e]
    by_cases h3 : k % 32 = 0
    · have h4 : ¬ 0 < k % 32 := by omega
      rw [if_pos h3]
      go_enter Try.func38, Try.ntmps38
      go_wp2_with fail
      all_goals go_ret
      all_goals exact ⟨by simp <;> omega, rfl⟩
    · have h4 : 0 < k % 32 := by omega
      have h5 : (0 : Int) < (k : Int) % 32 := by omega
      rw [if_neg h3]
      go_enter Try.func38, Try.ntmps38
      go_wp2_with fail
      all_goals go_ret
      all_goals exact ⟨by simp <;> omega, rfl⟩
end Go.Proofs.Ytelmolblcnolnaa
