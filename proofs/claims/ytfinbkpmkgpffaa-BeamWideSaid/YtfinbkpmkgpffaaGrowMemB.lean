/- Rows of beams that are made and filled; a copy of tokens, walked. Conditions: tokens are read in a slice, and are not many. -/
import Derived.Test.YtfinbkpmkgpffaaGrowMem
import Derived.Lib.LazyBuf
namespace Go.Proofs.Ytfinbkpmkgpffaa
open Go.RowKit

def bx0 : Bx := ⟨.slice none 0 0, ⟨[], 0, false⟩⟩
def flatB (X : List Bx) : Array Value := (X.flatMap Bx.cells).toArray
theorem flatB_size (X : List Bx) : (flatB X).size = X.length * 3 := by
  unfold flatB
  rw [List.size_toArray, flat3_length]
theorem flatB_rep (m : Nat) (j : Nat) (hj : j < m * 3) : (flatB (List.replicate m bx0))[j]? = some (([.slice none 0 0, .int .i64 0, .bool false] : List Value).getD (j % 3) undef) := by
  have h := flat3_get (List.replicate m bx0) (j / 3) (j % 3) bx0 (by rw [List.getElem?_replicate, if_pos (by omega)]) (by omega)
  have e : j / 3 * 3 + j % 3 = j := by omega
  rw [e] at h
  unfold flatB
  rw [List.getElem?_toArray, h]
  have h3 : j % 3 = 0 ∨ j % 3 = 1 ∨ j % 3 = 2 := by omega
  rcases h3 with h3 | h3 | h3 <;> rw [h3] <;> rfl
set_option maxRecDepth 100000 in
theorem make_beams (w : World) (n : Nat) (hn : n ≤ 4294967296) : (Instr.makeSlice 45 (.int .i64 (n : Int)) (.int .i64 (n : Int))).run Try.prog w = .ok (.slice (some ⟨w.heap.size, 0, none⟩) n n) (w.alloc (.cells (flatB (List.replicate n bx0)) 55)) := by
  obtain ⟨i0, hi0, hz0, hz1, hz2⟩ := info_parts Try.infoBeam
  have h := run_make (P := Try.prog) w 45 55 i0 _ Try.underlying45 hi0 hz0 .i64 .i64 (n : Int) (n : Int) (by omega) (by omega) (by rw [hz2]; omega) (by omega)
  have e : madeCells (Value.cells (.agg #[.slice none 0 0, .int .i64 0, .bool false])) ((n : Int).toNat * i0.size) = flatB (List.replicate n bx0) := by
    rw [hz1, Int.toNat_natCast]
    apply Array.ext'
    apply List.ext_getElem?
    intro j
    rw [Array.getElem?_toList, Array.getElem?_toList]
    rcases Nat.lt_or_ge j (n * 3) with h1 | h1
    · rw [flatB_rep n j h1]
      have h3 : j % 3 = 0 ∨ j % 3 = 1 ∨ j % 3 = 2 := by omega
      rcases h3 with h3 | h3 | h3 <;> simp [madeCells, Value.cells, h1, h3]
    · rw [Array.getElem?_eq_none (by simp [madeCells]; omega), Array.getElem?_eq_none (by rw [flatB_size]; simp; omega)]
  rw [h, e, Int.toNat_natCast]
theorem flat3_set : ∀ (X : List Bx) (i : Nat) (y : Bx), i < X.length → (((X.flatMap Bx.cells).set (i * 3) y.v).set (i * 3 + 1) (.int .i64 y.b.score)).set (i * 3 + 2) (.bool y.b.done) = (X.set i y).flatMap Bx.cells
  | [], i, y, h => absurd h (by simp)
  | x :: X, 0, y, _ => by simp [Bx.cells]
  | x :: X, i + 1, y, h => by
    have e := flat3_set X i y (by simpa using h)
    rw [List.set_cons_succ, List.flatMap_cons, List.flatMap_cons, ← e]
    have e4 : (i + 1) * 3 = i * 3 + 3 := by omega
    rw [e4]
    simp [Bx.cells]
theorem flatB_set3 {w : World} {b t : Nat} {X : List Bx} (h : Blk w b t (flatB X)) {i : Nat} (hi : i < X.length) (y : Bx) : Blk (((w.setCell ⟨b, i * 3, none⟩ y.v).setCell ⟨b, i * 3 + 1, none⟩ (.int .i64 y.b.score)).setCell ⟨b, i * 3 + 2, none⟩ (.bool y.b.done)) b t (flatB (X.set i y)) := by
  have h4 := ((h.set_ (i * 3) y.v).set_ (i * 3 + 1) (.int .i64 y.b.score)).set_ (i * 3 + 2) (.bool y.b.done)
  have e : (((flatB X).setIfInBounds (i * 3) y.v).setIfInBounds (i * 3 + 1) (.int .i64 y.b.score)).setIfInBounds (i * 3 + 2) (.bool y.b.done) = flatB (X.set i y) := by
    unfold flatB
    rw [← flat3_set X i y hi]
    simp
  rw [e] at h4
  exact h4
theorem flat3_setv : ∀ (X : List Bx) (i : Nat) (x : Bx) (v : Value), X[i]? = some x → (X.flatMap Bx.cells).set (i * 3) v = (X.set i ⟨v, x.b⟩).flatMap Bx.cells
  | [], i, x, v, h => by cases h
  | y :: X, 0, x, v, h => by
    injection h with h
    subst h
    simp [Bx.cells]
  | y :: X, i + 1, x, v, h => by
    have e := flat3_setv X i x v (by simpa using h)
    rw [List.set_cons_succ, List.flatMap_cons, List.flatMap_cons, ← e]
    have e4 : (i + 1) * 3 = i * 3 + 3 := by omega
    rw [e4]
    simp [Bx.cells]
theorem flatB_setv {w : World} {b t : Nat} {X : List Bx} (h : Blk w b t (flatB X)) {i : Nat} {x : Bx} (hi : X[i]? = some x) (v : Value) : Blk (w.setCell ⟨b, i * 3, none⟩ v) b t (flatB (X.set i ⟨v, x.b⟩)) := by
  have h4 := h.set_ (i * 3) v
  have e : (flatB X).setIfInBounds (i * 3) v = flatB (X.set i ⟨v, x.b⟩) := by
    unfold flatB
    rw [← flat3_setv X i x v hi]
    simp
  rw [e] at h4
  exact h4
/-- the first ones set, the others as they were made -/
def fillB (X : List Bx) (m : Nat) : List Bx := X ++ List.replicate (m - X.length) bx0
theorem fillB_set {X : List Bx} {m : Nat} (h : X.length < m) (y : Bx) : (fillB X m).set X.length y = fillB (X ++ [y]) m := by
  unfold fillB
  obtain ⟨q, hq⟩ : ∃ q, m - X.length = q + 1 := ⟨m - X.length - 1, by omega⟩
  have e : m - (X ++ [y]).length = q := by rw [List.length_append, List.length_singleton]; omega
  rw [hq, e, List.replicate_succ, List.set_append_right _ _ (Nat.le_refl _)]
  simp
theorem fillB_length {X : List Bx} {m : Nat} (h : X.length ≤ m) : (fillB X m).length = m := by
  unfold fillB
  rw [List.length_append, List.length_replicate]
  omega
theorem fillB_nil (m : Nat) : fillB [] m = List.replicate m bx0 := by simp [fillB]
theorem fillB_all (X : List Bx) : fillB X X.length = X := by simp [fillB]
def fillI (l : List Int) (m : Nat) : List Int := l ++ List.replicate (m - l.length) 0
theorem fillI_set {l : List Int} {m : Nat} (h : l.length < m) (y : Int) : (fillI l m).set l.length y = fillI (l ++ [y]) m := by
  unfold fillI
  obtain ⟨q, hq⟩ : ∃ q, m - l.length = q + 1 := ⟨m - l.length - 1, by omega⟩
  have e : m - (l ++ [y]).length = q := by rw [List.length_append, List.length_singleton]; omega
  rw [hq, e, List.replicate_succ, List.set_append_right _ _ (Nat.le_refl _)]
  simp
theorem fillI_length {l : List Int} {m : Nat} (h : l.length ≤ m) : (fillI l m).length = m := by
  unfold fillI
  rw [List.length_append, List.length_replicate]
  omega
theorem fillI_nil (m : Nat) : fillI [] m = List.replicate m 0 := by simp [fillI]
theorem fillI_all (l : List Int) : fillI l l.length = l := by simp [fillI]
theorem cand_pos {L : List Bm} {R : List (List Int)} (length stop : Int) (h0 : 0 < L.length) (hl : liveTo L L.length = R.length) (hf : allFull R = true) : 0 < (candV L R length stop).length := by
  unfold candV
  obtain ⟨k, hk⟩ : ∃ k, L.length = k + 1 := ⟨L.length - 1, by omega⟩
  have hb := List.getElem?_eq_getElem (show k < L.length by omega)
  rw [hk]
  cases hd : L[k].done with
  | true =>
    rw [candTo_done hb hd, List.length_append, List.length_singleton]
    omega
  | false =>
    have h1 := liveTo_lt hb hd
    have h2 := allFull_at hf (k := liveTo L k) (by omega)
    rw [candTo_live hb hd, List.length_append]
    unfold grownTo
    rw [List.length_map, List.length_range]
    omega
theorem pickC_at {C : List Cx} {j : Nat} (h : j < C.length) : pickC (cxs C) (j : Int) = (C[j].b, C[j].f) := by
  unfold pickC cxs
  rw [Int.toNat_natCast, List.getD_eq_getElem?_getD, List.getElem?_map, List.getElem?_eq_getElem h]
  rfl
set_option maxRecDepth 100000 in
set_option maxHeartbeats 800000 in
theorem clone_any {w : World} {v : Value} {l : List Int} (hv : RdI w w.heap.size .i64 v l) (hf : Form v) (hn : l.length < 1000000) :
    Calls Try.prog 54 #[v] w (fun e w' => ∃ v', e = .returned v' ∧ w'.ownsRow w.heap.size 3 1 v' l.length (l.map (Value.int .i64)) ∧ Below w.heap.size w w') := by
  obtain ⟨j0, hj0, jz0, jz1, jz2⟩ := info_parts Try.infoInt
  rcases hf with rfl | ⟨a, n, c, rfl⟩
  · have hl : l = [] := by
      have := (rdi_len hv).1
      exact List.length_eq_zero_iff.1 this
    subst hl
    clear hv
    have hq := fun w => Lib.run_eql_slice_nil (P := Try.prog) w 32 3 none 0 0 0 0 Try.underlying32
    go_enter Try.func54, Try.ntmps54
    go_wp2_with fail
    go_ret
    exact ⟨_, rfl, World.ownsRow_nil _ _ _ _, Below.refl _ _⟩
  · have HV := hid_ hv
    have HF : Hid (Form (.slice (some a) n c)) := .inr ⟨_, _, _, rfl⟩
    have HO := hid_ (own_empty_ w 3)
    have hl := (rdi_len hv).1
    clear hv
    subst hl
    have hq := fun w => Lib.run_eql_slice_nil (P := Try.prog) w 32 3 (some a) l.length c 0 0 Try.underlying32
    go_enter Try.func54, Try.ntmps54
    go_wp2_with (at_builtin; refine wpList_append_rd rfl (.tmp 5) (.tmp 6) 32 rfl w.heap.size 3 j0 (.int .i64 0) 8 Try.underlying32 hj0 jz0 jz1 jz2 rfl _ 0 [] rfl HO.out _ _ (l.map (Value.int .i64)) rfl (rdi_below HV.out ((Upd.refl (fun _ => False) w).alloc _).toB) HF.out (ints_one _) ?c3 ?c4 ?c5 ?_)
    case c3 => unfold maxLen; (try simp) <;> omega
    case c4 => (try simp) <;> omega
    case c5 => first | omega | (simp; done) | (simp; omega)
    intro v6 w6 h6 hg6
    have HB6 : Hid (Below w.heap.size w w6) := ((Upd.grown (S := fun _ => False) ((Upd.refl _ w).alloc _) hg6 (fun g h => .inr (by
      have h9 : some w.heap.size = some g := h
      injection h9 with h9
      omega)))).toB
    have HO6 : Hid (w6.ownsRow w.heap.size 3 1 v6 l.length (l.map (Value.int .i64))) := hid_ (by simpa using h6)
    clear h6 hg6
    go_wp2_with fail
    go_ret
    exact ⟨_, rfl, HO6.out, HB6.out⟩
theorem cand_tok {L : List Bm} {R : List (List Int)} {length stop : Int} {N : Nat} (hN : 1 ≤ N) (h : ∀ b ∈ L, b.tokens.length < N) : ∀ i, ∀ p ∈ candTo L R length stop i, p.1.tokens.length ≤ N
  | 0, p, hp => by cases hp
  | i + 1, p, hp => by
    rw [candTo] at hp
    rcases List.mem_append.1 hp with h1 | h1
    · exact cand_tok hN h i p h1
    · obtain ⟨b, hb, rfl⟩ := List.mem_map.1 h1
      have h0 : (L.getD i ⟨[], 0, false⟩).tokens.length < N := by
        rw [List.getD_eq_getElem?_getD]
        rcases Nat.lt_or_ge i L.length with h2 | h2
        · rw [List.getElem?_eq_getElem h2]
          exact h _ (List.getElem_mem h2)
        · rw [List.getElem?_eq_none h2]
          exact hN
      unfold candOf at hb
      split at hb
      · rw [List.mem_singleton] at hb
        subst hb
        exact Nat.le_of_lt h0
      · unfold grownV at hb
        obtain ⟨j, _, rfl⟩ := List.mem_map.1 hb
        show (_ ++ [(j : Int)]).length ≤ N
        rw [List.length_append, List.length_singleton]
        omega
theorem fillB_get {Y : List Bx} {y : Bx} {m : Nat} : (fillB (Y ++ [y]) m)[Y.length]? = some y := by
  unfold fillB
  rw [List.append_assoc, List.getElem?_append_right (Nat.le_refl _)]
  simp
theorem fillB_set2 {Y : List Bx} {y y' : Bx} {m : Nat} : (fillB (Y ++ [y]) m).set Y.length y' = fillB (Y ++ [y']) m := by
  unfold fillB
  rw [List.append_assoc, List.append_assoc, List.set_append_right _ _ (Nat.le_refl _)]
  simp
theorem fillB_get0 {Y : List Bx} {m : Nat} (h : Y.length < m) : (fillB Y m)[Y.length]? = some bx0 := by
  unfold fillB
  rw [List.getElem?_append_right (Nat.le_refl _), Nat.sub_self, List.getElem?_replicate, if_pos (by omega)]
theorem take_ord {ord : List Int} {k j : Nat} (h : k < ord.length) (hj : ord.getD k 0 = (j : Int)) {α : Type} (f : Int → α) : (ord.take (k + 1)).map f = (ord.take k).map f ++ [f (j : Int)] := by
  rw [take_snoc_bm ord (List.getElem?_eq_getElem h), List.map_append]
  have e : ord[k] = (j : Int) := by rw [← hj, List.getD_eq_getElem?_getD, List.getElem?_eq_getElem h]; rfl
  rw [e]
  rfl
end Go.Proofs.Ytfinbkpmkgpffaa
