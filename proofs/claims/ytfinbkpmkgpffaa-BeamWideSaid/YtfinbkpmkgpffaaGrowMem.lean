/- Candidates of beams as they lie in memory. No condition. -/
import Derived.Test.YtfinbkpmkgpffaaBeamWC
import Derived.Test.YtfinbkpmkgpffaaKSortWF
namespace Go.Proofs.Ytfinbkpmkgpffaa
open Go.RowKit

/-- a candidate, and the value of its tokens -/
structure Cx where
  v : Value
  b : Bm
  f : Int
def Cx.cells (x : Cx) : List Value := [x.v, .int .i64 x.b.score, .bool x.b.done, .int .i64 x.f]
def cxs (C : List Cx) : List (Bm × Int) := C.map (fun x => (x.b, x.f))
theorem flat4_length (C : List Cx) : (C.flatMap Cx.cells).length = C.length * 4 := by
  induction C with
  | nil => rfl
  | cons x C ih =>
    rw [List.flatMap_cons, List.length_append, ih]
    simp only [Cx.cells, List.length_cons, List.length_nil]
    omega
/-- a row of candidates of the call's own, from block B on -/
structure OwnC (B : Nat) (W : World) (v : Value) (C : List Cx) : Prop where
  row : W.ownsRow B 73 4 v C.length (C.flatMap Cx.cells)
  tok : ∀ x ∈ C, Tok B W x.v x.b.tokens
theorem OwnC.nil (B : Nat) (W : World) : OwnC B W (.slice none 0 0) [] := ⟨World.ownsRow_nil _ _ _ _, fun x hx => by cases hx⟩
theorem OwnC.below {B : Nat} {W W' : World} {v : Value} {C : List Cx} (h : OwnC B W v C) (hb : Below W.heap.size W W') : OwnC B W' v C := ⟨own_below h.row hb, fun x hx => (h.tok x hx).below hb⟩
theorem OwnC.quiet {B : Nat} {W W' : World} {v : Value} {C : List Cx} (h : OwnC B W v C) (hu : Upd (fun _ => False) W W') : OwnC B W' v C := h.below hu.toB
theorem OwnC.add {B : Nat} {W W' : World} {v v' : Value} {C : List Cx} {x : Cx} {o : Obj} (h : OwnC B W v C) (hx : Tok B W x.v x.b.tokens) (ho : W'.ownsRow B 73 4 v' (C.length + 1) (C.flatMap Cx.cells ++ x.cells)) (hg : (W.alloc o).grownBy W' v.ownBlock) : OwnC B W' v' (C ++ [x]) := by
  refine ⟨by rw [List.length_append, List.flatMap_append]; simpa using ho, fun y hy => ?_⟩
  rcases List.mem_append.1 hy with h1 | h1
  · exact (h.tok y h1).grown h.row (Nat.le_refl _) (by decide) hg
  · rw [List.mem_singleton] at h1
    subst h1
    exact hx.grown h.row (Nat.le_refl _) (by decide) hg
theorem cxs_snoc (C : List Cx) (x : Cx) : cxs (C ++ [x]) = cxs C ++ [(x.b, x.f)] := by simp [cxs]
theorem cxs_length (C : List Cx) : (cxs C).length = C.length := by simp [cxs]
/-- the first k of what a beam that is not done grows into -/
def grownTo (b : Bm) (row : List Int) (length stop i : Int) (k : Nat) : List (Bm × Int) := (List.range k).map (fun j => (grownAt b row length stop j, i))
theorem grownTo_succ (b : Bm) (row : List Int) (length stop i : Int) (k : Nat) : grownTo b row length stop i (k + 1) = grownTo b row length stop i k ++ [(grownAt b row length stop k, i)] := by
  unfold grownTo
  rw [List.range_succ, List.map_append]
  rfl
theorem grownTo_all (b : Bm) (row : List Int) (length stop : Int) (i : Int) : grownTo b row length stop i row.length = (grownV b row length stop).map (fun b => (b, i)) := by
  unfold grownTo grownV
  rw [List.map_map]
  rfl
theorem candTo_done {L : List Bm} {R : List (List Int)} {length stop : Int} {i : Nat} {b : Bm} (h : L[i]? = some b) (hd : b.done = true) : candTo L R length stop (i + 1) = candTo L R length stop i ++ [(b, (i : Int))] := by
  have hg : L.getD i ⟨[], 0, false⟩ = b := by rw [List.getD_eq_getElem?_getD, h]; rfl
  rw [candTo, candOf, hg, if_pos hd]
  rfl
theorem candTo_live {L : List Bm} {R : List (List Int)} {length stop : Int} {i : Nat} {b : Bm} (h : L[i]? = some b) (hd : b.done = false) : candTo L R length stop (i + 1) = candTo L R length stop i ++ grownTo b (R.getD (liveTo L i) []) length stop i (R.getD (liveTo L i) []).length := by
  have hg : L.getD i ⟨[], 0, false⟩ = b := by rw [List.getD_eq_getElem?_getD, h]; rfl
  rw [candTo, candOf, hg, if_neg (by rw [hd]; exact Bool.false_ne_true), grownTo_all]
/-- rows of scores, the first one left out -/
theorem rdrows_tail {W : World} {b o n c b' o' c' : Nat} {R : List (List Int)} (h : RdRows W (.slice (some ⟨b, o, none⟩) n c) R) (hn : 0 < n) (hc : n - 1 ≤ c') (ho : 1 < n → b' = b ∧ o' = o + 1) : RdRows W (.slice (some ⟨b', o', none⟩) (n - 1) c') (R.drop 1) := by
  obtain ⟨A2, c2, h1, h2, h3, h4⟩ := h
  injection h1 with h1 h5 h6
  subst h5 h6
  have hl : (R.drop 1).length = R.length - 1 := List.length_drop
  refine ⟨_, c', by rw [hl], by rw [hl]; exact hc, by rw [hl]; omega, fun i r hr => ?_⟩
  rw [List.getElem?_drop] at hr
  have hi := (List.getElem?_eq_some_iff.1 hr).1
  obtain ⟨b3, o3, u, h7, h8, h9, h10, h11⟩ := h4 (1 + i) r hr
  rw [← h1] at h7
  injection h7 with h7
  injection h7 with h7 h12 _
  subst h7 h12
  obtain ⟨rfl, rfl⟩ := ho (by omega)
  exact ⟨_, _, u, rfl, h8, by rw [Nat.add_assoc]; exact h9, h10, h11⟩
/-! ### the row of candidates as the sort sees it -/
def vAddr : Value → Option Addr
  | .slice a _ _ => a
  | _ => none
def vLen : Value → Nat
  | .slice _ n _ => n
  | _ => 0
def vCap : Value → Nat
  | .slice _ _ c => c
  | _ => 0
def cx0 : Cx := ⟨.slice none 0 0, ⟨[], 0, false⟩, 0⟩
def cxAt (C : List Cx) (x : Int) : Cx := C.getD x.toNat cx0
def ktOf (C : List Cx) (tl : List Value) : KT := ⟨fun x => vAddr (cxAt C x).v, fun x => vLen (cxAt C x).v, fun x => vCap (cxAt C x).v, fun x => (cxAt C x).b.score, fun x => (cxAt C x).b.done, fun x => (cxAt C x).f, tl⟩
theorem form_slice {v : Value} (h : Form v) : v = .slice (vAddr v) (vLen v) (vCap v) := by
  rcases h with rfl | ⟨a, n, c, rfl⟩ <;> rfl
theorem kt_cells {C : List Cx} (hf : ∀ x ∈ C, Form x.v) (tl : List Value) {i : Nat} (hi : i < C.length) : (ktOf C tl).cells (i : Int) = C[i].cells := by
  have e : cxAt C (i : Int) = C[i] := by
    unfold cxAt
    rw [Int.toNat_natCast, List.getD_eq_getElem?_getD, List.getElem?_eq_getElem hi]
    rfl
  have h := form_slice (hf _ (List.getElem_mem hi))
  unfold KT.cells KT.t ktOf Cx.cells
  simp only [e]
  rw [← h]
theorem kt_row {C : List Cx} (hf : ∀ x ∈ C, Form x.v) (tl : List Value) : (iota C.length).flatMap (ktOf C tl).cells = C.flatMap Cx.cells := by
  have h : ∀ n, n ≤ C.length → (iota n).flatMap (ktOf C tl).cells = (C.take n).flatMap Cx.cells := by
    intro n
    induction n with
    | zero => intro _; rfl
    | succ n ih =>
      intro hn
      have hi : n < C.length := hn
      rw [iota_succ, List.flatMap_append, ih (by omega), take_snoc_bm C (List.getElem?_eq_getElem hi), List.flatMap_append]
      simp [kt_cells hf tl hi]
  rw [h _ (Nat.le_refl _), List.take_length]
theorem own_rowk {B : Nat} {W : World} {v : Value} {C : List Cx} (h : OwnC B W v C) (h0 : 0 < C.length) : ∃ g c tl, v = .slice (some ⟨g, 0, none⟩) C.length c ∧ C.length ≤ c ∧ B ≤ g ∧ Blk W g 73 (rowk (ktOf C tl) (iota C.length)) ∧ C.length ≤ maxLen := by
  have hf : ∀ x ∈ C, Form x.v := fun x hx => (h.tok x hx).form
  obtain ⟨hl, h2⟩ := h.row
  rcases h2 with ⟨_, h3⟩ | ⟨g, cap, cur, hv, hg, hblk, hc, hm, hz, ht⟩
  · have := flat4_length C
    rw [h3] at this
    simp at this
    omega
  · refine ⟨g, cap, cur.toList.drop (C.length * 4), hv, hc, hg, ?_, by omega⟩
    have e : rowk (ktOf C (cur.toList.drop (C.length * 4))) (iota C.length) = cur := by
      unfold rowk
      rw [kt_row hf, ← ht]
      show (cur.toList.take (C.length * 4) ++ cur.toList.drop (C.length * 4)).toArray = cur
      rw [List.take_append_drop]
    rw [e]
    exact hblk
theorem scoresOf_at {C : List Cx} (x : Int) : (scoresOf (cxs C)).getD x.toNat 0 = (cxAt C x).b.score := by
  unfold scoresOf cxs cxAt
  rw [List.map_map, List.getD_eq_getElem?_getD, List.getD_eq_getElem?_getD, List.getElem?_map]
  cases C[x.toNat]? <;> rfl
set_option maxHeartbeats 800000 in
theorem grow1_any (W : World) (a1 a2 : Option Addr) (n1 c1 n2 c2 : Nat) (s1 s2 : Int) (d1 d2 : Bool) (f1 f2 : Int) :
    Calls Try.prog 53 #[.agg #[.slice a1 n1 c1, .int .i64 s1, .bool d1, .int .i64 f1], .agg #[.slice a2 n2 c2, .int .i64 s2, .bool d2, .int .i64 f2]] W (fun e W' => e = .returned (.int .i64 (cmp3 s2 s1)) ∧ Upd (fun _ => False) W W') := by
  have HC := fun W => hid_ (compare_any W s2 s1)
  have HU : ∀ q, Hid (Upd (fun _ => False) W (((W.alloc (.cells #[.slice a1 n1 c1, .int .i64 s1, .bool d1, .int .i64 f1] 73)).alloc (.cells #[.slice a2 n2 c2, .int .i64 s2, .bool d2, .int .i64 f2] 73)).drewN q)) := fun q => (((Upd.refl _ W).alloc _).alloc _).drewN q
  go_enter Try.func53, Try.ntmps53
  go_wp2_with ((go_at_call 47); (refine (HC _).out.mono ?_); (rintro e w1 ⟨rfl, q, rfl⟩))
  go_ret
  exact ⟨rfl, (HU _).out⟩
theorem cmpk_pays {C : List Cx} {tl : List Value} (blk : Nat) (W : World) : CmpK (ktOf C tl) (cfx (scoresOf (cxs C))) (fun i => 0 ≤ i ∧ i < (C.length : Int)) blk W := by
  intro W' _ x y _ _
  have e : cfx (scoresOf (cxs C)) x y = cmp3 (cxAt C y).b.score (cxAt C x).b.score := by
    unfold cfx
    rw [scoresOf_at, scoresOf_at]
  rw [e]
  exact grow1_any W' _ _ _ _ _ _ _ _ _ _ _ _
set_option maxHeartbeats 800000 in
theorem ksortStable_any {w : World} {kt : KT} {blk c : Nat} {d : List Int} {cf : Int → Int → Int} {dom : Int → Prop} (h00 : 0 < d.length → dom 0) (h : Blk w blk 73 (rowk kt d)) (hq : CmpK kt cf dom blk w) (hd : ∀ x ∈ d, dom x) (hm : d.length < 1152921504606846976) :
    Calls Try.prog 52 #[.slice (some ⟨blk, 0, none⟩) d.length c, kcmpv] w (RowkPost kt w blk 73 (stab cf d)) := by
  have hS := hid_ (kstable_any (c := c) h00 h hq hd hm)
  unfold kcmpv at hS ⊢
  clear h hq hd h00
  go_enter Try.func52, Try.ntmps52
  go_wp2_with (go_at_call 69; refine hS.out.mono ?_; rintro e w1 ⟨rfl, hB1, hO1⟩; (have HB1 := hid_ hB1); (have HO1 := hid_ hO1); clear hB1 hO1)
  go_end0
  exact ⟨rfl, HB1.out, HO1.out⟩
/-- the candidates, sorted -/
theorem sorted_any {B : Nat} {w : World} {v : Value} {C : List Cx} (h : OwnC B w v C) (h0 : 0 < C.length) (hn : C.length < 1000000000000000) : ∃ g c tl, v = .slice (some ⟨g, 0, none⟩) C.length c ∧ C.length ≤ c ∧ B ≤ g ∧
    Calls Try.prog 52 #[.slice (some ⟨g, 0, none⟩) C.length c, kcmpv] w (RowkPost (ktOf C tl) w g 73 (order (scoresOf (cxs C)))) := by
  obtain ⟨g, c, tl, h1, h2, h3, h4, h5⟩ := own_rowk h h0
  refine ⟨g, c, tl, h1, h2, h3, ?_⟩
  have hs := ksortStable_any (c := c) (dom := fun i => 0 ≤ i ∧ i < (C.length : Int)) (fun _ => ⟨by omega, by omega⟩) h4 (cmpk_pays g w) (iota_dom C.length) (by rw [iota_length]; omega)
  rw [iota_length] at hs
  have e : order (scoresOf (cxs C)) = stab (cfx (scoresOf (cxs C))) (iota C.length) := by
    unfold order
    rw [scoresOf_length, cxs_length]
  rw [e]
  exact hs
end Go.Proofs.Ytfinbkpmkgpffaa
