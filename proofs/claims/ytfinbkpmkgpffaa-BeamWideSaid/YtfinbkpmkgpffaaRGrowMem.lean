/- Rows that grow beside each other: the document's candidates, their places and scores. No condition. -/
import Derived.Test.YtfinbkpmkgpffaaRGrowW
namespace Go.Proofs.Ytfinbkpmkgpffaa
open Go.RowKit

theorem ownB_lt {w : World} {base n size g : Nat} {e : TypeId} {v : Value} {xs : List Value} (h : w.ownsRow base e size v n xs) (hg : v.ownBlock = some g) : g < w.heap.size ∧ base ≤ g ∧ Blk.ex w g e := by
  rcases h.2 with ⟨h0, _⟩ | ⟨g2, cap, cur, hv, hb, hblk, _⟩
  · rw [h0] at hg
    cases hg
  · rw [hv] at hg
    have h2 : g2 = g := by injection hg
    subst h2
    exact ⟨Blk.lt hblk, hb, ⟨_, hblk⟩⟩
/-- a row of tokens beside a row of ints that grows -/
def TokF (B : Nat) (W : World) (fv v : Value) (l : List Int) : Prop := (RdI W B .i64 v l ∧ Form v) ∨ (W.ownsRow B 3 1 v l.length (l.map (Value.int .i64)) ∧ ∀ g, v.ownBlock = some g → fv.ownBlock ≠ some g)
theorem TokF.tok {B : Nat} {W : World} {fv v : Value} {l : List Int} (h : TokF B W fv v l) : Tok B W v l := h.imp (fun h => h) (fun h => h.1)
theorem TokF.below {B : Nat} {W W' : World} {fv v : Value} {l : List Int} (h : TokF B W fv v l) (hb : Below W.heap.size W W') : TokF B W' fv v l := by
  rcases h with h | h
  · exact .inl ⟨rdi_below h.1 hb, h.2⟩
  · exact .inr ⟨own_below h.1 hb, h.2⟩
theorem TokF.grown {B base n size : Nat} {W W' : World} {fv v u : Value} {l : List Int} {e : TypeId} {xs : List Value} {o : Obj} (h : TokF B W fv v l) (ho : W.ownsRow base e size u n xs) (hB : B ≤ base) (hne : e ≠ 3) (hg : (W.alloc o).grownBy W' u.ownBlock) : TokF B W' fv v l := by
  have hu : Upd (fun k => some k = u.ownBlock) W W' := ((Upd.refl _ W).alloc o).grown hg (fun k hk => .inl hk.symm)
  rcases h with h | h
  · exact .inl ⟨h.1.upd hu (fun k hk => Nat.le_trans hB (ownB_lt ho hk.symm).2.1), h.2⟩
  · exact .inr ⟨own_upd h.1 hu (fun k hk _ _ hb => own_ty3 h.1 ho (Ne.symm hne) hk hb), h.2⟩
theorem TokF.self {B n size : Nat} {W W' : World} {fv fv' v : Value} {l : List Int} {xs : List Value} {o : Obj} (h : TokF B W fv v l) (ho : W.ownsRow B 3 size fv n xs) (hg : (W.alloc o).grownBy W' fv.ownBlock) (hv : fv'.ownBlock = fv.ownBlock ∨ fv'.ownBlock = some (W.alloc o).heap.size) : TokF B W' fv' v l := by
  have hu : Upd (fun k => some k = fv.ownBlock) W W' := ((Upd.refl _ W).alloc o).grown hg (fun k hk => .inl hk.symm)
  rcases h with h | h
  · exact .inl ⟨h.1.upd hu (fun k hk => (ownB_lt ho hk.symm).2.1), h.2⟩
  · refine .inr ⟨own_upd h.1 hu (fun k hk _ _ hb => h.2 k hb hk.symm), fun g hg2 => ?_⟩
    rcases hv with hv | hv
    · rw [hv]
      exact h.2 g hg2
    · rw [hv]
      intro he
      injection he with he
      have h3 := (ownB_lt h.1 hg2).1
      rw [World.size_alloc] at he
      omega
/-- the three rows -/
structure RS (w W : World) (av fv sv : Value) (XA : List Bx) (F S : List Int) : Prop where
  a : W.ownsRow w.heap.size 57 3 av XA.length (XA.flatMap Bx.cells)
  t : ∀ x ∈ XA, TokF w.heap.size W fv x.v x.b.tokens
  f : W.ownsRow w.heap.size 3 1 fv F.length (F.map (Value.int .i64))
  s : W.ownsRow w.heap.size 2 1 sv S.length (S.map (Value.int .i64))
  b : Below w.heap.size w W
theorem own_far3 {W W' : World} {b1 b2 n1 n2 s1 s2 : Nat} {e1 e2 : TypeId} {v1 v2 : Value} {x1 x2 : List Value} {o : Obj} (h1 : W.ownsRow b1 e1 s1 v1 n1 x1) (h2 : W.ownsRow b2 e2 s2 v2 n2 x2) (hne : e1 ≠ e2) (hg : (W.alloc o).grownBy W' v2.ownBlock) : W'.ownsRow b1 e1 s1 v1 n1 x1 :=
  own_upd h1 (((Upd.refl (fun k => some k = v2.ownBlock) W).alloc o).grown hg (fun _ hk => .inl hk.symm)) (fun _ hk _ _ hb => own_ty3 h1 h2 hne hk hb)
section
variable {w W W' : World} {av fv sv av' fv' sv' : Value} {XA : List Bx} {F S : List Int} {o : Obj}
theorem RS.below (h : RS w W av fv sv XA F S) (hb : Below W.heap.size W W') : RS w W' av fv sv XA F S :=
  ⟨own_below h.a hb, fun x hx => (h.t x hx).below hb, own_below h.f hb, own_below h.s hb, h.b.trans (hb.mono h.b.size)⟩
theorem RS.addA (h : RS w W av fv sv XA F S) {x : Bx} (hx : TokF w.heap.size W fv x.v x.b.tokens) (ho : W'.ownsRow w.heap.size 57 3 av' (XA.length + 1) (XA.flatMap Bx.cells ++ x.cells)) (hg : (W.alloc o).grownBy W' av.ownBlock) : RS w W' av' fv sv (XA ++ [x]) F S := by
  refine ⟨by rw [List.length_append, flat3_snoc]; exact ho, fun y hy => ?_, own_far3 h.f h.a (by decide) hg, own_far3 h.s h.a (by decide) hg, (app_upd1 h.a (Upd.of_below (S := fun _ => False) h.b) (Nat.le_refl _) hg).toB⟩
  rcases List.mem_append.1 hy with h1 | h1
  · exact (h.t y h1).grown h.a (Nat.le_refl _) (by decide) hg
  · rw [List.mem_singleton] at h1
    subst h1
    exact hx.grown h.a (Nat.le_refl _) (by decide) hg
theorem RS.addF (h : RS w W av fv sv XA F S) {i : Int} (ho : W'.ownsRow w.heap.size 3 1 fv' (F.length + 1) (F.map (Value.int .i64) ++ [.int .i64 i])) (hg : (W.alloc o).grownBy W' fv.ownBlock) (hv : fv'.ownBlock = fv.ownBlock ∨ fv'.ownBlock = some (W.alloc o).heap.size) : RS w W' av fv' sv XA (F ++ [i]) S :=
  ⟨own_far3 h.a h.f (by decide) hg, fun x hx => (h.t x hx).self h.f hg hv, by rw [List.length_append, List.map_append]; exact ho, own_far3 h.s h.f (by decide) hg, (app_upd1 h.f (Upd.of_below (S := fun _ => False) h.b) (Nat.le_refl _) hg).toB⟩
theorem RS.addS (h : RS w W av fv sv XA F S) {i : Int} (ho : W'.ownsRow w.heap.size 2 1 sv' (S.length + 1) (S.map (Value.int .i64) ++ [.int .i64 i])) (hg : (W.alloc o).grownBy W' sv.ownBlock) : RS w W' av fv sv' XA F (S ++ [i]) :=
  ⟨own_far3 h.a h.s (by decide) hg, fun x hx => (h.t x hx).grown h.s (Nat.le_refl _) (by decide) hg, own_far3 h.f h.s (by decide) hg, by rw [List.length_append, List.map_append]; exact ho, (app_upd1 h.s (Upd.of_below (S := fun _ => False) h.b) (Nat.le_refl _) hg).toB⟩
end
/-- the candidates of one beam, in a block of their own -/
structure CS (B : Nat) (W : World) (av fv : Value) (bc cap : Nat) (Xc : List Bx) : Prop where
  blk : ∃ cur, Blk W bc 57 cur ∧ cur.toList.take (Xc.length * 3) = Xc.flatMap Bx.cells
  sep : av.ownBlock ≠ some bc
  t : ∀ x ∈ Xc, TokF B W fv x.v x.b.tokens
section
variable {B bc cap : Nat} {W W' : World} {av fv av' fv' : Value} {Xc : List Bx} {o : Obj}
theorem CS.lt (h : CS B W av fv bc cap Xc) : bc < W.heap.size := by
  obtain ⟨cur, h1, _⟩ := h.blk
  exact h1.lt
theorem CS.at_ (h : CS B W av fv bc cap Xc) {k : Nat} {x : Bx} (hx : Xc[k]? = some x) : W.cell? ⟨bc, k * 3, none⟩ = some x.v ∧ W.cell? ⟨bc, k * 3 + 1, none⟩ = some (.int .i64 x.b.score) ∧ W.cell? ⟨bc, k * 3 + 2, none⟩ = some (.bool x.b.done) := by
  obtain ⟨cur, h1, h2⟩ := h.blk
  have hk : k < Xc.length := (List.getElem?_eq_some_iff.1 hx).1
  have key : ∀ j, j < 3 → W.cell? ⟨bc, k * 3 + j, none⟩ = x.cells[j]? := fun j hj => by
    have h5 := flat3_get Xc k j x hx hj
    rw [← h2, List.getElem?_take, if_pos (by omega), Array.getElem?_toList] at h5
    rw [h1.cell, h5]
  exact ⟨key 0 (by omega), key 1 (by omega), key 2 (by omega)⟩
theorem CS.below (h : CS B W av fv bc cap Xc) (hb : Below W.heap.size W W') : CS B W' av fv bc cap Xc := by
  obtain ⟨cur, h1, h2⟩ := h.blk
  exact ⟨⟨cur, h1.below hb h1.lt, h2⟩, h.sep, fun x hx => (h.t x hx).below hb⟩
theorem CS.addA (h : CS B W av fv bc cap Xc) {n : Nat} {xs : List Value} (ho : W.ownsRow B 57 3 av n xs) (hg : (W.alloc o).grownBy W' av.ownBlock) (hv : av'.ownBlock = av.ownBlock ∨ av'.ownBlock = some (W.alloc o).heap.size) : CS B W' av' fv bc cap Xc := by
  obtain ⟨cur, h1, h2⟩ := h.blk
  have hu : Upd (fun k => some k = av.ownBlock) W W' := ((Upd.refl _ W).alloc o).grown hg (fun k hk => .inl hk.symm)
  refine ⟨⟨cur, h1.upd hu (fun hk => h.sep hk.symm), h2⟩, ?_, fun x hx => (h.t x hx).grown ho (Nat.le_refl _) (by decide) hg⟩
  rcases hv with hv | hv
  · rw [hv]
    exact h.sep
  · rw [hv, World.size_alloc]
    intro he
    injection he with he
    have := h1.lt
    omega
theorem CS.addF (h : CS B W av fv bc cap Xc) {n : Nat} {xs : List Value} (ho : W.ownsRow B 3 1 fv n xs) (hg : (W.alloc o).grownBy W' fv.ownBlock) (hv : fv'.ownBlock = fv.ownBlock ∨ fv'.ownBlock = some (W.alloc o).heap.size) : CS B W' av fv' bc cap Xc := by
  obtain ⟨cur, h1, h2⟩ := h.blk
  exact ⟨⟨cur, blk_grown h1 ho (by decide) hg, h2⟩, h.sep, fun x hx => (h.t x hx).self ho hg hv⟩
theorem CS.addS (h : CS B W av fv bc cap Xc) {n : Nat} {sv : Value} {xs : List Value} (ho : W.ownsRow B 2 1 sv n xs) (hg : (W.alloc o).grownBy W' sv.ownBlock) : CS B W' av fv bc cap Xc := by
  obtain ⟨cur, h1, h2⟩ := h.blk
  exact ⟨⟨cur, blk_grown h1 ho (by decide) hg, h2⟩, h.sep, fun x hx => (h.t x hx).grown ho (Nat.le_refl _) (by decide) hg⟩
theorem CS.one {w : World} {x : Bx} (hx : TokF B w fv x.v x.b.tokens) {n : Nat} {xs : List Value} (ha : w.ownsRow B 57 3 av n xs) (c0 c1 c2 : Value) (hc : x.cells = [c0, c1, c2]) : CS B (w.alloc (.cells #[c0, c1, c2] 57)) av fv w.heap.size 1 [x] := by
  refine ⟨⟨_, Blk.new w _ _, by simp [hc]⟩, fun he => ?_, fun y hy => ?_⟩
  · have := (ownB_lt ha he).1
    omega
  · rw [List.mem_singleton] at hy
    subst hy
    exact hx.below (below_alloc _ _)
theorem CS.own {w w5 : World} {u : Value} {n : Nat} {xs : List Value} (_hb : Below w.heap.size w w5) (hw : B ≤ w.heap.size) (ha : w.ownsRow B 57 3 av n xs) {m : Nat} {ys : List Value} (hf : w.ownsRow B 3 1 fv m ys) (h : w5.ownsRow w.heap.size 57 3 u Xc.length (Xc.flatMap Bx.cells)) (h0 : 0 < Xc.length) (ht : ∀ x ∈ Xc, w5.ownsRow w.heap.size 3 1 x.v x.b.tokens.length (x.b.tokens.map (Value.int .i64))) :
    ∃ bc cap, u = .slice (some ⟨bc, 0, none⟩) Xc.length cap ∧ CS B w5 av fv bc cap Xc ∧ Xc.length ≤ maxLen := by
  rcases h.2 with ⟨_, h3⟩ | ⟨g, cap, cur, hv, hg, hblk, hc, hm, hz, ht2⟩
  · have := flat3_length Xc
    rw [h3] at this
    simp at this
    omega
  · refine ⟨g, cap, hv, ⟨⟨cur, hblk, ht2⟩, fun he => ?_, fun x hx => .inr ⟨own_base (ht x hx) hw, fun g2 hg2 he => ?_⟩⟩, by omega⟩
    · have := (ownB_lt ha he).1
      omega
    · have h1 := (ownB_lt (ht x hx) hg2).2.1
      have h2 := (ownB_lt hf he).1
      omega
end
end Go.Proofs.Ytfinbkpmkgpffaa
