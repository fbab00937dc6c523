/- Beams and rows of scores as they lie in memory. No condition. -/
import Derived.Test.YtfinbkpmkgpffaaBeamLaw
import Derived.Test.YtfinbkpmkgpffaaGrow
import Derived.Test.YtfinbkpmkgpffaaArgs
namespace Go.Proofs.Ytfinbkpmkgpffaa
open Go.RowKit

/-- a beam, and the value of its tokens -/
structure Bx where
  v : Value
  b : Bm
def Bx.cells (x : Bx) : List Value := [x.v, .int .i64 x.b.score, .bool x.b.done]
def bms (X : List Bx) : List Bm := X.map (·.b)
/-- the slice v reads as the beams X: each cell is there, and its tokens are read -/
def RdBms (W : World) (v : Value) (X : List Bx) : Prop :=
  ∃ (A : Option Addr) (c : Nat), v = .slice A X.length c ∧ X.length ≤ c ∧ X.length ≤ maxLen ∧
    ∀ (i : Nat) (x : Bx), X[i]? = some x → (∃ b o, A = some ⟨b, o, none⟩ ∧ b < W.heap.size ∧ W.rangeAt b (o + i * 3) x.cells) ∧ RdI W W.heap.size .i64 x.v x.b.tokens ∧ Form x.v
theorem rdbms_below {W W' : World} {v : Value} {X : List Bx} (h : RdBms W v X) (hb : Below W.heap.size W W') : RdBms W' v X := by
  obtain ⟨A, c, h1, h2, h3, h4⟩ := h
  refine ⟨A, c, h1, h2, h3, fun i x hx => ?_⟩
  obtain ⟨⟨b, o, h5, h6, h7⟩, h8, h9⟩ := h4 i x hx
  exact ⟨⟨b, o, h5, Nat.lt_of_lt_of_le h6 hb.size, fun j u hj => (hb.cell (p := ⟨b, o + i * 3 + j, none⟩) h6).trans (h7 j u hj)⟩, Rd.upd (Rd.more h8 hb.size) (Upd.of_below (S := fun _ => False) hb) (fun _ h => h.elim), h9⟩
theorem rdbms_drawn {W : World} {v : Value} {X : List Bx} (h : RdBms W v X) (q : Nat) : RdBms (W.drewN q) v X := rdbms_below h (below_drawn ⟨q, rfl⟩)
theorem rdbms_len {W : World} {A : Option Addr} {n c : Nat} {X : List Bx} (h : RdBms W (.slice A n c) X) : X.length = n ∧ n ≤ c ∧ n ≤ maxLen := by
  obtain ⟨A', c', h1, h2, h3, _⟩ := h
  injection h1 with _ h5 h6
  subst h5 h6
  exact ⟨rfl, h2, h3⟩
theorem rdbms_form {W : World} {v : Value} {X : List Bx} (h : RdBms W v X) : ∃ A c, v = .slice A X.length c ∧ X.length ≤ c ∧ X.length ≤ maxLen := by
  obtain ⟨A, c, h1, h2, h3, _⟩ := h
  exact ⟨A, c, h1, h2, h3⟩
/-- the cells of one of them -/
structure BmAt (W : World) (A : Option Addr) (i : Nat) (x : Bx) : Prop where
  ex : ∃ b o, A = some ⟨b, o, none⟩ ∧ b < W.heap.size ∧ W.cell? ⟨b, o + i * 3, none⟩ = some x.v ∧ W.cell? ⟨b, o + i * 3 + 1, none⟩ = some (.int .i64 x.b.score) ∧ W.cell? ⟨b, o + i * 3 + 2, none⟩ = some (.bool x.b.done)
  tok : RdI W W.heap.size .i64 x.v x.b.tokens
  form : Form x.v
theorem rdbms_at {W : World} {A : Option Addr} {n c : Nat} {X : List Bx} (h : RdBms W (.slice A n c) X) {i : Nat} {x : Bx} (hx : X[i]? = some x) : BmAt W A i x := by
  obtain ⟨A', c', h1, _, _, h4⟩ := h
  injection h1 with h5 _ _
  subst h5
  obtain ⟨⟨b, o, h5, h6, h7⟩, h8, h9⟩ := h4 i x hx
  exact ⟨⟨b, o, h5, h6, h7 0 _ rfl, h7 1 _ rfl, h7 2 _ rfl⟩, h8, h9⟩
theorem bx_get {X : List Bx} {i : Nat} (h : i < X.length) : ∃ x, X[i]? = some x ∧ (bms X)[i]? = some x.b ∧ (bms X).getD i ⟨[], 0, false⟩ = x.b := by
  refine ⟨X[i], List.getElem?_eq_getElem h, ?_, ?_⟩
  · unfold bms; rw [List.getElem?_map, List.getElem?_eq_getElem h]; rfl
  · unfold bms; rw [List.getD_eq_getElem?_getD, List.getElem?_map, List.getElem?_eq_getElem h]; rfl
theorem bms_length (X : List Bx) : (bms X).length = X.length := by simp [bms]
/-- rows of scores -/
def RdRows (W : World) (v : Value) (R : List (List Int)) : Prop :=
  ∃ (A : Option Addr) (c : Nat), v = .slice A R.length c ∧ R.length ≤ c ∧ R.length ≤ maxLen ∧
    ∀ (i : Nat) (r : List Int), R[i]? = some r → ∃ b o u, A = some ⟨b, o, none⟩ ∧ b < W.heap.size ∧ W.cell? ⟨b, o + i, none⟩ = some u ∧ RdI W W.heap.size .i64 u r ∧ Form u
theorem rdrows_below {W W' : World} {v : Value} {R : List (List Int)} (h : RdRows W v R) (hb : Below W.heap.size W W') : RdRows W' v R := by
  obtain ⟨A, c, h1, h2, h3, h4⟩ := h
  refine ⟨A, c, h1, h2, h3, fun i r hr => ?_⟩
  obtain ⟨b, o, u, h5, h6, h7, h8, h9⟩ := h4 i r hr
  exact ⟨b, o, u, h5, Nat.lt_of_lt_of_le h6 hb.size, (hb.cell (p := ⟨b, o + i, none⟩) h6).trans h7, Rd.upd (Rd.more h8 hb.size) (Upd.of_below (S := fun _ => False) hb) (fun _ h => h.elim), h9⟩
theorem rdrows_len {W : World} {A : Option Addr} {n c : Nat} {R : List (List Int)} (h : RdRows W (.slice A n c) R) : R.length = n ∧ n ≤ c ∧ n ≤ maxLen := by
  obtain ⟨A', c', h1, h2, h3, _⟩ := h
  injection h1 with _ h5 h6
  subst h5 h6
  exact ⟨rfl, h2, h3⟩
theorem rdrows_at {W : World} {A : Option Addr} {n c : Nat} {R : List (List Int)} (h : RdRows W (.slice A n c) R) {i : Nat} (hi : i < R.length) : ∃ b o A' c', A = some ⟨b, o, none⟩ ∧ b < W.heap.size ∧ W.cell? ⟨b, o + i, none⟩ = some (.slice A' (R.getD i []).length c') ∧ RdI W W.heap.size .i64 (.slice A' (R.getD i []).length c') (R.getD i []) := by
  obtain ⟨A', c', h1, _, _, h4⟩ := h
  injection h1 with h5 _ _
  subst h5
  have hg : R[i]? = some (R.getD i []) := by rw [List.getD_eq_getElem?_getD, List.getElem?_eq_getElem hi]; rfl
  obtain ⟨b, o, u, h5, h6, h7, h8, h9⟩ := h4 i _ hg
  obtain ⟨A2, c2, rfl, _⟩ := RdI.form h8
  exact ⟨b, o, A2, c2, h5, h6, h7, h8⟩
/-- a row of tokens: older than block B, or of the call's own -/
def Tok (B : Nat) (W : World) (v : Value) (l : List Int) : Prop := (RdI W B .i64 v l ∧ Form v) ∨ W.ownsRow B 3 1 v l.length (l.map (Value.int .i64))
theorem own_formV {w : World} {base n size : Nat} {e : TypeId} {v : Value} {xs : List Value} (h : w.ownsRow base e size v n xs) : Form v := by
  rcases h.2 with ⟨h0, _⟩ | ⟨g, cap, cur, hv, _⟩
  · exact .inl h0
  · exact .inr ⟨_, _, _, hv⟩
theorem Tok.form {B : Nat} {W : World} {v : Value} {l : List Int} (h : Tok B W v l) : Form v := by
  rcases h with h | h
  · exact h.2
  · exact own_formV h
theorem rdi_low {w : World} {B : Nat} {v : Value} {k : IntKind} {xs : List Int} (h : RdI w B k v xs) : RdI w w.heap.size k v xs := by
  obtain ⟨A, c, h1, h2, h3, h4⟩ := h
  exact ⟨A, c, h1, h2, h3, fun h0 => by obtain ⟨b, o, a1, a2, a3, a4⟩ := h4 h0; exact ⟨b, o, a1, a3, a3, a4⟩⟩
theorem Tok.rd {B : Nat} {W : World} {v : Value} {l : List Int} (h : Tok B W v l) : RdI W W.heap.size .i64 v l := by
  rcases h with h | h
  · exact rdi_low h.1
  · exact Rd.of_own h
theorem Tok.upd {B : Nat} {W W' : World} {v : Value} {l : List Int} {S : Nat → Prop} (h : Tok B W v l) (hu : Upd S W W') (h1 : ∀ k, S k → B ≤ k) (h2 : ∀ k, S k → ¬ Blk.ex W k 3) : Tok B W' v l := by
  rcases h with h | h
  · exact .inl ⟨h.1.upd hu h1, h.2⟩
  · refine .inr (own_upd h hu (fun k hk _ _ hb => ?_))
    rcases h.2 with ⟨h0, _⟩ | ⟨g, cap, cur, hv, _, hblk, _⟩
    · rw [h0] at hb
      cases hb
    · rw [hv] at hb
      have hg : g = k := by injection hb
      subst hg
      exact h2 g hk ⟨_, hblk⟩
theorem Tok.below {B : Nat} {W W' : World} {v : Value} {l : List Int} (h : Tok B W v l) (hb : Below W.heap.size W W') : Tok B W' v l := h.upd (Upd.of_below (S := fun _ => False) hb) (fun _ h => h.elim) (fun _ h => h.elim)
/-- a row of another type that grows leaves it as it was -/
theorem Tok.grown {B base n size : Nat} {W W' : World} {v u : Value} {l : List Int} {e : TypeId} {xs : List Value} {o : Obj} (h : Tok B W v l) (ho : W.ownsRow base e size u n xs) (hB : B ≤ base) (hne : e ≠ 3) (hg : (W.alloc o).grownBy W' u.ownBlock) : Tok B W' v l := by
  refine h.upd (S := fun k => some k = u.ownBlock) (((Upd.refl _ W).alloc o).grown hg (fun k hk => .inl hk.symm)) (fun k hk => Nat.le_trans hB (own_ge ho hk.symm)) (fun k hk hex => ?_)
  rcases ho.2 with ⟨h0, _⟩ | ⟨g, cap, cur, hv, _, hblk, _⟩
  · rw [h0] at hk
    cases hk
  · rw [hv] at hk
    have hg : k = g := by injection hk
    subst hg
    exact Blk.ex_ne ⟨_, hblk⟩ hex hne rfl
/-- a row of beams of the call's own -/
structure OwnB (B : Nat) (W : World) (e : TypeId) (v : Value) (X : List Bx) : Prop where
  row : W.ownsRow B e 3 v X.length (X.flatMap Bx.cells)
  tok : ∀ x ∈ X, Tok B W x.v x.b.tokens
theorem flat3_get : ∀ (X : List Bx) (i j : Nat) (x : Bx), X[i]? = some x → j < 3 → (X.flatMap Bx.cells)[i * 3 + j]? = x.cells[j]?
  | [], i, j, x, h, _ => by cases h
  | y :: X, 0, j, x, h, hj => by
    injection h with h
    subst h
    rw [List.flatMap_cons, List.getElem?_append_left (by simp [Bx.cells]; omega)]
    simp
  | y :: X, i + 1, j, x, h, hj => by
    rw [List.flatMap_cons, List.getElem?_append_right (by simp [Bx.cells]; omega)]
    have e : (i + 1) * 3 + j - y.cells.length = i * 3 + j := by simp [Bx.cells]; omega
    rw [e]
    exact flat3_get X i j x (by simpa using h) hj
theorem flat3_length (X : List Bx) : (X.flatMap Bx.cells).length = X.length * 3 := by
  induction X with
  | nil => rfl
  | cons x X ih =>
    rw [List.flatMap_cons, List.length_append, ih]
    simp only [Bx.cells, List.length_cons, List.length_nil]
    omega
theorem OwnB.rd {B : Nat} {W : World} {e : TypeId} {v : Value} {X : List Bx} (h : OwnB B W e v X) : RdBms W v X := by
  obtain ⟨hl, h2⟩ := h.row
  rcases h2 with ⟨h0, h3⟩ | ⟨g, cap, cur, hv, hg, hblk, hc, hm, hz, ht⟩
  · have hx : X.length = 0 := by
      have := flat3_length X
      rw [h3] at this
      simp at this
      omega
    have hX : X = [] := List.length_eq_zero_iff.1 hx
    subst hX
    exact ⟨none, 0, h0, Nat.le_refl _, Nat.zero_le _, fun i x hx => by cases hx⟩
  · refine ⟨some ⟨g, 0, none⟩, cap, hv, hc, by omega, fun i x hx => ⟨⟨g, 0, rfl, Blk.lt hblk, fun j u hj => ?_⟩, (h.tok x (List.mem_of_getElem? hx)).rd, (h.tok x (List.mem_of_getElem? hx)).form⟩⟩
    have hj3 : j < 3 := by
      rcases Nat.lt_or_ge j 3 with h9 | h9
      · exact h9
      · rw [List.getElem?_eq_none (by simp [Bx.cells]; omega)] at hj; cases hj
    have h5 := flat3_get X i j x hx hj3
    rw [hj, ← ht, List.getElem?_take] at h5
    rw [Nat.zero_add, cell_of_row W g (i * 3 + j) cur e (0, 0) hblk, ← Array.getElem?_toList]
    split at h5
    · exact h5
    · cases h5
theorem OwnB.nil (B : Nat) (W : World) (e : TypeId) : OwnB B W e (.slice none 0 0) [] := ⟨World.ownsRow_nil _ _ _ _, fun x hx => by cases hx⟩
theorem OwnB.below {B : Nat} {W W' : World} {e : TypeId} {v : Value} {X : List Bx} (h : OwnB B W e v X) (hb : Below W.heap.size W W') : OwnB B W' e v X := ⟨own_below h.row hb, fun x hx => (h.tok x hx).below hb⟩
theorem flat3_snoc (X : List Bx) (x : Bx) : (X ++ [x]).flatMap Bx.cells = X.flatMap Bx.cells ++ x.cells := by simp
theorem OwnB.add {B : Nat} {W W' : World} {e : TypeId} {v v' : Value} {X : List Bx} {x : Bx} {o : Obj} (h : OwnB B W e v X) (hx : Tok B W x.v x.b.tokens) (hne : e ≠ 3) (ho : W'.ownsRow B e 3 v' (X.length + 1) (X.flatMap Bx.cells ++ x.cells)) (hg : (W.alloc o).grownBy W' v.ownBlock) : OwnB B W' e v' (X ++ [x]) := by
  refine ⟨by rw [List.length_append, flat3_snoc]; exact ho, fun y hy => ?_⟩
  rcases List.mem_append.1 hy with h1 | h1
  · exact (h.tok y h1).grown h.row (Nat.le_refl _) hne hg
  · rw [List.mem_singleton] at h1
    subst h1
    exact hx.grown h.row (Nat.le_refl _) hne hg
end Go.Proofs.Ytfinbkpmkgpffaa
