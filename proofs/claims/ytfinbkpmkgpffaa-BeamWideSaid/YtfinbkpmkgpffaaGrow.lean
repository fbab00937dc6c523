/- A row of the call's own that grows: its form, its block, what an append may have turned; a slice cut from the front. No condition. -/
import Derived.Test.YtfinbkpmkgpffaaBase
import Derived.Deep.LoopGhost
import Derived.Laws.AppendOwnNone
namespace Go.Proofs.Ytfinbkpmkgpffaa
open Go.RowKit

theorem own_slice_ {w : World} {base n : Nat} {e : TypeId} {size : Nat} {v : Value} {xs : List Value} (h : w.ownsRow base e size v n xs) : ∃ A c, v = .slice A n c := by
  rcases h.2 with ⟨rfl, rfl⟩ | ⟨g, cap, cur, rfl, _⟩
  · exact ⟨none, 0, rfl⟩
  · exact ⟨_, cap, rfl⟩
theorem own_ge {w : World} {base n : Nat} {e : TypeId} {size : Nat} {v : Value} {xs : List Value} (h : w.ownsRow base e size v n xs) {g : Nat} (hg : v.ownBlock = some g) : base ≤ g := by
  rcases h.2 with ⟨rfl, rfl⟩ | ⟨g', cap, cur, rfl, hb, _⟩
  · simp [Value.ownBlock] at hg
  · have : g' = g := by simpa [Value.ownBlock] using hg
    omega
theorem app_upd {S : Nat → Prop} {w wr w5 : World} {base n : Nat} {e : TypeId} {size : Nat} {v : Value} {xs : List Value} (h : wr.ownsRow base e size v n xs) (hU : Upd S w wr) (hb : w.heap.size ≤ base) (hg : wr.grownBy w5 v.ownBlock) : Upd S w w5 :=
  hU.grown hg (fun _ hk => .inr (Nat.le_trans hb (own_ge h hk)))
theorem app_upd1 {S : Nat → Prop} {w wr w5 : World} {base n : Nat} {e : TypeId} {size : Nat} {v : Value} {xs : List Value} {o : Obj} (h : wr.ownsRow base e size v n xs) (hU : Upd S w wr) (hb : w.heap.size ≤ base) (hg : (wr.alloc o).grownBy w5 v.ownBlock) : Upd S w w5 :=
  app_upd (h.alloc o) (hU.alloc o) hb hg
theorem own_drew {w : World} {base n : Nat} {e : TypeId} {size : Nat} {v : Value} {xs : List Value} (h : w.ownsRow base e size v n xs) (m : Nat) : (w.drewN m).ownsRow base e size v n xs := own_upd h ((Upd.refl (fun _ => False) w).drewN m) (fun _ h => h.elim)
theorem own_below {w w' : World} {base n : Nat} {e : TypeId} {size : Nat} {v : Value} {xs : List Value} (h : w.ownsRow base e size v n xs) (hb : Below w.heap.size w w') : w'.ownsRow base e size v n xs := own_upd h (Upd.of_below (S := fun _ => False) hb) (fun _ h => h.elim)
theorem Upd.toB {w w' : World} (h : Upd (fun _ => False) w w') : Below w.heap.size w w' := h.toBelow (Nat.le_refl _) (fun _ h => h.elim)
theorem below_comp {w w1 w2 : World} (h1 : Below w.heap.size w w1) (h2 : Below w1.heap.size w1 w2) : Below w.heap.size w w2 := ((Upd.of_below (S := fun _ => False) h1).below h2).toB
theorem below_drewN {w w1 : World} (h1 : Below w.heap.size w w1) (n : Nat) : Below w.heap.size w (w1.drewN n) := ((Upd.of_below (S := fun _ => False) h1).drewN n).toB
theorem below_drawn {w w' : World} (h : ∃ n, w' = w.drewN n) : Below w.heap.size w w' := by
  obtain ⟨n, rfl⟩ := h
  exact ((Upd.refl (fun _ => False) w).drewN n).toB

/-! ### readings kept -/
theorem rd_below {w w' : World} {B : Nat} {v : Value} {xs : List Value} (h : Rd w B v xs) (hb : Below w.heap.size w w') : Rd w' B v xs := h.upd (Upd.of_below (S := fun _ => False) hb) (fun _ h => h.elim)
theorem rdi_below {w w' : World} {B : Nat} {k : IntKind} {v : Value} {l : List Int} (h : RdI w B k v l) (hb : Below w.heap.size w w') : RdI w' B k v l := rd_below h hb
theorem rdi_drew {w : World} {B : Nat} {k : IntKind} {v : Value} {l : List Int} (h : RdI w B k v l) (n : Nat) : RdI (w.drewN n) B k v l := h.upd ((Upd.refl (fun _ => False) w).drewN n) (fun _ h => h.elim)
theorem rdi_drawn {w wr : World} {B : Nat} {k : IntKind} {v : Value} {l : List Int} (h : RdI w B k v l) (hw : ∃ n, wr = w.drewN n) : RdI wr B k v l := by
  obtain ⟨n, rfl⟩ := hw
  exact rdi_drew h n
theorem drawn_next {w wr : World} (hw : ∃ n, wr = w.drewN n) (m : Nat) : ∃ n, wr.drewN m = w.drewN n := by
  obtain ⟨n, rfl⟩ := hw
  exact ⟨_, World.drewN_drewN _ _ _⟩
theorem rdi_cell {w : World} {B : Nat} {k : IntKind} {A : Option Addr} {n c j : Nat} {l : List Int} (h : RdI w B k (.slice A n c) l) (hj : j < l.length) : ∃ b o, A = some ⟨b, o, none⟩ ∧ w.cell? ⟨b, o + j, none⟩ = some (.int k (l.getD j 0)) := by
  obtain ⟨A1, c1, e1, _, _, hcx⟩ := h.form
  injection e1 with e1 _ _
  subst e1
  obtain ⟨b, o, h1, _, _, h2⟩ := hcx j hj
  exact ⟨b, o, h1, h2⟩
theorem rdi_len {w : World} {B : Nat} {k : IntKind} {A : Option Addr} {n c : Nat} {l : List Int} (h : RdI w B k (.slice A n c) l) : l.length = n ∧ n ≤ c ∧ n ≤ maxLen := by
  obtain ⟨A1, c1, e1, h2, h3, _⟩ := h.form
  injection e1 with _ e2 e3
  subst e2 e3
  exact ⟨rfl, h2, h3⟩
theorem rdi_take_ {w : World} {B : Nat} {k : IntKind} {A : Option Addr} {n c p q : Nat} {l : List Int} (h : RdI w B k (.slice A n c) l) (hp : p ≤ n) (hq : p ≤ q) : RdI w B k (.slice A p q) (l.take p) := by
  obtain ⟨A', c', hv, hc, hm, hx⟩ := h
  injection hv with h1 h2 h3
  subst h1 h3
  have hl : ((l.take p).map (Value.int k)).length = p := by simp at h2 ⊢; omega
  refine ⟨A, q, by rw [hl], by rw [hl]; exact hq, by rw [hl]; omega, fun h0 => ?_⟩
  rw [hl] at h0
  obtain ⟨b, o, ha, hb, hbs, hcell⟩ := hx (by omega)
  refine ⟨b, o, ha, hb, hbs, fun j u hj => hcell j u ?_⟩
  have hj' : j < p := by
    rcases Nat.lt_or_ge j p with h1 | h1
    · exact h1
    · rw [List.getElem?_eq_none (by rw [hl]; exact h1)] at hj; cases hj
  rw [← hj, List.getElem?_map, List.getElem?_map, List.getElem?_take, if_pos hj']
theorem rdi_drop_ {w : World} {B : Nat} {k : IntKind} {b o n c p q : Nat} {l : List Int} (h : RdI w B k (.slice (some ⟨b, o, none⟩) n c) l) (hp : p ≤ n) (hq : n - p ≤ q) : RdI w B k (.slice (some ⟨b, o + p, none⟩) (n - p) q) (l.drop p) := by
  obtain ⟨A', c', hv, hc, hm, hx⟩ := h
  injection hv with h1 h2 h3
  subst h3
  have hl : ((l.drop p).map (Value.int k)).length = n - p := by clear hx; simp at h2 ⊢; omega
  refine ⟨_, q, by rw [hl], by rw [hl]; exact hq, by rw [hl]; clear hx; omega, fun h0 => ?_⟩
  rw [hl] at h0
  have hpos : 0 < (l.map (Value.int k)).length := by rw [← h2]; clear hx; omega
  obtain ⟨b', o', ha, hb, hbs, hcell⟩ := hx hpos
  rw [← h1] at ha
  injection ha with ha
  injection ha with e1 e2
  subst e1 e2
  refine ⟨b, o + p, rfl, hb, hbs, fun j u hj => ?_⟩
  rw [Nat.add_assoc]
  refine hcell (p + j) u ?_
  rw [← hj, List.getElem?_map, List.getElem?_map, List.getElem?_drop]
theorem rdi_nil (w : World) (B : Nat) (k : IntKind) (A : Option Addr) (c : Nat) : RdI w B k (.slice A 0 c) [] := ⟨A, c, rfl, Nat.zero_le _, Nat.zero_le _, fun h => absurd h (by simp)⟩
/-- the first k through f -/
def mapTo (f : Int → Int) (l : List Int) (k : Nat) : List Int := (l.take k).map f ++ l.drop k
theorem mapTo_length (f : Int → Int) (l : List Int) (k : Nat) : (mapTo f l k).length = l.length := by simp [mapTo]; omega
theorem mapTo_zero (f : Int → Int) (l : List Int) : mapTo f l 0 = l := by simp [mapTo]
theorem mapTo_all (f : Int → Int) (l : List Int) : mapTo f l l.length = l.map f := by simp [mapTo]
theorem mapTo_at (f : Int → Int) (l : List Int) {k : Nat} (_hk : k < l.length) : (mapTo f l k)[k]? = l[k]? := by
  have h : ((l.take k).map f).length = k := by simp; omega
  rw [mapTo, List.getElem?_append_right (by omega), h, Nat.sub_self, List.getElem?_drop, Nat.add_zero]
theorem mapTo_set (f : Int → Int) (l : List Int) {k : Nat} (hk : k < l.length) : (mapTo f l k).set k (f (l.getD k 0)) = mapTo f l (k + 1) := by
  have h : ((l.take k).map f).length = k := by simp; omega
  have e : l.drop k = l[k] :: l.drop (k + 1) := List.drop_eq_getElem_cons hk
  rw [mapTo, List.set_append_right _ _ (by omega), h, Nat.sub_self, e, List.set_cons_zero, mapTo, List.take_succ_eq_append_getElem hk, List.map_append, List.append_assoc]
  rw [List.getD_eq_getElem?_getD, List.getElem?_eq_getElem hk]
  rfl
theorem own_form {w : World} {base e n size : Nat} {A : Option Addr} {c : Nat} {xs : List Value} (h : w.ownsRow base e size (.slice A n c) n xs) (h0 : 0 < n) : ∃ g, A = some ⟨g, 0, none⟩ ∧ base ≤ g := by
  rcases h.2 with ⟨hv, rfl⟩ | ⟨g, cap, cur, hv, hb, _⟩
  · injection hv with _ hn _
    omega
  · injection hv with hv _ _
    exact ⟨g, hv, hb⟩

end Go.Proofs.Ytfinbkpmkgpffaa
