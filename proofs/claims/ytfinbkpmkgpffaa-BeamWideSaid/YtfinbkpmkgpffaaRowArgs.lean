/- What rows of rows of weights read as. No condition. -/
import Derived.Test.YtfinbkpmkgpffaaArgs
namespace Go.Proofs.Ytfinbkpmkgpffaa
open Go.RowKit Go.ChangeShapes Go.WideShapes Go.ChangeAt

/-- a slice of rows of weights reads as a list of lists -/
def RdR (w : World) (B : Nat) (v : Value) (L : List (List Int)) : Prop :=
  ∃ vs : List Value, Rd w B v vs ∧ vs.length = L.length ∧ ∀ i, i < L.length → ∃ B', RdI w B' .i8 (vs.getD i (.slice none 0 0)) (L.getD i [])
theorem rdr_below {w w' : World} {B : Nat} {v : Value} {L : List (List Int)} (h : RdR w B v L) (hb : Below w.heap.size w w') : RdR w' B v L := by
  obtain ⟨vs, h1, h2, h3⟩ := h
  exact ⟨vs, rd_below h1 hb, h2, fun i hi => (h3 i hi).imp fun _ h => rdi_below h hb⟩
theorem rdr_form {w : World} {B : Nat} {v : Value} {L : List (List Int)} (h : RdR w B v L) : ∃ A c, v = .slice A L.length c ∧ L.length ≤ c ∧ L.length ≤ maxLen := by
  obtain ⟨vs, h1, h2, _⟩ := h
  obtain ⟨A, c, h4, h5⟩ := h1.form
  exact ⟨A, c, by rw [h4, h2], by omega, by have := h1.le; omega⟩
theorem rdr_len {w : World} {B : Nat} {A : Option Addr} {n c : Nat} {L : List (List Int)} (h : RdR w B (.slice A n c) L) : L.length = n ∧ n ≤ c ∧ n ≤ maxLen := by
  obtain ⟨A', c', h1, h2, h3⟩ := rdr_form h
  injection h1 with _ e2 e3
  omega
theorem rdr_cell {w : World} {B : Nat} {A : Option Addr} {n c j : Nat} {L : List (List Int)} (h : RdR w B (.slice A n c) L) (hj : j < L.length) :
    ∃ b o A' m c' B', A = some ⟨b, o, none⟩ ∧ w.cell? ⟨b, o + j, none⟩ = some (.slice A' m c') ∧ RdI w B' .i8 (.slice A' m c') (L.getD j []) := by
  obtain ⟨vs, ⟨A0, c0, h1, h2, h3, h4⟩, h5, h6⟩ := h
  obtain ⟨b, o, rfl, _, _, h7⟩ := h4 (by omega)
  obtain ⟨B', h8⟩ := h6 j hj
  obtain ⟨A', c', h9, _⟩ := h8.form
  injection h1 with e1 _ _
  subst e1
  refine ⟨b, o, A', _, c', B', rfl, ?_, h9 ▸ h8⟩
  have hjv : j < vs.length := by omega
  rw [h7 j _ (List.getElem?_eq_getElem hjv)]
  rw [List.getD_eq_getElem?_getD, List.getElem?_eq_getElem hjv] at h9
  simpa using h9
theorem cell_lt {w : World} {p : Addr} {v : Value} (h : w.cell? p = some v) : p.block < w.heap.size := World.block_lt_of_cell? w p h
theorem cell_below {w w' : World} {p : Addr} {v : Value} (h : w.cell? p = some v) (hb : Below w.heap.size w w') : w'.cell? p = some v := ((Upd.of_below (S := fun _ => False) hb).cell (cell_lt h) (fun h => h)).trans h
theorem list_of_ex2 {α : Type} {R : Nat → α → Prop} : ∀ {n : Nat}, (∀ i, i < n → ∃ x, R i x) → ∃ l : List α, l.length = n ∧ ∀ i x, l[i]? = some x → R i x
  | 0, _ => ⟨[], rfl, fun i x h => by cases h⟩
  | n + 1, h => by
    obtain ⟨l, hl, hr⟩ := list_of_ex2 (n := n) (fun i hi => h i (by omega))
    obtain ⟨x, hx⟩ := h n (by omega)
    refine ⟨l ++ [x], by rw [List.length_append, hl]; rfl, fun i y hy => ?_⟩
    rcases Nat.lt_or_ge i l.length with h1 | h1
    · rw [List.getElem?_append_left h1] at hy
      exact hr i y hy
    · rw [List.getElem?_append_right h1] at hy
      have h2 : i - l.length = 0 := by
        rcases Nat.eq_zero_or_pos (i - l.length) with h2 | h2
        · exact h2
        · rw [List.getElem?_eq_none (by show 1 ≤ i - l.length; omega)] at hy; cases hy
      rw [h2] at hy
      obtain rfl : i = n := by omega
      injection hy with hy
      subst hy
      exact hx
/-- as RdR, and each row is nil or has a place -/
def RdF (w : World) (B : Nat) (v : Value) (L : List (List Int)) : Prop :=
  ∃ vs : List Value, Rd w B v vs ∧ vs.length = L.length ∧ ∀ i, i < L.length → (∃ B', RdI w B' .i8 (vs.getD i (.slice none 0 0)) (L.getD i [])) ∧ Form (vs.getD i (.slice none 0 0))
theorem RdF.r {w : World} {B : Nat} {v : Value} {L : List (List Int)} (h : RdF w B v L) : RdR w B v L := by
  obtain ⟨vs, h1, h2, h3⟩ := h
  exact ⟨vs, h1, h2, fun i hi => (h3 i hi).1⟩
theorem rdf_below {w w' : World} {B : Nat} {v : Value} {L : List (List Int)} (h : RdF w B v L) (hb : Below w.heap.size w w') : RdF w' B v L := by
  obtain ⟨vs, h1, h2, h3⟩ := h
  exact ⟨vs, rd_below h1 hb, h2, fun i hi => ⟨(h3 i hi).1.imp fun _ h => rdi_below h hb, (h3 i hi).2⟩⟩
theorem rdf_cell {w : World} {B : Nat} {A : Option Addr} {n c j : Nat} {L : List (List Int)} (h : RdF w B (.slice A n c) L) (hj : j < L.length) :
    ∃ b o A' m c' B', A = some ⟨b, o, none⟩ ∧ w.cell? ⟨b, o + j, none⟩ = some (.slice A' m c') ∧ RdI w B' .i8 (.slice A' m c') (L.getD j []) ∧ Form (.slice A' m c') := by
  obtain ⟨vs, ⟨A0, c0, h1, h2, h3, h4⟩, h5, h6⟩ := h
  obtain ⟨b, o, rfl, _, _, h7⟩ := h4 (by omega)
  obtain ⟨⟨B', h8⟩, hf⟩ := h6 j hj
  obtain ⟨A', c', h9, _⟩ := h8.form
  injection h1 with e1 _ _
  subst e1
  refine ⟨b, o, A', _, c', B', rfl, ?_, h9 ▸ h8, h9 ▸ hf⟩
  have hjv : j < vs.length := by omega
  rw [h7 j _ (List.getElem?_eq_getElem hjv)]
  rw [List.getD_eq_getElem?_getD, List.getElem?_eq_getElem hjv] at h9
  simpa using h9
section
variable {H : Type} {enc : TypeId × Value → H} {W : World} {base : Nat}
set_option maxRecDepth 100000 in
theorem nums_trod {t e : TypeId} {k : IntKind} (ht : Try.prog.underlying t = some (.slice e)) (he : Try.prog.underlying e = some (.int k)) (hcells : Try.prog.cellsOf e = 1) {v : Value} {fuel : Nat} {y : DataW H × List MemPlace}
    (h : DataW.trod enc Try.prog W 0 (fun _ => true) true fuel t [v] = some y) :
    ∃ xs, RdI W W.heap.size k v xs ∧ Form v ∧ (∀ x ∈ xs, (Lit.int k x).wf = true) ∧ xs.length + 1 ≤ Rows.uptoBulk y.1 := by
  have hv : ∃ a n c, v = .slice a n c := by
    rcases open_ints ht he hcells h with ⟨hcs, _⟩ | ⟨a, len, cap, zs, hcs, _⟩
    · exact ⟨_, _, _, (List.cons.inj hcs).1⟩
    · exact ⟨_, _, _, (List.cons.inj hcs).1⟩
  obtain ⟨a, n, c, rfl⟩ := hv
  obtain ⟨d, p⟩ := y
  exact nums_slice (d := d) (p := p) ht he hcells ⟨fuel, h⟩ ⟨_, _, _, rfl⟩
theorem add_none {a : Addr} {i : Nat} {W : World} {v : Value} (h : W.cell? (a.add i) = some v) (hs : a.spot = none) : W.cell? ⟨a.block, a.off + i, none⟩ = some v := by
  obtain ⟨b, o, s⟩ := a
  cases hs
  rw [addr_add_] at h
  exact h
set_option maxRecDepth 100000 in
theorem rows_trod {t et e : TypeId} (ht : Try.prog.underlying t = some (.slice et)) (hte : Try.prog.underlying et = some (.slice e)) (he : Try.prog.underlying e = some (.int .i8)) (hc1 : Try.prog.cellsOf et = 1) (hc2 : Try.prog.cellsOf e = 1) {v : Value} {fuel : Nat} {y : DataW H × List MemPlace}
    (h : DataW.trod enc Try.prog W 0 (fun _ => true) true fuel t [v] = some y) :
    ∃ L, RdF W W.heap.size v L ∧ Form v ∧ (∀ i, i < L.length → (∀ x ∈ L.getD i [], (Lit.int .i8 x).wf = true) ∧ (L.getD i []).length ≤ Rows.uptoBulk y.1) ∧ L.length + 1 ≤ Rows.uptoBulk y.1 := by
  rcases DataW.trod_slice ht h with ⟨hcs, hy⟩ | ⟨a, len, cap, elems, rest, n, _, hcs, rfl, hb, hl, hm, hlen, hel, _, _⟩
  · injection hcs with h1 _
    subst h1
    subst hy
    exact ⟨[], ⟨[], ⟨none, 0, rfl, Nat.le_refl _, Nat.zero_le _, fun h => absurd h (by simp)⟩, rfl, fun i hi => absurd hi (by simp)⟩, .inl rfl, fun i hi => absurd hi (by simp), by simp [Rows.uptoBulk]⟩
  · injection hcs with h1 _
    subst h1
    rw [hc1] at hel
    have hx : ∀ i, i < len → ∃ r : Value × List Int, W.cell? (a.add i) = some r.1 ∧ (RdI W W.heap.size .i8 r.1 r.2 ∧ Form r.1) ∧ (∀ x ∈ r.2, (Lit.int .i8 x).wf = true) ∧ r.2.length ≤ Rows.uptoBulk (.slice (elems.map (·.1)) (rest.map (·.1)) : DataW H) := by
      intro i hi
      have hie : i < elems.length := by omega
      have h2 := hel i hi
      rw [List.getElem?_eq_getElem hie, Nat.mul_one, Option.bind_eq_some_iff] at h2
      obtain ⟨cs', h3, h4⟩ := h2
      obtain ⟨_, hcl, _⟩ := World.cells?_some h3
      obtain ⟨u, rfl⟩ : ∃ u, cs' = [u] := by
        match cs', hcl with
        | [u], _ => exact ⟨u, rfl⟩
      obtain ⟨xs, hr, hfr, hw, hl9⟩ := nums_trod hte he hc2 h4
      refine ⟨(u, xs), cell_of_cells?_one h3, ⟨hr, hfr⟩, hw, ?_⟩
      have h5 := bulk_mem (d := elems[i].1) (l := elems.map (·.1)) (List.mem_map.2 ⟨_, List.getElem_mem hie, rfl⟩)
      simp only [Rows.uptoBulk]
      omega
    obtain ⟨R, hR, hRR⟩ := list_of_ex2 hx
    have hat : ∀ i (hi : i < len), W.cell? (a.add i) = some (R[i]'(by omega)).1 ∧ (RdI W W.heap.size .i8 (R[i]'(by omega)).1 (R[i]'(by omega)).2 ∧ Form (R[i]'(by omega)).1) ∧ (∀ x ∈ (R[i]'(by omega)).2, (Lit.int .i8 x).wf = true) ∧ (R[i]'(by omega)).2.length ≤ Rows.uptoBulk (.slice (elems.map (·.1)) (rest.map (·.1)) : DataW H) :=
      fun i hi => hRR i _ (List.getElem?_eq_getElem (by omega))
    refine ⟨R.map (·.2), ⟨R.map (·.1), ⟨some a, cap, by rw [List.length_map, hR], by rw [List.length_map]; omega, by rw [List.length_map]; omega, fun h0 => ?_⟩, by simp, fun i hi => ?_⟩, .inr ⟨_, _, _, rfl⟩, fun i hi => ?_, ?_⟩
    · rw [List.length_map] at h0
      have c0 := (hat 0 (by omega)).1
      have hsp := World.cell?_spot c0
      have hspot : a.spot = none := by simpa [Addr.add] using hsp
      have hlt := cell_lt (add_none c0 hspot)
      refine ⟨a.block, a.off, by cases a; cases hspot; rfl, hlt, hlt, fun j u hj => ?_⟩
      have hj' : j < R.length := by
        rcases Nat.lt_or_ge j R.length with h1 | h1
        · exact h1
        · rw [List.getElem?_eq_none (by rw [List.length_map]; exact h1)] at hj; cases hj
      rw [List.getElem?_map, List.getElem?_eq_getElem hj'] at hj
      injection hj with hj
      subst hj
      exact add_none (hat j (by omega)).1 hspot
    · rw [List.length_map] at hi
      have h1 := (hat i (by omega)).2.1
      rw [List.getD_eq_getElem?_getD, List.getD_eq_getElem?_getD, List.getElem?_map, List.getElem?_map, List.getElem?_eq_getElem hi]
      exact ⟨⟨W.heap.size, h1.1⟩, h1.2⟩
    · rw [List.length_map] at hi
      rw [List.getD_eq_getElem?_getD, List.getElem?_map, List.getElem?_eq_getElem hi]
      exact (hat i (by omega)).2.2
    · have h5 := bulk_length (elems.map (·.1))
      rw [List.length_map] at h5 ⊢
      simp only [Rows.uptoBulk]
      omega

end
end Go.Proofs.Ytfinbkpmkgpffaa
