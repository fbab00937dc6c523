/- Arguments that hold structs in slices: what is read of each, and how great it may be. No condition. -/
import Derived.Test.YtfinbkpmkgpffaaRowArgs
import Derived.Deep.Slices
import Derived.Deep.Fields
import Derived.ChangeSame
import Derived.ProofKit
namespace Go.Proofs.Ytfinbkpmkgpffaa
open Go.RowKit Go.ChangeShapes Go.WideShapes Go.ChangeAt Go.Deep

section
variable {H : Type} {enc : TypeId × Value → H} {P : Program} {w : World} {base : Nat} {spare : Nat → Bool} {held : Bool}
/-- of what was read no part is greater than can be reached -/
def Sz (P : Program) (t : TypeId) (d : DataW H) : Prop := (d.weights P t).all (· ≤ reachBytes) = true
theorem sz_each {ts : List TypeId} {ds : List (DataW H)} {t : TypeId} {d : DataW H} (h : (DataW.weightsEach P (t :: ts) (d :: ds)).all (· ≤ reachBytes) = true) : Sz P t d ∧ (DataW.weightsEach P ts ds).all (· ≤ reachBytes) = true := by
  unfold DataW.weightsEach at h
  rw [List.all_append, Bool.and_eq_true] at h
  exact h
theorem sz_all {e : TypeId} : ∀ {l : List (DataW H)}, (DataW.weightsAll P e l).all (· ≤ reachBytes) = true → ∀ x ∈ l, Sz P e x
  | [], _, x, hx => by cases hx
  | d :: r, h, x, hx => by
    unfold DataW.weightsAll at h
    rw [List.all_append, Bool.and_eq_true] at h
    rcases List.mem_cons.1 hx with rfl | h1
    · exact h.1
    · exact sz_all h.2 x h1
theorem sz_slice {t e : TypeId} {elems rest : List (DataW H)} (ht : P.underlying t = some (.slice e)) (h : Sz P t (.slice elems rest)) : elems.length * P.bytesOf e ≤ reachBytes ∧ ∀ x ∈ elems, Sz P e x := by
  unfold Sz DataW.weights at h
  simp only [ht] at h
  rw [List.all_cons, Bool.and_eq_true, List.all_append, Bool.and_eq_true] at h
  refine ⟨Nat.le_trans (Nat.mul_le_mul_right _ (Nat.le_add_right _ _)) (of_decide_eq_true h.1), sz_all h.2.1⟩
theorem sz_nth : ∀ {ts : List TypeId} {ds : List (DataW H)}, (DataW.weightsEach P ts ds).all (· ≤ reachBytes) = true → ∀ (j : Nat) (t : TypeId) (d : DataW H), ts[j]? = some t → ds[j]? = some d → Sz P t d
  | [], _, _, j, t, d, h1, _ => by cases h1
  | _ :: _, [], _, j, t, d, _, h2 => by cases h2
  | t :: ts, d :: ds, h, j, t', d', h1, h2 => by
    obtain ⟨ha, hb⟩ := sz_each h
    match j, h1, h2 with
    | 0, h1, h2 => injection h1 with h1; injection h2 with h2; subst h1 h2; exact ha
    | j + 1, h1, h2 => exact sz_nth hb j t' d' h1 h2
theorem sz_struct {t : TypeId} {fs : Array Field} {parts : List (DataW H)} (ht : P.underlying t = some (.struct fs)) (h : Sz P t (.agg parts)) {j : Nat} {f : Field} {d : DataW H} (hj : fs[j]? = some f) (hd : parts[j]? = some d) : Sz P f.type d := by
  unfold Sz DataW.weights at h
  simp only [ht] at h
  refine sz_nth h j _ d ?_ hd
  rw [List.getElem?_map, Array.getElem?_toList, hj]
  rfl
theorem structs_trod {t e : TypeId} {fs : Array Field} {fuel : Nat} {v : Value} {y : DataW H × List MemPlace} (ht : P.underlying t = some (.slice e)) (he : P.underlying e = some (.struct fs))
    (hone : oneCellFields P fs = true) (hC : P.cellsOf e = fs.size) (h : DataW.trod enc P w base spare held fuel t [v] = some y) :
    v = .slice none 0 0 ∨
    ∃ (a : Addr) (len cap : Nat) (elems rest : List (DataW H)), v = .slice (some a) len cap ∧ y.1 = .slice elems rest ∧ elems.length = len ∧ len ≤ cap ∧ cap ≤ maxLen ∧ ∀ i, i < len → ∃ (n : Nat) (parts : List (DataW H)), elems[i]? = some (.agg parts) ∧
      ∀ (j : Nat) (f : Field), fs[j]? = some f → ∃ (u : Value) (z : DataW H × List MemPlace), w.cell? (a.add (i * fs.size + j)) = some u ∧ DataW.trod enc P w base spare held n f.type [u] = some z ∧ parts[j]? = some z.1 := by
  rcases DataW.trod_slice ht h with ⟨hcs, hy⟩ | ⟨a, len, cap, elems, rest, n, _, hcs, rfl, hb, hl, hm, hlen, hel, _, _⟩
  · injection hcs with h1 _
    exact .inl h1
  · injection hcs with h1 _
    refine .inr ⟨a, len, cap, elems.map (·.1), rest.map (·.1), h1, rfl, by rw [List.length_map]; exact hlen, hl, hm, fun i hi => ?_⟩
    have hie : i < elems.length := by omega
    have h2 := hel i hi
    rw [List.getElem?_eq_getElem hie, Option.bind_eq_some_iff] at h2
    obtain ⟨cs', h3, h4⟩ := h2
    rw [hC] at h3
    obtain ⟨xs, n', hn', hy, hcl, hyl, hf⟩ := DataW.trod_struct he h4
    obtain ⟨_, hcl2, hat⟩ := World.cells?_some h3
    refine ⟨n', xs.map (·.1), by rw [List.getElem?_map, List.getElem?_eq_getElem hie, Option.map_some, hy], fun j f hj => ?_⟩
    obtain ⟨ho, hk⟩ := hone_of hone j f hj
    have hjl : j < fs.size := (Array.getElem?_eq_some_iff.1 hj).1
    have hcell := hat j hjl
    have hv : cs'[j]? = some (cs'[j]'(by omega)) := List.getElem?_eq_getElem (by omega)
    have h5 := hf j f hj
    rw [ho, hk] at h5
    have hone' : (cs'.drop j).take 1 = [cs'[j]'(by omega)] := by
      rw [List.drop_eq_getElem_cons (by omega)]
      rfl
    rw [hone'] at h5
    have hys : xs[j]? = some (xs[j]'(by omega)) := List.getElem?_eq_getElem (by omega)
    refine ⟨_, _, ?_, h5.trans hys, by rw [List.getElem?_map, hys]; rfl⟩
    rw [← Go.Deep.add_add, hcell, hv]
theorem nums_sz {t e : TypeId} {A : Option Addr} {n c fuel : Nat} {y : DataW H × List MemPlace} (ht : P.underlying t = some (.slice e)) (h : DataW.trod enc P w base spare held fuel t [.slice A n c] = some y) (hs : Sz P t y.1) : n * P.bytesOf e ≤ reachBytes := by
  rcases DataW.trod_slice ht h with ⟨hcs, hy⟩ | ⟨a, len, cap, elems, rest, m, _, hcs, rfl, hb, hl, hm, hlen, hel, _, _⟩
  · injection hcs with h1 _
    injection h1 with _ h1 _
    subst h1
    omega
  · injection hcs with h1 _
    injection h1 with _ h1 _
    subst h1
    have h2 := (sz_slice ht hs).1
    rw [List.length_map, hlen] at h2
    exact h2
end
end Go.Proofs.Ytfinbkpmkgpffaa
