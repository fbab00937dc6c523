/- Acts on a pool, as plain data: what the statements of layer 11 do one behind the other; a list of acts as it lies in memory. No condition. -/
import Derived.Test.YtelmolblcnolnaaPoolFacts
import Derived.Test.YtelmolblcnolnaaBase
import Derived.Deep.Slices
import Derived.Deep.Fields
import Derived.ChangeSame
import Derived.ProofKit
namespace Go.Proofs.Ytelmolblcnolnaa
open Go.RowKit

structure Opd where
  kind : Int
  tag : ByteArray
  n : Int
  cell : Int
  v : Int
def Opd.vals (o : Opd) : List Value := [.int .i64 o.kind, .string o.tag, .int .i64 o.n, .int .i64 o.cell, .int .i64 o.v]

namespace Pl
variable {s : Pl} {c : Int}
theorem len_setPg (s : Pl) (n : Int) (p : Pg) : (s.setPg n p).pages.length = s.pages.length := by unfold setPg; simp only [List.length_set]
theorem len_takeAll (s : Pl) (tag : ByteArray) (k : Int) : (s.takeAll tag k).pages.length = s.pages.length := putAt_length _ _ _
theorem len_takeS (s : Pl) (tag : ByteArray) (k : Int) : (s.takeS tag k).pages.length = s.pages.length := by
  unfold takeS; split
  · exact len_takeAll s tag k
  · rfl
theorem len_drawS (s : Pl) (tag : ByteArray) (k : Int) : (s.drawS tag k).pages.length = s.pages.length := by
  unfold drawS; split
  · exact len_takeAll s tag k
  · rfl
theorem len_resS (s : Pl) (k : Int) : (s.resS k).pages.length = s.pages.length := by unfold resS; split <;> rfl
theorem len_unresS (s : Pl) (k : Int) : (s.unresS k).pages.length = s.pages.length := by unfold unresS; split <;> rfl
theorem len_shareS (s : Pl) (n : Int) : (s.shareS n).pages.length = s.pages.length := by
  unfold shareS; split
  · rfl
  · exact len_setPg _ _ _
theorem len_dropS (s : Pl) (n : Int) : (s.dropS n).pages.length = s.pages.length := by
  unfold dropS; split
  · rfl
  · split
    · exact len_setPg _ _ _
    · exact len_setPg _ _ _
theorem len_putS (s : Pl) (n k v : Int) : (s.putS n k v).pages.length = s.pages.length := by
  unfold putS; split
  · exact len_setPg _ _ _
  · rfl
theorem len_new (n : Int) : (Pl.new n).pages.length = n.toNat := List.length_replicate

/-- How many of the first k pages have owners. -/
def used (s : Pl) (k : Nat) : Int := (k : Int) - ((freeIx s.pages k).length : Nat)
theorem used_zero (s : Pl) : s.used 0 = 0 := rfl
theorem used_succ (s : Pl) (k : Nat) : s.used (k + 1) = s.used k + (if (s.page k).own = 0 then 0 else 1) := by
  have e : s.page (k : Int) = s.pages.getD k Pg.zero := by unfold page; rw [if_pos (by omega)]; rfl
  unfold used
  rw [freeIx_succ, List.length_append, e]
  by_cases h : (s.pages.getD k Pg.zero).own = 0
  · rw [if_pos h, if_pos h]; simp only [List.length_cons, List.length_nil]; omega
  · rw [if_neg h, if_neg h]; simp only [List.length_nil]; omega
theorem used_bd (s : Pl) (k : Nat) : 0 ≤ s.used k ∧ s.used k ≤ k := by
  have := freeIx_len_le s.pages k
  unfold used
  omega
theorem used_all (s : Pl) : s.free + s.used s.pages.length = s.pages.length := by
  unfold used free
  omega
theorem Ok.drawAll (h : s.Ok c) : s.drawE ⟨#[101, 110, 100]⟩ s.aside = 0 ∧ (s.drawS ⟨#[101, 110, 100]⟩ s.aside).aside = 0 := by
  have he : s.drawE ⟨#[101, 110, 100]⟩ s.aside = 0 := by
    have := h.a0
    unfold drawE ask
    rw [if_neg (fun hh => hh.elim (fun e => by cases e) (by omega)), if_neg (by omega)]
  refine ⟨he, ?_⟩
  unfold drawS
  rw [if_pos he]
  show s.aside - s.aside = 0
  omega
/-- Whether a page has owners, and whether it has a tag. -/
theorem Ok.tag_page (h : s.Ok c) (n : Int) : ((s.page n).own = 0 ∧ s.owners n = 0 ∧ (s.tagOf n).data.toList = []) ∨ (1 ≤ (s.page n).own ∧ 0 < s.owners n ∧ (s.tagOf n).data.toList ≠ []) := by
  by_cases h0 : (s.page n).own = 0
  · exact .inl ⟨h0, h0, by unfold tagOf; rw [if_pos h0]⟩
  · have hm := (page_mem h0).2.2.1
    have ho := (h.own _ hm).1
    refine .inr ⟨by omega, show 0 < (s.page n).own by omega, ?_⟩
    unfold tagOf
    rw [if_neg h0]
    exact fun e => h0 ((h.tag0 _ hm).2 e)
end Pl

/-! ### A slice of acts that came in -/
def OpsRd (w : World) (v : Value) (ops : List Opd) : Prop :=
  ∃ (A : Option Addr) (c : Nat), v = .slice A ops.length c ∧ ops.length ≤ c ∧ ops.length ≤ maxLen ∧ ∀ (i : Nat) (o : Opd), ops[i]? = some o → ∃ b f, A = some ⟨b, f, none⟩ ∧ b < w.heap.size ∧ w.rangeAt b (f + i * 5) o.vals

section
open Go.ChangeShapes Go.WideShapes Go.ChangeAt Go.Deep
variable {H : Type} {enc : TypeId × Value → H} {P : Program} {w : World} {base : Nat} {spare : Nat → Bool} {held : Bool}
/-- A slice of structs of one-cell fields, opened: each field's cell and reading. -/
theorem open_structs {t e : TypeId} {fs : Array Field} {fuel : Nat} {cs : List Value} {x : DataW H × List MemPlace} (ht : P.underlying t = some (.slice e)) (he : P.underlying e = some (.struct fs))
    (hone : oneCellFields P fs = true) (hC : P.cellsOf e = fs.size) (h : DataW.trod enc P w base spare held fuel t cs = some x) :
    (cs = [.slice none 0 0]) ∨
    ∃ (a : Addr) (len cap : Nat), cs = [.slice (some a) len cap] ∧ len ≤ cap ∧ cap ≤ maxLen ∧ ∀ i, i < len → ∃ n : Nat, ∀ (j : Nat) (f : Field), fs[j]? = some f → ∃ (v : Value) (y : DataW H × List MemPlace),
        w.cell? (a.add (i * fs.size + j)) = some v ∧ DataW.trod enc P w base spare held n f.type [v] = some y := by
  rcases open_slice ht h with h0 | ⟨a, len, cap, m, n, D, Pl, hcs, hb, hl, hm, hmm, hx, hi⟩
  · exact .inl h0.1
  · refine .inr ⟨a, len, cap, hcs, hl, hm, fun i him => ?_⟩
    have him' : i < m := by
      rw [hmm]
      split <;> omega
    obtain ⟨cs', hc, ht'⟩ := hi i him'
    rw [hC] at hc
    obtain ⟨ys, n', hn', hy, hlen, hyl, hf⟩ := DataW.trod_struct he ht'
    obtain ⟨_, hcl, hat⟩ := World.cells?_some hc
    refine ⟨n', fun j f hj => ?_⟩
    obtain ⟨ho, hk⟩ := hone_of hone j f hj
    have hjl : j < fs.size := (Array.getElem?_eq_some_iff.1 hj).1
    have hcell := hat j hjl
    have hv : cs'[j]? = some (cs'[j]'(by omega)) := List.getElem?_eq_getElem (by omega)
    have h1 := hf j f hj
    rw [ho, hk] at h1
    have hone' : (cs'.drop j).take 1 = [cs'[j]'(by omega)] := by
      rw [List.drop_eq_getElem_cons (by omega)]
      rfl
    rw [hone'] at h1
    have hys : ys[j]? = some (ys[j]'(by omega)) := List.getElem?_eq_getElem (by omega)
    refine ⟨_, _, ?_, h1.trans hys⟩
    rw [← Go.Deep.add_add, hcell, hv]
theorem list_of_exists {α : Type} {R : Nat → α → Prop} : ∀ {n : Nat}, (∀ i, i < n → ∃ x, R i x) → ∃ l : List α, l.length = n ∧ ∀ i x, l[i]? = some x → R i x
  | 0, _ => ⟨[], rfl, fun i x h => by cases h⟩
  | n + 1, h => by
    obtain ⟨l, hl, hr⟩ := list_of_exists (n := n) (fun i hi => h i (by omega))
    obtain ⟨x, hx⟩ := h n (by omega)
    refine ⟨l ++ [x], by rw [List.length_append, hl]; rfl, fun i y hy => ?_⟩
    rcases Nat.lt_or_ge i l.length with h1 | h1
    · rw [List.getElem?_append_left h1] at hy
      exact hr i y hy
    · rw [List.getElem?_append_right h1] at hy
      have h2 : i - l.length = 0 := by
        rcases Nat.eq_zero_or_pos (i - l.length) with h2 | h2
        · exact h2
        · rw [List.getElem?_eq_none (by show 1 ≤ i - l.length; omega)] at hy; cases hy
      rw [h2] at hy
      obtain rfl : i = n := by omega
      injection hy with hy
      subst hy
      exact hx
end

section
open Go.ChangeShapes Go.WideShapes Go.ChangeAt Go.Deep
variable {H : Type} {enc : TypeId × Value → H} {W : World} {base : Nat} {v : Value} {d : DataW H} {p : List MemPlace}
theorem Try.cellsOp : Try.prog.cellsOf 31 = 5 := by kernel_rfl
set_option maxRecDepth 100000 in
theorem ops_open (h : DataW.Trod enc Try.prog W 0 (fun _ => true) true 22 v d p) (k : Value.okWide Try.prog W .any base 22 v) : ∃ ops, OpsRd W v ops := by
  obtain ⟨a0, len0, cap0, rfl⟩ := okWide_slice Try.underlying22 k
  obtain ⟨fuel, hf⟩ := h
  rcases open_structs Try.underlying22 Try.underlying31 (by kernel_rfl) Try.cellsOp hf with hcs | ⟨a, len, cap, hcs, hl, hm, hi⟩
  · simp [Value.cells] at hcs
    obtain ⟨rfl, rfl, rfl⟩ := hcs
    exact ⟨[], none, 0, rfl, Nat.le_refl _, Nat.zero_le _, fun i o h => by cases h⟩
  · simp [Value.cells] at hcs
    obtain ⟨rfl, rfl, rfl⟩ := hcs
    have hx : ∀ i, i < len0 → ∃ o : Opd, ∃ b f, a = ⟨b, f, none⟩ ∧ b < W.heap.size ∧ W.rangeAt b (f + i * 5) o.vals := by
      intro i hil
      obtain ⟨n, hn⟩ := hi i hil
      obtain ⟨v0, y0, c0, t0⟩ := hn 0 _ rfl
      obtain ⟨v1, y1, c1, t1⟩ := hn 1 _ rfl
      obtain ⟨v2, y2, c2, t2⟩ := hn 2 _ rfl
      obtain ⟨v3, y3, c3, t3⟩ := hn 3 _ rfl
      obtain ⟨v4, y4, c4, t4⟩ := hn 4 _ rfl
      obtain ⟨x0, e0, _, _⟩ := DataW.trod_int Try.underlying3 t0
      obtain ⟨x1, e1, _, _⟩ := DataW.trod_string Try.underlying9 t1
      obtain ⟨x2, e2, _, _⟩ := DataW.trod_int Try.underlying3 t2
      obtain ⟨x3, e3, _, _⟩ := DataW.trod_int Try.underlying3 t3
      obtain ⟨x4, e4, _, _⟩ := DataW.trod_int Try.underlying2 t4
      injection e0 with e0
      injection e1 with e1
      injection e2 with e2
      injection e3 with e3
      injection e4 with e4
      subst e0 e1 e2 e3 e4
      obtain ⟨b, f, spot⟩ := a
      have hsp := World.cell?_spot c0
      have hspot : spot = none := by
        simp only [Addr.add] at hsp
        by_cases hz : i = 0
        · subst hz; simpa using hsp
        · have c1' := World.cell?_spot c1
          by_cases hs : spot = none
          · exact hs
          · exfalso
            have := hn 0 _ rfl
            obtain ⟨n0, hn0⟩ := hi 0 (by omega)
            obtain ⟨v0', y0', c0', t0'⟩ := hn0 0 _ rfl
            have h2 := World.cell?_spot c0'
            simp [Addr.add] at h2
            exact hs h2
      subst hspot
      have ha : ∀ j, (⟨b, f, none⟩ : Addr).add j = ⟨b, f + j, none⟩ := fun j => by unfold Addr.add; split <;> simp_all
      refine ⟨⟨x0, x1, x2, x3, x4⟩, b, f, rfl, World.block_lt_of_cell? W _ c0 |> fun h => by rw [ha] at h; exact h, fun j u hj => ?_⟩
      simp only [ha] at c0 c1 c2 c3 c4
      match j, hj with
      | 0, hj => injection hj with hj; subst hj; exact c0
      | 1, hj => injection hj with hj; subst hj; rw [Nat.add_assoc]; exact c1
      | 2, hj => injection hj with hj; subst hj; rw [Nat.add_assoc]; exact c2
      | 3, hj => injection hj with hj; subst hj; rw [Nat.add_assoc]; exact c3
      | 4, hj => injection hj with hj; subst hj; rw [Nat.add_assoc]; exact c4
    obtain ⟨ops, hlen, hr⟩ := list_of_exists hx
    refine ⟨ops, some a, cap0, by rw [hlen], by omega, by omega, fun i o ho => ?_⟩
    obtain ⟨b, f, rfl, hb, hc⟩ := hr i o ho
    exact ⟨b, f, rfl, hb, hc⟩
end
end Go.Proofs.Ytelmolblcnolnaa
