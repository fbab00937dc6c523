/- A pool in memory: the struct's block, and the block of its pages; what a store turns. No condition. -/
import Derived.Test.YtelmolblcnolnaaBase
import Derived.Test.YtelmolblcnolnaaPoolSpec
namespace Go.Proofs.Ytelmolblcnolnaa
open Go.RowKit

def Pg.vals (p : Pg) : List Value := .string p.tag :: .int .i64 p.own :: p.cells.map (.int .i64)
theorem Pg.vals_length (p : Pg) (h : p.cells.length = 32) : p.vals.length = 34 := by simp [Pg.vals, h]

structure PoolMem (w : World) (b bq : Nat) (l : List Pg) (free aside : Int) : Prop where
  hb : Blk w b 94 #[.slice (some ⟨bq, 0, none⟩) l.length l.length, .int .i64 free, .int .i64 aside]
  tq : Blk.ex w bq 99
  pg : ∀ (i : Nat) (p : Pg), l[i]? = some p → w.rangeAt bq (i * 34) p.vals
  len : ∀ p ∈ l, p.cells.length = 32

namespace PoolMem
variable {w w' : World} {b bq : Nat} {l : List Pg} {free aside : Int} {S : Nat → Prop}
theorem ne (h : PoolMem w b bq l free aside) : b ≠ bq := Blk.ex_ne ⟨_, h.hb⟩ h.tq (by decide)
theorem c0 (h : PoolMem w b bq l free aside) : w.cell? ⟨b, 0, none⟩ = some (.slice (some ⟨bq, 0, none⟩) l.length l.length) := (h.hb.cell 0).trans (by simp)
theorem c1 (h : PoolMem w b bq l free aside) : w.cell? ⟨b, 1, none⟩ = some (.int .i64 free) := (h.hb.cell 1).trans (by simp)
theorem c2 (h : PoolMem w b bq l free aside) : w.cell? ⟨b, 2, none⟩ = some (.int .i64 aside) := (h.hb.cell 2).trans (by simp)
theorem fb (h : PoolMem w b bq l free aside) (o : Nat) : w.frozen? ⟨b, o, none⟩ = false := h.hb.frozen o
theorem fq (h : PoolMem w b bq l free aside) (o : Nat) : w.frozen? ⟨bq, o, none⟩ = false := Blk.ex_fr h.tq o
theorem ctag (h : PoolMem w b bq l free aside) {i : Nat} {p : Pg} (hp : l[i]? = some p) : w.cell? ⟨bq, i * 34, none⟩ = some (.string p.tag) := h.pg i p hp 0 _ rfl
theorem cown (h : PoolMem w b bq l free aside) {i : Nat} {p : Pg} (hp : l[i]? = some p) : w.cell? ⟨bq, i * 34 + 1, none⟩ = some (.int .i64 p.own) := h.pg i p hp 1 _ rfl
theorem cval (h : PoolMem w b bq l free aside) {i : Nat} {p : Pg} (hp : l[i]? = some p) {c : Nat} (hc : c < 32) : w.cell? ⟨bq, i * 34 + 2 + c, none⟩ = some (.int .i64 (p.cells.getD c 0)) := by
  have hl := h.len p (List.mem_of_getElem? hp)
  rw [Nat.add_assoc]
  refine h.pg i p hp (2 + c) _ ?_
  rw [Nat.add_comm 2 c]
  show (p.cells.map (Value.int .i64))[c]? = _
  rw [List.getElem?_map, List.getElem?_eq_getElem (by omega), List.getD_eq_getElem?_getD, List.getElem?_eq_getElem (by omega)]
  rfl
theorem upd (h : PoolMem w b bq l free aside) (hu : Upd S w w') (hb : ¬ S b) (hq : ¬ S bq) : PoolMem w' b bq l free aside :=
  ⟨h.hb.upd hu hb, Blk.ex_upd h.tq hu hq, fun i p hp j v hv => (World.cell?_of_block (w := w) (a := ⟨bq, i * 34 + j, none⟩) (hu.block bq (Blk.ex_lt h.tq) hq)).trans (h.pg i p hp j v hv), h.len⟩
theorem there (h : PoolMem w b bq l free aside) {i : Nat} (hi : i < l.length) : w.there bq (i * 34) 34 := fun j hj => by
  have hp := List.getElem?_eq_getElem hi
  refine ⟨?_, h.fq _⟩
  have hl := Pg.vals_length l[i] (h.len _ (List.getElem_mem hi))
  rw [h.pg i _ hp j _ (List.getElem?_eq_getElem (by omega))]
  rfl
/-- One page is another then. -/
theorem page (h : PoolMem w b bq l free aside) {i : Nat} {p : Pg} (hb : w'.heap[b]? = w.heap[b]?) (tq : Blk.ex w' bq 99)
    (hout : ∀ o, (o < i * 34 ∨ i * 34 + 34 ≤ o) → w'.cell? ⟨bq, o, none⟩ = w.cell? ⟨bq, o, none⟩) (hp : w'.rangeAt bq (i * 34) p.vals) (hl : p.cells.length = 32) : PoolMem w' b bq (l.set i p) free aside := by
  refine ⟨?_, tq, fun k q hk => ?_, fun q hq => ?_⟩
  · rw [List.length_set]; exact hb.trans h.hb
  · by_cases e : k = i
    · subst e
      have hk' : k < (l.set k p).length := (List.getElem?_eq_some_iff.1 hk).1
      rw [List.getElem?_set_self (by simpa using hk')] at hk
      injection hk with hk
      subst hk
      exact hp
    · rw [List.getElem?_set_ne (Ne.symm e)] at hk
      intro j v hv
      have hj : j < q.vals.length := (List.getElem?_eq_some_iff.1 hv).1
      rw [Pg.vals_length q (h.len q (List.mem_of_getElem? hk))] at hj
      rw [hout _ (by omega)]
      exact h.pg k q hk j v hv
  · rcases List.mem_or_eq_of_mem_set hq with h1 | h1
    · exact h.len q h1
    · subst h1; exact hl
/-- A whole page is stored. -/
theorem setPage (h : PoolMem w b bq l free aside) {i : Nat} (hi : i < l.length) (p : Pg) (hl : p.cells.length = 32) : PoolMem (w.setCells bq (i * 34) p.vals) b bq (l.set i p) free aside := by
  have hv := Pg.vals_length p hl
  refine h.page (Blk.farS (t := 94) h.ne _ _ h.hb |>.trans h.hb.symm) (Blk.ex_setCells _ _ _ h.tq) (fun o ho => ?_) ?_ hl
  · rw [World.cell?_setCells_out bq p.vals (i * 34) w ⟨bq, o, none⟩ (fun _ _ => ?_)]
    show o < i * 34 ∨ i * 34 + p.vals.length ≤ o
    omega
  · refine World.rangeAt_setCells_same w bq _ _ ?_
    rw [hv]
    exact h.there hi
/-- One cell of a page is stored. -/
theorem setPart (h : PoolMem w b bq l free aside) {i j : Nat} {p : Pg} (hp : l[i]? = some p) (p' : Pg) (v : Value) (hj : j < 34) (hv : p'.vals = p.vals.set j v) (hl : p'.cells.length = 32) : PoolMem (w.setCell ⟨bq, i * 34 + j, none⟩ v) b bq (l.set i p') free aside := by
  have hpl := Pg.vals_length p (h.len p (List.mem_of_getElem? hp))
  refine h.page (Below.heap_setCell _ _ _ _ h.ne) (Blk.ex_setCell h.tq _ rfl _) (fun o ho => World.cell?_setCell_other _ _ _ _ (fun e => ?_)) ?_ hl
  · injection e with _ e _
    omega
  · intro k u hk
    rw [hv] at hk
    by_cases e : k = j
    · subst e
      rw [List.getElem?_set_self (by omega)] at hk
      injection hk with hk
      subst hk
      have hk' : p.vals[k]? = some (p.vals[k]'(by omega)) := List.getElem?_eq_getElem (by omega)
      exact World.cell?_setCell_same _ _ _ (h.pg i p hp k _ hk')
    · rw [List.getElem?_set_ne (Ne.symm e)] at hk
      rw [World.cell?_setCell_other _ _ _ _ (fun e' => by injection e' with _ e' _; omega)]
      exact h.pg i p hp k u hk
theorem setOwn (h : PoolMem w b bq l free aside) {i : Nat} {p : Pg} (hp : l[i]? = some p) (o : Int) : PoolMem (w.setCell ⟨bq, i * 34 + 1, none⟩ (.int .i64 o)) b bq (l.set i { p with own := o }) free aside :=
  h.setPart hp _ _ (by omega) rfl (h.len p (List.mem_of_getElem? hp))
theorem setVal (h : PoolMem w b bq l free aside) {i c : Nat} {p : Pg} (hp : l[i]? = some p) (hc : c < 32) (v : Int) : PoolMem (w.setCell ⟨bq, i * 34 + 2 + c, none⟩ (.int .i64 v)) b bq (l.set i { p with cells := p.cells.set c v }) free aside := by
  rw [Nat.add_assoc]
  refine h.setPart hp _ _ (by omega) ?_ (by rw [List.length_set]; exact h.len p (List.mem_of_getElem? hp))
  rw [Nat.add_comm 2 c]
  simp [Pg.vals, List.map_set]
theorem setFree (h : PoolMem w b bq l free aside) (f : Int) : PoolMem (w.setCell ⟨b, 1, none⟩ (.int .i64 f)) b bq l f aside := by
  have hne := h.ne
  exact ⟨by have := h.hb.set_ 1 (.int .i64 f); simpa using this, Blk.ex_setCell h.tq _ rfl _, fun i p hp j v hv => by
    rw [World.cell?_setCell_other _ _ _ _ (fun e => by injection e with e _ _; exact hne e)]; exact h.pg i p hp j v hv, h.len⟩
theorem setAside (h : PoolMem w b bq l free aside) (f : Int) : PoolMem (w.setCell ⟨b, 2, none⟩ (.int .i64 f)) b bq l free f := by
  have hne := h.ne
  exact ⟨by have := h.hb.set_ 2 (.int .i64 f); simpa using this, Blk.ex_setCell h.tq _ rfl _, fun i p hp j v hv => by
    rw [World.cell?_setCell_other _ _ _ _ (fun e => by injection e with e _ _; exact hne e)]; exact h.pg i p hp j v hv, h.len⟩
end PoolMem

/-- A pool, as the plain data says it. -/
def PoolAt (w : World) (b bq : Nat) (s : Pl) : Prop := PoolMem w b bq s.pages s.free s.aside
/-- The blocks of a pool. -/
def pS (b bq : Nat) : Nat → Prop := fun k => k = b ∨ k = bq
theorem PoolAt.upd {w w' : World} {b bq : Nat} {s : Pl} {S : Nat → Prop} (h : PoolAt w b bq s) (hu : Upd S w w') (hb : ¬ S b) (hq : ¬ S bq) : PoolAt w' b bq s := PoolMem.upd h hu hb hq
end Go.Proofs.Ytelmolblcnolnaa
