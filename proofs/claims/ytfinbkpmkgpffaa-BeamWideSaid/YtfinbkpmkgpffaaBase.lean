/- Shared words about memory: what a call may have changed ('Upd'), whole blocks ('Blk'), slices that read as lists ('Rd', 'RdI'). No condition. -/
import Derived.Test.YtfinbkpmkgpffaaProg
import Derived.WalkKit
import Derived.WalkSpells
import Derived.WalkLawsBesides
import Derived.Deep.QuietTactic
import Derived.Deep.MidRow
import Derived.Deep.AppendLies
import Derived.BigQuiet
import Derived.Handy
namespace Go.Proofs.Ytfinbkpmkgpffaa
open Go.RowKit

theorem hid_ {p : Prop} (h : p) : Hid p := h

/-! ### What a call may have changed: of the blocks that were there only those in S -/
structure Upd (S : Nat → Prop) (w w' : World) : Prop where
  os : w'.os = w.os
  tape : w'.tape = w.tape
  output : w'.output = w.output
  size : w.heap.size ≤ w'.heap.size
  block : ∀ k, k < w.heap.size → ¬ S k → w'.heap[k]? = w.heap[k]?

namespace Upd
variable {S T : Nat → Prop} {a w w' : World}
theorem refl (S : Nat → Prop) (w : World) : Upd S w w := ⟨rfl, rfl, rfl, Nat.le_refl _, fun _ _ _ => rfl⟩
/-- A further step whose own blocks are S's, or new since the beginning. -/
theorem step (h : Upd S a w) (k : Upd T w w') (hT : ∀ j, T j → j < w.heap.size → S j ∨ a.heap.size ≤ j) : Upd S a w' :=
  ⟨k.os.trans h.os, k.tape.trans h.tape, k.output.trans h.output, Nat.le_trans h.size k.size, fun i hi hS => by
    have hs := h.size
    rw [k.block i (by omega) (fun ht => by rcases hT i ht (by omega) with h1 | h1; exact hS h1; omega)]
    exact h.block i hi hS⟩
theorem trans (h : Upd S a w) (k : Upd S w w') : Upd S a w' := h.step k (fun _ hj _ => .inl hj)
theorem mono (h : Upd S w w') (hT : ∀ j, j < w.heap.size → S j → T j) : Upd T w w' := ⟨h.os, h.tape, h.output, h.size, fun k hk hn => h.block k hk (fun hs => hn (hT k hk hs))⟩
theorem drew (h : Upd S a w) : Upd S a w.drew := ⟨h.os, h.tape, h.output, h.size, h.block⟩
theorem drewN (h : Upd S a w) (n : Nat) : Upd S a (w.drewN n) := ⟨h.os, h.tape, h.output, h.size, h.block⟩
theorem alloc (h : Upd S a w) (o : Obj) : Upd S a (w.alloc o) :=
  h.step (T := fun _ => False) ⟨rfl, rfl, rfl, by simp, fun k hk _ => Below.heap_alloc _ _ _ hk⟩ (fun _ hj => hj.elim)
theorem setCell (h : Upd S a w) {p : Addr} (hp : S p.block ∨ a.heap.size ≤ p.block) (u : Value) : Upd S a (w.setCell p u) :=
  h.step (T := fun k => k = p.block) ⟨rfl, rfl, rfl, by simp [World.setCell], fun k _ hn => Below.heap_setCell _ _ _ _ hn⟩ (fun j hj _ => by subst hj; exact hp)
theorem setCells {b : Nat} (hp : S b ∨ a.heap.size ≤ b) : ∀ (vs : List Value) (o : Nat) {w : World}, Upd S a w → Upd S a (w.setCells b o vs)
  | [], _, _, h => h
  | v :: r, o, _, h => setCells hp r (o + 1) (h.setCell (p := ⟨b, o, none⟩) hp v)
theorem grown {row : Option Nat} (h : Upd S a w) (hg : w.grownBy w' row) (hr : ∀ k, row = some k → S k ∨ a.heap.size ≤ k) : Upd S a w' :=
  h.step (T := fun k => row = some k) ⟨hg.os, hg.tape, hg.output, hg.size, fun k hk hn => hg.block k hk (fun e => hn e.symm)⟩ (fun j hj _ => hr j hj)
theorem of_below (h : Below w.heap.size w w') : Upd S w w' := ⟨h.os, h.tape, h.output, h.size, fun k hk _ => h.block k hk⟩
theorem below (h : Upd S a w) (k : Below w.heap.size w w') : Upd S a w' := h.step (T := fun _ => False) (of_below k) (fun _ hj => hj.elim)
theorem toBelow {B : Nat} (h : Upd S w w') (hB : B ≤ w.heap.size) (hS : ∀ k, S k → B ≤ k) : Below B w w' :=
  ⟨h.os, h.tape, h.output, h.size, fun k hk => h.block k (by omega) (fun hs => by have := hS k hs; omega)⟩
theorem cell (h : Upd S w w') {p : Addr} (hp : p.block < w.heap.size) (hn : ¬ S p.block) : w'.cell? p = w.cell? p := World.cell?_of_block (w := w) (h.block p.block hp hn)
end Upd

/-! ### A block that is known whole -/
def Blk (w : World) (g : Nat) (t : TypeId) (cs : Array Value) : Prop := w.heap[g]? = some (.cells cs t (0, 0))
namespace Blk
variable {w w' : World} {g : Nat} {t : TypeId} {cs : Array Value}
theorem lt (h : Blk w g t cs) : g < w.heap.size := by
  rcases Nat.lt_or_ge g w.heap.size with hlt | hge
  · exact hlt
  · unfold Blk at h; rw [Array.getElem?_eq_none hge] at h; cases h
theorem cell (h : Blk w g t cs) (i : Nat) : w.cell? ⟨g, i, none⟩ = cs[i]? := cell_of_row w g i cs t (0, 0) h
theorem frozen (h : Blk w g t cs) (i : Nat) : w.frozen? ⟨g, i, none⟩ = false := by
  unfold Blk at h
  simp [World.frozen?, h]
theorem new (w : World) (t : TypeId) (cs : Array Value) : Blk (w.alloc (.cells cs t)) w.heap.size t cs := heap_alloc_new w _
theorem alloc (h : Blk w g t cs) (o : Obj) : Blk (w.alloc o) g t cs := (Below.heap_alloc w o g h.lt).trans h
theorem set_ (h : Blk w g t cs) (i : Nat) (u : Value) : Blk (w.setCell ⟨g, i, none⟩ u) g t (cs.setIfInBounds i u) := by
  unfold Blk at h ⊢
  simp [World.setCell, Array.getElem?_modify, h]
theorem far (h : Blk w g t cs) {p : Addr} (hp : g ≠ p.block) (u : Value) : Blk (w.setCell p u) g t cs := (Below.heap_setCell w p u g hp).trans h
theorem farS {b : Nat} (hp : g ≠ b) : ∀ (vs : List Value) (o : Nat) {w : World}, Blk w g t cs → Blk (w.setCells b o vs) g t cs
  | [], _, _, h => h
  | v :: r, o, _, h => farS hp r (o + 1) (h.far (p := ⟨b, o, none⟩) hp v)
theorem upd {S : Nat → Prop} (h : Blk w g t cs) (hu : Upd S w w') (hn : ¬ S g) : Blk w' g t cs := (hu.block g h.lt hn).trans h
theorem below {B : Nat} (h : Blk w g t cs) (hb : Below B w w') (hg : g < B) : Blk w' g t cs := (hb.block g hg).trans h
theorem ne_ {g' : Nat} {t' : TypeId} {cs' : Array Value} (h : Blk w g t cs) (h' : Blk w g' t' cs') (hne : t ≠ t') : g ≠ g' := by
  rintro rfl
  unfold Blk at h h'
  rw [h] at h'
  injection h' with h'
  injection h' with _ ht
  exact hne ht
/-- some cells, not frozen -/
def ex (w : World) (g : Nat) (t : TypeId) : Prop := ∃ cs, Blk w g t cs
theorem ex_setCell (h : Blk.ex w g t) (p : Addr) (hs : p.spot = none) (u : Value) : Blk.ex (w.setCell p u) g t := by
  obtain ⟨cs, h⟩ := h
  by_cases e : g = p.block
  · subst e
    obtain ⟨b, o, s⟩ := p
    simp only at hs
    subst hs
    exact ⟨_, h.set_ o u⟩
  · exact ⟨_, h.far e u⟩
theorem ex_setCells (b : Nat) : ∀ (vs : List Value) (o : Nat) {w : World}, Blk.ex w g t → Blk.ex (w.setCells b o vs) g t
  | [], _, _, h => h
  | v :: r, o, _, h => ex_setCells b r (o + 1) (ex_setCell h ⟨b, o, none⟩ rfl v)
theorem ex_fr (h : Blk.ex w g t) (i : Nat) : w.frozen? ⟨g, i, none⟩ = false := h.elim fun _ h => h.frozen i
theorem ex_lt (h : Blk.ex w g t) : g < w.heap.size := h.elim fun _ h => h.lt
theorem ex_upd {S : Nat → Prop} (h : Blk.ex w g t) (hu : Upd S w w') (hn : ¬ S g) : Blk.ex w' g t := h.imp fun _ h => h.upd hu hn
theorem ex_ne {g' : Nat} {t' : TypeId} (h : Blk.ex w g t) (h' : Blk.ex w g' t') (hne : t ≠ t') : g ≠ g' := by
  obtain ⟨_, h⟩ := h
  obtain ⟨_, h'⟩ := h'
  exact h.ne_ h' hne
end Blk

/-! ### A slice of one-cell elements that reads as a list -/
/-- The slice value v reads as the cells xs (nil let in); its block, if it has any element, is below B. -/
def Rd (w : World) (B : Nat) (v : Value) (xs : List Value) : Prop :=
  ∃ (A : Option Addr) (c : Nat), v = .slice A xs.length c ∧ xs.length ≤ c ∧ xs.length ≤ maxLen ∧ (0 < xs.length → ∃ b o, A = some ⟨b, o, none⟩ ∧ b < B ∧ b < w.heap.size ∧ ∀ j u, xs[j]? = some u → w.cell? ⟨b, o + j, none⟩ = some u)
namespace Rd
variable {w w' : World} {B B' : Nat} {v : Value} {xs : List Value}
theorem keep (h : Rd w B v xs) (hs : w.heap.size ≤ w'.heap.size) (hk : ∀ b, b < B → b < w.heap.size → w'.heap[b]? = w.heap[b]?) : Rd w' B v xs := by
  obtain ⟨A, c, hv, hc, hm, hx⟩ := h
  refine ⟨A, c, hv, hc, hm, fun hn => ?_⟩
  obtain ⟨b, o, ha, hb, hbs, hcell⟩ := hx hn
  exact ⟨b, o, ha, hb, by omega, fun j u hj => (World.cell?_of_block (w := w) (a := ⟨b, o + j, none⟩) (hk b hb hbs)).trans (hcell j u hj)⟩
theorem upd {S : Nat → Prop} (h : Rd w B v xs) (hu : Upd S w w') (hn : ∀ k, S k → B ≤ k) : Rd w' B v xs := h.keep hu.size fun b hb hbs => hu.block b hbs (fun hs => by have := hn b hs; omega)
theorem more (h : Rd w B v xs) (hB : B ≤ B') : Rd w B' v xs := by
  obtain ⟨A, c, hv, hc, hm, hx⟩ := h
  refine ⟨A, c, hv, hc, hm, fun hn => ?_⟩
  obtain ⟨b, o, ha, hb, hbs, hcell⟩ := hx hn
  exact ⟨b, o, ha, by omega, hbs, hcell⟩
theorem form (h : Rd w B v xs) : ∃ A c, v = .slice A xs.length c ∧ xs.length ≤ c := h.imp fun _ h => h.imp fun _ h => ⟨h.1, h.2.1⟩
theorem le (h : Rd w B v xs) : xs.length ≤ maxLen := h.elim fun _ h => h.elim fun _ h => h.2.2.1
theorem of_own {base : Nat} {e : TypeId} {n : Nat} (h : w.ownsRow base e 1 v n xs) : Rd w w.heap.size v xs := by
  obtain ⟨hl, h2⟩ := h
  rw [Nat.mul_one] at hl
  rcases h2 with ⟨rfl, rfl⟩ | ⟨g, cap, cur, rfl, hg, hh, hc, hm, hz, ht⟩
  · exact ⟨none, 0, by rw [hl], by omega, by rw [hl]; exact Nat.zero_le _, fun h => absurd h (by omega)⟩
  · refine ⟨_, cap, by rw [hl], by omega, by omega, fun _ => ?_⟩
    have hlt : g < w.heap.size := by
      rcases Nat.lt_or_ge g w.heap.size with hlt | hge
      · exact hlt
      · rw [Array.getElem?_eq_none hge] at hh; cases hh
    refine ⟨g, 0, rfl, hlt, hlt, fun j u hj => ?_⟩
    rw [Nat.zero_add, cell_of_row w g j cur e (0, 0) hh, ← Array.getElem?_toList]
    rw [← ht, List.getElem?_take] at hj
    split at hj
    · exact hj
    · cases hj
end Rd

/-- A slice of integers of kind k. -/
def RdI (w : World) (B : Nat) (k : IntKind) (v : Value) (xs : List Int) : Prop := Rd w B v (xs.map (.int k))
namespace RdI
variable {w w' : World} {B B' : Nat} {v : Value} {xs : List Int} {k : IntKind}
theorem upd {S : Nat → Prop} (h : RdI w B k v xs) (hu : Upd S w w') (hn : ∀ j, S j → B ≤ j) : RdI w' B k v xs := Rd.upd h hu hn
theorem more (h : RdI w B k v xs) (hB : B ≤ B') : RdI w B' k v xs := Rd.more h hB
theorem form (h : RdI w B k v xs) : ∃ A c, v = .slice A xs.length c ∧ xs.length ≤ c ∧ xs.length ≤ maxLen ∧ ∀ j, j < xs.length → ∃ b o, A = some ⟨b, o, none⟩ ∧ b < B ∧ b < w.heap.size ∧ w.cell? ⟨b, o + j, none⟩ = some (.int k (xs.getD j 0)) := by
  obtain ⟨A, c, hv, hc, hm, hx⟩ := h
  rw [List.length_map] at hv hc hm hx
  refine ⟨A, c, hv, hc, hm, fun j hj => ?_⟩
  obtain ⟨b, o, ha, hb, hbs, hcell⟩ := hx (by omega)
  refine ⟨b, o, ha, hb, hbs, hcell j _ ?_⟩
  rw [List.getElem?_map, List.getElem?_eq_getElem hj, List.getD_eq_getElem?_getD, List.getElem?_eq_getElem hj]
  rfl
end RdI

/-- A new row of the call's own, from block 'base' on. -/
theorem own_upd {S : Nat → Prop} {w w' : World} {base : Nat} {e : TypeId} {size n : Nat} {v : Value} {xs : List Value} (h : w.ownsRow base e size v n xs) (hu : Upd S w w') (hn : ∀ k, S k → base ≤ k → k < w.heap.size → v.ownBlock ≠ some k) : w'.ownsRow base e size v n xs := by
  obtain ⟨hl, h2⟩ := h
  refine ⟨hl, ?_⟩
  rcases h2 with h2 | ⟨g, cap, cur, rfl, hg, hh, r⟩
  · exact .inl h2
  · have hlt : g < w.heap.size := by
      rcases Nat.lt_or_ge g w.heap.size with hlt | hge
      · exact hlt
      · rw [Array.getElem?_eq_none hge] at hh; cases hh
    exact .inr ⟨g, cap, cur, rfl, hg, (hu.block g hlt (fun hs => hn g hs hg hlt rfl)).trans hh, r⟩
theorem own_base {w : World} {base base' : Nat} {e : TypeId} {size n : Nat} {v : Value} {xs : List Value} (h : w.ownsRow base e size v n xs) (hb : base' ≤ base) : w.ownsRow base' e size v n xs := by
  obtain ⟨hl, h2⟩ := h
  refine ⟨hl, ?_⟩
  rcases h2 with h2 | ⟨g, cap, cur, hv, hg, r⟩
  · exact .inl h2
  · exact .inr ⟨g, cap, cur, hv, by omega, r⟩

@[simp, go_sem] theorem size_setCells_ (b : Nat) : ∀ (vs : List Value) (o : Nat) (w : World), (w.setCells b o vs).heap.size = w.heap.size
  | [], _, _ => rfl
  | v :: r, o, w => by rw [World.setCells, size_setCells_ b r]; simp [World.setCell]
theorem one_new {w : World} {n : Nat} {v : Value} {t : TypeId} (h : w.heap.size = n) : ∀ j u, [v][j]? = some u → (w.alloc (.cells #[v] t)).cell? ((⟨n, 0, none⟩ : Addr).add j) = some u := by
  subst h
  exact cell_one_new _ _ _
theorem one_cell {v : Value} (h : v.oneCell' = true) : ∀ u ∈ [v], u.oneCell' = true := by
  intro u hu
  rw [List.mem_singleton] at hu
  subst hu
  exact h
/-- A whole struct is stored in the middle of a block: the operation as the walk shows it. -/
theorem wpList_store_agg {P : Program} {ops : Array Oper} {rest : List Oper} {a : Act} {w : World} {Q : Exit → Act → World → Prop} {ty tt : TypeId} {x y : Operand} {pos : String} {after : Array Edge}
    (b o : Nat) (cs : List Value) (n : Nat) (hx : a.eval x = .pointer (some ⟨b, o, none⟩)) (hy : a.eval y = .agg cs.toArray) (hn : cs.length = n)
    (ht : w.there b o n) (hi : (P.info? ty).map (·.size) = some n) (h1 : cs.all (·.oneCell') = true)
    (h : wpList P ops Q rest a (w.setCells b o cs)) : wpList P ops Q ({ dst := none, op := .store ty x y, type := tt, pos := pos, after := after, guard := none } :: rest) a w := by
  subst hn
  exact wpList_store_mid rfl ty x y rfl b o cs.toArray hx hy (by simpa using ht) (by simpa using hi) (by simpa using h1) (by simpa [Act.put] using h)

theorem drewN_cell (w : World) (n : Nat) (a : Addr) : (w.drewN n).cell? a = w.cell? a := rfl
end Go.Proofs.Ytfinbkpmkgpffaa
