/- The document's pool in memory: the struct's block, the block of its pages, a block of cells for each page that has owners; what a store turns. No condition. -/
import Derived.Test.YtelmolblcnolnaaPoolMem
namespace Go.Proofs.Ytelmolblcnolnaa
open Go.RowKit

/-- The blocks of the document's pool. -/
def rS (rb rq : Nat) (gs : Nat → Nat) (l : List Pg) (k : Nat) : Prop := k = rb ∨ k = rq ∨ ∃ i p, l[i]? = some p ∧ p.own ≠ 0 ∧ k = gs i

structure RefMem (w : World) (rb rq : Nat) (gs : Nat → Nat) (l : List Pg) (aside : Int) : Prop where
  hb : Blk w rb 107 #[.slice (some ⟨rq, 0, none⟩) l.length l.length, .int .i64 aside]
  tq : Blk.ex w rq 111
  pg : ∀ (i : Nat) (p : Pg), l[i]? = some p → ∃ x, w.rangeAt rq (i * 3) [.string p.tag, .int .i64 p.own, x] ∧ (p.own ≠ 0 → x = .slice (some ⟨gs i, 0, none⟩) 32 32 ∧ Blk w (gs i) 2 ((p.cells.map (Value.int .i64)).toArray))
  inj : ∀ (i j : Nat) (p q : Pg), l[i]? = some p → l[j]? = some q → p.own ≠ 0 → q.own ≠ 0 → gs i = gs j → i = j
  len : ∀ p ∈ l, p.cells.length = 32

namespace RefMem
variable {w w' : World} {rb rq : Nat} {gs gs' : Nat → Nat} {l : List Pg} {aside : Int} {S : Nat → Prop}
theorem ne (h : RefMem w rb rq gs l aside) : rb ≠ rq := Blk.ex_ne ⟨_, h.hb⟩ h.tq (by decide)
theorem c0 (h : RefMem w rb rq gs l aside) : w.cell? ⟨rb, 0, none⟩ = some (.slice (some ⟨rq, 0, none⟩) l.length l.length) := (h.hb.cell 0).trans (by simp)
theorem c1 (h : RefMem w rb rq gs l aside) : w.cell? ⟨rb, 1, none⟩ = some (.int .i64 aside) := (h.hb.cell 1).trans (by simp)
theorem fb (h : RefMem w rb rq gs l aside) (o : Nat) : w.frozen? ⟨rb, o, none⟩ = false := h.hb.frozen o
theorem fq (h : RefMem w rb rq gs l aside) (o : Nat) : w.frozen? ⟨rq, o, none⟩ = false := Blk.ex_fr h.tq o
theorem ctag (h : RefMem w rb rq gs l aside) {i : Nat} {p : Pg} (hp : l[i]? = some p) : w.cell? ⟨rq, i * 3, none⟩ = some (.string p.tag) := by
  obtain ⟨x, hr, _⟩ := h.pg i p hp
  exact hr 0 _ rfl
theorem cown (h : RefMem w rb rq gs l aside) {i : Nat} {p : Pg} (hp : l[i]? = some p) : w.cell? ⟨rq, i * 3 + 1, none⟩ = some (.int .i64 p.own) := by
  obtain ⟨x, hr, _⟩ := h.pg i p hp
  exact hr 1 _ rfl
theorem ccells (h : RefMem w rb rq gs l aside) {i : Nat} {p : Pg} (hp : l[i]? = some p) (ho : p.own ≠ 0) : w.cell? ⟨rq, i * 3 + 2, none⟩ = some (.slice (some ⟨gs i, 0, none⟩) 32 32) := by
  obtain ⟨x, hr, hx⟩ := h.pg i p hp
  obtain ⟨rfl, _⟩ := hx ho
  exact hr 2 _ rfl
theorem blk (h : RefMem w rb rq gs l aside) {i : Nat} {p : Pg} (hp : l[i]? = some p) (ho : p.own ≠ 0) : Blk w (gs i) 2 ((p.cells.map (Value.int .i64)).toArray) := by
  obtain ⟨x, hr, hx⟩ := h.pg i p hp
  exact (hx ho).2
theorem cval (h : RefMem w rb rq gs l aside) {i : Nat} {p : Pg} (hp : l[i]? = some p) (ho : p.own ≠ 0) {c : Nat} (hc : c < 32) : w.cell? ⟨gs i, c, none⟩ = some (.int .i64 (p.cells.getD c 0)) := by
  have hl := h.len p (List.mem_of_getElem? hp)
  rw [(h.blk hp ho).cell c, List.getElem?_toArray, List.getElem?_map, List.getElem?_eq_getElem (by omega), List.getD_eq_getElem?_getD, List.getElem?_eq_getElem (by omega)]
  rfl
theorem there (h : RefMem w rb rq gs l aside) {i : Nat} (hi : i < l.length) : w.there rq (i * 3) 3 := fun j hj => by
  obtain ⟨x, hr, _⟩ := h.pg i _ (List.getElem?_eq_getElem hi)
  exact ⟨hr.isSome j hj, h.fq _⟩
theorem lt (h : RefMem w rb rq gs l aside) {k : Nat} (hk : rS rb rq gs l k) : k < w.heap.size := by
  rcases hk with rfl | rfl | ⟨i, p, hp, ho, rfl⟩
  · exact h.hb.lt
  · exact Blk.ex_lt h.tq
  · exact (h.blk hp ho).lt
/-- A block of another kind is none of the pool's. -/
theorem notIn (h : RefMem w rb rq gs l aside) {k : Nat} {t : TypeId} (hk : Blk.ex w k t) (h1 : t ≠ 107) (h2 : t ≠ 111) (h3 : t ≠ 2) : ¬ rS rb rq gs l k := by
  rintro (rfl | rfl | ⟨i, p, hp, ho, rfl⟩)
  · exact Blk.ex_ne hk ⟨_, h.hb⟩ h1 rfl
  · exact Blk.ex_ne hk h.tq h2 rfl
  · exact Blk.ex_ne hk ⟨_, h.blk hp ho⟩ h3 rfl
theorem upd (h : RefMem w rb rq gs l aside) (hu : Upd S w w') (hn : ∀ k, rS rb rq gs l k → ¬ S k) : RefMem w' rb rq gs l aside := by
  refine ⟨h.hb.upd hu (hn rb (.inl rfl)), Blk.ex_upd h.tq hu (hn rq (.inr (.inl rfl))), fun i p hp => ?_, h.inj, h.len⟩
  obtain ⟨x, hr, hx⟩ := h.pg i p hp
  refine ⟨x, fun j v hv => (World.cell?_of_block (w := w) (a := ⟨rq, i * 3 + j, none⟩) (hu.block rq (Blk.ex_lt h.tq) (hn rq (.inr (.inl rfl))))).trans (hr j v hv), fun ho => ⟨(hx ho).1, (hx ho).2.upd hu (hn _ (.inr (.inr ⟨i, p, hp, ho, rfl⟩)))⟩⟩
/-- One page is another then. -/
theorem change (h : RefMem w rb rq gs l aside) {i : Nat} (hi : i < l.length) (p' : Pg) (hb : w'.heap[rb]? = w.heap[rb]?) (tq : Blk.ex w' rq 111)
    (hout : ∀ o, (o < i * 3 ∨ i * 3 + 3 ≤ o) → w'.cell? ⟨rq, o, none⟩ = w.cell? ⟨rq, o, none⟩)
    (hnew : ∃ x, w'.rangeAt rq (i * 3) [.string p'.tag, .int .i64 p'.own, x] ∧ (p'.own ≠ 0 → x = .slice (some ⟨gs' i, 0, none⟩) 32 32 ∧ Blk w' (gs' i) 2 ((p'.cells.map (Value.int .i64)).toArray)))
    (hgs : ∀ j, j ≠ i → gs' j = gs j) (hoth : ∀ j q, j ≠ i → l[j]? = some q → q.own ≠ 0 → w'.heap[gs j]? = w.heap[gs j]?)
    (hinj : p'.own ≠ 0 → ∀ j q, j ≠ i → l[j]? = some q → q.own ≠ 0 → gs j ≠ gs' i) (hl : p'.cells.length = 32) : RefMem w' rb rq gs' (l.set i p') aside := by
  have hget : ∀ (j : Nat) (q : Pg), (l.set i p')[j]? = some q → (j = i ∧ q = p') ∨ (j ≠ i ∧ l[j]? = some q) := by
    intro j q hq
    by_cases e : j = i
    · subst e
      rw [List.getElem?_set_self hi] at hq
      injection hq with hq
      exact .inl ⟨rfl, hq.symm⟩
    · rw [List.getElem?_set_ne (Ne.symm e)] at hq
      exact .inr ⟨e, hq⟩
  refine ⟨?_, tq, fun j q hq => ?_, fun j j' q q' hq hq' ho ho' he => ?_, fun q hq => ?_⟩
  · rw [List.length_set]; exact hb.trans h.hb
  · rcases hget j q hq with ⟨rfl, rfl⟩ | ⟨e, hq⟩
    · exact hnew
    · obtain ⟨x, hr, hx⟩ := h.pg j q hq
      refine ⟨x, fun k v hv => ?_, fun ho => ?_⟩
      · have hk : k < 3 := (List.getElem?_eq_some_iff.1 hv).1
        rw [hout _ (by omega)]
        exact hr k v hv
      · rw [hgs j e]
        exact ⟨(hx ho).1, (hoth j q e hq ho).trans (hx ho).2⟩
  · rcases hget j q hq with ⟨rfl, rfl⟩ | ⟨e, hq2⟩
    · rcases hget j' q' hq' with ⟨rfl, rfl⟩ | ⟨e', hq2'⟩
      · rfl
      · rw [hgs j' e'] at he
        exact absurd he.symm (hinj ho j' q' e' hq2' ho')
    · rcases hget j' q' hq' with ⟨rfl, rfl⟩ | ⟨e', hq2'⟩
      · rw [hgs j e] at he
        exact absurd he (hinj ho' j q e hq2 ho)
      · rw [hgs j e, hgs j' e'] at he
        exact h.inj j j' q q' hq2 hq2' ho ho' he
  · rcases List.mem_or_eq_of_mem_set hq with h1 | h1
    · exact h.len q h1
    · subst h1; exact hl
theorem ne_gs (h : RefMem w rb rq gs l aside) {i : Nat} {p : Pg} (hp : l[i]? = some p) (ho : p.own ≠ 0) : gs i ≠ rb ∧ gs i ≠ rq :=
  ⟨Blk.ne_ (h.blk hp ho) h.hb (by decide), Blk.ex_ne ⟨_, h.blk hp ho⟩ h.tq (by decide)⟩
theorem setOwn (h : RefMem w rb rq gs l aside) {i : Nat} {p : Pg} (hp : l[i]? = some p) (ho : p.own ≠ 0) (o : Int) : RefMem (w.setCell ⟨rq, i * 3 + 1, none⟩ (.int .i64 o)) rb rq gs (l.set i { p with own := o }) aside := by
  have hi : i < l.length := (List.getElem?_eq_some_iff.1 hp).1
  obtain ⟨x, hr, hx⟩ := h.pg i p hp
  refine h.change hi _ (Below.heap_setCell _ _ _ _ h.ne) (Blk.ex_setCell h.tq _ rfl _) (fun k hk => World.cell?_setCell_other _ _ _ _ (fun e => by injection e with _ e _; omega))
    ⟨x, fun j v hv => ?_, fun _ => ⟨(hx ho).1, (hx ho).2.far (h.ne_gs hp ho).2 _⟩⟩ (fun _ _ => rfl) (fun j q _ hq hqo => Below.heap_setCell _ _ _ _ (h.ne_gs hq hqo).2) (fun _ j q hj hq hqo e => hj (h.inj j i q p hq hp hqo ho e)) (h.len p (List.mem_of_getElem? hp))
  match j, hv with
  | 0, hv => rw [World.cell?_setCell_other _ _ _ _ (fun e => by injection e with _ e _; omega)]; exact hr 0 v hv
  | 1, hv =>
    injection hv with hv
    subst hv
    exact World.cell?_setCell_same _ _ _ (hr 1 _ rfl)
  | 2, hv => rw [World.cell?_setCell_other _ _ _ _ (fun e => by injection e with _ e _; omega)]; exact hr 2 v hv
theorem setVal (h : RefMem w rb rq gs l aside) {i : Nat} {p : Pg} (hp : l[i]? = some p) (ho : p.own ≠ 0) {c : Nat} (v : Int) : RefMem (w.setCell ⟨gs i, c, none⟩ (.int .i64 v)) rb rq gs (l.set i { p with cells := p.cells.set c v }) aside := by
  have hi : i < l.length := (List.getElem?_eq_some_iff.1 hp).1
  obtain ⟨x, hr, hx⟩ := h.pg i p hp
  obtain ⟨n1, n2⟩ := h.ne_gs hp ho
  refine h.change hi _ (Below.heap_setCell _ _ _ _ (Ne.symm n1)) (Blk.ex_setCell h.tq _ rfl _) (fun k hk => World.cell?_setCell_other _ _ _ _ (fun e => by injection e with e _ _; exact n2 e))
    ⟨x, fun j u hv => ?_, fun _ => ⟨(hx ho).1, ?_⟩⟩ (fun _ _ => rfl) (fun j q hj hq hqo => Below.heap_setCell _ _ _ _ (fun e => hj (h.inj j i q p hq hp hqo ho e))) (fun _ j q hj hq hqo e => hj (h.inj j i q p hq hp hqo ho e)) (by rw [List.length_set]; exact h.len p (List.mem_of_getElem? hp))
  · rw [World.cell?_setCell_other _ _ _ _ (fun e => by injection e with e _ _; exact n2 e)]
    exact hr j u hv
  · have := (hx ho).2.set_ c (.int .i64 v)
    have e : (((p.cells.set c v).map (Value.int .i64)).toArray) = ((p.cells.map (Value.int .i64)).toArray).setIfInBounds c (.int .i64 v) := by
      rw [List.map_set]; simp
    rw [e]
    exact this
/-- A page that is free then. -/
theorem setZero (h : RefMem w rb rq gs l aside) {i : Nat} (hi : i < l.length) : RefMem (w.setCells rq (i * 3) [.string ⟨#[]⟩, .int .i64 0, .slice none 0 0]) rb rq gs (l.set i Pg.zero) aside := by
  refine h.change hi _ (Blk.farS (t := 107) h.ne _ _ h.hb |>.trans h.hb.symm) (Blk.ex_setCells _ _ _ h.tq) (fun o ho => ?_) ⟨.slice none 0 0, World.rangeAt_setCells_same w rq _ _ (h.there hi), fun hz => absurd rfl hz⟩ (fun _ _ => rfl)
    (fun j q _ hq hqo => ?_) (fun hz => absurd rfl hz) rfl
  · rw [World.cell?_setCells_out rq _ (i * 3) w ⟨rq, o, none⟩ (fun _ _ => ?_)]
    show o < i * 3 ∨ i * 3 + 3 ≤ o
    exact ho
  · have h1 := h.blk hq hqo
    exact (Blk.farS (h.ne_gs hq hqo).2 _ _ h1).trans h1.symm
/-- A page that is taken then: its cells are a new block. -/
theorem setOne (h : RefMem w rb rq gs l aside) {i : Nat} (hi : i < l.length) (tag : ByteArray) {w1 : World} (g : Nat) (hg : w.heap.size ≤ g) (hu : Upd (fun _ => False) w w1) (hblk : Blk w1 g 2 ((zeros32.map (Value.int .i64)).toArray)) :
    RefMem (w1.setCells rq (i * 3) [.string tag, .int .i64 1, .slice (some ⟨g, 0, none⟩) 32 32]) rb rq (fun j => if j = i then g else gs j) (l.set i (Pg.one tag)) aside := by
  have h1 : RefMem w1 rb rq gs l aside := h.upd hu (fun _ _ h => h)
  have hqg : g ≠ rq := by have := Blk.ex_lt h.tq; omega
  refine h1.change hi _ (Blk.farS (t := 107) h1.ne _ _ h1.hb |>.trans h1.hb.symm) (Blk.ex_setCells _ _ _ h1.tq) (fun o ho => ?_) ⟨_, World.rangeAt_setCells_same w1 rq _ _ (h1.there hi), fun _ => ⟨by rw [if_pos rfl], ?_⟩⟩ (fun j hj => if_neg hj)
    (fun j q _ hq hqo => ?_) (fun _ j q hj hq hqo e => ?_) rfl
  · rw [World.cell?_setCells_out rq _ (i * 3) w1 ⟨rq, o, none⟩ (fun _ _ => ?_)]
    show o < i * 3 ∨ i * 3 + 3 ≤ o
    exact ho
  · rw [if_pos rfl]
    exact Blk.farS hqg _ _ hblk
  · have h2 := h1.blk hq hqo
    exact (Blk.farS (h1.ne_gs hq hqo).2 _ _ h2).trans h2.symm
  · rw [if_pos rfl] at e
    have := (h.blk hq hqo).lt
    omega
theorem setAside (h : RefMem w rb rq gs l aside) (f : Int) : RefMem (w.setCell ⟨rb, 1, none⟩ (.int .i64 f)) rb rq gs l f := by
  have hne := h.ne
  refine ⟨by have := h.hb.set_ 1 (.int .i64 f); simpa using this, Blk.ex_setCell h.tq _ rfl _, fun i p hp => ?_, h.inj, h.len⟩
  obtain ⟨x, hr, hx⟩ := h.pg i p hp
  exact ⟨x, fun j v hv => by rw [World.cell?_setCell_other _ _ _ _ (fun e => by injection e with e _ _; exact hne e)]; exact hr j v hv, fun ho => ⟨(hx ho).1, (hx ho).2.far (h.ne_gs hp ho).1 _⟩⟩
end RefMem

/-- The document's pool, as the plain data says it. -/
def RefAt (w : World) (rb rq : Nat) (gs : Nat → Nat) (s : Pl) : Prop := RefMem w rb rq gs s.pages s.aside
/-- What a call that turns the document's pool leaves. -/
structure RefTo (w : World) (rb rq : Nat) (gs : Nat → Nat) (l : List Pg) (l' : List Pg) (a' : Int) (w' : World) : Prop where
  ex : ∃ gs', RefMem w' rb rq gs' l' a' ∧ ∀ k, rS rb rq gs' l' k → rS rb rq gs l k ∨ w.heap.size ≤ k
  upd : Upd (rS rb rq gs l) w w'
theorem RefTo.same {w w' : World} {rb rq : Nat} {gs : Nat → Nat} {l : List Pg} {a : Int} (h : RefMem w' rb rq gs l a) (hu : Upd (rS rb rq gs l) w w') : RefTo w rb rq gs l l a w' := ⟨⟨gs, h, fun _ hk => .inl hk⟩, hu⟩
/-- A page that had owners is turned. -/
theorem rS_set {rb rq : Nat} {gs : Nat → Nat} {l : List Pg} {i : Nat} {p p' : Pg} (hp : l[i]? = some p) (ho : p.own ≠ 0) {k : Nat} (hk : rS rb rq gs (l.set i p') k) : rS rb rq gs l k := by
  rcases hk with h | h | ⟨j, q, hq, hqo, rfl⟩
  · exact .inl h
  · exact .inr (.inl h)
  · by_cases e : i = j
    · subst e; exact .inr (.inr ⟨i, p, hp, ho, rfl⟩)
    · rw [List.getElem?_set_ne e] at hq
      exact .inr (.inr ⟨j, q, hq, hqo, rfl⟩)
end Go.Proofs.Ytelmolblcnolnaa
