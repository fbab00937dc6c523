/- Plain facts on pages: how many are free behind each act, and that what must hold of a pool goes on to hold. No condition. -/
import Derived.Test.YtelmolblcnolnaaPoolSpec
namespace Go.Proofs.Ytelmolblcnolnaa

theorem empty_toList : (⟨#[]⟩ : ByteArray).data.toList = [] := rfl
theorem getD_set_self {l : List Pg} {i : Nat} (p : Pg) (h : i < l.length) : (l.set i p).getD i Pg.zero = p := by
  rw [List.getD_eq_getElem?_getD, List.getElem?_set_self h]; rfl
theorem getD_set_ne {l : List Pg} {i j : Nat} (p : Pg) (h : i ≠ j) : (l.set i p).getD j Pg.zero = l.getD j Pg.zero := by
  rw [List.getD_eq_getElem?_getD, List.getElem?_set_ne h, List.getD_eq_getElem?_getD]

theorem freeIx_congr {l l' : List Pg} {i : Nat} (h : ∀ j, j < i → ((l.getD j Pg.zero).own = 0 ↔ (l'.getD j Pg.zero).own = 0)) : freeIx l i = freeIx l' i := by
  induction i with
  | zero => rfl
  | succ i ih =>
    rw [freeIx_succ, freeIx_succ, ih (fun j hj => h j (by omega))]
    have := h i (by omega)
    by_cases h0 : (l.getD i Pg.zero).own = 0
    · rw [if_pos h0, if_pos (this.1 h0)]
    · rw [if_neg h0, if_neg (fun h1 => h0 (this.2 h1))]
theorem free_set_same {l : List Pg} {k : Nat} {p : Pg} (hk : k < l.length) (h : p.own = 0 ↔ (l.getD k Pg.zero).own = 0) (n : Nat) : freeIx (l.set k p) n = freeIx l n := by
  refine freeIx_congr fun j _ => ?_
  by_cases e : k = j
  · subst e; rw [getD_set_self p hk]; exact h
  · rw [getD_set_ne p e]
theorem free_set_free {l : List Pg} {k : Nat} {p : Pg} (hk : k < l.length) (hl : (l.getD k Pg.zero).own ≠ 0) (hp : p.own = 0) (n : Nat) :
    (freeIx (l.set k p) n).length = (freeIx l n).length + (if k < n then 1 else 0) := by
  induction n with
  | zero => simp [freeIx]
  | succ n ih =>
    rw [freeIx_succ, freeIx_succ, List.length_append, List.length_append, ih]
    by_cases e : k = n
    · subst e
      rw [getD_set_self p hk, if_pos hp, if_neg hl, if_neg (by omega), if_pos (by omega)]
      rfl
    · rw [getD_set_ne p e]
      by_cases hlt : k < n
      · rw [if_pos hlt, if_pos (show k < n + 1 by omega)]; omega
      · rw [if_neg hlt, if_neg (show ¬ k < n + 1 by omega)]; omega
theorem free_set_used {l : List Pg} {k : Nat} {p : Pg} (hk : k < l.length) (hl : (l.getD k Pg.zero).own = 0) (hp : p.own ≠ 0) (n : Nat) :
    (freeIx (l.set k p) n).length + (if k < n then 1 else 0) = (freeIx l n).length := by
  induction n with
  | zero => simp [freeIx]
  | succ n ih =>
    rw [freeIx_succ, freeIx_succ, List.length_append, List.length_append, ← ih]
    by_cases e : k = n
    · subst e
      rw [getD_set_self p hk, if_neg hp, if_pos hl, if_pos (show k < k + 1 by omega), if_neg (show ¬ k < k by omega)]
      rfl
    · rw [getD_set_ne p e]
      by_cases hlt : k < n
      · rw [if_pos hlt, if_pos (show k < n + 1 by omega)]; omega
      · rw [if_neg hlt, if_neg (show ¬ k < n + 1 by omega)]; omega
theorem free_putAt (tag : ByteArray) (l : List Pg) : ∀ m, m ≤ (freeIx l l.length).length → (freeIx (putAt tag l ((freeIx l l.length).take m)) l.length).length + m = (freeIx l l.length).length := by
  intro m
  induction m with
  | zero => intro _; rfl
  | succ m ih =>
    intro h
    have hi := ih (by omega)
    have hx : (freeIx l l.length)[m]? = some ((freeIx l l.length)[m]'(by omega)) := List.getElem?_eq_getElem (by omega)
    have hmem : (freeIx l l.length)[m]'(by omega) ∈ freeIx l l.length := List.getElem_mem _
    generalize hx0 : (freeIx l l.length)[m]'(by omega) = x at *
    obtain ⟨hlt, hown⟩ := mem_freeIx.1 hmem
    have hnot : x ∉ (freeIx l l.length).take m := by
      intro hin
      obtain ⟨q, hq, hqx⟩ := List.mem_iff_getElem.1 hin
      rw [List.length_take] at hq
      rw [List.getElem_take] at hqx
      have hne := (List.pairwise_iff_getElem.1 (freeIx_nodup l l.length)) q m (by omega) (by omega) (by omega)
      exact hne (hqx.trans hx0.symm)
    have et : (freeIx l l.length).take (m + 1) = (freeIx l l.length).take m ++ [x] := by
      rw [List.take_add_one, hx]; rfl
    rw [et, putAt_snoc]
    have hu := free_set_used (l := putAt tag l ((freeIx l l.length).take m)) (k := x) (p := Pg.one tag) (by rw [putAt_length]; exact hlt)
      (by rw [List.getD_eq_getElem?_getD, putAt_other hnot, ← List.getD_eq_getElem?_getD]; exact hown) (by show (1 : Int) ≠ 0; decide) l.length
    rw [if_pos hlt] at hu
    omega

namespace Pl
variable {s : Pl} {c : Int}
theorem free_nonneg (s : Pl) : 0 ≤ s.free := by unfold free; omega
theorem free_le (s : Pl) : s.free ≤ s.pages.length := by
  have := freeIx_len_le s.pages s.pages.length
  unfold free
  omega
theorem Ok.mono {c' : Int} (h : s.Ok c) (hc : c ≤ c') : s.Ok c' := ⟨h.len, h.a0, h.a1, fun p hp => ⟨(h.own p hp).1, by have := (h.own p hp).2; omega⟩, h.cells, h.tag0⟩
theorem zero_page (i : Int) (h : i < 0) : s.page i = Pg.zero := by unfold page; rw [if_neg (by omega)]
/-- A page that is not free is one of the pool's. -/
theorem page_mem {n : Int} (h : (s.page n).own ≠ 0) : 0 ≤ n ∧ n.toNat < s.pages.length ∧ s.page n ∈ s.pages ∧ s.pages.getD n.toNat Pg.zero = s.page n := by
  by_cases h0 : 0 ≤ n
  · have e : s.page n = s.pages.getD n.toNat Pg.zero := by unfold page; rw [if_pos h0]
    rcases Nat.lt_or_ge n.toNat s.pages.length with hl | hl
    · refine ⟨h0, hl, ?_, e.symm⟩
      rw [e, List.getD_eq_getElem?_getD, List.getElem?_eq_getElem hl]
      exact List.getElem_mem hl
    · rw [e, List.getD_eq_getElem?_getD, List.getElem?_eq_none hl] at h
      exact absurd rfl h
  · exact absurd (by rw [zero_page n (by omega)]; rfl) h
theorem Ok.page_own (h : s.Ok c) (hc : 0 ≤ c) (n : Int) : 0 ≤ (s.page n).own ∧ (s.page n).own ≤ c := by
  by_cases h0 : (s.page n).own = 0
  · omega
  · exact h.own _ (page_mem h0).2.2.1
theorem free_setPg_same {n : Int} {p : Pg} (h : (s.page n).own ≠ 0) (hp : p.own ≠ 0) : (s.setPg n p).free = s.free := by
  obtain ⟨_, hl, _, he⟩ := page_mem h
  unfold free setPg
  simp only [List.length_set]
  rw [free_set_same hl (by rw [he]; exact ⟨fun x => absurd x hp, fun x => absurd x h⟩)]
theorem free_setPg_free {n : Int} {p : Pg} (h : (s.page n).own ≠ 0) (hp : p.own = 0) : (s.setPg n p).free = s.free + 1 := by
  obtain ⟨_, hl, _, he⟩ := page_mem h
  unfold free setPg
  simp only [List.length_set]
  rw [free_set_free hl (by rw [he]; exact h) hp, if_pos hl]
  omega
theorem Ok.set (h : s.Ok c) {n : Int} {p : Pg} {c' : Int} (hc : c ≤ c') (hf : s.aside ≤ (s.setPg n p).free) (hp : 0 ≤ p.own ∧ p.own ≤ c') (hl : p.cells.length = 32) (ht : p.own = 0 ↔ p.tag.data.toList = []) : (s.setPg n p).Ok c' := by
  refine ⟨by unfold setPg; simp only [List.length_set]; exact h.len, h.a0, hf, fun q hq => ?_, fun q hq => ?_, fun q hq => ?_⟩
  · rcases List.mem_or_eq_of_mem_set hq with h1 | h1
    · have := h.own q h1; omega
    · subst h1; exact hp
  · rcases List.mem_or_eq_of_mem_set hq with h1 | h1
    · exact h.cells q h1
    · subst h1; exact hl
  · rcases List.mem_or_eq_of_mem_set hq with h1 | h1
    · exact h.tag0 q h1
    · subst h1; exact ht
theorem Ok.share (h : s.Ok c) (n : Int) : (s.shareS n).Ok (c + 1) := by
  unfold shareS
  by_cases h0 : (s.page n).own = 0
  · rw [if_pos h0]; exact h.mono (by omega)
  · rw [if_neg h0]
    have hm := (page_mem h0).2.2.1
    have ho := h.own _ hm
    refine h.set (by omega) ?_ ⟨by show 0 ≤ (s.page n).own + 1; omega, by show (s.page n).own + 1 ≤ c + 1; omega⟩ (show (s.page n).cells.length = 32 from h.cells _ hm) ?_
    · rw [free_setPg_same h0 (by show (s.page n).own + 1 ≠ 0; omega)]; exact h.a1
    · show (s.page n).own + 1 = 0 ↔ _
      refine ⟨fun e => by omega, fun e => absurd ((h.tag0 _ hm).2 e) h0⟩
theorem Ok.drop (h : s.Ok c) (n : Int) (hc : 0 ≤ c) : (s.dropS n).Ok c := by
  unfold dropS
  by_cases h0 : (s.page n).own = 0
  · rw [if_pos h0]; exact h
  · rw [if_neg h0]
    have hm := (page_mem h0).2.2.1
    have ho := h.own _ hm
    by_cases h1 : (s.page n).own = 1
    · rw [if_pos h1]
      refine h.set (by omega) ?_ ⟨by show (0 : Int) ≤ 0; omega, hc⟩ rfl ⟨fun _ => empty_toList, fun _ => rfl⟩
      rw [free_setPg_free h0 rfl]
      have := h.a1
      omega
    · rw [if_neg h1]
      refine h.set (by omega) ?_ ⟨by show 0 ≤ (s.page n).own - 1; omega, by show (s.page n).own - 1 ≤ c; omega⟩ (show (s.page n).cells.length = 32 from h.cells _ hm) ?_
      · rw [free_setPg_same h0 (by show (s.page n).own - 1 ≠ 0; omega)]; exact h.a1
      · show (s.page n).own - 1 = 0 ↔ _
        refine ⟨fun e => by omega, fun e => absurd ((h.tag0 _ hm).2 e) h0⟩
theorem Ok.put (h : s.Ok c) (n k v : Int) : (s.putS n k v).Ok c := by
  unfold putS
  by_cases he : s.cellE n k = 0
  · rw [if_pos he]
    have h0 : (s.page n).own ≠ 0 := by
      intro h0
      unfold cellE at he
      rw [if_pos h0] at he
      cases he
    have hm := (page_mem h0).2.2.1
    refine h.set (by omega) ?_ (show 0 ≤ (s.page n).own ∧ (s.page n).own ≤ c from h.own _ hm) (show ((s.page n).cells.set k.toNat v).length = 32 by rw [List.length_set]; exact h.cells _ hm) (show (s.page n).own = 0 ↔ (s.page n).tag.data.toList = [] from h.tag0 _ hm)
    rw [free_setPg_same h0 (by exact h0)]
    exact h.a1
  · rw [if_neg he]; exact h
theorem takeIx_length (s : Pl) {k : Int} (hk : 0 ≤ k) (hf : k ≤ s.free) : ((s.takeIx k).length : Int) = k := by
  unfold takeIx
  rw [List.length_take]
  unfold free at hf
  omega
theorem free_takeAll (s : Pl) (tag : ByteArray) {k : Int} (hk : 0 ≤ k) (hf : k ≤ s.free) : (s.takeAll tag k).free = s.free - k := by
  have h := free_putAt tag s.pages k.toNat (by unfold free at hf; omega)
  unfold takeAll free takeIx
  simp only [putAt_length]
  unfold free at hf
  omega
theorem Ok.takeAll (h : s.Ok c) (hc : 1 ≤ c) (tag : ByteArray) (ht : tag.data.toList ≠ []) {k a : Int} (hk : 0 ≤ k) (hf : k ≤ s.free) (ha : 0 ≤ a) (hak : a ≤ s.free - k) : ({ s.takeAll tag k with aside := a } : Pl).Ok c := by
  have hget : ∀ q, q ∈ putAt tag s.pages (s.takeIx k) → q = Pg.one tag ∨ q ∈ s.pages := by
    intro q hq
    obtain ⟨i, hi⟩ := List.mem_iff_getElem?.1 hq
    rw [putAt_get] at hi
    split at hi
    · injection hi with hi; exact .inl hi.symm
    · exact .inr (List.mem_of_getElem? hi)
  refine ⟨?_, ha, ?_, fun q hq => ?_, fun q hq => ?_, fun q hq => ?_⟩
  · show (putAt tag s.pages (s.takeIx k)).length ≤ 256
    rw [putAt_length]; exact h.len
  · show a ≤ (s.takeAll tag k).free
    rw [free_takeAll s tag hk hf]; exact hak
  · rcases hget q hq with rfl | h1
    · show (0 : Int) ≤ 1 ∧ 1 ≤ c
      omega
    · exact h.own q h1
  · rcases hget q hq with rfl | h1
    · rfl
    · exact h.cells q h1
  · rcases hget q hq with rfl | h1
    · exact ⟨fun e => absurd e (by show (1 : Int) ≠ 0; decide), fun e => absurd e ht⟩
    · exact h.tag0 q h1
theorem ask_zero {tag : ByteArray} {k o : Int} (h : ask tag k o = 0) : tag.data.toList ≠ [] ∧ 0 ≤ k ∧ k ≤ o := by
  unfold ask at h
  by_cases h1 : tag.data.toList = [] ∨ k < 0
  · rw [if_pos h1] at h; cases h
  · rw [if_neg h1] at h
    by_cases h2 : o < k
    · rw [if_pos h2] at h; cases h
    · exact ⟨fun e => h1 (.inl e), by omega, by omega⟩
theorem Ok.take (h : s.Ok c) (hc : 1 ≤ c) (tag : ByteArray) (k : Int) : (s.takeS tag k).Ok c := by
  unfold takeS
  by_cases he : s.takeE tag k = 0
  · rw [if_pos he]
    obtain ⟨ht, hk, hf⟩ := ask_zero he
    have := h.a0
    exact h.takeAll hc tag ht hk (by omega) h.a0 (by omega)
  · rw [if_neg he]; exact h
theorem Ok.draw (h : s.Ok c) (hc : 1 ≤ c) (tag : ByteArray) (k : Int) : (s.drawS tag k).Ok c := by
  unfold drawS
  by_cases he : s.drawE tag k = 0
  · rw [if_pos he]
    obtain ⟨ht, hk, hf⟩ := ask_zero he
    have := h.a1
    exact h.takeAll hc tag ht hk (by omega) (by omega) (by omega)
  · rw [if_neg he]; exact h
theorem Ok.res (h : s.Ok c) (k : Int) : (s.resS k).Ok c := by
  unfold resS
  by_cases he : s.resE k = 0
  · rw [if_pos he]
    unfold resE at he
    by_cases h1 : k < 0
    · rw [if_pos h1] at he; cases he
    · rw [if_neg h1] at he
      by_cases h2 : s.free - s.aside < k
      · rw [if_pos h2] at he; cases he
      · exact ⟨h.len, by show 0 ≤ s.aside + k; have := h.a0; omega, by show s.aside + k ≤ s.free; omega, h.own, h.cells, h.tag0⟩
  · rw [if_neg he]; exact h
theorem Ok.unres (h : s.Ok c) (k : Int) : (s.unresS k).Ok c := by
  unfold unresS
  by_cases he : s.unresE k = 0
  · rw [if_pos he]
    unfold unresE at he
    by_cases h1 : k < 0 ∨ s.aside < k
    · rw [if_pos h1] at he; cases he
    · exact ⟨h.len, by show 0 ≤ s.aside - k; omega, by show s.aside - k ≤ s.free; have := h.a1; omega, h.own, h.cells, h.tag0⟩
  · rw [if_neg he]; exact h
theorem ok_new {n : Int} (h : newE n = 0) (hc : 0 ≤ c) : (Pl.new n).Ok c := by
  unfold newE at h
  have hn : 1 ≤ n ∧ n ≤ 256 := by
    by_cases h1 : n < 1 ∨ 256 < n
    · rw [if_pos h1] at h; cases h
    · omega
  have hz : ∀ p ∈ (Pl.new n).pages, p = Pg.zero := fun p hp => (List.mem_replicate.1 hp).2
  refine ⟨?_, Int.le_refl _, (free_nonneg _), fun p hp => ?_, fun p hp => ?_, fun p hp => ?_⟩
  · show (List.replicate n.toNat Pg.zero).length ≤ 256
    rw [List.length_replicate]; omega
  · rw [hz p hp]; show (0 : Int) ≤ 0 ∧ 0 ≤ c; omega
  · rw [hz p hp]; rfl
  · rw [hz p hp]; exact ⟨fun _ => empty_toList, fun _ => rfl⟩
end Pl
end Go.Proofs.Ytelmolblcnolnaa
