/- Pages with owners, as plain data: what each act of a pool comes to. No condition. -/
import Derived.WalkKit
namespace Go.Proofs.Ytelmolblcnolnaa

structure Pg where
  tag : ByteArray
  own : Int
  cells : List Int

def zeros32 : List Int := List.replicate 32 0
def Pg.zero : Pg := ⟨⟨#[]⟩, 0, zeros32⟩
def Pg.one (tag : ByteArray) : Pg := ⟨tag, 1, zeros32⟩

/-- The free pages' numbers, of the first i. -/
def freeIx (l : List Pg) (i : Nat) : List Nat := (List.range i).filter (fun j => (l.getD j Pg.zero).own == 0)
def putAt (tag : ByteArray) (l : List Pg) (ix : List Nat) : List Pg := ix.foldl (fun l j => l.set j (Pg.one tag)) l

structure Pl where
  pages : List Pg
  aside : Int

namespace Pl
def free (s : Pl) : Int := (freeIx s.pages s.pages.length).length
def page (s : Pl) (n : Int) : Pg := if 0 ≤ n then s.pages.getD n.toNat Pg.zero else Pg.zero
def owners (s : Pl) (n : Int) : Int := (s.page n).own
def tagOf (s : Pl) (n : Int) : ByteArray := if (s.page n).own = 0 then ⟨#[]⟩ else (s.page n).tag
def count (s : Pl) (tag : ByteArray) : Int := (s.pages.countP (fun p => decide (0 < p.own) && (p.tag.data.toList == tag.data.toList)) : Nat)

structure Ok (c : Int) (s : Pl) : Prop where
  len : s.pages.length ≤ 256
  a0 : 0 ≤ s.aside
  a1 : s.aside ≤ s.free
  own : ∀ p ∈ s.pages, 0 ≤ p.own ∧ p.own ≤ c
  cells : ∀ p ∈ s.pages, p.cells.length = 32
  tag0 : ∀ p ∈ s.pages, p.own = 0 ↔ p.tag.data.toList = []

def ask (tag : ByteArray) (k of : Int) : Int := if tag.data.toList = [] ∨ k < 0 then 20 else if of < k then 6 else 0
def takeIx (s : Pl) (k : Int) : List Nat := (freeIx s.pages s.pages.length).take k.toNat
def takeAll (s : Pl) (tag : ByteArray) (k : Int) : Pl := { s with pages := putAt tag s.pages (s.takeIx k) }

def takeE (s : Pl) (tag : ByteArray) (k : Int) : Int := ask tag k (s.free - s.aside)
def takeL (s : Pl) (tag : ByteArray) (k : Int) : List Int := if s.takeE tag k = 0 then (s.takeIx k).map (fun j => ((j : Nat) : Int)) else []
def takeS (s : Pl) (tag : ByteArray) (k : Int) : Pl := if s.takeE tag k = 0 then s.takeAll tag k else s
def drawE (s : Pl) (tag : ByteArray) (k : Int) : Int := ask tag k s.aside
def drawL (s : Pl) (tag : ByteArray) (k : Int) : List Int := if s.drawE tag k = 0 then (s.takeIx k).map (fun j => ((j : Nat) : Int)) else []
def drawS (s : Pl) (tag : ByteArray) (k : Int) : Pl := if s.drawE tag k = 0 then { s.takeAll tag k with aside := s.aside - k } else s
def resE (s : Pl) (k : Int) : Int := if k < 0 then 20 else if s.free - s.aside < k then 6 else 0
def resS (s : Pl) (k : Int) : Pl := if s.resE k = 0 then { s with aside := s.aside + k } else s
def unresE (s : Pl) (k : Int) : Int := if k < 0 ∨ s.aside < k then 20 else 0
def unresS (s : Pl) (k : Int) : Pl := if s.unresE k = 0 then { s with aside := s.aside - k } else s
def noneE (s : Pl) (n : Int) : Int := if (s.page n).own = 0 then 25 else 0
def setPg (s : Pl) (n : Int) (p : Pg) : Pl := { s with pages := s.pages.set n.toNat p }
def shareS (s : Pl) (n : Int) : Pl := if (s.page n).own = 0 then s else s.setPg n { s.page n with own := (s.page n).own + 1 }
def dropS (s : Pl) (n : Int) : Pl := if (s.page n).own = 0 then s else if (s.page n).own = 1 then s.setPg n Pg.zero else s.setPg n { s.page n with own := (s.page n).own - 1 }
def cellE (s : Pl) (n c : Int) : Int := if (s.page n).own = 0 then 25 else if c < 0 ∨ 32 ≤ c then 20 else 0
def putS (s : Pl) (n c v : Int) : Pl := if s.cellE n c = 0 then s.setPg n { s.page n with cells := (s.page n).cells.set c.toNat v } else s
def get (s : Pl) (n c : Int) : Int := if s.cellE n c = 0 then (s.page n).cells.getD c.toNat 0 else 0
def new (n : Int) : Pl := { pages := List.replicate n.toNat Pg.zero, aside := 0 }
def newE (n : Int) : Int := if n < 1 ∨ 256 < n then 20 else 0
end Pl

/-! ### The free pages -/
theorem freeIx_succ (l : List Pg) (i : Nat) : freeIx l (i + 1) = freeIx l i ++ (if (l.getD i Pg.zero).own = 0 then [i] else []) := by
  unfold freeIx
  rw [List.range_succ, List.filter_append]
  by_cases h : (l.getD i Pg.zero).own = 0
  · have e : ((l.getD i Pg.zero).own == 0) = true := by rw [h]; rfl
    rw [if_pos h, List.filter_cons, e]; rfl
  · have e : ((l.getD i Pg.zero).own == 0) = false := beq_eq_false_iff_ne.2 h
    rw [if_neg h, List.filter_cons, e]; rfl
theorem freeIx_lt {l : List Pg} {i j : Nat} (h : j ∈ freeIx l i) : j < i := by
  unfold freeIx at h
  rw [List.mem_filter, List.mem_range] at h
  exact h.1
theorem freeIx_own {l : List Pg} {i j : Nat} (h : j ∈ freeIx l i) : (l.getD j Pg.zero).own = 0 := by
  unfold freeIx at h
  rw [List.mem_filter] at h
  simpa using h.2
theorem mem_freeIx {l : List Pg} {i j : Nat} : j ∈ freeIx l i ↔ j < i ∧ (l.getD j Pg.zero).own = 0 := by
  unfold freeIx
  rw [List.mem_filter, List.mem_range]
  simp
theorem freeIx_mono (l : List Pg) {i j : Nat} (h : i ≤ j) : ∃ r, freeIx l j = freeIx l i ++ r := by
  induction j with
  | zero => obtain rfl : i = 0 := by omega
            exact ⟨[], by simp⟩
  | succ j ih =>
    rcases Nat.lt_or_ge j i with hlt | hge
    · obtain rfl : i = j + 1 := by omega
      exact ⟨[], by simp⟩
    · obtain ⟨r, hr⟩ := ih hge
      exact ⟨r ++ _, by rw [freeIx_succ, hr, List.append_assoc]⟩
theorem freeIx_nodup (l : List Pg) (i : Nat) : (freeIx l i).Nodup := List.Pairwise.filter _ List.nodup_range
theorem freeIx_len_le (l : List Pg) (i : Nat) : (freeIx l i).length ≤ i := by
  have := List.length_filter_le (fun j => (l.getD j Pg.zero).own == 0) (List.range i)
  rw [List.length_range] at this
  exact this
/-- Where so many of the first i are free, the first k are these's first k. -/
theorem freeIx_take {l : List Pg} {i j k : Nat} (h : i ≤ j) (hk : k ≤ (freeIx l i).length) : (freeIx l j).take k = (freeIx l i).take k := by
  obtain ⟨r, hr⟩ := freeIx_mono l h
  rw [hr, List.take_append_of_le_length hk]

theorem putAt_length (tag : ByteArray) : ∀ (ix : List Nat) (l : List Pg), (putAt tag l ix).length = l.length
  | [], _ => rfl
  | j :: r, l => by
    show (putAt tag (l.set j (Pg.one tag)) r).length = _
    rw [putAt_length tag r, List.length_set]
theorem putAt_get (tag : ByteArray) : ∀ (ix : List Nat) (l : List Pg) (i : Nat), (putAt tag l ix)[i]? = if i ∈ ix ∧ i < l.length then some (Pg.one tag) else l[i]?
  | [], l, i => by simp [putAt]
  | j :: r, l, i => by
    show (putAt tag (l.set j (Pg.one tag)) r)[i]? = _
    rw [putAt_get tag r, List.length_set]
    by_cases hi : i < l.length
    · by_cases hr : i ∈ r
      · simp [hr, hi]
      · by_cases hj : i = j
        · subst hj; simp [hr, hi]
        · rw [List.getElem?_set_ne (Ne.symm hj)]
          simp [hr, hj]
    · rw [if_neg (fun h => hi h.2), if_neg (fun h => hi h.2)]
      rw [List.getElem?_eq_none (by rw [List.length_set]; omega), List.getElem?_eq_none (by omega)]
theorem putAt_snoc (tag : ByteArray) (l : List Pg) (ix : List Nat) (i : Nat) : putAt tag l (ix ++ [i]) = (putAt tag l ix).set i (Pg.one tag) := by
  unfold putAt
  rw [List.foldl_append]
  rfl
theorem putAt_other {tag : ByteArray} {l : List Pg} {ix : List Nat} {i : Nat} (h : i ∉ ix) : (putAt tag l ix)[i]? = l[i]? := by
  rw [putAt_get, if_neg (fun hh => h hh.1)]
end Go.Proofs.Ytelmolblcnolnaa
