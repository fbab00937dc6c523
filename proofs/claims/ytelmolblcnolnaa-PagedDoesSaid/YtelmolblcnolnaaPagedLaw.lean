/- Weights in pages, plainly: what was laid is got again; whose pages are shared, dropped, given back. No program. -/
import Derived.Test.YtelmolblcnolnaaFetchWB
import Derived.Test.YtelmolblcnolnaaReleaseW
namespace Go.Proofs.Ytelmolblcnolnaa

theorem getD_mem_ {L : List Int} {i : Nat} (h : i < L.length) : L.getD i 0 ∈ L := by
  rw [List.getD_eq_getElem?_getD, List.getElem?_eq_getElem h]
  exact List.getElem_mem h
theorem getD_inj_ {L : List Int} (hn : L.Nodup) {i j : Nat} (hi : i < L.length) (hj : j < L.length) (h : L.getD i 0 = L.getD j 0) : i = j := by
  rw [List.getD_eq_getElem?_getD, List.getD_eq_getElem?_getD, List.getElem?_eq_getElem hi, List.getElem?_eq_getElem hj] at h
  exact (List.getElem_inj hn).1 h
theorem getD_set_self_ {l : List Int} {i : Nat} (v : Int) (h : i < l.length) : (l.set i v).getD i 0 = v := by
  rw [List.getD_eq_getElem?_getD, List.getElem?_set_self h]
  rfl
theorem getD_set_ne_ {l : List Int} {i j : Nat} (v : Int) (h : i ≠ j) : (l.set i v).getD j 0 = l.getD j 0 := by
  rw [List.getD_eq_getElem?_getD, List.getElem?_set_ne h, List.getD_eq_getElem?_getD]
namespace Pl
variable {s : Pl} {c : Int}
theorem page_setPg {n m : Int} {p : Pg} (h : (s.page n).own ≠ 0) : (s.setPg n p).page m = if m = n then p else s.page m := by
  obtain ⟨h0, hl, _, _⟩ := page_mem h
  unfold page setPg
  by_cases e : m = n
  · subst e
    rw [if_pos rfl, if_pos h0]
    exact getD_set_self p hl
  · rw [if_neg e]
    by_cases hm : 0 ≤ m
    · rw [if_pos hm, if_pos hm]
      exact getD_set_ne p (by omega)
    · rw [if_neg hm, if_neg hm]
theorem Ok.cell32 (h : s.Ok c) (m : Int) : (s.page m).cells.length = 32 := by
  by_cases h0 : 0 ≤ m
  · have e : s.page m = s.pages.getD m.toNat Pg.zero := by unfold page; rw [if_pos h0]
    rw [e, List.getD_eq_getElem?_getD]
    rcases Nat.lt_or_ge m.toNat s.pages.length with hl | hl
    · rw [List.getElem?_eq_getElem hl]
      exact h.cells _ (List.getElem_mem hl)
    · rw [List.getElem?_eq_none hl]
      rfl
  · unfold page
    rw [if_neg h0]
    rfl
theorem put_own (n k v m : Int) : ((s.putS n k v).page m).own = (s.page m).own := by
  unfold putS
  by_cases he : s.cellE n k = 0
  · rw [if_pos he]
    have ho : (s.page n).own ≠ 0 := by
      intro h0
      unfold cellE at he
      rw [if_pos h0] at he
      cases he
    rw [page_setPg ho]
    split
    · rename_i e; rw [e]
    · rfl
  · rw [if_neg he]
theorem put_far (n k v : Int) {m : Int} (hm : m ≠ n) : (s.putS n k v).page m = s.page m := by
  unfold putS
  by_cases he : s.cellE n k = 0
  · rw [if_pos he]
    have ho : (s.page n).own ≠ 0 := by
      intro h0
      unfold cellE at he
      rw [if_pos h0] at he
      cases he
    rw [page_setPg ho, if_neg hm]
  · rw [if_neg he]
theorem put_near {n : Int} (k : Nat) (v : Int) (ho : (s.page n).own ≠ 0) (hk : k < 32) : ((s.putS n (k : Int) v).page n).cells = (s.page n).cells.set k v := by
  have he : s.cellE n (k : Int) = 0 := by
    unfold cellE
    rw [if_neg ho, if_neg (by omega)]
  unfold putS
  rw [if_pos he, page_setPg ho, if_pos rfl, Int.toNat_natCast]
theorem put_aside (n k v : Int) : (s.putS n k v).aside = s.aside := by unfold putS setPg; split <;> rfl
theorem drop_aside (n : Int) : (s.dropS n).aside = s.aside := by unfold dropS setPg; split; rfl; split <;> rfl
theorem share_aside (n : Int) : (s.shareS n).aside = s.aside := by unfold shareS setPg; split <;> rfl
theorem take_aside (tag : ByteArray) (k : Int) : (s.takeS tag k).aside = s.aside := by unfold takeS takeAll; split <;> rfl
theorem share_page (n m : Int) : ((s.shareS n).page m).cells = (s.page m).cells ∧ ((s.shareS n).page m).own = (s.page m).own + if m = n ∧ (s.page n).own ≠ 0 then 1 else 0 := by
  unfold shareS
  by_cases ho : (s.page n).own = 0
  · rw [if_pos ho, if_neg (by simp [ho])]
    simp
  · rw [if_neg ho, page_setPg ho]
    by_cases e : m = n
    · subst e
      simp [ho]
    · simp [e]
theorem drop_page (n m : Int) : (((s.dropS n).page m).own ≠ 0 → ((s.dropS n).page m).cells = (s.page m).cells) ∧ ((s.dropS n).page m).own = (s.page m).own - if m = n ∧ (s.page n).own ≠ 0 then 1 else 0 := by
  unfold dropS
  by_cases ho : (s.page n).own = 0
  · rw [if_pos ho, if_neg (by simp [ho])]
    simp
  · rw [if_neg ho]
    by_cases h1 : (s.page n).own = 1
    · rw [if_pos h1, page_setPg ho]
      by_cases e : m = n
      · subst e
        simp [h1, Pg.zero]
      · simp [e]
    · rw [if_neg h1, page_setPg ho]
      by_cases e : m = n
      · subst e
        simp [ho]
      · simp [e]
theorem take_len {tag : ByteArray} {k : Int} (hk : s.Ok c) (h : s.takeE tag k = 0) : ((s.takeL tag k).length : Int) = k := by
  obtain ⟨_, h1, h2⟩ := ask_zero h
  unfold takeL
  rw [if_pos h, List.length_map]
  have := hk.a0
  exact takeIx_length s h1 (by omega)
theorem take_nodup (tag : ByteArray) (k : Int) : (s.takeL tag k).Nodup := by
  unfold takeL
  split
  · exact List.pairwise_map.2 (((freeIx_nodup _ _).sublist (List.take_sublist _ _)).imp fun hne e => hne (by omega))
  · exact List.nodup_nil
theorem take_mem {tag : ByteArray} {k m : Int} (h : m ∈ s.takeL tag k) : (s.page m).own = 0 ∧ ∃ j : Nat, m = (j : Int) ∧ j < s.pages.length ∧ j ∈ s.takeIx k := by
  unfold takeL at h
  split at h
  · obtain ⟨j, hj, rfl⟩ := List.mem_map.1 h
    have h1 := List.mem_of_mem_take hj
    have h2 := mem_freeIx.1 h1
    refine ⟨?_, j, rfl, h2.1, hj⟩
    unfold page
    rw [if_pos (by omega), Int.toNat_natCast]
    exact h2.2
  · cases h
theorem take_page {tag : ByteArray} {k : Int} (h : s.takeE tag k = 0) (m : Int) : (s.takeS tag k).page m = if m ∈ s.takeL tag k then Pg.one tag else s.page m := by
  have e1 : s.takeS tag k = s.takeAll tag k := by unfold takeS; rw [if_pos h]
  have e2 : s.takeL tag k = (s.takeIx k).map (fun j => ((j : Nat) : Int)) := by unfold takeL; rw [if_pos h]
  by_cases hm : m ∈ s.takeL tag k
  · rw [if_pos hm]
    obtain ⟨_, j, rfl, hj, hx⟩ := take_mem hm
    rw [e1]
    unfold page takeAll
    rw [if_pos (by omega), Int.toNat_natCast, List.getD_eq_getElem?_getD, putAt_get, if_pos ⟨hx, hj⟩]
    rfl
  · rw [if_neg hm, e1]
    unfold page takeAll
    by_cases h0 : 0 ≤ m
    · rw [if_pos h0, if_pos h0, List.getD_eq_getElem?_getD, putAt_other, List.getD_eq_getElem?_getD]
      intro hj
      exact hm (by rw [e2]; exact List.mem_map.2 ⟨_, hj, by omega⟩)
    · rw [if_neg h0, if_neg h0]
theorem free_all (h : ∀ m, (s.page m).own = 0) : s.free = s.pages.length := by
  unfold free freeIx
  rw [List.filter_eq_self.2, List.length_range]
  intro j hj
  have h1 := h (j : Int)
  unfold page at h1
  rw [if_pos (by omega), Int.toNat_natCast] at h1
  simpa using h1
theorem new_own (n m : Int) : ((Pl.new n).page m).own = 0 := by
  unfold page new
  split
  · rw [List.getD_eq_getElem?_getD, List.getElem?_replicate]
    split <;> rfl
  · rfl
end Pl

/-- weights lie in pages -/
def Holds (s : Pl) (L xs : List Int) : Prop := (xs.length + 31) / 32 ≤ L.length ∧ ∀ k, k < xs.length → (s.page (L.getD (k / 32) 0)).own ≠ 0 ∧ (s.page (L.getD (k / 32) 0)).cells.getD (k % 32) 0 = xs.getD k 0
theorem Holds.same {s s' : Pl} {L xs : List Int} (h : Holds s L xs) (hs : ∀ m ∈ L, (s.page m).own ≠ 0 → (s'.page m).own ≠ 0 ∧ (s'.page m).cells = (s.page m).cells) : Holds s' L xs := by
  refine ⟨h.1, fun k hk => ?_⟩
  have h1 := h.2 k hk
  have h2 := hs _ (getD_mem_ (show k / 32 < L.length by have := h.1; omega)) h1.1
  exact ⟨h2.1, by rw [h2.2]; exact h1.2⟩
theorem fetch_holds {s : Pl} {L xs : List Int} (h : Holds s L xs) (h8 : ∀ v ∈ xs, -128 ≤ v ∧ v ≤ 127) : fetchE s L xs.length = 0 ∧ (List.range xs.length).map (gotV s L) = xs := by
  have hc : ∀ k, k < xs.length → s.cellE (L.getD (k / 32) 0) ((k % 32 : Nat) : Int) = 0 := fun k hk => by
    unfold Pl.cellE
    rw [if_neg (h.2 k hk).1, if_neg (by omega)]
  have hg : ∀ k, k < xs.length → gotV s L k = xs.getD k 0 := fun k hk => by
    unfold gotV Pl.get
    rw [if_pos (hc k hk), Int.toNat_natCast]
    exact (h.2 k hk).2
  refine ⟨fetchE_ok (fun k hk => ?_), ?_⟩
  · unfold badE
    rw [if_neg (by rw [hc k hk]; simp), if_neg]
    rw [hg k hk]
    have := h8 _ (getD_mem_ hk)
    omega
  · refine List.ext_getElem (by simp) (fun k h1 h2 => ?_)
    rw [List.getElem_map, List.getElem_range, hg k h2, List.getD_eq_getElem?_getD, List.getElem?_eq_getElem h2]
    rfl
theorem puts_holds {s : Pl} {c : Int} {L xs : List Int} (hk : s.Ok c) (hn : L.Nodup) (ho : ∀ m ∈ L, (s.page m).own ≠ 0) : ∀ j, j ≤ xs.length → (xs.length + 31) / 32 ≤ L.length →
    (∀ m, ((putsTo s L xs j).page m).own = (s.page m).own) ∧ (∀ m, m ∉ L → (putsTo s L xs j).page m = s.page m) ∧ (putsTo s L xs j).aside = s.aside ∧
      ∀ k, k < j → ((putsTo s L xs j).page (L.getD (k / 32) 0)).cells.getD (k % 32) 0 = xs.getD k 0
  | 0, _, _ => ⟨fun _ => rfl, fun _ _ => rfl, rfl, fun k hk => absurd hk (by omega)⟩
  | j + 1, hj, hl => by
    obtain ⟨h1, h2, h3, h4⟩ := puts_holds hk hn ho j (by omega) hl
    have hjl : j / 32 < L.length := by omega
    have hoj : ((putsTo s L xs j).page (L.getD (j / 32) 0)).own ≠ 0 := by
      rw [h1]
      exact ho _ (getD_mem_ hjl)
    unfold putsTo
    refine ⟨fun m => by rw [Pl.put_own, h1], fun m hm => ?_, by rw [Pl.put_aside, h3], fun k hk' => ?_⟩
    · rw [Pl.put_far _ _ _ (fun e => hm (by rw [e]; exact getD_mem_ hjl)), h2 m hm]
    · by_cases e : k / 32 = j / 32
      · rw [e, Pl.put_near (j % 32) _ hoj (Nat.mod_lt _ (by omega))]
        by_cases e2 : k = j
        · subst e2
          rw [getD_set_self_]
          rw [(ok_putsTo' hk L xs _).cell32]
          exact Nat.mod_lt _ (by omega)
        · rw [getD_set_ne_ _ (by omega), ← e]
          exact h4 k (by omega)
      · rw [Pl.put_far _ _ _ (fun e2 => e (getD_inj_ hn (by omega) hjl e2))]
        exact h4 k (by omega)
where
  ok_putsTo' {s : Pl} {c : Int} (h : s.Ok c) (L xs : List Int) : ∀ k, (putsTo s L xs k).Ok c
    | 0 => h
    | k + 1 => (ok_putsTo' h L xs k).put _ _ _
/-- what is placed holds -/
theorem place_holds {s : Pl} {c : Int} {tag : ByteArray} {xs : List Int} (hk : s.Ok c) (hc : 1 ≤ c) (he : s.takeE tag (needV xs.length) = 0) :
    let L := s.takeL tag (needV xs.length)
    let s2 := putsTo (s.takeS tag (needV xs.length)) L xs xs.length
    Holds s2 L xs ∧ L.length = (xs.length + 31) / 32 ∧ L.Nodup ∧ (∀ m ∈ L, (s.page m).own = 0 ∧ (s2.page m).own = 1) ∧ (∀ m, m ∉ L → s2.page m = s.page m) ∧ s2.aside = s.aside := by
  intro L s2
  have hl : L.length = (xs.length + 31) / 32 := by
    have h1 : (L.length : Int) = ((xs.length + 31) / 32 : Nat) := by rw [← need_eq]; exact Pl.take_len hk he
    exact Int.ofNat_inj.1 h1
  have hp := fun m => Pl.take_page he m
  have ho : ∀ m ∈ L, ((s.takeS tag (needV xs.length)).page m).own = 1 := fun m hm => by
    rw [hp m, if_pos hm]
    rfl
  obtain ⟨h1, h2, h3, h4⟩ := puts_holds (hk.take hc tag (needV xs.length)) (Pl.take_nodup tag (needV xs.length) : L.Nodup) (fun m hm => by rw [ho m hm]; decide) xs.length (Nat.le_refl _) (Nat.le_of_eq hl.symm)
  refine ⟨⟨Nat.le_of_eq hl.symm, fun k hk2 => ⟨?_, h4 k hk2⟩⟩, hl, Pl.take_nodup _ _, fun m hm => ⟨(Pl.take_mem hm).1, by rw [h1, ho m hm]⟩, fun m hm => ?_, by rw [h3, Pl.take_aside]⟩
  · rw [h1, ho _ (getD_mem_ (by omega))]
    decide
  · rw [h2 m hm, hp m, if_neg hm]
/-- what is dropped once has an owner less -/
theorem drops_own {s : Pl} {L : List Int} (hn : L.Nodup) (ho : ∀ m ∈ L, 1 ≤ (s.page m).own) : ∀ k, k ≤ L.length →
    (∀ m, ((dropTo s L k).page m).own = (s.page m).own - if m ∈ L.take k then 1 else 0) ∧ (∀ m, ((dropTo s L k).page m).own ≠ 0 → ((dropTo s L k).page m).cells = (s.page m).cells) ∧ (dropTo s L k).aside = s.aside
  | 0, _ => ⟨fun m => by simp [dropTo], fun _ _ => rfl, rfl⟩
  | k + 1, hk => by
    obtain ⟨h1, h2, h3⟩ := drops_own hn ho k (by omega)
    have hkl : k < L.length := by omega
    have hnk : L.getD k 0 ∉ L.take k := by
      intro h
      obtain ⟨i, hi, e⟩ := List.getElem_of_mem h
      rw [List.length_take] at hi
      rw [List.getElem_take] at e
      have := getD_inj_ hn (i := i) (j := k) (by omega) hkl (by rw [← e, List.getD_eq_getElem?_getD, List.getElem?_eq_getElem (by omega)]; rfl)
      omega
    have hok : ((dropTo s L k).page (L.getD k 0)).own ≠ 0 := by
      rw [h1, if_neg hnk]
      have := ho _ (getD_mem_ hkl)
      omega
    unfold dropTo
    refine ⟨fun m => ?_, fun m hm => ?_, by rw [Pl.drop_aside, h3]⟩
    · rw [(Pl.drop_page _ m).2, h1, take_snoc8 L hkl]
      by_cases e : m = L.getD k 0
      · subst e
        rw [if_neg hnk, if_pos ⟨rfl, hok⟩, if_pos (by simp)]
        omega
      · rw [if_neg (c := m = L.getD k 0 ∧ ((dropTo s L k).page (L.getD k 0)).own ≠ 0) (fun h => e h.1)]
        by_cases e2 : m ∈ L.take k
        · rw [if_pos e2, if_pos (by simp [e2])]
          omega
        · rw [if_neg e2, if_neg (by simp only [List.mem_append, List.mem_singleton]; exact fun h => h.elim e2 e)]
          omega
    · rw [(Pl.drop_page _ m).1 hm]
      refine h2 m (fun h0 => ?_)
      have := (Pl.drop_page (s := dropTo s L k) (L.getD k 0) m).2
      by_cases e : m = L.getD k 0 ∧ ((dropTo s L k).page (L.getD k 0)).own ≠ 0
      · obtain ⟨rfl, h9⟩ := e
        exact h9 h0
      · rw [if_neg e, h0] at this
        exact hm this
theorem rel_ok {s : Pl} {L : List Int} (hn : L.Nodup) (ho : ∀ m ∈ L, 1 ≤ (s.page m).own) : relE s L = 0 := by
  refine relE_run rfl (fun k hk => decide_eq_false ?_)
  have h1 : (L.take (k + 1)).count (L.getD k 0) ≤ 1 := List.nodup_iff_count.1 (hn.sublist (List.take_sublist _ _)) _
  have h2 := ho _ (getD_mem_ hk)
  unfold Pl.owners
  omega
theorem rel_owns {s : Pl} {L : List Int} (hn : L.Nodup) (ho : ∀ m ∈ L, 1 ≤ (s.page m).own) :
    (∀ m, ((relS s L).page m).own = (s.page m).own - if m ∈ L then 1 else 0) ∧ (∀ m, ((relS s L).page m).own ≠ 0 → ((relS s L).page m).cells = (s.page m).cells) ∧ (relS s L).aside = s.aside := by
  rw [relS_run rfl (rel_ok hn ho)]
  have := drops_own hn ho L.length (Nat.le_refl _)
  rwa [List.take_length] at this
def sharesTo (s : Pl) (L : List Int) : Nat → Pl
  | 0 => s
  | k + 1 => (sharesTo s L k).shareS (L.getD k 0)
theorem shares_own {s : Pl} {L : List Int} (hn : L.Nodup) (ho : ∀ m ∈ L, (s.page m).own = 1) : ∀ k, k ≤ L.length →
    (∀ m, ((sharesTo s L k).page m).own = (s.page m).own + if m ∈ L.take k then 1 else 0) ∧ (∀ m, ((sharesTo s L k).page m).cells = (s.page m).cells)
  | 0, _ => ⟨fun m => by simp [sharesTo], fun _ => rfl⟩
  | k + 1, hk => by
    obtain ⟨h1, h2⟩ := shares_own hn ho k (by omega)
    have hkl : k < L.length := by omega
    have hnk : L.getD k 0 ∉ L.take k := by
      intro h
      obtain ⟨i, hi, e⟩ := List.getElem_of_mem h
      rw [List.length_take] at hi
      rw [List.getElem_take] at e
      have := getD_inj_ hn (i := i) (j := k) (by omega) hkl (by rw [← e, List.getD_eq_getElem?_getD, List.getElem?_eq_getElem (by omega)]; rfl)
      omega
    have hok : ((sharesTo s L k).page (L.getD k 0)).own ≠ 0 := by
      rw [h1, if_neg hnk, ho _ (getD_mem_ hkl)]
      decide
    unfold sharesTo
    refine ⟨fun m => ?_, fun m => by rw [(Pl.share_page _ m).1, h2]⟩
    rw [(Pl.share_page _ m).2, h1, take_snoc8 L hkl]
    by_cases e : m = L.getD k 0
    · subst e
      rw [if_neg hnk, if_pos ⟨rfl, hok⟩, if_pos (by simp)]
      omega
    · rw [if_neg (c := m = L.getD k 0 ∧ ((sharesTo s L k).page (L.getD k 0)).own ≠ 0) (fun h => e h.1)]
      by_cases e2 : m ∈ L.take k
      · rw [if_pos e2, if_pos (by simp [e2])]
        omega
      · rw [if_neg e2, if_neg (by simp only [List.mem_append, List.mem_singleton]; exact fun h => h.elim e2 e)]
        omega
theorem rel_twice {s : Pl} {L : List Int} (hl : 0 < L.length) (ho : (s.page (L.getD 0 0)).own = 2) : relE s (L ++ L ++ [L.getD 0 0]) = 25 := by
  have hm := getD_mem_ hl
  have h1 : 1 ≤ L.count (L.getD 0 0) := List.one_le_count_iff.2 hm
  refine relE_stop (k := L.length + L.length) (m := L.length + L.length + 1) (by simp; omega) (by omega) rfl (decide_eq_true ?_)
  have e : (L ++ L ++ [L.getD 0 0]).getD (L.length + L.length) 0 = L.getD 0 0 := by
    rw [List.getD_eq_getElem?_getD, List.getElem?_append_right (by simp)]
    simp
  rw [e, List.take_of_length_le (by simp; omega), List.count_append, List.count_append]
  unfold Pl.owners
  rw [ho, show [L.getD 0 0].count (L.getD 0 0) = 1 by simp]
  omega
theorem rel_none {s : Pl} {L : List Int} (hl : 0 < L.length) (ho : (s.page (L.getD 0 0)).own = 0) : relE s L = 25 := by
  refine relE_stop (k := 0) rfl hl rfl (decide_eq_true ?_)
  have h1 := take_snoc8 L hl
  rw [h1]
  unfold Pl.owners
  rw [ho]
  simp
theorem fetch_none {s : Pl} {L : List Int} {n : Nat} (hn : 0 < n) (ho : (s.page (L.getD 0 0)).own = 0) : fetchE s L n = 25 := by
  have hb : badE s L 0 = 25 := by
    unfold badE Pl.cellE
    rw [Nat.zero_div, if_pos ho]
    simp
  rw [fetchE_first hn (fun k hk => absurd hk (by omega)) (by rw [hb]; decide), hb]
end Go.Proofs.Ytelmolblcnolnaa
