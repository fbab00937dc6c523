/- Pages with a second owner, plainly. Conditions: a row of weights, not empty, of at most 1000. -/
import Derived.Test.YtelmolblcnolnaaPagedLaw
import Derived.Test.YtelmolblcnolnaaWorks12
namespace Go.Proofs.Ytelmolblcnolnaa

theorem takeE_new {n : Int} {k : Int} (hn : 0 ≤ n) (hk : 0 ≤ k) (hkn : k ≤ n) : (Pl.new n).takeE tM k = 0 := by
  have hf : (Pl.new n).free = n := by
    rw [Pl.free_all (Pl.new_own n)]
    unfold Pl.new
    rw [List.length_replicate]
    omega
  have ha : (Pl.new n).aside = 0 := rfl
  unfold Pl.takeE Pl.ask
  rw [hf, ha, if_neg (fun h => h.elim (fun h => absurd h (by decide)) (fun h => by omega)), if_neg (by omega)]
structure SharedLaw (xs L : List Int) (s2 s3 s4 s5 : Pl) : Prop where
  e0 : (Pl.new 40).takeE tM (needV xs.length) = 0
  eL : (Pl.new 40).takeL tM (needV xs.length) = L
  e2 : putsTo ((Pl.new 40).takeS tM (needV xs.length)) L xs xs.length = s2
  e3 : sharesTo s2 L L.length = s3
  e4 : relS s3 L = s4
  e5 : relS s4 L = s5
  len : L.length = (xs.length + 31) / 32
  twice : relE s3 (L ++ L ++ [L.getD 0 0]) = 25
  once : relE s3 L = 0
  got : fetchE s4 L xs.length = 0
  row : (List.range xs.length).map (gotV s4 L) = xs
  again : relE s4 L = 0
  none : fetchE s5 L xs.length = 25
  free : s5.free = 40
  no : relE s5 L = 25
  ok2 : s2.Ok 1
  inI : ∀ x ∈ L, InI x
theorem free_own {s : Pl} {n : Nat} (h : ∀ m, (s.page m).own = 0) (hl : s.pages.length = n) : s.free = n := by rw [Pl.free_all h, hl]
theorem len_dropTo (s : Pl) (L : List Int) : ∀ k, (dropTo s L k).pages.length = s.pages.length
  | 0 => rfl
  | k + 1 => by rw [dropTo, Pl.len_dropS, len_dropTo s L k]
theorem len_relS (s : Pl) (L : List Int) : (relS s L).pages.length = s.pages.length := by
  unfold relS
  split
  · exact len_dropTo s L _
  · rfl
theorem len_sharesTo (s : Pl) (L : List Int) : ∀ k, (sharesTo s L k).pages.length = s.pages.length
  | 0 => rfl
  | k + 1 => by rw [sharesTo, Pl.len_shareS, len_sharesTo s L k]
theorem len_putsTo (s : Pl) (L xs : List Int) (k : Nat) : (putsTo s L xs k).pages.length = s.pages.length := by rw [← putsL_range, len_putsL]
theorem take_inI {s : Pl} {c : Int} (hk : s.Ok c) (tag : ByteArray) (k : Int) : ∀ x ∈ s.takeL tag k, InI x := by
  intro x hx
  obtain ⟨_, j, rfl, hj, _⟩ := Pl.take_mem hx
  have := hk.len
  unfold InI
  omega
theorem shared_law (xs : List Int) (h1 : 0 < xs.length) (h2 : xs.length ≤ 1000) (h8 : ∀ v ∈ xs, -128 ≤ v ∧ v ≤ 127) : ∃ L s2 s3 s4 s5, SharedLaw xs L s2 s3 s4 s5 := by
  have hn := need_eq xs.length
  have hk0 : (Pl.new 40).Ok 1 := Pl.ok_new (by decide) (by decide)
  have he := takeE_new (n := 40) (k := needV xs.length) (by decide) (by omega) (by omega)
  obtain ⟨hH, hl, hnd, hown, hfar, _⟩ := place_holds hk0 (Int.le_refl 1) he
  refine ⟨_, _, _, _, _, he, rfl, rfl, rfl, rfl, rfl, hl, ?_, ?_, ?_, ?_, ?_, ?_, ?_, ?_, ok_putsTo (hk0.take (Int.le_refl 1) _ _) _ _ _, take_inI hk0 _ _⟩
  all_goals
    generalize (Pl.new 40).takeL tM (needV xs.length) = L at *
    have hs2l : (putsTo ((Pl.new 40).takeS tM (needV xs.length)) L xs xs.length).pages.length = 40 := by
      rw [len_putsTo, Pl.len_takeS]
      rfl
    have hzero : ∀ m, m ∉ L → ((putsTo ((Pl.new 40).takeS tM (needV xs.length)) L xs xs.length).page m).own = 0 := fun m hm => by rw [hfar m hm]; exact Pl.new_own _ _
    generalize putsTo ((Pl.new 40).takeS tM (needV xs.length)) L xs xs.length = s2 at *
    obtain ⟨ho3, hc3⟩ := shares_own hnd (fun m hm => (hown m hm).2) L.length (Nat.le_refl _)
    rw [List.take_length] at ho3
    have hs3l := len_sharesTo s2 L L.length
    generalize sharesTo s2 L L.length = s3 at *
    have h3 : ∀ m ∈ L, (s3.page m).own = 2 := fun m hm => by rw [ho3, (hown m hm).2, if_pos hm]; rfl
    have hL0 : 0 < L.length := by omega
    have hm0 := getD_mem_ hL0
    have r3 := rel_ok hnd (fun m hm => by rw [h3 m hm]; decide)
    obtain ⟨ho4, hc4, _⟩ := rel_owns hnd (fun m hm => by rw [h3 m hm]; decide)
    have hs4l := len_relS s3 L
    generalize relS s3 L = s4 at *
    have h4 : ∀ m ∈ L, (s4.page m).own = 1 := fun m hm => by rw [ho4, h3 m hm, if_pos hm]; rfl
    have r4 := rel_ok hnd (fun m hm => by rw [h4 m hm]; decide)
    obtain ⟨ho5, hc5, _⟩ := rel_owns hnd (fun m hm => by rw [h4 m hm]; decide)
    have hs5l := len_relS s4 L
    generalize relS s4 L = s5 at *
    have h5 : ∀ m, (s5.page m).own = 0 := fun m => by
      by_cases hm : m ∈ L
      · rw [ho5, h4 m hm, if_pos hm]; rfl
      · rw [ho5, ho4, ho3, hzero m hm, if_neg hm]; rfl
    have hH4 : Holds s4 L xs := hH.same (fun m hm _ => ⟨by rw [h4 m hm]; decide, by rw [hc4 m (by rw [h4 m hm]; decide), hc3]⟩)
    obtain ⟨f4, g4⟩ := fetch_holds hH4 h8
  · exact rel_twice hL0 (h3 _ hm0)
  · exact r3
  · exact f4
  · exact g4
  · exact r4
  · exact fetch_none h1 (h5 _)
  · exact free_own (n := 40) h5 (by omega)
  · exact rel_none hL0 (h5 _)
end Go.Proofs.Ytelmolblcnolnaa
