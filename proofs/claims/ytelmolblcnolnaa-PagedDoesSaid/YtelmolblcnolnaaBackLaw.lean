/- Weights placed side by side, plainly: each is got again; given back, all is free. Conditions: each theorem's own. -/
import Derived.Test.YtelmolblcnolnaaSharedLaw
namespace Go.Proofs.Ytelmolblcnolnaa

structure Plc where
  v : Value
  L : List Int
  u : Value
  xs : List Int
def flatP (P : List Plc) : List Int := P.flatMap (·.L)
theorem flatP_snoc (P : List Plc) (r : Plc) : flatP (P ++ [r]) = flatP P ++ r.L := by simp [flatP]
theorem mem_flatP {P : List Plc} {r : Plc} (h : r ∈ P) {m : Int} (hm : m ∈ r.L) : m ∈ flatP P := List.mem_flatMap.2 ⟨r, h, hm⟩
structure BackLaw (s : Pl) (P : List Plc) : Prop where
  ok : s.Ok 1
  aside : s.aside = 0
  nd : (flatP P).Nodup
  own : ∀ m, (s.page m).own = if m ∈ flatP P then 1 else 0
  holds : ∀ r ∈ P, Holds s r.L r.xs ∧ (∀ v ∈ r.xs, -128 ≤ v ∧ v ≤ 127) ∧ (∀ x ∈ r.L, InI x) ∧ r.L.length ≤ 256
theorem back_new {n : Nat} (h1 : 1 ≤ n) (h2 : n ≤ 256) : BackLaw (Pl.new n) [] :=
  ⟨Pl.ok_new (by unfold Pl.newE; rw [if_neg (by omega)]) (by decide), rfl, List.nodup_nil, fun m => by rw [Pl.new_own]; rfl, fun r hr => by cases hr⟩
theorem back_place {s : Pl} {P : List Plc} {xs : List Int} (h : BackLaw s P) (he : s.takeE tM (needV xs.length) = 0) (h8 : ∀ v ∈ xs, -128 ≤ v ∧ v ≤ 127) (v u : Value) :
    BackLaw (putsTo (s.takeS tM (needV xs.length)) (s.takeL tM (needV xs.length)) xs xs.length) (P ++ [⟨v, s.takeL tM (needV xs.length), u, xs⟩]) := by
  obtain ⟨hH, hl, hnd, hown, hfar, has⟩ := place_holds h.ok (Int.le_refl 1) he
  have hI := take_inI h.ok tM (needV xs.length)
  have hlen : (s.takeL tM (needV xs.length)).length ≤ 256 := by
    have h1 := (Pl.ask_zero he).2.2
    have h2 := Pl.free_le s
    have h3 := h.ok.len
    have h4 := h.aside
    have h5 := Pl.take_len h.ok he
    omega
  have hok := ok_putsTo (h.ok.take (Int.le_refl 1) tM (needV xs.length)) (s.takeL tM (needV xs.length)) xs xs.length
  generalize s.takeL tM (needV xs.length) = L at *
  generalize putsTo (s.takeS tM (needV xs.length)) L xs xs.length = s2 at *
  have hdis : ∀ m, m ∈ flatP P → m ∉ L := fun m hm hL => by
    have h1 := h.own m
    rw [if_pos hm, (hown m hL).1] at h1
    cases h1
  refine ⟨hok, by rw [has]; exact h.aside, ?_, fun m => ?_, fun r hr => ?_⟩
  · rw [flatP_snoc]
    refine List.nodup_append.2 ⟨h.nd, hnd, fun a ha b hb e => ?_⟩
    subst e
    exact hdis a ha hb
  · rw [flatP_snoc]
    by_cases hm : m ∈ L
    · rw [(hown m hm).2, if_pos (List.mem_append.2 (.inr hm))]
    · rw [hfar m hm, h.own]
      by_cases hm2 : m ∈ flatP P
      · rw [if_pos hm2, if_pos (List.mem_append.2 (.inl hm2))]
      · rw [if_neg hm2, if_neg (fun h9 => (List.mem_append.1 h9).elim hm2 hm)]
  · rcases List.mem_append.1 hr with hr | hr
    · obtain ⟨q1, q2, q3, q4⟩ := h.holds r hr
      exact ⟨q1.same (fun m hm h0 => by rw [hfar m (hdis m (mem_flatP hr hm))]; exact ⟨h0, rfl⟩), q2, q3, q4⟩
    · rw [List.mem_singleton] at hr
      subst hr
      exact ⟨hH, h8, hI, hlen⟩
theorem back_fits {s : Pl} {P : List Plc} (h : BackLaw s P) (n : Nat) : (s.takeE tM (needV n) == 0) = decide ((n : Int) ≤ 32 * s.free) := by
  have h1 := need_eq n
  have h2 := Pl.free_nonneg s
  have e : s.takeE tM (needV n) = 0 ↔ (n : Int) ≤ 32 * s.free := by
    unfold Pl.takeE Pl.ask
    rw [if_neg (fun h => h.elim (fun h => absurd h (by decide)) (fun h => by omega)), h.aside]
    split
    · constructor
      · intro h9; cases h9
      · intro h9; omega
    · constructor
      · intro _; omega
      · intro _; rfl
  rw [Bool.eq_iff_iff, beq_iff_eq, decide_eq_true_iff]
  exact e
def relTo (s : Pl) (P : List Plc) (i : Nat) : Pl := (P.take i).foldl (fun s r => relS s r.L) s
theorem relTo_succ (s : Pl) (P : List Plc) {i : Nat} {r : Plc} (h : P[i]? = some r) : relTo s P (i + 1) = relS (relTo s P i) r.L := by
  unfold relTo
  have hi : i < P.length := (List.getElem?_eq_some_iff.1 h).1
  rw [List.take_succ_eq_append_getElem hi, List.foldl_append]
  have : P[i] = r := by rw [List.getElem?_eq_getElem hi] at h; exact Option.some.inj h
  rw [this]
  rfl
theorem flat_drop {P : List Plc} {i : Nat} {r : Plc} (h : P[i]? = some r) : flatP (P.drop i) = r.L ++ flatP (P.drop (i + 1)) := by
  have hi : i < P.length := (List.getElem?_eq_some_iff.1 h).1
  have e : P[i] = r := by rw [List.getElem?_eq_getElem hi] at h; exact Option.some.inj h
  rw [List.drop_eq_getElem_cons hi, e]
  rfl
theorem nd_drop {P : List Plc} (h : (flatP P).Nodup) (i : Nat) : (flatP (P.drop i)).Nodup := by
  have e : flatP P = flatP (P.take i) ++ flatP (P.drop i) := by
    unfold flatP
    rw [← List.flatMap_append, List.take_append_drop]
  rw [e] at h
  exact (List.nodup_append.1 h).2.1
theorem back_rel {s : Pl} {P : List Plc} (h : BackLaw s P) : ∀ i, i ≤ P.length → (∀ m, ((relTo s P i).page m).own = if m ∈ flatP (P.drop i) then 1 else 0) ∧ (relTo s P i).Ok 1 ∧ (relTo s P i).pages.length = s.pages.length
  | 0, _ => ⟨fun m => h.own m, h.ok, rfl⟩
  | i + 1, hi => by
    obtain ⟨h1, h2, h3⟩ := back_rel h i (by omega)
    have hr : P[i]? = some P[i] := List.getElem?_eq_getElem (by omega)
    have hf := flat_drop hr
    have hnd := nd_drop h.nd i
    rw [hf] at hnd
    obtain ⟨n1, n2, n3⟩ := List.nodup_append.1 hnd
    rw [relTo_succ s P hr]
    obtain ⟨o1, _, _⟩ := rel_owns n1 (fun m hm => by rw [h1, if_pos (by rw [hf]; exact List.mem_append.2 (.inl hm))]; decide)
    refine ⟨fun m => ?_, ok_relS h2 (by decide) _, by rw [len_relS, h3]⟩
    rw [o1, h1, hf]
    by_cases a1 : m ∈ P[i].L
    · have a2 : m ∉ flatP (P.drop (i + 1)) := fun a2 => n3 m a1 m a2 rfl
      rw [if_pos (List.mem_append.2 (.inl a1)), if_pos a1, if_neg a2]
      rfl
    · by_cases a2 : m ∈ flatP (P.drop (i + 1))
      · rw [if_pos (List.mem_append.2 (.inr a2)), if_neg a1, if_pos a2]
        rfl
      · rw [if_neg (fun h9 => (List.mem_append.1 h9).elim a1 a2), if_neg a1, if_neg a2]
        rfl
theorem back_relE {s : Pl} {P : List Plc} (h : BackLaw s P) {i : Nat} {r : Plc} (hr : P[i]? = some r) : relE (relTo s P i) r.L = 0 := by
  have hi : i < P.length := (List.getElem?_eq_some_iff.1 hr).1
  obtain ⟨h1, _, _⟩ := back_rel h i (by omega)
  have hf := flat_drop hr
  have hnd := nd_drop h.nd i
  rw [hf] at hnd
  exact rel_ok (List.nodup_append.1 hnd).1 (fun m hm => by rw [h1, if_pos (by rw [hf]; exact List.mem_append.2 (.inl hm))]; decide)
theorem back_free {s : Pl} {P : List Plc} (h : BackLaw s P) : (relTo s P P.length).free = s.pages.length := by
  obtain ⟨h1, _, h3⟩ := back_rel h P.length (Nat.le_refl _)
  rw [free_own (fun m => by rw [h1, List.drop_length]; rfl) h3]
end Go.Proofs.Ytelmolblcnolnaa
