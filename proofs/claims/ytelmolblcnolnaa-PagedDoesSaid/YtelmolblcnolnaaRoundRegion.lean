/- A region that draws its order within a round of a loop over a function: all its operations but the last only read, and the last waits for all. Conditions: each theorem's own. -/
import Derived.RangeFuncNested
import Derived.RangeFuncCalls
import Derived.Shelf.RegionOpen
import Derived.StillTail
namespace Go.Proofs.Ytelmolblcnolnaa
open Go

theorem count_set_true {listed : Array Bool} {i : Nat} (h : listed.getD i true = false) : (listed.setIfInBounds i true).toList.count false + 1 = listed.toList.count false := by
  have hlt : i < listed.size := by
    rcases Nat.lt_or_ge i listed.size with h1 | h1
    · exact h1
    · simp [Array.getElem?_eq_none h1] at h
  have hv : listed.toList[i]'(by simpa using hlt) = false := by
    simpa [hlt] using h
  rw [Array.toList_setIfInBounds, List.count_set (by simpa using hlt), hv]
  have : 0 < listed.toList.count false := List.count_pos_iff.2 (by rw [← hv]; exact List.getElem_mem _)
  rw [if_pos (by decide), if_neg (by decide)]
  omega
section
variable {F : Fence} {n : Nat} {P : Program} {ops : Array Oper} {md : Region.Mode} {Q : Exit → Act → World → Prop} {w : World}
structure RoundInv (md : Region.Mode) (ops : Array Oper) (N : Nat) (D : Nat → Nat) (V : Nat → Value) (Bs : Act → Prop) (listed : Array Bool) (a : Act) : Prop where
  size : listed.size = N + 1
  last : listed.getD N true = false
  closed : ∀ (j : Nat) oj, ops[j]? = some oj → listed.getD j false = true → ∀ e ∈ oj.after, Region.binds md e = true → listed.getD e.on false = true
  base : Bs a
  val : ∀ i, i < N → listed.getD i false = true → a.eval (.tmp (D i)) = V i
theorem getD_flip {listed : Array Bool} {i : Nat} (hi : i < listed.size) (h : ¬ listed.getD i false = true) : listed.getD i true = false := by
  simp [hi] at h ⊢
  exact h
theorem wpAnyIn_last (N : Nat) (D : Nat → Nat) (V : Nat → Value) (Bs : Act → Prop) (hsz : ops.size = N + 1)
    (hy : ∀ i oi a, i < N → ops[i]? = some oi → Bs a → (∀ e ∈ oi.after, Region.binds md e = true → a.eval (.tmp (D e.on)) = V e.on) → ∀ K : Act → World → Prop, K (a.put (some (D i)) (V i)) w → wpOpIn F n P ops Q i K a w)
    (hput : ∀ i a, i < N → Bs a → Bs (a.put (some (D i)) (V i)) ∧ (a.put (some (D i)) (V i)).eval (.tmp (D i)) = V i)
    (hoth : ∀ i j, i < N → j < N → i ≠ j → D i ≠ D j)
    (hback : ∀ (i : Nat) oi, ops[i]? = some oi → ∀ e ∈ oi.after, e.on < i)
    (hall : ∀ listed : Array Bool, listed.size = N + 1 → (∀ (j : Nat) oj, ops[j]? = some oj → listed.getD j false = true → ∀ e ∈ oj.after, Region.binds md e = true → listed.getD e.on false = true) → listed.getD N false = true → ∀ i, i < N → listed.getD i false = true)
    (hlast : ∀ oN a, ops[N]? = some oN → Bs a → (∀ e ∈ oN.after, Region.binds md e = true → a.eval (.tmp (D e.on)) = V e.on) → ∀ K : Act → World → Prop, (∀ a' w', Q .normal a' w' → K a' w') → wpOpIn F n P ops Q N K a w) :
    ∀ (fuel : Nat) (listed : Array Bool) (a : Act), RoundInv md ops N D V Bs listed a → listed.toList.count false ≤ fuel → wpAnyIn F n P md ops Q fuel listed a w
  | 0, listed, a, inv, hf => by
    exfalso
    have hlt : N < listed.size := by rw [inv.size]; omega
    have hv : listed.toList[N]'(by simpa using hlt) = false := by simpa [hlt] using inv.last
    have : 0 < listed.toList.count false := List.count_pos_iff.2 (by rw [← hv]; exact List.getElem_mem _)
    omega
  | fuel + 1, listed, a, inv, hf => by
    refine ⟨fun h0 => ?_, fun i hi => ?_⟩
    · exfalso
      have key : ∀ k, k ≤ N → listed.getD k false = true := by
        intro k
        induction k using Nat.strongRecOn with
        | _ k ih =>
          intro hk
          by_cases h1 : listed.getD k false = true
          · exact h1
          · exfalso
            have hkl : k < ops.size := by omega
            have hr : k ∈ Region.ready md ops listed := mem_ready.2 ⟨getD_flip (by rw [inv.size]; omega) h1, ops[k], Array.getElem?_eq_getElem hkl, fun e he hb => ih e.on (hback k _ (Array.getElem?_eq_getElem hkl) e he) (by have := hback k _ (Array.getElem?_eq_getElem hkl) e he; omega)⟩
            rw [h0] at hr
            cases hr
      have h1 := key N (Nat.le_refl _)
      have h2 := inv.last
      have hlt : N < listed.size := by rw [inv.size]; omega
      simp [hlt] at h1 h2
      rw [h1] at h2
      cases h2
    · obtain ⟨hun, oi, hoi, hrd⟩ := mem_ready.1 hi
      have hc := count_set_true hun
      have hiN : i ≤ N := by have := (Array.getElem?_eq_some_iff.1 hoi).1; omega
      have hdeps : ∀ e ∈ oi.after, Region.binds md e = true → a.eval (.tmp (D e.on)) = V e.on := fun e he hb => inv.val e.on (by have := hback i oi hoi e he; omega) (hrd e he hb)
      by_cases hlastI : i = N
      · subst hlastI
        refine hlast oi a hoi inv.base hdeps _ (fun a' w' hq => ?_)
        have hcl : ∀ (j : Nat) oj, ops[j]? = some oj → (listed.setIfInBounds i true).getD j false = true → ∀ e ∈ oj.after, Region.binds md e = true → (listed.setIfInBounds i true).getD e.on false = true := by
          intro j oj hj hl e he hb
          by_cases hij : i = j
          · subst hij
            have : oj = oi := Option.some.inj (hj.symm.trans hoi)
            subst this
            exact getD_set_true (hrd e he hb)
          · rw [getD_set_ne false hij] at hl
            exact getD_set_true (inv.closed j oj hj hl e he hb)
        have hlt : i < listed.size := by rw [inv.size]; omega
        have hN : (listed.setIfInBounds i true).getD i false = true := by simp [hlt]
        have hre : Region.ready md ops (listed.setIfInBounds i true) = [] := by
          refine List.eq_nil_iff_forall_not_mem.2 (fun j hj => ?_)
          obtain ⟨hju, oj, hoj, _⟩ := mem_ready.1 hj
          have hjN : j ≤ i := by have := (Array.getElem?_eq_some_iff.1 hoj).1; omega
          have ht : (listed.setIfInBounds i true).getD j false = true := by
            rcases Nat.lt_or_ge j i with h1 | h1
            · exact hall _ (by simp [inv.size]) hcl hN j h1
            · obtain rfl : j = i := by omega
              exact hN
          have hjl : j < (listed.setIfInBounds i true).size := by simp [inv.size]; omega
          simp only [Array.getD_eq_getD_getElem?, Array.getElem?_eq_getElem hjl, Option.getD_some] at hju ht
          rw [ht] at hju
          cases hju
        cases fuel with
        | zero => exact ⟨hre, hq⟩
        | succ f => exact ⟨fun _ => hq, fun j hj => by rw [hre] at hj; cases hj⟩
      · have hlt : i < N := by omega
        refine hy i oi a hlt hoi inv.base hdeps _ (wpAnyIn_last N D V Bs hsz hy hput hoth hback hall hlast fuel _ _ ⟨by simp [inv.size], by rw [getD_set_ne true hlastI]; exact inv.last, ?_, (hput i a hlt inv.base).1, ?_⟩ (by omega))
        · intro j oj hj hl e he hb
          by_cases hij : i = j
          · subst hij
            have : oj = oi := Option.some.inj (hj.symm.trans hoi)
            subst this
            exact getD_set_true (hrd e he hb)
          · rw [getD_set_ne false hij] at hl
            exact getD_set_true (inv.closed j oj hj hl e he hb)
        · intro j hj hl
          by_cases hij : i = j
          · subst hij
            exact (hput i a hlt inv.base).2
          · rw [getD_set_ne false hij] at hl
            rw [Act.eval_put (fun d hd h9 => hoth i j hlt hj hij (by injection hd with hd; injection h9 with h9; rw [hd, h9]))]
            exact inv.val j hj hl
def backB (ops : Array Oper) : Bool := (List.range ops.size).all fun i => match ops[i]? with
  | some o => o.after.all fun e => decide (e.on < i)
  | none => true
theorem backB_spec (h : backB ops = true) : ∀ (i : Nat) oi, ops[i]? = some oi → ∀ e ∈ oi.after, e.on < i := by
  intro i oi hoi e he
  have hlt := (Array.getElem?_eq_some_iff.1 hoi).1
  have h1 := List.all_eq_true.1 h i (List.mem_range.2 hlt)
  simp only [hoi] at h1
  have h2 := Array.all_eq_true'.1 h1 e he
  exact of_decide_eq_true h2
theorem sink_all {N : Nat} (h : Region.sinkB md ops N = true) (listed : Array Bool) (hc : ∀ (j : Nat) oj, ops[j]? = some oj → listed.getD j false = true → ∀ e ∈ oj.after, Region.binds md e = true → listed.getD e.on false = true) (hN : listed.getD N false = true) :
    ∀ (d i : Nat), N - i = d → i ≤ N → listed.getD i false = true := by
  intro d
  induction d using Nat.strongRecOn with
  | _ d ih =>
    intro i hd hi
    by_cases hiN : i = N
    · subst hiN; exact hN
    · have h1 := List.all_eq_true.1 h i (List.mem_range.2 (by omega))
      obtain ⟨j, hj, hj2⟩ := List.any_eq_true.1 h1
      simp only [Bool.and_eq_true, decide_eq_true_eq] at hj2
      obtain ⟨oj, hoj, e, he, hb, hon⟩ := Region.waitsFor_spec hj2.2
      have hjN := List.mem_range.1 hj
      have h2 := hc j oj hoj (ih (N - j) (by omega) j rfl (by omega)) e he hb
      rw [hon] at h2
      exact h2
theorem wpIn_region_round {id : Nat} {a : Act} {w0 : World} (hm : P.follows .mixedOrders = true) (N : Nat) (D : Nat → Nat) (V : Nat → Value) (Bs : Act → Prop) (hsz : ops.size = N + 1) (hbk : backB ops = true) (hsk : Region.sinkB .any ops N = true)
    (hD : ∀ i j, i ≠ j → D i ≠ D j)
    (hy : ∀ i oi a, i < N → ops[i]? = some oi → Bs a → (∀ e ∈ oi.after, Region.binds .any e = true → a.eval (.tmp (D e.on)) = V e.on) → ∀ K : Act → World → Prop, K (a.put (some (D i)) (V i)) w0.drew → wpOpIn F n P ops Q i K a w0.drew)
    (hput : ∀ i a, i < N → Bs a → Bs (a.put (some (D i)) (V i)) ∧ (a.put (some (D i)) (V i)).eval (.tmp (D i)) = V i)
    (hlast : ∀ oN a, ops[N]? = some oN → Bs a → (∀ e ∈ oN.after, Region.binds .any e = true → a.eval (.tmp (D e.on)) = V e.on) → ∀ K : Act → World → Prop, (∀ a' w', Q .normal a' w' → K a' w') → wpOpIn F n P ops Q N K a w0.drew)
    (h0 : Bs a) : (Code.region id ops true).wpIn F n P Q a w0 := by
  refine wpIn_region_any hm (wpAnyIn_last (w := w0.drew) N D V Bs hsz hy hput (fun i j _ _ h => hD i j h) (backB_spec hbk) (fun listed _ hc hN i hi => sink_all hsk listed hc hN (N - i) i rfl (by omega)) hlast _ _ _ ⟨by simp [hsz], ?_, fun j oj _ hl => ?_, h0, fun i _ hl => ?_⟩ ?_)
  · simp [hsz]
  · rw [getD_replicate_false] at hl; cases hl
  · rw [getD_replicate_false] at hl; cases hl
  · simp
theorem eval_put_tmp {a : Act} {d t : Nat} {v : Value} (h : t ≠ d) : (a.put (some d) v).eval (.tmp t) = a.eval (.tmp t) :=
  Act.eval_put (fun d' hd h9 => by injection hd with hd; injection h9 with h9; exact h (h9.trans hd.symm))
/-- an operation that calls -/
theorem wpOpIn_call {i : Nat} {o : Oper} {f : FuncId} {args : Array Value} {a : Act} {K : Act → World → Prop} (hi : ops[i]? = some o) (hg : o.guard = none) (hF : ∀ f, F.fn f) (hs : (o.semAt F.round a.eval).run P w = .ok (.enter f args) w)
    (h : CallsIn F (n - 1) P f args w fun
      | .returned v, w'' => K (a.put o.dst v) w''
      | .panicked chain, w'' => Q (.panic chain) a w''
      | .outgrown, _ => LetsOut Q) (hn : F.depth.isSome = true → 1 ≤ n) : wpOpIn F n P ops Q i K a w := by
  unfold wpOpIn
  simp only [hi]
  have hw : Region.wanted o (yielded ops a.tmps) = true := by unfold Region.wanted; rw [hg]
  rw [if_pos hw]
  refine ⟨fun f _ => hF f, ?_⟩
  rw [hs]
  exact ⟨hn, h⟩
/-- an operation that only reads -/
theorem wpOpIn_yield {i d : Nat} {o : Oper} {v : Value} {a : Act} {K : Act → World → Prop} (hi : ops[i]? = some o) (hg : o.guard = none) (hd : o.dst = some d) (hF : ∀ f, F.fn f) (hs : (o.semAt F.round a.eval).run P w = .ok (.value v) w)
    (h : K (a.put (some d) v) w) : wpOpIn F n P ops Q i K a w := by
  unfold wpOpIn
  simp only [hi]
  have hw : Region.wanted o (yielded ops a.tmps) = true := by unfold Region.wanted; rw [hg]
  rw [if_pos hw]
  refine ⟨fun f _ => hF f, ?_⟩
  rw [hs]
  simp only [Oper.uponIn, hd]
  exact h
end
end Go.Proofs.Ytelmolblcnolnaa
