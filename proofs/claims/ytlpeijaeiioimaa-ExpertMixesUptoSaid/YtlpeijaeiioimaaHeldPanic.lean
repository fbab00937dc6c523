/- A region that draws, in a function that defers, and panics: the slots that the region does not write are as they were. No condition. -/
import Derived.Deep.RegionHeld3
import Derived.Test.YtlpeijaeiioimaaBase
namespace Go.Proofs.Ytlpeijaeiioimaa
open Go.RowKit

/-- two slots hold so -/
def Slots (s t : Nat) (u v : Value) (a : Act) : Prop := a.tmps.getD s undef = u ∧ a.tmps.getD t undef = v
def offSlots (s t : Nat) (ops : Array Oper) : Bool := ops.all (fun o => o.dst != some s && o.dst != some t)
theorem put_getD {a : Act} {d : Option Nat} {x : Value} {s : Nat} (h : d ≠ some s) : (a.put d x).tmps.getD s undef = a.tmps.getD s undef := by
  cases d with
  | none => rfl
  | some t =>
    have hne : t ≠ s := fun h2 => h (by rw [h2])
    simp only [Act.put, Array.getD_eq_getD_getElem?, Array.getElem?_setIfInBounds_ne hne]
theorem slots_put {s t : Nat} {u v : Value} {ops : Array Oper} (h : offSlots s t ops = true) {i : Nat} {o : Oper} (ho : ops[i]? = some o) {a : Act} (ha : Slots s t u v a) (x : Value) : Slots s t u v (a.put o.dst x) := by
  have h1 := (Array.all_eq_true_iff_forall_mem.1 h) o (Array.mem_of_getElem? ho)
  simp only [Bool.and_eq_true, bne_iff_ne, ne_eq] at h1
  exact ⟨(put_getD h1.1).trans ha.1, (put_getD h1.2).trans ha.2⟩
section
variable {P : Program} {md : Region.Mode} {ops : Array Oper} {Q Qs : Exit → Act → World → Prop} {s t : Nat} {u v : Value}
theorem wpOp_keep (hoff : offSlots s t ops = true) (hQ : ∀ e a w, Qs e a w → Slots s t u v a → Q e a w) (hout : ∀ a w, ¬ Qs .outgrown a w) {K K' : Act → World → Prop} (hK : ∀ a w, Slots s t u v a → K a w → K' a w)
    {i : Nat} {a : Act} {w : World} (ha : Slots s t u v a) (h : wpOp P ops Qs i K a w) : wpOp P ops Q i K' a w := by
  unfold wpOp at *
  split
  · rename_i ho
    simp only [ho] at h
    exact hK _ _ ha h
  · rename_i o ho
    simp only [ho] at h
    have hp : ∀ x, Slots s t u v (a.put o.dst x) := slots_put hoff ho ha
    have hp2 : ∀ d x, Slots s t u v (({ a with defers := d } : Act).put o.dst x) := fun d x => slots_put hoff ho (a := { a with defers := d }) ha x
    split
    · rename_i hw
      simp only [hw, if_true] at h
      rcases h with h | ⟨_, h⟩
      · refine .inl ?_
        unfold Oper.wp at *
        generalize (execOp a.eval o).run P w = r at *
        cases r with
        | ok n w' =>
          cases n <;> simp only [Oper.upon] at h ⊢ <;>
            first
              | exact hK _ _ (hp _) h
              | exact hK _ _ (hp2 _ _) h
              | exact Calls.mono h (fun e w'' he => by
                  cases e <;> first | exact hK _ _ (hp _) he | exact hQ _ _ _ he ha | exact absurd he (fun ⟨a, w, h⟩ => hout a w h))
              | exact Rows.mono h (fun _ _ he => hK _ _ (hp _) he)
        | halt x w' => cases x <;> simp only [Oper.upon] at h ⊢ <;> exact hQ _ _ _ h ha
      · obtain ⟨a, w, h⟩ := h
        exact absurd h (hout a w)
    · rename_i hw
      simp only [hw] at h
      exact hK _ _ (hp _) h
theorem wpAny_keep (hoff : offSlots s t ops = true) (hQ : ∀ e a w, Qs e a w → Slots s t u v a → Q e a w) (hout : ∀ a w, ¬ Qs .outgrown a w) :
    ∀ (fuel : Nat) (listed : Array Bool) (a : Act) (w : World), Slots s t u v a → wpAny P md ops Qs fuel listed a w → wpAny P md ops Q fuel listed a w
  | 0, _, _, _, ha, h => ⟨h.1, hQ _ _ _ h.2 ha⟩
  | fuel + 1, _, _, _, ha, h => ⟨fun h0 => hQ _ _ _ (h.1 h0) ha, fun i hi => wpOp_keep hoff hQ hout (fun _ _ ha' hk => wpAny_keep hoff hQ hout fuel _ _ _ ha' hk) ha (h.2 i hi)⟩
/-- the beginning: S is held, and the post is given that speaks of no slot -/
theorem region_held_keep {id : Nat} {a : Act} {w : World} {S : World → Prop} (Qs : Exit → Act → World → Prop) (s t : Nat) (u v : Value) (hm : P.follows .mixedOrders = true) (hoff : offSlots s t ops = true) (ha : Slots s t u v a)
    (hQ : ∀ e a w, Qs e a w → Slots s t u v a → Q e a w) (hout : ∀ a w, ¬ Qs .outgrown a w) (hS : S w.drew)
    (h : S w.drew → wpAnyH P .any ops Qs S ops.size (Array.replicate ops.size false) a w.drew) : (Code.region id ops true).wp P Q a w :=
  wp_region_any hm (wpAny_keep hoff hQ hout _ _ _ _ ha (wpAny_of_held _ _ _ _ (h hS)))
/-- a panic with these chains and worlds, the deferred as they are; no other end -/
def Thrown (D : List Deferred) (c : List PanicEntry) (Pw : World → Prop) : Exit → Act → World → Prop
  | .panic c', a, w => a.defers = D ∧ c' = c ∧ Pw w
  | _, _, _ => False
theorem region_held_thrown {id : Nat} {a : Act} {w : World} (S : World → Prop) (c : List PanicEntry) (Pw : World → Prop) (s t : Nat) (u v : Value) (hm : P.follows .mixedOrders = true) (hoff : offSlots s t ops = true) (ha : Slots s t u v a)
    (hQ : ∀ a' w', a'.defers = a.defers → Pw w' → a'.tmps.getD s undef = u → a'.tmps.getD t undef = v → Q (.panic c) a' w') (hS : S w.drew)
    (h : S w.drew → wpAnyH P .any ops (Thrown a.defers c Pw) S ops.size (Array.replicate ops.size false) a w.drew) : (Code.region id ops true).wp P Q a w :=
  region_held_keep (Thrown a.defers c Pw) s t u v hm hoff ha (fun e a' w' h1 h2 => by
    cases e <;> first | exact h1.elim | (obtain ⟨h3, rfl, h4⟩ := h1; exact hQ _ _ h3 h4 h2.1 h2.2)) (fun _ _ h => h) hS h
end
end Go.Proofs.Ytlpeijaeiioimaa
