/- A row made of appends of slices that read, in a region that draws: step laws. No condition. -/
import Derived.Test.YtelmolblcnolnaaArgs
import Derived.Test.YtelmolblcnolnaaFetchWB
import Derived.Maps.AppendAt
namespace Go.Proofs.Ytelmolblcnolnaa
open Go.RowKit Go.ChangeShapes Go.WideShapes Go.ChangeAt

theorem below_alloc_ (w : World) (o : Obj) : Below w.heap.size w (w.alloc o) := ((Upd.refl (fun _ => False) w).alloc o).toB
/-- a row of whole numbers that grows behind w0 -/
structure Gro (w0 W : World) (v : Value) (xs : List Int) : Prop where
  own : ∃ b, w0.heap.size ≤ b ∧ b ≤ W.heap.size ∧ W.ownsRow b 3 1 v xs.length (xs.map (Value.int .i64))
  bel : Below w0.heap.size w0 W
/-- a slice of one, made behind w0, apart from the row v -/
def One (w0 W : World) (u : Value) (x : Int) (v : Value) : Prop := ∃ k, u = .slice (some ⟨k, 0, none⟩) 1 1 ∧ w0.heap.size ≤ k ∧ Blk W k 3 #[.int .i64 x] ∧ v.ownBlock ≠ some k
theorem own_lt2 {w : World} {base n : Nat} {e : TypeId} {size : Nat} {v : Value} {xs : List Value} (h : w.ownsRow base e size v n xs) {g : Nat} (hg : v.ownBlock = some g) : g < w.heap.size := by
  rcases h.2 with ⟨rfl, rfl⟩ | ⟨g', cap, cur, rfl, hb, hh, _⟩
  · simp [Value.ownBlock] at hg
  · have : g' = g := by simpa [Value.ownBlock] using hg
    subst this
    rcases Nat.lt_or_ge g' w.heap.size with hlt | hge
    · exact hlt
    · rw [Array.getElem?_eq_none hge] at hh; cases hh
theorem Gro.alloc {w0 W : World} {v : Value} {xs : List Int} (h : Gro w0 W v xs) (o : Obj) : Gro w0 (W.alloc o) v xs := by
  obtain ⟨⟨b, h1, h2, h3⟩, h4⟩ := h
  exact ⟨⟨b, h1, by rw [World.size_alloc]; omega, h3.alloc o⟩, below_comp h4 (below_alloc_ W o)⟩
theorem Gro.drew {w0 W : World} {v : Value} {xs : List Int} (h : Gro w0 W v xs) : Gro w0 W.drew v xs := by
  obtain ⟨⟨b, h1, h2, h3⟩, h4⟩ := h
  exact ⟨⟨b, h1, h2, own_drew h3 1⟩, below_drewN h4 1⟩
theorem Gro.new (w : World) : Gro w (w.alloc (.cells #[] 3)) (.slice (some ⟨w.heap.size, 0, none⟩) 0 0) [] :=
  ⟨⟨w.heap.size, Nat.le_refl _, by rw [World.size_alloc]; omega, own_empty_ w _⟩, below_alloc_ _ _⟩
theorem Gro.new2 (w : World) (o : Obj) : Gro w ((w.alloc o).alloc (.cells #[] 3)) (.slice (some ⟨w.heap.size + 1, 0, none⟩) 0 0) [] := by
  have h := own_empty_ (w.alloc o) 3
  rw [World.size_alloc] at h
  exact ⟨⟨w.heap.size + 1, by omega, by rw [World.size_alloc, World.size_alloc]; omega, h⟩, below_comp (below_alloc_ _ _) (below_alloc_ _ _)⟩
theorem One.new {w0 W : World} {v : Value} {xs : List Int} (h : Gro w0 W v xs) (x : Int) : One w0 (W.alloc (.cells #[.int .i64 x] 3)) (.slice (some ⟨W.heap.size, 0, none⟩) 1 1) x v := by
  obtain ⟨⟨b, h1, h2, h3⟩, h4⟩ := h
  refine ⟨W.heap.size, rfl, h4.size, Blk.new W _ _, fun e => ?_⟩
  have := own_lt2 h3 e
  omega
theorem One.drew {w0 W : World} {u v : Value} {x : Int} (h : One w0 W u x v) : One w0 W.drew u x v := by
  obtain ⟨k, h1, h2, h3, h4⟩ := h
  exact ⟨k, h1, h2, h3.upd ((Upd.refl (fun _ => False) W).drewN 1) (fun h => h), h4⟩
theorem One.first (w : World) (x : Int) : One w ((w.alloc (.cells #[.int .i64 x] 3)).alloc (.cells #[] 3)) (.slice (some ⟨w.heap.size, 0, none⟩) 1 1) x (.slice (some ⟨w.heap.size + 1, 0, none⟩) 0 0) := by
  refine ⟨w.heap.size, rfl, Nat.le_refl _, (Blk.new w _ _).alloc _, fun e => ?_⟩
  have e2 : some (w.heap.size + 1) = some w.heap.size := e
  injection e2 with e2
  omega
theorem One.rd {w0 W : World} {u v : Value} {x : Int} (h : One w0 W u x v) : RdI W W.heap.size .i64 u [x] ∧ Form u ∧ ∃ ad c, u = .slice (some ad) 1 c := by
  obtain ⟨k, rfl, h2, h3, h4⟩ := h
  refine ⟨⟨some ⟨k, 0, none⟩, 1, rfl, by simp, by simp [maxLen], fun _ => ⟨k, 0, rfl, h3.lt, h3.lt, fun j y hj => ?_⟩⟩, .inr ⟨_, _, _, rfl⟩, _, _, rfl⟩
  rw [Nat.zero_add, h3.cell]
  simpa using hj
theorem One.grown {w0 W W' : World} {u v v' : Value} {x : Int} (h : One w0 W u x v) (hg : W.grownBy W' v.ownBlock) (hv : v'.ownBlock = v.ownBlock ∨ v'.ownBlock = some W.heap.size) : One w0 W' u x v' := by
  obtain ⟨k, h1, h2, h3, h4⟩ := h
  refine ⟨k, h1, h2, ?_, fun e => ?_⟩
  · have h5 := hg.block k h3.lt (fun e => h4 e.symm)
    exact h5.trans h3
  · rcases hv with hv | hv
    · exact h4 (hv.symm.trans e)
    · rw [hv] at e
      injection e with e
      have := h3.lt
      omega
theorem step_gro {w0 w : World} {ops : Array Oper} {o : Oper} {a : Act} {K : Act → World → Prop} {Q : Exit → Act → World → Prop} {E : Prop} (hgd : o.guard = none) (s x : Operand)
    (ho : o.op = .call { callee := .builtin .append, args := #[s, x], argTypes := #[33, 33] })
    (v : Value) (xs : List Int) (hs : a.eval s = v) (hown : Gro w0 w v xs) (B : Nat) (ad : Addr) (m c : Nat) (ys : List Int) (hx : a.eval x = .slice (some ad) m c) (hr : RdI w B .i64 (.slice (some ad) m c) ys)
    (hl : xs.length + ys.length ≤ 100000)
    (h : ∀ v' w', Gro w0 w' v' (xs ++ ys) → (∀ u z, One w0 w u z v → One w0 w' u z v') → K (a.put o.dst v') w') :
    if Region.wanted o (yielded ops a.tmps) = true then Oper.wp Try.prog o a w K Q else E := by
  have hw : Region.wanted o (yielded ops a.tmps) = true := by simp [Region.wanted, hgd]
  rw [if_pos hw]
  obtain ⟨⟨b, h1, h2, h3⟩, h4⟩ := hown
  obtain ⟨i0, hi0, hz0, hz1, hz2⟩ := info_parts Try.infoInt
  obtain ⟨A, c', hu, hc, hm, hcell⟩ := hr
  injection hu with e1 e2 e3
  subst e1 e2 e3
  rw [List.length_map] at hc hm hcell hx
  obtain ⟨v', w', hr, q2, q3, q4, q5⟩ := run_append_own_at (P := Try.prog) w b 33 o.type 3 i0 (.int .i64 0) 1 8 Try.underlying33 hi0 hz0 hz1 hz2 rfl (by decide) v xs.length (xs.map (Value.int .i64)) h3 ad ys.length c (ys.map (Value.int .i64)) (by simp) (fun j q hj => by
    have hj' : j < ys.length := by
      rcases Nat.lt_or_ge j ys.length with h2 | h2
      · exact h2
      · rw [List.getElem?_eq_none (by simpa using h2)] at hj; cases hj
    obtain ⟨b', o', hA, _, _, hc4⟩ := hcell (by omega)
    obtain rfl := Option.some.inj hA
    rw [addr_add_]
    exact hc4 j q hj) (ints_one _) (by unfold maxLen; omega) (by omega) h2
  have hG : Gro w0 w' v' (xs ++ ys) := by
    refine ⟨⟨b, h1, by have := q3.size; omega, by rw [List.length_append, List.map_append]; exact q2⟩, ?_⟩
    exact ((Upd.of_below (S := fun _ => False) h4).grown q3 (fun g hg => .inr (Nat.le_trans h1 (own_ge h3 hg)))).toB
  have hO : ∀ u z, One w0 w u z v → One w0 w' u z v' := fun u z hz => hz.grown q3 q5
  unfold Oper.wp execOp
  simp only [ho, resolve, invoke, builtin, Sem.run_bind, Sem.run_pure, Result.andThen_ok, List.map_toArray, List.map_cons, List.map_nil, hs, hx, hr]
  exact h v' w' hG hO
end Go.Proofs.Ytelmolblcnolnaa
