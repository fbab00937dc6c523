/- Two rows that grow beside a pool: what is kept. No condition. -/
import Derived.Test.YtelmolblcnolnaaBackLaw
import Derived.Test.YtelmolblcnolnaaRowArgs
import Derived.Test.YtelmolblcnolnaaPagedSharedW
namespace Go.Proofs.Ytelmolblcnolnaa
open Go.RowKit

theorem Try.infoRowI : (Try.prog.info? 33).map (fun i => (i.zero, i.size, i.bytes)) = some (some (.slice none 0 0), 1, 24) := by kernel_rfl
theorem Try.infoRow8 : (Try.prog.info? 54).map (fun i => (i.zero, i.size, i.bytes)) = some (some (.slice none 0 0), 1, 24) := by kernel_rfl
theorem own_ne_ty2 {w : World} {base n b : Nat} {e t : TypeId} {v : Value} {xs : List Value} {cs : Array Value} (h : w.ownsRow base e 1 v n xs) (hb : Blk w b t cs) (hne : t ≠ e) : some b ≠ v.ownBlock := by
  intro hk
  rcases h.2 with ⟨h0, _⟩ | ⟨g, cap, cur, hv, _, hblk, _⟩
  · rw [h0] at hk
    cases hk
  · rw [hv] at hk
    have hg : b = g := by injection hk
    exact Blk.ne_ hb hblk hne hg
theorem own_ty2 {w : World} {b1 b2 n1 n2 : Nat} {e1 e2 : TypeId} {v1 v2 : Value} {x1 x2 : List Value} (h1 : w.ownsRow b1 e1 1 v1 n1 x1) (h2 : w.ownsRow b2 e2 1 v2 n2 x2) (hne : e1 ≠ e2) {g : Nat} (hg : some g = v2.ownBlock) : v1.ownBlock ≠ some g := by
  intro hk
  rcases h1.2 with ⟨h0, _⟩ | ⟨g1, cap, cur, hv, _, hblk, _⟩
  · rw [h0] at hk
    cases hk
  · rw [hv] at hk
    have hgg : g1 = g := by injection hk
    subst hgg
    exact own_ne_ty2 h2 hblk hne hg
theorem own_grown2 {W w3 : World} {e e' : TypeId} {v v' : Value} {b b' n n' : Nat} {xs xs' : List Value} (h : W.ownsRow b e 1 v n xs) (h' : W.ownsRow b' e' 1 v' n' xs') (hne : e ≠ e') (hg : W.grownBy w3 v'.ownBlock) : w3.ownsRow b e 1 v n xs :=
  own_upd h ((Upd.refl (fun k => some k = v'.ownBlock) W).grown hg (fun _ hk => .inl hk.symm)) (fun _ hk _ _ hb => own_ty2 h h' hne hk hb)
theorem rdi_own {w : World} {B : Nat} {k : IntKind} {v : Value} {xs : List Int} (h : RdI w B k v xs) : RdI w w.heap.size k v xs := by
  obtain ⟨A, c, h1, h2, h3, h4⟩ := h
  exact ⟨A, c, h1, h2, h3, fun h0 => by obtain ⟨b, o, a1, a2, a3, a4⟩ := h4 h0; exact ⟨b, o, a1, a3, a3, a4⟩⟩
theorem own_cell2 {w : World} {base e n c : Nat} {A : Option Addr} {xs : List Value} (h : w.ownsRow base e 1 (.slice A n c) n xs) {i : Nat} {v : Value} (hi : xs[i]? = some v) : ∃ g, A = some ⟨g, 0, none⟩ ∧ base ≤ g ∧ w.cell? ⟨g, i, none⟩ = some v := by
  have hl : xs.length = n := by have := h.1; omega
  have hin : i < n := by have := (List.getElem?_eq_some_iff.1 hi).1; omega
  obtain ⟨g, rfl, hg⟩ := own_form h (by omega)
  obtain ⟨A', c', h1, h2, h3, h4⟩ := Rd.of_own h
  obtain ⟨b, o, a1, _, _, a4⟩ := h4 (by omega)
  injection h1 with e1 _ _
  rw [← e1] at a1
  injection a1 with a1
  injection a1 with a1 a2 _
  subst a1 a2
  refine ⟨_, rfl, hg, ?_⟩
  have := a4 i v hi
  rwa [Nat.zero_add] at this
theorem cell_upd2 {S : Nat → Prop} {w w' : World} {p : Addr} {v : Value} (h : w.cell? p = some v) (hu : Upd S w w') (hn : ¬ S p.block) : w'.cell? p = some v := (hu.cell (World.block_lt_of_cell? w p h) hn).trans h
theorem below_drawn_ {w w' : World} {q : Nat} (h : Below (w.drewN q).heap.size (w.drewN q) w') : Below w.heap.size w w' := below_comp (below_drawn ⟨q, rfl⟩) h
structure BackW (w w2 W : World) (pv iv : Value) (P : List Plc) : Prop where
  rp : W.ownsRow w2.heap.size 33 1 pv P.length (P.map Plc.v)
  ri : W.ownsRow w2.heap.size 54 1 iv P.length (P.map Plc.u)
  it : ∀ r ∈ P, OwnI W w2.heap.size r.v r.L ∧ RdI W w.heap.size .i8 r.u r.xs
theorem BackW.upd {w w2 W W' : World} {pv iv : Value} {P : List Plc} {S : Nat → Prop} (h : BackW w w2 W pv iv P) (hu : Upd S W W') (h1 : ∀ k, S k → k < w2.heap.size) (h2 : ∀ k, S k → w.heap.size ≤ k) : BackW w w2 W' pv iv P :=
  ⟨own_upd h.rp hu (fun k hk hb _ => by have := h1 k hk; omega), own_upd h.ri hu (fun k hk hb _ => by have := h1 k hk; omega),
    fun r hr => ⟨own_upd (h.it r hr).1 hu (fun k hk hb _ => by have := h1 k hk; omega), (h.it r hr).2.upd hu h2⟩⟩
theorem BackW.pool {w w2 W W' : World} {b bq : Nat} {pv iv : Value} {P : List Plc} (h : BackW w w2 W pv iv P) (hu : Upd (pS b bq) W W') (hb : b < w2.heap.size) (hq : bq < w2.heap.size) (hwb : w.heap.size ≤ b) (hwq : w.heap.size ≤ bq) : BackW w w2 W' pv iv P :=
  h.upd hu (fun k hk => by rcases hk with rfl | rfl <;> assumption) (fun k hk => by rcases hk with rfl | rfl <;> assumption)
theorem BackW.quiet {w w2 W W' : World} {pv iv : Value} {P : List Plc} (h : BackW w w2 W pv iv P) (hu : Upd (fun _ => False) W W') : BackW w w2 W' pv iv P := h.upd hu (fun _ h => h.elim) (fun _ h => h.elim)
theorem upd_own {W W' : World} {base n : Nat} {e : TypeId} {v : Value} {xs : List Value} (_h : W.ownsRow base e 1 v n xs) {o : Obj} (hg : (W.alloc o).grownBy W' v.ownBlock) : Upd (fun k => some k = v.ownBlock) W W' :=
  ((Upd.refl (fun k => some k = v.ownBlock) W).alloc o).grown hg (fun _ hk => .inl hk.symm)
/-- the pages' row grows -/
theorem BackW.addP {w w2 W W' : World} {pv iv : Value} {P : List Plc} {r : Plc} (hww : w.heap.size ≤ w2.heap.size) (h : BackW w w2 W pv iv P) (hr : OwnI W w2.heap.size r.v r.L ∧ RdI W w.heap.size .i8 r.u r.xs) {o : Obj} (hg : (W.alloc o).grownBy W' pv.ownBlock) :
    W'.ownsRow w2.heap.size 54 1 iv P.length (P.map Plc.u) ∧ ∀ q ∈ P ++ [r], OwnI W' w2.heap.size q.v q.L ∧ RdI W' w.heap.size .i8 q.u q.xs := by
  have hu := upd_own h.rp hg
  refine ⟨own_grown2 (h.ri.alloc o) (h.rp.alloc o) (by decide) hg, fun q hq => ?_⟩
  have hq2 : OwnI W w2.heap.size q.v q.L ∧ RdI W w.heap.size .i8 q.u q.xs := by
    rcases List.mem_append.1 hq with h1 | h1
    · exact h.it q h1
    · rw [List.mem_singleton] at h1
      subst h1
      exact hr
  exact ⟨own_grown2 (World.ownsRow.alloc hq2.1 o) (h.rp.alloc o) (by decide) hg, hq2.2.upd hu (fun k hk => by have := own_ge h.rp hk.symm; omega)⟩
theorem BackW.addI {w w2 W W' : World} {pv iv iv' : Value} {P : List Plc} {r : Plc} (hww : w.heap.size ≤ w2.heap.size) (hp : W.ownsRow w2.heap.size 33 1 pv (P.length + 1) (P.map Plc.v ++ [r.v])) (hi : W.ownsRow w2.heap.size 54 1 iv P.length (P.map Plc.u))
    (hit : ∀ q ∈ P ++ [r], OwnI W w2.heap.size q.v q.L ∧ RdI W w.heap.size .i8 q.u q.xs) {o : Obj} (hg : (W.alloc o).grownBy W' iv.ownBlock) (hi' : W'.ownsRow w2.heap.size 54 1 iv' (P.length + 1) (P.map Plc.u ++ [r.u])) : BackW w w2 W' pv iv' (P ++ [r]) := by
  have hu := upd_own hi hg
  refine ⟨?_, ?_, fun q hq => ⟨own_grown2 (World.ownsRow.alloc (hit q hq).1 o) (hi.alloc o) (by decide) hg, (hit q hq).2.upd hu (fun k hk => by have := own_ge hi hk.symm; omega)⟩⟩
  · rw [List.length_append, List.map_append]
    exact own_grown2 (hp.alloc o) (hi.alloc o) (by decide) hg
  · rw [List.length_append, List.map_append]
    exact hi'
theorem pool_own {W W' : World} {base n b bq : Nat} {e : TypeId} {v : Value} {xs : List Value} {s : Pl} (hp : PoolAt W b bq s) (h : W.ownsRow base e 1 v n xs) {o : Obj} (hg : (W.alloc o).grownBy W' v.ownBlock) (hb : b < base) (hq : bq < base) : PoolAt W' b bq s :=
  PoolMem.upd hp (upd_own h hg) (fun hk => by have := own_ge h hk.symm; omega) (fun hk => by have := own_ge h hk.symm; omega)
/-- an argument of rows of weights: what is known of one of them -/
def RowAt (W : World) (B : Nat) (A : Option Addr) (D : List (List Int)) : Prop :=
  ∀ i, i < D.length → ∃ b o A' c', A = some ⟨b, o, none⟩ ∧ W.cell? ⟨b, o + i, none⟩ = some (.slice A' (D.getD i []).length c') ∧ b < B ∧ RdI W B .i8 (.slice A' (D.getD i []).length c') (D.getD i []) ∧ ∀ v ∈ D.getD i [], -128 ≤ v ∧ v ≤ 127
theorem RowAt.upd {W W' : World} {B : Nat} {A : Option Addr} {D : List (List Int)} {S : Nat → Prop} (h : RowAt W B A D) (hu : Upd S W W') (hn : ∀ k, S k → B ≤ k) : RowAt W' B A D := by
  intro i hi
  obtain ⟨b, o, A', c', h1, h2, h3, h4, h5⟩ := h i hi
  exact ⟨b, o, A', c', h1, (hu.cell (World.block_lt_of_cell? _ _ h2) (fun hs => by have : B ≤ b := hn _ hs; omega)).trans h2, h3, h4.upd hu hn, h5⟩
theorem rowAt_of {w : World} {A : Option Addr} {n c : Nat} {D : List (List Int)} (h : RdF w w.heap.size (.slice A n c) D) (h8 : ∀ i, i < D.length → ∀ x ∈ D.getD i [], (Lit.int .i8 x).wf = true) : RowAt w w.heap.size A D := by
  intro i hi
  obtain ⟨b, o, A', m, c', B', h1, h2, h3, _⟩ := rdf_cell h hi
  have hl := (rdi_len h3).1
  subst hl
  have hb := World.block_lt_of_cell? _ _ h2
  exact ⟨b, o, A', c', h1, h2, hb, rdi_own h3, fun v hv => i8_wf (h8 i hi v hv)⟩
end Go.Proofs.Ytelmolblcnolnaa
