/- What the arguments read as: slices of whole numbers, with their bulk; an append of such a slice to a new row. No condition. -/
import Derived.Test.YtfinbkpmkgpffaaGrow
import Derived.Test.YtfinbkpmkgpffaaRows
import Derived.ChangeSlices
import Derived.Laws.AppendOwnNone
namespace Go.Proofs.Ytfinbkpmkgpffaa
open Go.RowKit Go.ChangeShapes Go.WideShapes Go.ChangeAt

/-- nil, or not -/
def Form (v : Value) : Prop := v = .slice none 0 0 ∨ ∃ a n c, v = .slice (some a) n c
theorem addr_add_ (b o j : Nat) : (⟨b, o, none⟩ : Addr).add j = ⟨b, o + j, none⟩ := by unfold Addr.add; split <;> simp_all
section
variable {H : Type} {enc : TypeId × Value → H} {W : World} {base : Nat} {v : Value} {d : DataW H} {p : List MemPlace}
theorem bulk_one (d : DataW H) : 1 ≤ Rows.uptoBulk d := by
  cases d with
  | lit l => cases l <;> simp [Rows.uptoBulk]
  | nil => simp [Rows.uptoBulk]
  | ptr d => simp [Rows.uptoBulk]
  | slice elems spare => simp [Rows.uptoBulk]
  | agg parts => simp [Rows.uptoBulk]
  | iface t d => simp [Rows.uptoBulk]
  | map entries => simp [Rows.uptoBulk]
  | held h => simp [Rows.uptoBulk]
theorem bulk_length (l : List (DataW H)) : l.length ≤ Rows.uptoBulkAll l := by
  induction l with
  | nil => simp [Rows.uptoBulkAll]
  | cons x r ih => have := bulk_one x; simp only [Rows.uptoBulkAll, List.length_cons]; omega
theorem bulk_mem {d : DataW H} {l : List (DataW H)} (h : d ∈ l) : Rows.uptoBulk d ≤ Rows.uptoBulkAll l := by
  induction l with
  | nil => cases h
  | cons x r ih =>
    simp only [Rows.uptoBulkAll]
    cases List.mem_cons.1 h with
    | inl e => subst e; omega
    | inr e => have := ih e; omega
theorem bulk_all {l : List (DataW H)} (hk : Rows.uptoSmall H l = true) : Rows.uptoBulkAll l ≤ 1048576 := of_decide_eq_true hk
set_option maxRecDepth 100000 in
theorem nums_slice {t e : TypeId} {k : IntKind} (ht : Try.prog.underlying t = some (.slice e)) (he : Try.prog.underlying e = some (.int k)) (hcells : Try.prog.cellsOf e = 1)
    (h : DataW.Trod enc Try.prog W 0 (fun _ => true) true t v d p) (kk : ∃ a n c, v = .slice a n c) :
    ∃ xs, RdI W W.heap.size k v xs ∧ Form v ∧ (∀ x ∈ xs, (Lit.int k x).wf = true) ∧ xs.length + 1 ≤ Rows.uptoBulk d := by
  obtain ⟨a0, len0, cap0, rfl⟩ := kk
  obtain ⟨fuel, hf⟩ := h
  rcases open_ints ht he hcells hf with ⟨hcs, hx⟩ | ⟨a, len, cap, zs, hcs, hb, hl, hm, hzl, hx, hcell, hwf⟩
  · simp [Value.cells] at hcs
    obtain ⟨rfl, rfl, rfl⟩ := hcs
    refine ⟨[], ⟨none, 0, rfl, Nat.le_refl _, Nat.zero_le _, fun h => absurd h (by simp)⟩, .inl rfl, fun x hx => (by simp at hx), ?_⟩
    exact bulk_one d
  · simp [Value.cells] at hcs
    obtain ⟨rfl, rfl, rfl⟩ := hcs
    have hzl2 : len0 ≤ zs.length := by rw [hzl]; split <;> omega
    have hlen : ((zs.take len0).map (Value.int k)).length = len0 := by simp; omega
    refine ⟨zs.take len0, ⟨some a, cap0, by rw [hlen], by rw [hlen]; exact hl, by rw [hlen]; omega, fun h0 => ?_⟩, .inr ⟨_, _, _, rfl⟩, fun x hx => hwf x (List.mem_of_mem_take hx), ?_⟩
    · rw [hlen] at h0
      have c0 := hcell 0 (by omega)
      obtain ⟨b, f, spot⟩ := a
      have hsp := World.cell?_spot c0
      have hspot : spot = none := by simpa [Addr.add] using hsp
      subst hspot
      have hb9 : b < W.heap.size := World.block_lt_of_cell? W _ c0 |> fun h => by rw [addr_add_] at h; exact h
      refine ⟨b, f, rfl, hb9, hb9, fun j u hj => ?_⟩
      have hj' : j < len0 := by
        rcases Nat.lt_or_ge j len0 with h1 | h1
        · exact h1
        · rw [List.getElem?_eq_none (by rw [hlen]; exact h1)] at hj; cases hj
      have := hcell j (by omega)
      rw [addr_add_] at this
      rw [← hj]
      refine Eq.trans this ?_
      simp [hj', List.getElem?_eq_getElem (show j < zs.length by omega), List.getD_eq_getElem?_getD]
    · injection hx with hd _
      subst hd
      simp only [Rows.uptoBulk]
      have h1 := bulk_length (lits (H := H) k (zs.take len0))
      have h2 : (lits (H := H) k (zs.take len0)).length = (zs.take len0).length := by simp [lits]
      omega
set_option maxRecDepth 100000 in
theorem nums_open {t e : TypeId} {k : IntKind} (ht : Try.prog.underlying t = some (.slice e)) (he : Try.prog.underlying e = some (.int k)) (hcells : Try.prog.cellsOf e = 1)
    (h : DataW.Trod enc Try.prog W 0 (fun _ => true) true t v d p) (kk : Value.okWide Try.prog W .any base t v) :
    ∃ xs, RdI W W.heap.size k v xs ∧ Form v ∧ (∀ x ∈ xs, (Lit.int k x).wf = true) ∧ xs.length + 1 ≤ Rows.uptoBulk d :=
  nums_slice ht he hcells h (okWide_slice ht kk)
end

/-- an append of a slice that reads, nil too -/
theorem wpList_append_rd {P : Program} {w : World} {ops : Array Oper} {rest : List Oper} {o : Oper} {a : Act} {Q : Exit → Act → World → Prop} (hgd : o.guard = none) (s x : Operand) (t : TypeId)
    (ho : o.op = .call { callee := .builtin .append, args := #[s, x], argTypes := #[t, t] })
    (base : Nat) (e : TypeId) (i : TypeInfo) (z : Value) (bytes : Nat) (ht : P.underlying t = some (.slice e)) (hi : P.info? e = some i) (hz : i.zero = some z)
    (hsize : i.size = 1) (hby : i.bytes = bytes) (hzs : z.cells.size = 1)
    (v : Value) (n : Nat) (xs : List Value) (hs : a.eval s = v) (hown : w.ownsRow base e 1 v n xs)
    (B : Nat) (u : Value) (news : List Value) (hx : a.eval x = u) (hr : Rd w B u news) (hf : Form u) (h1 : ∀ u ∈ news, u.oneCell' = true)
    (h63 : n + news.length ≤ maxLen) (hbytes : (n + news.length) * bytes ≤ 140737488355328) (hbase : base ≤ w.heap.size)
    (h : ∀ v' w', w'.ownsRow base e 1 v' (n + news.length) (xs ++ news) → w.grownBy w' v.ownBlock → wpList P ops Q rest (a.put o.dst v') w') : wpList P ops Q (o :: rest) a w := by
  obtain ⟨A, c, hu, hc, hm, hcell⟩ := hr
  rcases hf with rfl | ⟨ad, m, c', rfl⟩
  · injection hu with _ e2 _
    have hnil : news = [] := List.length_eq_zero_iff.1 e2.symm
    subst hnil
    refine wpList_append_own_none hgd s x t ho base e i 1 ht hi v n xs hs hown hx ?_
    refine h v w (by simpa using hown) ⟨rfl, rfl, rfl, Nat.le_refl _, fun _ _ _ => rfl⟩
  · injection hu with e1 e2 e3
    subst e2 e3
    refine wpList_append_own w hgd s x t ho base e i z 1 bytes ht hi hz hsize hby hzs (by decide) v n xs hs hown ad news.length c' news hx (by simp) (fun j q hj => ?_) h1 h63 hbytes hbase (fun v' w' a1 a2 _ => h v' w' a1 a2)
    have hj' : j < news.length := by
      rcases Nat.lt_or_ge j news.length with h2 | h2
      · exact h2
      · rw [List.getElem?_eq_none h2] at hj; cases hj
    obtain ⟨b, o', hA, _, _, hc4⟩ := hcell (by omega)
    rw [hA] at e1
    injection e1 with e1
    subst e1
    rw [addr_add_]
    exact hc4 j q hj
theorem ints_one {k : IntKind} (xs : List Int) : ∀ u ∈ xs.map (Value.int k), u.oneCell' = true := by
  intro u hu
  obtain ⟨z, _, rfl⟩ := List.mem_map.1 hu
  rfl
theorem own_empty_ (w : World) (e : TypeId) : (w.alloc (.cells #[] e)).ownsRow w.heap.size e 1 (.slice (some ⟨w.heap.size, 0, none⟩) 0 0) 0 [] := World.ownsRow_made w #[] 0 (Nat.le_refl _) (Nat.zero_le _) rfl
/-- what 'append([]T{}, l...)' has made -/
theorem copied {w w2 : World} {e : TypeId} {k : IntKind} {v1 : Value} {l : List Int} (hO : w2.ownsRow w.heap.size e 1 v1 l.length (l.map (Value.int k))) (hg : (w.alloc (.cells #[] e)).grownBy w2 (Value.slice (some ⟨w.heap.size, 0, none⟩) 0 0).ownBlock) :
    ∃ A c, v1 = .slice A l.length c ∧ RdI w2 w2.heap.size k (.slice A l.length c) l ∧ Below w.heap.size w w2 := by
  obtain ⟨A, c, rfl⟩ := own_slice_ hO
  refine ⟨A, c, rfl, Rd.of_own hO, ?_⟩
  refine (Upd.grown (S := fun _ => False) ((Upd.refl _ w).alloc (.cells #[] e)) hg (fun g h => .inr ?_)).toB
  have h9 : some w.heap.size = some g := h
  injection h9 with h9
  omega
end Go.Proofs.Ytfinbkpmkgpffaa
