/- An append of a slice that reads, in a region that draws: a step law for go_region_held3. No condition. -/
import Derived.Test.YtfinbkpmkgpffaaArgs
namespace Go.Proofs.Ytfinbkpmkgpffaa
open Go.RowKit Go.ChangeShapes Go.WideShapes Go.ChangeAt

theorem step_append_rd {P : Program} {w : World} {ops : Array Oper} {o : Oper} {a : Act} {K : Act → World → Prop} {Q : Exit → Act → World → Prop} {E : Prop} (hgd : o.guard = none) (s x : Operand) (t : TypeId)
    (ho : o.op = .call { callee := .builtin .append, args := #[s, x], argTypes := #[t, t] })
    (base : Nat) (e : TypeId) (i : TypeInfo) (z : Value) (bytes : Nat) (ht : P.underlying t = some (.slice e)) (hi : P.info? e = some i) (hz : i.zero = some z)
    (hsize : i.size = 1) (hby : i.bytes = bytes) (hzs : z.cells.size = 1)
    (v : Value) (n : Nat) (xs : List Value) (hs : a.eval s = v) (hown : w.ownsRow base e 1 v n xs)
    (B : Nat) (u : Value) (news : List Value) (hx : a.eval x = u) (hr : Rd w B u news) (hf : Form u) (h1 : ∀ u ∈ news, u.oneCell' = true)
    (h63 : n + news.length ≤ maxLen) (hbytes : (n + news.length) * bytes ≤ 140737488355328) (hbase : base ≤ w.heap.size)
    (h : ∀ v' w', w'.ownsRow base e 1 v' (n + news.length) (xs ++ news) → w.grownBy w' v.ownBlock → K (a.put o.dst v') w') :
    if Region.wanted o (yielded ops a.tmps) = true then Oper.wp P o a w K Q else E := by
  have hw : Region.wanted o (yielded ops a.tmps) = true := by simp [Region.wanted, hgd]
  rw [if_pos hw]
  obtain ⟨A, c, hu, hc, hm, hcell⟩ := hr
  rcases hf with rfl | ⟨ad, m, c', rfl⟩
  · injection hu with _ e2 _
    have hnil : news = [] := List.length_eq_zero_iff.1 e2.symm
    subst hnil
    have hrun := run_append_owned_none (P := P) (w := w) base t o.type e i 1 ht hi v n xs hown
    unfold Oper.wp
    simp [execOp, ho, resolve, invoke, builtin, hs, hx, hrun, Result.andThen]
    exact h v w (by simpa using hown) ⟨rfl, rfl, rfl, Nat.le_refl _, fun _ _ _ => rfl⟩
  · injection hu with e1 e2 e3
    subst e2 e3
    refine wp_append_own w s x t ho base e i z 1 bytes ht hi hz hsize hby hzs (by decide) v n xs hs hown ad news.length c' news hx (by simp) (fun j q hj => ?_) h1 h63 hbytes hbase (fun v' w' a1 a2 _ => h v' w' a1 a2)
    have hj' : j < news.length := by
      rcases Nat.lt_or_ge j news.length with h2 | h2
      · exact h2
      · rw [List.getElem?_eq_none h2] at hj; cases hj
    obtain ⟨b, o', hA, _, _, hc4⟩ := hcell (by omega)
    rw [hA] at e1
    injection e1 with e1
    subst e1
    rw [addr_add_]
    exact hc4 j q hj
end Go.Proofs.Ytfinbkpmkgpffaa
