/- The argument of the statements on beams: what is read of it. No condition. -/
import Derived.Test.YtfinbkpmkgpffaaBeamBoth
import Derived.Test.YtfinbkpmkgpffaaWide
namespace Go.Proofs.Ytfinbkpmkgpffaa
open Go.RowKit Go.ChangeShapes Go.WideShapes Go.ChangeAt Go.Deep

section
variable {H : Type} {enc : TypeId × Value → H} {W : World} {base : Nat}
theorem Try.cellsRB : Try.prog.cellsOf 57 = 3 := by kernel_rfl
set_option maxRecDepth 100000 in
theorem rows64_trod {v : Value} {fuel : Nat} {y : DataW H × List MemPlace} (h : DataW.trod enc Try.prog W 0 (fun _ => true) true fuel 41 [v] = some y) (hs : Sz Try.prog 41 y.1) :
    ∃ R, RdRows W v R ∧ R.length ≤ 140737488351232 ∧ ∀ r ∈ R, r.length ≤ 140737488351232 := by
  have hc1 : Try.prog.cellsOf 29 = 1 := by kernel_rfl
  have hc2 : Try.prog.cellsOf 2 = 1 := by kernel_rfl
  have hb1 : Try.prog.bytesOf 29 = 24 := by kernel_rfl
  have hb2 : Try.prog.bytesOf 2 = 8 := by kernel_rfl
  rcases DataW.trod_slice Try.underlying41 h with ⟨hcs, hy⟩ | ⟨a, len, cap, elems, rest, n, _, hcs, rfl, hb, hl, hm, hlen, hel, _, _⟩
  · injection hcs with h1 _
    subst h1
    exact ⟨[], ⟨none, 0, rfl, Nat.le_refl _, Nat.zero_le _, fun i r h => by cases h⟩, by simp, fun r h => by cases h⟩
  · injection hcs with h1 _
    subst h1
    rw [hc1] at hel
    obtain ⟨hs1, hs2⟩ := sz_slice Try.underlying41 hs
    rw [List.length_map, hb1] at hs1
    have hx : ∀ i, i < len → ∃ r : Value × List Int, W.cell? (a.add i) = some r.1 ∧ (RdI W W.heap.size .i64 r.1 r.2 ∧ Form r.1) ∧ r.2.length ≤ 140737488351232 := by
      intro i hi
      have hie : i < elems.length := by omega
      have h2 := hel i hi
      rw [List.getElem?_eq_getElem hie, Nat.mul_one, Option.bind_eq_some_iff] at h2
      obtain ⟨cs', h3, h4⟩ := h2
      obtain ⟨_, hcl, _⟩ := World.cells?_some h3
      obtain ⟨u, rfl⟩ : ∃ u, cs' = [u] := by
        match cs', hcl with
        | [u], _ => exact ⟨u, rfl⟩
      obtain ⟨xs, hr, hfr, _, _⟩ := nums_trod Try.underlying29 Try.underlying2 hc2 h4
      refine ⟨(u, xs), cell_of_cells?_one h3, ⟨hr, hfr⟩, ?_⟩
      obtain ⟨A2, c2, hv2, _, _⟩ := RdI.form hr
      rw [hv2] at h4
      have h9 := nums_sz Try.underlying29 h4 (hs2 _ (List.mem_map.2 ⟨_, List.getElem_mem hie, rfl⟩))
      rw [hb2] at h9
      unfold reachBytes at h9
      show xs.length ≤ _
      omega
    obtain ⟨R, hR, hRR⟩ := list_of_ex2 hx
    have hat : ∀ i (hi : i < len), W.cell? (a.add i) = some (R[i]'(by omega)).1 ∧ (RdI W W.heap.size .i64 (R[i]'(by omega)).1 (R[i]'(by omega)).2 ∧ Form (R[i]'(by omega)).1) ∧ (R[i]'(by omega)).2.length ≤ 140737488351232 :=
      fun i hi => hRR i _ (List.getElem?_eq_getElem (by omega))
    refine ⟨R.map (·.2), ⟨some a, cap, by rw [List.length_map, hR], by rw [List.length_map]; omega, by rw [List.length_map]; omega, fun i r hr => ?_⟩, ?_, fun r hr => ?_⟩
    · rw [List.getElem?_map] at hr
      have hi : i < R.length := by
        rcases Nat.lt_or_ge i R.length with h1 | h1
        · exact h1
        · rw [List.getElem?_eq_none h1] at hr; cases hr
      rw [List.getElem?_eq_getElem hi] at hr
      injection hr with hr
      subst hr
      obtain ⟨c0, ⟨r1, f1⟩, _⟩ := hat i (by omega)
      have hsp := World.cell?_spot (hat 0 (by omega)).1
      have hspot : a.spot = none := by simpa [Addr.add] using hsp
      have h7 := add_none c0 hspot
      exact ⟨a.block, a.off, _, by cases a; cases hspot; rfl, cell_lt (p := ⟨a.block, a.off + i, none⟩) h7, h7, r1, f1⟩
    · rw [List.length_map]
      unfold reachBytes at hs1
      omega
    · obtain ⟨q, hq, rfl⟩ := List.mem_map.1 hr
      obtain ⟨i, hi, rfl⟩ := List.mem_iff_getElem.1 hq
      exact (hat i (by omega)).2.2
set_option maxRecDepth 100000 in
theorem beams_trod {v : Value} {fuel : Nat} {y : DataW H × List MemPlace} (h : DataW.trod enc Try.prog W 0 (fun _ => true) true fuel 40 [v] = some y) (hs : Sz Try.prog 40 y.1) :
    ∃ X, RdBms W v X ∧ X.length ≤ 140737488351232 ∧ ∀ x ∈ X, x.b.tokens.length ≤ 140737488351232 := by
  have hb1 : Try.prog.bytesOf 57 = 40 := by kernel_rfl
  have hb2 : Try.prog.bytesOf 3 = 8 := by kernel_rfl
  rcases structs_trod Try.underlying40 Try.underlying57 (by kernel_rfl) Try.cellsRB h with rfl | ⟨a, len, cap, elems, rest, rfl, hy, hel, hl, hm, hi⟩
  · exact ⟨[], ⟨none, 0, rfl, Nat.le_refl _, Nat.zero_le _, fun i x h => by cases h⟩, by simp, fun r h => by cases h⟩
  · rw [hy] at hs
    obtain ⟨hs1, hse⟩ := sz_slice Try.underlying40 hs
    rw [hb1, hel] at hs1
    have hx : ∀ i, i < len → ∃ x : Bx, (∃ b o, a = ⟨b, o, none⟩ ∧ b < W.heap.size ∧ W.rangeAt b (o + i * 3) x.cells) ∧ (RdI W W.heap.size .i64 x.v x.b.tokens ∧ Form x.v) ∧ x.b.tokens.length ≤ 140737488351232 := by
      intro i hil
      obtain ⟨n, parts, hpt, hn⟩ := hi i hil
      have hsp : Sz Try.prog 57 (.agg parts) := hse _ (List.mem_of_getElem? hpt)
      obtain ⟨v0, y0, c0, t0, q0⟩ := hn 0 _ rfl
      obtain ⟨v1, y1, c1, t1, q1⟩ := hn 1 _ rfl
      obtain ⟨v2, y2, c2, t2, q2⟩ := hn 2 _ rfl
      have s0 := sz_struct Try.underlying57 hsp (j := 0) rfl q0
      obtain ⟨tk, hw, fw, _, _⟩ := nums_trod Try.underlying32 Try.underlying3 (by kernel_rfl) t0
      obtain ⟨sc, e1, _, _⟩ := DataW.trod_int Try.underlying2 t1
      obtain ⟨dn, e2, _⟩ := DataW.trod_bool Try.underlying4 t2
      have hwl : tk.length ≤ 140737488351232 := by
        obtain ⟨A2, c2', hv2, _, _⟩ := RdI.form hw
        rw [hv2] at t0
        have h9 := nums_sz Try.underlying32 t0 s0
        rw [hb2] at h9
        unfold reachBytes at h9
        omega
      injection e1 with e1
      injection e2 with e2
      subst e1 e2
      obtain ⟨b, f, spot⟩ := a
      have hspot : spot = none := by
        obtain ⟨n0, parts0, _, hn0⟩ := hi 0 (by omega)
        obtain ⟨v0', y0', c0', t0', _⟩ := hn0 0 _ rfl
        have h2 := World.cell?_spot c0'
        simpa [Addr.add] using h2
      subst hspot
      have ha : ∀ j, (⟨b, f, none⟩ : Addr).add j = ⟨b, f + j, none⟩ := fun j => by unfold Addr.add; split <;> simp_all
      simp only [ha] at c0 c1 c2
      refine ⟨⟨v0, ⟨tk, sc, dn⟩⟩, ⟨b, f, rfl, World.block_lt_of_cell? W _ c0, fun j u hj => ?_⟩, ⟨hw, fw⟩, hwl⟩
      match j, hj with
      | 0, hj => injection hj with hj; subst hj; exact c0
      | 1, hj => injection hj with hj; subst hj; rw [Nat.add_assoc]; exact c1
      | 2, hj => injection hj with hj; subst hj; rw [Nat.add_assoc]; exact c2
    obtain ⟨X, hX, hXX⟩ := list_of_ex2 hx
    subst hX
    refine ⟨X, ⟨some a, cap, rfl, hl, by omega, fun i x h => ?_⟩, ?_, fun x hx => ?_⟩
    · obtain ⟨⟨b, o, rfl, h2, h3⟩, ⟨h4, h5⟩, _⟩ := hXX i x h
      exact ⟨⟨b, o, rfl, h2, h3⟩, h4, h5⟩
    · unfold reachBytes at hs1
      omega
    · obtain ⟨i, hi, rfl⟩ := List.mem_iff_getElem.1 hx
      exact (hXX i _ (List.getElem?_eq_getElem hi)).2.2
set_option maxRecDepth 100000 in
theorem caseB_open {v : Value} {d : DataW H} {p : List MemPlace} (h : DataW.Trod enc Try.prog W 0 (fun _ => true) true 43 v d p) (kk : Value.okWide Try.prog W .any base 43 v) (hs : Sz Try.prog 43 d) :
    ∃ k : CaseB, v = .agg k.vals.toArray ∧ k.Ok W := by
  obtain ⟨cs, rfl, hcs⟩ := okWide_struct Try.underlying43 kk
  rw [show Try.prog.cellsOf 43 = 6 from by kernel_rfl] at hcs
  obtain ⟨fuel, hf⟩ := h
  obtain ⟨x0, x1, x2, x3, x4, x5, rfl⟩ : ∃ x0 x1 x2 x3 x4 x5, cs = #[x0, x1, x2, x3, x4, x5] := by
    match cs, hcs with
    | ⟨[x0, x1, x2, x3, x4, x5]⟩, _ => exact ⟨x0, x1, x2, x3, x4, x5, rfl⟩
  obtain ⟨ys, n, _, hy, _, hyl, hfs⟩ := DataW.trod_struct Try.underlying43 hf
  obtain ⟨y0, y1, y2, y3, y4, y5, rfl⟩ : ∃ y0 y1 y2 y3 y4 y5, ys = [y0, y1, y2, y3, y4, y5] := by
    match ys, hyl with
    | [y0, y1, y2, y3, y4, y5], _ => exact ⟨y0, y1, y2, y3, y4, y5, rfl⟩
  have hy : d = DataW.agg (([y0, y1, y2, y3, y4, y5] : List (DataW H × List MemPlace)).map (·.1)) := (Prod.mk.inj hy).1
  rw [hy] at hs
  have s0 := sz_struct Try.underlying43 hs (j := 0) (d := y0.1) rfl rfl
  have s1 := sz_struct Try.underlying43 hs (j := 1) (d := y1.1) rfl rfl
  have e1 : Try.prog.cellsOf 40 = 1 := by kernel_rfl
  have e2 : Try.prog.cellsOf 41 = 1 := by kernel_rfl
  have e3 : Try.prog.cellsOf 3 = 1 := by kernel_rfl
  have t0 : DataW.trod enc Try.prog W 0 (fun _ => true) true n 40 ((([x0, x1, x2, x3, x4, x5] : List Value).drop 0).take (Try.prog.cellsOf 40)) = some y0 := hfs 0 _ rfl
  rw [e1] at t0
  have t1 : DataW.trod enc Try.prog W 0 (fun _ => true) true n 41 ((([x0, x1, x2, x3, x4, x5] : List Value).drop 1).take (Try.prog.cellsOf 41)) = some y1 := hfs 1 _ rfl
  rw [e2] at t1
  have t2 : DataW.trod enc Try.prog W 0 (fun _ => true) true n 3 ((([x0, x1, x2, x3, x4, x5] : List Value).drop 2).take (Try.prog.cellsOf 3)) = some y2 := hfs 2 _ rfl
  rw [e3] at t2
  have t3 : DataW.trod enc Try.prog W 0 (fun _ => true) true n 3 ((([x0, x1, x2, x3, x4, x5] : List Value).drop 3).take (Try.prog.cellsOf 3)) = some y3 := hfs 3 _ rfl
  rw [e3] at t3
  have t4 : DataW.trod enc Try.prog W 0 (fun _ => true) true n 3 ((([x0, x1, x2, x3, x4, x5] : List Value).drop 4).take (Try.prog.cellsOf 3)) = some y4 := hfs 4 _ rfl
  rw [e3] at t4
  have t5 : DataW.trod enc Try.prog W 0 (fun _ => true) true n 3 ((([x0, x1, x2, x3, x4, x5] : List Value).drop 5).take (Try.prog.cellsOf 3)) = some y5 := hfs 5 _ rfl
  rw [e3] at t5
  clear hfs hf
  obtain ⟨X, r0, n0, k0⟩ := beams_trod (show DataW.trod enc Try.prog W 0 (fun _ => true) true n 40 [x0] = some y0 from t0) s0
  obtain ⟨R, r1, n1, k1⟩ := rows64_trod (show DataW.trod enc Try.prog W 0 (fun _ => true) true n 41 [x1] = some y1 from t1) s1
  obtain ⟨a2, q2, _, _⟩ := DataW.trod_int Try.underlying3 (show DataW.trod enc Try.prog W 0 (fun _ => true) true n 3 [x2] = some y2 from t2)
  obtain ⟨a3, q3, _, _⟩ := DataW.trod_int Try.underlying3 (show DataW.trod enc Try.prog W 0 (fun _ => true) true n 3 [x3] = some y3 from t3)
  obtain ⟨a4, q4, _, _⟩ := DataW.trod_int Try.underlying3 (show DataW.trod enc Try.prog W 0 (fun _ => true) true n 3 [x4] = some y4 from t4)
  obtain ⟨a5, q5, _, _⟩ := DataW.trod_int Try.underlying3 (show DataW.trod enc Try.prog W 0 (fun _ => true) true n 3 [x5] = some y5 from t5)
  injection q2 with q2 _
  injection q3 with q3 _
  injection q4 with q4 _
  injection q5 with q5 _
  subst q2 q3 q4 q5
  exact ⟨⟨x0, X, x1, R, a2, a3, a4, a5⟩, rfl, ⟨r0, r1, n0, n1, k0, k1⟩⟩
end
end Go.Proofs.Ytfinbkpmkgpffaa
