/- GenChecks: its arguments opened. No condition. -/
import Derived.Test.YtlpeijaeiioimaaGenChecksW
namespace Go.Proofs.Ytlpeijaeiioimaa
open Go.RowKit Go.ChangeShapes Go.WideShapes Go.ChangeAt

section
variable {H : Type} {enc : TypeId × Value → H} {W : World} {base : Nat}
theorem trod_float_ {t : TypeId} (ht : Try.prog.underlying t = some (.float .f64)) {v : Value} {fuel : Nat} {y : DataW H × List MemPlace} (h : DataW.trod enc Try.prog W 0 (fun _ => true) true fuel t [v] = some y) :
    ∃ b, v = .float .f64 b ∧ b < 18446744073709551616 := by
  cases fuel with
  | zero => simp [DataW.trod] at h
  | succ n =>
    cases v with
    | float k b =>
      simp only [DataW.trod, ht] at h
      cases k with
      | f32 => simp at h
      | f64 =>
        refine ⟨b, rfl, ?_⟩
        by_cases hw : (Lit.float .f64 b).wf = true
        · simp [Lit.wf] at hw
          exact hw
        · simp [hw] at h
    | _ => simp [DataW.trod, ht] at h
set_option maxRecDepth 100000 in
theorem config_open {v : Value} {d : DataW H} {p : List MemPlace} (h : DataW.Trod enc Try.prog W 0 (fun _ => true) true 30 v d p) (kk : Value.okWide Try.prog W .any base 30 v) :
    ∃ d h_ L V hd e k wd : Int, v = .agg #[.int .i64 d, .int .i64 h_, .int .i64 L, .int .i64 V, .int .i64 hd, .int .i64 e, .int .i64 k, .int .i64 wd] := by
  obtain ⟨cs, rfl, hcs⟩ := okWide_struct Try.underlying30 kk
  rw [show Try.prog.cellsOf 30 = 8 from by kernel_rfl] at hcs
  obtain ⟨fuel, hf⟩ := h
  obtain ⟨x0, x1, x2, x3, x4, x5, x6, x7, rfl⟩ : ∃ x0 x1 x2 x3 x4 x5 x6 x7, cs = #[x0, x1, x2, x3, x4, x5, x6, x7] := by
    match cs, hcs with
    | ⟨[x0, x1, x2, x3, x4, x5, x6, x7]⟩, _ => exact ⟨x0, x1, x2, x3, x4, x5, x6, x7, rfl⟩
  obtain ⟨ys, n, _, hy, _, hyl, hfs⟩ := DataW.trod_struct Try.underlying30 hf
  obtain ⟨xy0, xy1, xy2, xy3, xy4, xy5, xy6, xy7, rfl⟩ : ∃ xy0 xy1 xy2 xy3 xy4 xy5 xy6 xy7, ys = [xy0, xy1, xy2, xy3, xy4, xy5, xy6, xy7] := by
    match ys, hyl with
    | [xy0, xy1, xy2, xy3, xy4, xy5, xy6, xy7], _ => exact ⟨xy0, xy1, xy2, xy3, xy4, xy5, xy6, xy7, rfl⟩
  have e0 : Try.prog.cellsOf 3 = 1 := by kernel_rfl
  have t0 : DataW.trod enc Try.prog W 0 (fun _ => true) true n 3 ((([x0, x1, x2, x3, x4, x5, x6, x7] : List Value).drop 0).take (Try.prog.cellsOf 3)) = some xy0 := hfs 0 _ rfl
  rw [e0] at t0
  have t1 : DataW.trod enc Try.prog W 0 (fun _ => true) true n 3 ((([x0, x1, x2, x3, x4, x5, x6, x7] : List Value).drop 1).take (Try.prog.cellsOf 3)) = some xy1 := hfs 1 _ rfl
  rw [e0] at t1
  have t2 : DataW.trod enc Try.prog W 0 (fun _ => true) true n 3 ((([x0, x1, x2, x3, x4, x5, x6, x7] : List Value).drop 2).take (Try.prog.cellsOf 3)) = some xy2 := hfs 2 _ rfl
  rw [e0] at t2
  have t3 : DataW.trod enc Try.prog W 0 (fun _ => true) true n 3 ((([x0, x1, x2, x3, x4, x5, x6, x7] : List Value).drop 3).take (Try.prog.cellsOf 3)) = some xy3 := hfs 3 _ rfl
  rw [e0] at t3
  have t4 : DataW.trod enc Try.prog W 0 (fun _ => true) true n 3 ((([x0, x1, x2, x3, x4, x5, x6, x7] : List Value).drop 4).take (Try.prog.cellsOf 3)) = some xy4 := hfs 4 _ rfl
  rw [e0] at t4
  have t5 : DataW.trod enc Try.prog W 0 (fun _ => true) true n 3 ((([x0, x1, x2, x3, x4, x5, x6, x7] : List Value).drop 5).take (Try.prog.cellsOf 3)) = some xy5 := hfs 5 _ rfl
  rw [e0] at t5
  have t6 : DataW.trod enc Try.prog W 0 (fun _ => true) true n 3 ((([x0, x1, x2, x3, x4, x5, x6, x7] : List Value).drop 6).take (Try.prog.cellsOf 3)) = some xy6 := hfs 6 _ rfl
  rw [e0] at t6
  have t7 : DataW.trod enc Try.prog W 0 (fun _ => true) true n 3 ((([x0, x1, x2, x3, x4, x5, x6, x7] : List Value).drop 7).take (Try.prog.cellsOf 3)) = some xy7 := hfs 7 _ rfl
  rw [e0] at t7
  clear hfs hf
  obtain ⟨d, q0, _, _⟩ := DataW.trod_int Try.underlying3 (show DataW.trod enc Try.prog W 0 (fun _ => true) true n 3 [x0] = some xy0 from t0)
  injection q0 with q0 _
  subst q0
  obtain ⟨h_, q1, _, _⟩ := DataW.trod_int Try.underlying3 (show DataW.trod enc Try.prog W 0 (fun _ => true) true n 3 [x1] = some xy1 from t1)
  injection q1 with q1 _
  subst q1
  obtain ⟨L, q2, _, _⟩ := DataW.trod_int Try.underlying3 (show DataW.trod enc Try.prog W 0 (fun _ => true) true n 3 [x2] = some xy2 from t2)
  injection q2 with q2 _
  subst q2
  obtain ⟨V, q3, _, _⟩ := DataW.trod_int Try.underlying3 (show DataW.trod enc Try.prog W 0 (fun _ => true) true n 3 [x3] = some xy3 from t3)
  injection q3 with q3 _
  subst q3
  obtain ⟨hd, q4, _, _⟩ := DataW.trod_int Try.underlying3 (show DataW.trod enc Try.prog W 0 (fun _ => true) true n 3 [x4] = some xy4 from t4)
  injection q4 with q4 _
  subst q4
  obtain ⟨e, q5, _, _⟩ := DataW.trod_int Try.underlying3 (show DataW.trod enc Try.prog W 0 (fun _ => true) true n 3 [x5] = some xy5 from t5)
  injection q5 with q5 _
  subst q5
  obtain ⟨k, q6, _, _⟩ := DataW.trod_int Try.underlying3 (show DataW.trod enc Try.prog W 0 (fun _ => true) true n 3 [x6] = some xy6 from t6)
  injection q6 with q6 _
  subst q6
  obtain ⟨wd, q7, _, _⟩ := DataW.trod_int Try.underlying3 (show DataW.trod enc Try.prog W 0 (fun _ => true) true n 3 [x7] = some xy7 from t7)
  injection q7 with q7 _
  subst q7
  exact ⟨d, h_, L, V, hd, e, k, wd, rfl⟩
set_option maxRecDepth 100000 in
theorem ask_open {v : Value} {d : DataW H} {p : List MemPlace} (h : DataW.Trod enc Try.prog W 0 (fun _ => true) true 35 v d p) (kk : Value.okWide Try.prog W .any base 35 v) :
    ∃ (A : Option Addr) (n c : Nat) (xs : List Int) (kind len stop seed topk beams pen : Int) (x : Nat), v = .agg #[.int .i64 kind, .slice A n c, .int .i64 len, .int .i64 stop, .int .u64 seed, .int .i64 topk, .float .f64 x, .int .i64 beams, .int .i64 pen] ∧
      RdI W W.heap.size .i64 (.slice A n c) xs ∧ Form (.slice A n c) ∧ x < 18446744073709551616 := by
  obtain ⟨cs, rfl, hcs⟩ := okWide_struct Try.underlying35 kk
  rw [show Try.prog.cellsOf 35 = 9 from by kernel_rfl] at hcs
  obtain ⟨fuel, hf⟩ := h
  obtain ⟨z0, z1, z2, z3, z4, z5, z6, z7, z8, rfl⟩ : ∃ z0 z1 z2 z3 z4 z5 z6 z7 z8, cs = #[z0, z1, z2, z3, z4, z5, z6, z7, z8] := by
    match cs, hcs with
    | ⟨[z0, z1, z2, z3, z4, z5, z6, z7, z8]⟩, _ => exact ⟨z0, z1, z2, z3, z4, z5, z6, z7, z8, rfl⟩
  obtain ⟨ys, n, _, hy, _, hyl, hfs⟩ := DataW.trod_struct Try.underlying35 hf
  obtain ⟨zy0, zy1, zy2, zy3, zy4, zy5, zy6, zy7, zy8, rfl⟩ : ∃ zy0 zy1 zy2 zy3 zy4 zy5 zy6 zy7 zy8, ys = [zy0, zy1, zy2, zy3, zy4, zy5, zy6, zy7, zy8] := by
    match ys, hyl with
    | [zy0, zy1, zy2, zy3, zy4, zy5, zy6, zy7, zy8], _ => exact ⟨zy0, zy1, zy2, zy3, zy4, zy5, zy6, zy7, zy8, rfl⟩
  have e0 : Try.prog.cellsOf 31 = 1 := by kernel_rfl
  have e1 : Try.prog.cellsOf 33 = 1 := by kernel_rfl
  have e2 : Try.prog.cellsOf 3 = 1 := by kernel_rfl
  have e3 : Try.prog.cellsOf 32 = 1 := by kernel_rfl
  have t0 : DataW.trod enc Try.prog W 0 (fun _ => true) true n 3 ((([z0, z1, z2, z3, z4, z5, z6, z7, z8] : List Value).drop 0).take (Try.prog.cellsOf 3)) = some zy0 := hfs 0 _ rfl
  rw [e2] at t0
  have t1 : DataW.trod enc Try.prog W 0 (fun _ => true) true n 31 ((([z0, z1, z2, z3, z4, z5, z6, z7, z8] : List Value).drop 1).take (Try.prog.cellsOf 31)) = some zy1 := hfs 1 _ rfl
  rw [e0] at t1
  have t2 : DataW.trod enc Try.prog W 0 (fun _ => true) true n 3 ((([z0, z1, z2, z3, z4, z5, z6, z7, z8] : List Value).drop 2).take (Try.prog.cellsOf 3)) = some zy2 := hfs 2 _ rfl
  rw [e2] at t2
  have t3 : DataW.trod enc Try.prog W 0 (fun _ => true) true n 3 ((([z0, z1, z2, z3, z4, z5, z6, z7, z8] : List Value).drop 3).take (Try.prog.cellsOf 3)) = some zy3 := hfs 3 _ rfl
  rw [e2] at t3
  have t4 : DataW.trod enc Try.prog W 0 (fun _ => true) true n 32 ((([z0, z1, z2, z3, z4, z5, z6, z7, z8] : List Value).drop 4).take (Try.prog.cellsOf 32)) = some zy4 := hfs 4 _ rfl
  rw [e3] at t4
  have t5 : DataW.trod enc Try.prog W 0 (fun _ => true) true n 3 ((([z0, z1, z2, z3, z4, z5, z6, z7, z8] : List Value).drop 5).take (Try.prog.cellsOf 3)) = some zy5 := hfs 5 _ rfl
  rw [e2] at t5
  have t6 : DataW.trod enc Try.prog W 0 (fun _ => true) true n 33 ((([z0, z1, z2, z3, z4, z5, z6, z7, z8] : List Value).drop 6).take (Try.prog.cellsOf 33)) = some zy6 := hfs 6 _ rfl
  rw [e1] at t6
  have t7 : DataW.trod enc Try.prog W 0 (fun _ => true) true n 3 ((([z0, z1, z2, z3, z4, z5, z6, z7, z8] : List Value).drop 7).take (Try.prog.cellsOf 3)) = some zy7 := hfs 7 _ rfl
  rw [e2] at t7
  have t8 : DataW.trod enc Try.prog W 0 (fun _ => true) true n 3 ((([z0, z1, z2, z3, z4, z5, z6, z7, z8] : List Value).drop 8).take (Try.prog.cellsOf 3)) = some zy8 := hfs 8 _ rfl
  rw [e2] at t8
  clear hfs hf
  obtain ⟨kind, q0, _, _⟩ := DataW.trod_int Try.underlying3 (show DataW.trod enc Try.prog W 0 (fun _ => true) true n 3 [z0] = some zy0 from t0)
  injection q0 with q0 _
  subst q0
  obtain ⟨xs, r0, f0, _, _⟩ := nums_trod Try.underlying31 Try.underlying3 (by kernel_rfl) (show DataW.trod enc Try.prog W 0 (fun _ => true) true n 31 [z1] = some zy1 from t1)
  obtain ⟨len, q2, _, _⟩ := DataW.trod_int Try.underlying3 (show DataW.trod enc Try.prog W 0 (fun _ => true) true n 3 [z2] = some zy2 from t2)
  injection q2 with q2 _
  subst q2
  obtain ⟨stop, q3, _, _⟩ := DataW.trod_int Try.underlying3 (show DataW.trod enc Try.prog W 0 (fun _ => true) true n 3 [z3] = some zy3 from t3)
  injection q3 with q3 _
  subst q3
  obtain ⟨seed, q4, _, _⟩ := DataW.trod_int Try.underlying32 (show DataW.trod enc Try.prog W 0 (fun _ => true) true n 32 [z4] = some zy4 from t4)
  injection q4 with q4 _
  subst q4
  obtain ⟨topk, q5, _, _⟩ := DataW.trod_int Try.underlying3 (show DataW.trod enc Try.prog W 0 (fun _ => true) true n 3 [z5] = some zy5 from t5)
  injection q5 with q5 _
  subst q5
  obtain ⟨x, rfl, hw6⟩ := trod_float_ Try.underlying33 (show DataW.trod enc Try.prog W 0 (fun _ => true) true n 33 [z6] = some zy6 from t6)
  obtain ⟨beams, q7, _, _⟩ := DataW.trod_int Try.underlying3 (show DataW.trod enc Try.prog W 0 (fun _ => true) true n 3 [z7] = some zy7 from t7)
  injection q7 with q7 _
  subst q7
  obtain ⟨pen, q8, _, _⟩ := DataW.trod_int Try.underlying3 (show DataW.trod enc Try.prog W 0 (fun _ => true) true n 3 [z8] = some zy8 from t8)
  injection q8 with q8 _
  subst q8
  obtain ⟨A0, c0, rfl, _⟩ := r0.form
  exact ⟨A0, _, c0, xs, kind, len, stop, seed, topk, beams, pen, x, rfl, r0, f0, hw6⟩
end
set_option maxRecDepth 100000 in
theorem genChecks_args {H : Type} {enc : TypeId × Value → H} {W : World} {base : Nat} {v0 v1 : Value} {d0 d1 : DataW H} {p0 p1 : List MemPlace} {tv : List TypeId} {gs : List (DataW H)}
    (h0 : DataW.Trod enc Try.prog W 0 (fun _ => true) true 30 v0 d0 p0) (k0 : Value.okWide Try.prog W .any base 30 v0) (h1 : DataW.Trod enc Try.prog W 0 (fun _ => true) true 35 v1 d1 p1) (k1 : Value.okWide Try.prog W .any base 35 v1)
    (_hsz : (DataW.weightsEach Try.prog ([30, 35] ++ tv) ([d0, d1] ++ gs)).all (· ≤ reachBytes) = true) :
    Calls Try.prog 4 #[v0, v1] W (TruePost W) := by
  obtain ⟨d, h_, L, V, hd, e, k, wd, rfl⟩ := config_open h0 k0
  obtain ⟨A, n, c, xs, kind, len, stop, seed, topk, beams, pen, x, rfl, hx, hf, hxx⟩ := ask_open h1 k1
  exact genChecks_walk hx hf hxx
end Go.Proofs.Ytlpeijaeiioimaa
