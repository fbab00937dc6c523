/- The best of any beams with a token more, walked: the document's. Conditions: the beams and rows are read in slices, and are not many. -/
import Derived.Test.YtfinbkpmkgpffaaGrowW
namespace Go.Proofs.Ytfinbkpmkgpffaa
open Go.RowKit

theorem own_ty3 {w : World} {b1 b2 n1 n2 s1 s2 : Nat} {e1 e2 : TypeId} {v1 v2 : Value} {x1 x2 : List Value} (h1 : w.ownsRow b1 e1 s1 v1 n1 x1) (h2 : w.ownsRow b2 e2 s2 v2 n2 x2) (hne : e1 ≠ e2) {g : Nat} (hg : some g = v2.ownBlock) : v1.ownBlock ≠ some g := by
  intro hk
  rcases h1.2 with ⟨h0, _⟩ | ⟨g1, cap, cur, hv, _, hblk, _⟩
  · rw [h0] at hk
    cases hk
  · rw [hv] at hk
    have hgg : g1 = g := by injection hk
    subst hgg
    exact own_not h2 hblk hne hg.symm
theorem topV_zero (row : List Int) : topV (row.take 0) = -2147483648 := rfl
set_option maxRecDepth 100000 in
set_option maxHeartbeats 4000000 in
theorem rgrown_any {w : World} {TA : Option Addr} {tc : Nat} {tk : List Int} {sc : Int} {dn : Bool} {v : Value} {row : List Int} (ht : RdI w w.heap.size .i64 (.slice TA tk.length tc) tk) (hf : Form (.slice TA tk.length tc)) (hr : RdI w w.heap.size .i64 v row) (hn : row.length < 200) (hk : tk.length < 200) (length stop : Int) :
    Calls Try.prog 55 #[.agg #[.slice TA tk.length tc, .int .i64 sc, .bool dn], v, .int .i64 length, .int .i64 stop] w (fun e w' => ∃ u X, e = .returned u ∧ w'.ownsRow w.heap.size 57 3 u X.length (X.flatMap Bx.cells) ∧ (∀ x ∈ X, w'.ownsRow w.heap.size 3 1 x.v x.b.tokens.length (x.b.tokens.map (Value.int .i64))) ∧ bms X = grownV ⟨tk, sc, dn⟩ row length stop ∧ Below w.heap.size w w') := by
  obtain ⟨A, c, rfl, _, _, _⟩ := RdI.form hr
  obtain ⟨j0, hj0, jz0, jz1, jz2⟩ := info_parts Try.infoInt
  obtain ⟨k0, hk0, kz0, kz1, kz2⟩ := info_parts Try.infoRBeam
  have HT := hid_ ht
  have HFo := hid_ hf
  have HR := hid_ hr
  have HBA : Hid (Below w.heap.size w (w.alloc (.cells #[.slice TA tk.length tc, .int .i64 sc, .bool dn] 57))) := below_alloc _ _
  have HBK := hid_ (Blk.new w 57 #[.slice TA tk.length tc, .int .i64 sc, .bool dn])
  clear ht hf hr
  go_enter Try.func55, Try.ntmps55
  go_wp2_with fail
  generalize (w.alloc (.cells #[.slice TA tk.length tc, .int .i64 sc, .bool dn] 57)) = wa at *
  have hwa := HBA.out.size
  have hga := HBK.out.lt
  go_loop [9, 10] (fun tv iv => ∃ i : Nat, i ≤ row.length ∧ iv = .int .i64 i ∧ tv = .int .i64 (topV (row.take i))) (fun _ iv => row.length - (intOf iv).toNat)
  case atStart => exact ⟨0, Nat.zero_le _, rfl, rfl⟩
  case round =>
    obtain ⟨i, hi, rfl, rfl⟩ := hrel
    have htr := topV_in (row.take i)
    by_cases hlt : i < row.length
    · have hlt' : (i : Int) < (row.length : Int) := by omega
      obtain ⟨b1, o1, rfl, d1⟩ := rdi_cell (rdi_below HR.out HBA.out) hlt
      have hts := topV_take (row := row) (k := i) (x := row.getD i 0) (by rw [List.getD_eq_getElem?_getD, List.getElem?_eq_getElem hlt]; rfl)
      obtain ⟨s, hs⟩ : ∃ s, row.getD i 0 = s := ⟨_, rfl⟩
      rw [hs] at d1 hts
      have HC := fun W => hid_ (rclamp_any W s)
      generalize topV (row.take i) = t0 at *
      generalize clampV s = cs at *
      clear hs
      by_cases hmx : t0 < cs
      · have HN : Hid (topV (row.take (i + 1)) = cs) := by rw [hts]; show _ = _; omega
        have hm2 : t0 ≤ cs := by omega
        clear hts
        go_wp2_with ((go_at_call 70); (refine (HC _).out.mono ?_); (rintro e w5 ⟨rfl, rfl⟩))
        go_round
        case rel => exact ⟨i + 1, by omega, by go_num, by rw [HN.out]⟩
        case measure => simp [intOf]; omega
      · have HN : Hid (topV (row.take (i + 1)) = t0) := by rw [hts]; show _ = _; omega
        have hm2 : cs ≤ t0 := by omega
        clear hts
        go_wp2_with ((go_at_call 70); (refine (HC _).out.mono ?_); (rintro e w5 ⟨rfl, rfl⟩))
        go_round
        case rel => exact ⟨i + 1, by omega, by go_num, by rw [HN.out]⟩
        case measure => simp [intOf]; omega
    · obtain rfl : i = row.length := by omega
      rw [List.take_length] at htr ⊢
      obtain ⟨tp, htp⟩ : ∃ tp, topV row = tp := ⟨_, rfl⟩
      rw [htp] at htr ⊢
      have HTP := hid_ htp
      clear htp hlt hi
      go_wp2_with fail
      go_loopw [11, 12] (fun ov jv wr => ∃ (j : Nat) (X : List Bx) (A5 : Option Addr) (c5 : Nat), j ≤ row.length ∧ Hid (X.length = j) ∧ jv = .int .i64 j ∧ ov = .slice A5 X.length c5 ∧ Hid (OwnB wa.heap.size wr 57 (.slice A5 X.length c5) X) ∧ Hid (∀ x ∈ X, wr.ownsRow wa.heap.size 3 1 x.v x.b.tokens.length (x.b.tokens.map (Value.int .i64))) ∧ Hid (bms X = (List.range j).map (grownAt ⟨tk, sc, dn⟩ row length stop)) ∧ Hid (Below wa.heap.size wa wr)) (fun _ jv _ => row.length - (intOf jv).toNat)
      case atStart => exact ⟨0, [], none, 0, Nat.zero_le _, hid_ rfl, rfl, rfl, hid_ (OwnB.nil _ _ _), hid_ (fun x hx => by cases hx), hid_ rfl, hid_ (Below.refl _ _)⟩
      case round =>
        obtain ⟨j, X, A5, c5, hj, HXj, rfl, rfl, HO, HOT, HX, HB⟩ := hrel
        have hXl : X.length ≤ row.length := by rw [HXj.out]; exact hj
        have hgz : wa.heap.size ≤ wr.heap.size := HB.out.size
        by_cases hjt : j < row.length
        · have hjt' : (j : Int) < (row.length : Int) := by omega
          obtain ⟨b6, o6, rfl, d6⟩ := rdi_cell (rdi_below (rdi_below HR.out HBA.out) HB.out) hjt
          have HBK2 := hid_ (HBK.out.below HB.out hga)
          have HTr := hid_ (rdi_below (rdi_below HT.out HBA.out) HB.out)
          obtain ⟨s, hs⟩ : ∃ s, row.getD j 0 = s := ⟨_, rfl⟩
          rw [hs] at d6
          have HGA : Hid (grownAt ⟨tk, sc, dn⟩ row length stop j = { tokens := tk ++ [(j : Int)], score := clampV (clampV sc + clampV (clampV s - tp)), done := decide ((j : Int) = stop) || decide (length ≤ ((tk.length + 1 : Nat) : Int)) }) := by
            unfold grownAt
            rw [hs, HTP.out]
            exact hid_ rfl
          have HCC := fun (W : World) (y : Int) => hid_ (rclamp_any W y)
          have r1 := clampV_range sc
          have r2 := clampV_range s
          have r3 := clampV_range (clampV s - tp)
          have e0 : (wr.alloc (.cells #[] 3)).cell? ⟨w.heap.size, 0, none⟩ = some (.slice TA tk.length tc) := ((HBK2.out.alloc _).cell 0).trans rfl
          have HOE := hid_ (own_empty_ wr 3)
          have HTa := hid_ (rdi_below HTr.out (below_alloc wr (.cells #[] 3)))
          have hgw := HBK2.out.lt
          clear hs
          go_wp2_with (first
            | ((go_at_call 70); (refine (HCC _ _).out.mono ?_); (rintro e w5 ⟨rfl, rfl⟩))
            | (at_builtin; refine wpList_append_rd rfl (.tmp 42) (.tmp 44) 32 rfl wr.heap.size 3 j0 (.int .i64 0) 8 Try.underlying32 hj0 jz0 jz1 jz2 rfl _ 0 [] rfl HOE.out _ _ (tk.map (Value.int .i64)) rfl HTa.out HFo.out (ints_one _) ?c3 ?c4 ?c5 ?_))
          case c3 => unfold maxLen; (try simp) <;> omega
          case c4 => (try simp) <;> omega
          case c5 => first | omega | (simp; done) | (simp; omega)
          intro v6 w6 h6 hg6
          clear e0
          obtain ⟨A6, c6, rfl⟩ := own_slice_ h6
          have HU6 : Hid (Upd (fun _ => False) wr w6) := ((Upd.refl _ wr).alloc _).grown hg6 (fun k hk => .inr (by
            have h9 : some wr.heap.size = some k := hk
            injection h9 with h9
            omega))
          have HO6 := hid_ h6
          have hz6 := HU6.out.size
          clear h6 hg6
          have hj1 : ((tk.length : Int) + 1) = (((tk.length + 1 : Nat)) : Int) := by omega
          obtain ⟨dd, hdd, hcase⟩ : ∃ dd, (decide ((j : Int) = stop) || decide (length ≤ ((tk.length + 1 : Nat) : Int))) = dd ∧ ((((j : Int) == stop) = true ∧ dd = true) ∨ (((j : Int) == stop) = false ∧ ((tk.length : Int) + 1 < length ∧ dd = false ∨ length ≤ (tk.length : Int) + 1 ∧ dd = true))) := by
            refine ⟨_, rfl, ?_⟩
            by_cases h1 : (j : Int) = stop
            · exact .inl ⟨beq_iff_eq.2 h1, by rw [decide_eq_true h1]; rfl⟩
            · refine .inr ⟨beq_eq_false_iff_ne.2 h1, ?_⟩
              by_cases h2 : length ≤ (tk.length : Int) + 1
              · exact .inr ⟨h2, by rw [decide_eq_false h1, decide_eq_true (by omega)]; rfl⟩
              · exact .inl ⟨by omega, by rw [decide_eq_false h1, decide_eq_false (by omega)]; rfl⟩
          rw [hdd] at HGA
          clear hdd hj1
          go_upto_region 12 with (at_builtin; refine wpList_append_own _ rfl (.tmp 45) (.tmp 47) 32 rfl wr.heap.size 3 j0 (.int .i64 0) 1 8 Try.underlying32 hj0 jz0 jz1 jz2 rfl (by decide) _ tk.length _ rfl (World.ownsRow.alloc HO6.out _) ⟨w6.heap.size, 0, none⟩ 1 1 [.int .i64 (j : Int)] rfl rfl (one_new rfl) (one_cell rfl) ?d3 ?d4 ?d5 ?_)
          case d3 => unfold maxLen; omega
          case d4 => omega
          case d5 => first | omega | (simp; omega)
          intro v7 w7 h7 hg7 _
          obtain ⟨A7, c7, rfl⟩ := own_slice_ h7
          have HU7 : Hid (Upd (fun _ => False) wr w7) := app_upd1 HO6.out HU6.out (Nat.le_refl _) hg7
          have HO7 : Hid (w7.ownsRow wr.heap.size 3 1 (.slice A7 (tk.length + 1) c7) (tk ++ [(j : Int)]).length ((tk ++ [(j : Int)]).map (Value.int .i64))) := by rw [List.length_append, List.map_append]; exact h7
          have hz7 := HU7.out.size
          have HBK7 := hid_ (HBK2.out.upd HU7.out (fun h => h))
          have HOq := hid_ (HO.out.below HU7.out.toB)
          have e1 := (HBK7.out.cell 1).trans rfl
          have hgz7 : wa.heap.size ≤ w7.heap.size := by omega
          clear h7 hg7 HO6 HU6 hz6
          have HOT9 : Hid (∀ w9, Upd (fun k => some k = (Value.slice A5 X.length c5).ownBlock) w7 w9 → ∀ x ∈ X ++ [⟨.slice A7 (tk.length + 1) c7, ⟨tk ++ [(j : Int)], clampV (clampV sc + clampV (clampV s - tp)), dd⟩⟩], w9.ownsRow wa.heap.size 3 1 x.v x.b.tokens.length (x.b.tokens.map (Value.int .i64))) := fun w9 hu9 x hx => by
            have h5 : w7.ownsRow wa.heap.size 3 1 x.v x.b.tokens.length (x.b.tokens.map (Value.int .i64)) := by
              rcases List.mem_append.1 hx with h1 | h1
              · exact own_below (HOT.out x h1) HU7.out.toB
              · rw [List.mem_singleton] at h1
                subst h1
                exact own_base HO7.out hgz
            exact own_upd h5 hu9 (fun k hk _ _ hb => own_ty3 h5 HOq.out.row (by decide) hk hb)
          have HX9 : Hid (bms (X ++ [⟨.slice A7 (tk.length + 1) c7, ⟨tk ++ [(j : Int)], clampV (clampV sc + clampV (clampV s - tp)), dd⟩⟩]) = (List.range (j + 1)).map (grownAt ⟨tk, sc, dn⟩ row length stop)) := by
            rw [List.range_succ, List.map_append, ← HX.out]
            show bms _ = _ ++ [grownAt ⟨tk, sc, dn⟩ row length stop j]
            rw [HGA.out]
            simp [bms]
          rcases hcase with ⟨hb1, rfl⟩ | ⟨hb1, ⟨hb2, rfl⟩ | ⟨hb2, rfl⟩⟩
          all_goals
            (try have hb3 : ¬ length ≤ (tk.length : Int) + 1 := by omega)
            (try have hb4 : decide (length ≤ (tk.length : Int) + 1) = false := decide_eq_false (by omega))
            (try have hb5 : decide (length ≤ (tk.length : Int) + 1) = true := decide_eq_true (by omega))
            go_wp2_with (first
              | ((go_at_call 70); (refine (HCC _ _).out.mono ?_); (rintro e w8 ⟨rfl, rfl⟩))
              | (at_builtin; refine wpList_append_own _ rfl (.tmp 49) (.tmp 67) 40 rfl wa.heap.size 57 k0 (.agg #[.slice none 0 0, .int .i64 0, .bool false]) 3 40 Try.underlying40 hk0 kz0 kz1 kz2 rfl (by decide) _ X.length _ rfl (World.ownsRow.alloc HOq.out.row _) ⟨w7.heap.size, 0, none⟩ 1 1 _ rfl rfl (cells_new rfl) (ones3 _ _ _ _ _) (by unfold maxLen; omega) (by omega) (by simp; omega) ?_))
            intro v9 w9 h9 hg9 _
            obtain ⟨A9, c9, rfl⟩ := own_slice_ h9
            have hTq : Tok wa.heap.size w7 (.slice A7 (tk.length + 1) c7) (tk ++ [(j : Int)]) := .inr (own_base HO7.out hgz)
            have HO9 := hid_ (OwnB.add (x := ⟨.slice A7 (tk.length + 1) c7, ⟨tk ++ [(j : Int)], clampV (clampV sc + clampV (clampV s - tp)), _⟩⟩) HOq.out hTq (by decide) h9 hg9)
            have HB9 : Hid (Below wa.heap.size wa w9) := (app_upd1 HOq.out.row ((Upd.of_below (S := fun _ => False) HB.out).trans HU7.out) (Nat.le_refl _) hg9).toB
            have hu9 : Upd (fun k => some k = (Value.slice A5 X.length c5).ownBlock) w7 w9 := ((Upd.refl _ w7).alloc _).grown hg9 (fun k hk => .inl hk.symm)
            have HOT9a := hid_ (HOT9.out w9 hu9)
            clear h9 hg9 hTq hu9
            go_wp2_with fail
            go_roundw
            case rel => exact ⟨j + 1, X ++ [⟨.slice A7 (tk.length + 1) c7, ⟨tk ++ [(j : Int)], clampV (clampV sc + clampV (clampV s - tp)), _⟩⟩], A9, c9, by omega, hid_ (by rw [List.length_append, List.length_singleton, HXj.out]), by go_num, by rw [List.length_append]; rfl, by rw [List.length_append]; exact HO9, HOT9a, HX9, HB9⟩
            case measure => simp [intOf]; omega
        · obtain rfl : j = row.length := by omega
          have HRD := hid_ (own_base HO.out.row hwa)
          have HBw : Hid (Below w.heap.size w wr) := HBA.out.trans (HB.out.mono hwa)
          have HOT2 : Hid (∀ x ∈ X, wr.ownsRow w.heap.size 3 1 x.v x.b.tokens.length (x.b.tokens.map (Value.int .i64))) := fun x hx => own_base (HOT.out x hx) hwa
          go_wp2_with fail
          go_ret
          exact ⟨_, X, rfl, HRD.out, HOT2.out, HX.out, HBw.out⟩
end Go.Proofs.Ytfinbkpmkgpffaa
