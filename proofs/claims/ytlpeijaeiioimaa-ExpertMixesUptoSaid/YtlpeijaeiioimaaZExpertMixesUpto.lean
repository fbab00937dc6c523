/- 'aviary/aviarylaw16.ExpertMixes', where what it reads is of bulk at most 1048576: the statement's row: it returns true, and each argument reads behind the call as it read before. Condition: the bulk. -/
import Derived.Test.YtlpeijaeiioimaaRows
import Derived.Test.YtlpeijaeiioimaaExpertMixesW
import Derived.Test.YtlpeijaeiioimaaLawRow
import Derived.JoinedCond
import Derived.Deep.CondSized
namespace Go.Proofs.Ytlpeijaeiioimaa.expertMixesUpto
open Go.ChangeShapes Go.WideShapes Go.ChangeAt Go.RowKit
set_option maxRecDepth 100000 in
set_option linter.unusedVariables false in
theorem lifted (os : Os) (started : os.Started) (H : Type) (enc : TypeId × Value → H) (F : Stop.Interp) :
    ReturnsInHanded {} Try.checked os 5 .any ((Rows.OpenSpec.upto Rows.expertMixesSpec).pre6 enc Try.prog Try.f5 Rows.expertMixesUptoRow.domain false) (((Rows.OpenSpec.upto Rows.expertMixesSpec).at F).post enc Try.prog Try.f5 false true false false) := by
  refine returnsInHanded_of_cond (C := Try.checked) (s := Rows.OpenSpec.upto Rows.expertMixesSpec) (k := Rows.uptoSmall) rfl Try.ownknob started (by kernel_rfl) Try.func5
    (OpenSpec.witness (enc := enc) (C := Try.checked) (s := Rows.OpenSpec.upto Rows.expertMixesSpec) (k := Rows.uptoSmall) rfl false ⟨#[], #[.agg #[.slice none 0 0, .slice none 0 0, .slice none 0 0, .int .i64 0, .int .i64 0, .slice none 0 0]], []⟩ 8 (by kernel_rfl) (by kernel_rfl) (by kernel_rfl)
      (x := ([.agg [.nil, .nil, .nil, .lit (.int .i64 0), .lit (.int .i64 0), .nil]], [], [])) (by kernel_rfl) rfl (by kernel_rfl)) ?_
  intro W base args ds gs before hval0 hW hcnd hk hrest
  have hval : ∀ (j : Nat) t v, Try.f5.params[j]? = some t → args[j]? = some v → Value.okWide Try.prog W .any base t v := hval0
  have hW' := hW
  obtain ⟨p, q, hA0, hV, rfl, hfz, hnd⟩ := hW
  have hA : DataW.TrodAll enc Try.prog W 0 (fun _ => true) true Try.f5.params.toList args.toList ds p := hA0
  rw [Try.params5] at hA hval
  obtain ⟨v0, vs0, d0, ds0, p0, q0, hargs, rfl, rfl, h0, r0⟩ := trodAll_cons hA
  obtain ⟨rfl, rfl, rfl⟩ := trodAll_nil r0
  obtain rfl : args = #[v0] := by cases args; simp_all
  obtain ⟨rfl, rfl⟩ := trodVars_none hV
  have k0 := hval 0 44 v0 rfl rfl
  clear hA0 hval0 hval
  refine (expertMixes_args h0 k0 hk).mono fun e W' ⟨he, bel⟩ => ?_
  subst he
  exact ⟨_, rfl, law_post (s := Rows.expertMixesSpec) Try.laidout (by kernel_rfl) rfl rfl Try.underlying4 hW' rfl rfl rfl bel⟩

theorem over : Rows.expertMixesUptoRow.holds Try.pinned (Rows.OpenSpec.upto Rows.expertMixesSpec) :=
  OpenClaim.holds_of_cond 5 Try.f5 rfl rfl rfl rfl rfl rfl rfl ⟨rfl, rfl, rfl, rfl, rfl⟩ rfl rfl rfl rfl rfl (by kernel_rfl) Try.func5 (by kernel_rfl)
    (of_decide_eq_true (by kernel_rfl)) (by unfold Func.isWrapper; first | (rw [if_pos (by decide +kernel)]; kernel_rfl) | (rw [if_neg (by decide +kernel)]; exact ⟨rfl, rfl⟩))
    (fun os started H enc _ F => lifted os started H enc F)

theorem proved : Rows.ExpertMixesUptoSaid := over
#print axioms proved
end Go.Proofs.Ytlpeijaeiioimaa.expertMixesUpto
