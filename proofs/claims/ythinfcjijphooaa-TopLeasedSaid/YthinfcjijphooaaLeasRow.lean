/- The law TopLeased answers true at every input, and its arguments read afterwards as before. No condition. -/
import Derived.Test.YthinfcjijphooaaRows
import Derived.Test.YthinfcjijphooaaAbsY
import Derived.Test.YthinfcjijphooaaLeasLaw
namespace Go.Proofs.Ythinfcjijphooaa
set_option linter.unusedVariables false
set_option linter.unusedSimpArgs false
open Go Go.Abs Go.Proofs Go.ChangeShapes Go.WideShapes Go.ChangeAt Go.RowKit
theorem own : ownKnob Try.prog.godebug = Option.none := by kernel_rfl
theorem laidOut : laidOutB Try.prog = true := by kernel_rfl
theorem rows_u8 {x : List (List Int)} (h : Wf ⟨.sl (.arr 4 (.int .u8)), x⟩) : ∀ r ∈ x, ∀ b ∈ r, 0 ≤ b ∧ b < 256 := fun r hr b hb =>
  inK_u8 (((Wf.rng h).2 r hr).2 b hb)
set_option maxRecDepth 100000 in
theorem lifted (os : Os) (started : os.Started) (H : Type) (enc : TypeId × Value → H) :
    ReturnsInHanded {} Try.checked os 4 .any (Rows.topLeasedSpec.pre6 enc Try.prog Try.f4 Rows.topLeasedRow.domain false) (Rows.topLeasedSpec.post enc Try.prog Try.f4 false true false false) := by
  refine returnsInHanded_of_change_sized (C := Try.checked) own started (by kernel_rfl) Try.func4
    (ChangeSpec.witness6 (enc := enc) (C := Try.checked) false ⟨#[], #[.slice Option.none 0 0], []⟩ 8 (by kernel_rfl) (by kernel_rfl) (by kernel_rfl) (by kernel_rfl)) ?_
  intro W base args ds gs before hval0 hW hcnd hsz0 _
  have hsz : (DataW.weightsEach Try.prog (Try.f4.params.toList ++ Rows.topLeasedSpec.plain.varTypes Try.prog) (ds ++ gs)).all (· ≤ reachBytes) = true := hsz0
  have hW' := hW
  obtain ⟨p, q, hA0, hV, rfl, hfz, hnd⟩ := hW
  have hA : DataW.TrodAll enc Try.prog W 0 (fun _ => true) true Try.f4.params.toList args.toList ds p := hA0
  obtain ⟨rfl, rfl⟩ := trodVars_none hV
  have hlen := (trodAll_length hA).1
  rw [Try.params4] at hA hlen hsz
  obtain ⟨d0, rfl⟩ : ∃ d0, ds = [d0] := by
    match ds, hlen with
    | [d0], _ => exact ⟨d0, rfl⟩
  refine (law_calls (tys := [.sl (.arr 4 (.int .u8))]) f4_ok rfl Try.call4 rfl hA (bs := base) (fun j t v h1 h2 => hval0 j t v (by rw [Try.params4]; simpa using h1) h2) rfl (fun j t ty h1 h2 => ?_) (fun k hk => ?_) (fun xs hl hty hwf => ?_)).mono fun e W' ⟨he, bel⟩ => ?_
  · match j, h1, h2 with
    | 0, h1, h2 => cases h1; cases h2; show dtB Try.prog 100 35 (.sl (.arr 4 (.int .u8))) = true; kernel_rfl
  · have := List.all_eq_true.1 hsz k (by simpa [ChangeSpec.plain, DataSpec.varTypes, Rows.topLeasedSpec] using hk)
    simpa using this
  · obtain ⟨x0, rfl⟩ := args1 hl hty
    have := topLeased_law x0 (rows_u8 (hwf _ (by simp)))
    show optK (f4 x0) _
    rw [this]; rfl
  · subst he
    exact ⟨_, rfl, _, _, _, [], _, [], hW', trodAll_mk1 (shut_bool Try.underlying4 _), below_trodAll laidOut bel (by kernel_rfl) hA, rfl, bel.frame _, fun h => by cases h⟩
theorem over : Rows.topLeasedRow.holds Try.pinned (OpenSpec.ofChange Rows.topLeasedSpec) :=
  OpenClaim.holds_of_wide 4 Try.f4 rfl rfl rfl rfl rfl rfl rfl ⟨rfl, rfl, rfl, rfl, rfl⟩ rfl rfl rfl rfl rfl (by kernel_rfl) Try.func4 (by kernel_rfl)
    (of_decide_eq_true (by kernel_rfl)) (by unfold Func.isWrapper; first | (rw [if_pos (by decide +kernel)]; kernel_rfl) | (rw [if_neg (by decide +kernel)]; exact ⟨rfl, rfl⟩))
    (fun os started H enc _ => lifted os started H enc)
theorem topLeased_holds : Rows.TopLeasedSaid := over
#print axioms topLeased_holds
end Go.Proofs.Ythinfcjijphooaa
