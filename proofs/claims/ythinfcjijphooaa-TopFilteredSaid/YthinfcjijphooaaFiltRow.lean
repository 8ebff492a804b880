/- The law TopFiltered answers true at every input, and its arguments read afterwards as before. No condition. -/
import Derived.Test.YthinfcjijphooaaRows
import Derived.Test.YthinfcjijphooaaAbsY
import Derived.Test.YthinfcjijphooaaFiltLaw
namespace Go.Proofs.Ythinfcjijphooaa
set_option linter.unusedVariables false
set_option linter.unusedSimpArgs false
open Go Go.Abs Go.Proofs Go.ChangeShapes Go.WideShapes Go.ChangeAt Go.RowKit
theorem own : ownKnob Try.prog.godebug = Option.none := by kernel_rfl
theorem laidOut : laidOutB Try.prog = true := by kernel_rfl
set_option maxRecDepth 100000 in
theorem lifted (os : Os) (started : os.Started) (H : Type) (enc : TypeId × Value → H) :
    ReturnsInHanded {} Try.checked os 3 .any (Rows.topFilteredSpec.pre6 enc Try.prog Try.f3 Rows.topFilteredRow.domain false) (Rows.topFilteredSpec.post enc Try.prog Try.f3 false true false false) := by
  refine returnsInHanded_of_change_sized (C := Try.checked) own started (by kernel_rfl) Try.func3
    (ChangeSpec.witness6 (enc := enc) (C := Try.checked) false ⟨#[], #[.slice Option.none 0 0, .slice Option.none 0 0], []⟩ 8 (by kernel_rfl) (by kernel_rfl) (by kernel_rfl) (by kernel_rfl)) ?_
  intro W base args ds gs before hval0 hW hcnd hsz0 _
  have hsz : (DataW.weightsEach Try.prog (Try.f3.params.toList ++ Rows.topFilteredSpec.plain.varTypes Try.prog) (ds ++ gs)).all (· ≤ reachBytes) = true := hsz0
  have hW' := hW
  obtain ⟨p, q, hA0, hV, rfl, hfz, hnd⟩ := hW
  have hA : DataW.TrodAll enc Try.prog W 0 (fun _ => true) true Try.f3.params.toList args.toList ds p := hA0
  obtain ⟨rfl, rfl⟩ := trodVars_none hV
  have hlen := (trodAll_length hA).1
  rw [Try.params3] at hA hlen hsz
  obtain ⟨d0, d1, rfl⟩ : ∃ d0 d1, ds = [d0, d1] := by
    match ds, hlen with
    | [d0, d1], _ => exact ⟨d0, d1, rfl⟩
  refine (law_calls (tys := [.sl (.sl (.int .u8)), .sl (.int .u8)]) f3_ok rfl Try.call3 rfl hA (bs := base) (fun j t v h1 h2 => hval0 j t v (by rw [Try.params3]; simpa using h1) h2) rfl (fun j t ty h1 h2 => ?_) (fun k hk => ?_) (fun xs hl hty hwf => ?_)).mono fun e W' ⟨he, bel⟩ => ?_
  · match j, h1, h2 with
    | 0, h1, h2 => cases h1; cases h2; show dtB Try.prog 100 22 (.sl (.sl (.int .u8))) = true; kernel_rfl
    | 1, h1, h2 => cases h1; cases h2; show dtB Try.prog 100 23 (.sl (.int .u8)) = true; kernel_rfl
  · have := List.all_eq_true.1 hsz k (by simpa [ChangeSpec.plain, DataSpec.varTypes, Rows.topFilteredSpec] using hk)
    simpa using this
  · obtain ⟨x0, x1, rfl⟩ := args2 hl hty
    have := topFiltered_law x0 x1
    show optK (f3 x0 x1) _
    rw [this]; rfl
  · subst he
    exact ⟨_, rfl, _, _, _, [], _, [], hW', trodAll_mk1 (shut_bool Try.underlying4 _), below_trodAll laidOut bel (by kernel_rfl) hA, rfl, bel.frame _, fun h => by cases h⟩
theorem over : Rows.topFilteredRow.holds Try.pinned (OpenSpec.ofChange Rows.topFilteredSpec) :=
  OpenClaim.holds_of_wide 3 Try.f3 rfl rfl rfl rfl rfl rfl rfl ⟨rfl, rfl, rfl, rfl, rfl⟩ rfl rfl rfl rfl rfl (by kernel_rfl) Try.func3 (by kernel_rfl)
    (of_decide_eq_true (by kernel_rfl)) (by unfold Func.isWrapper; first | (rw [if_pos (by decide +kernel)]; kernel_rfl) | (rw [if_neg (by decide +kernel)]; exact ⟨rfl, rfl⟩))
    (fun os started H enc _ => lifted os started H enc)
theorem topFiltered_holds : Rows.TopFilteredSaid := over
#print axioms topFiltered_holds
end Go.Proofs.Ythinfcjijphooaa
