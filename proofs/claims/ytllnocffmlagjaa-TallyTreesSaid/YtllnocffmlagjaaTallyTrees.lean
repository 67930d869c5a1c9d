/- The statement 'TallyTrees': the tree of any items, and the way of each, are the document's. Conditions: none beyond the statement's own. -/
import Derived.Test.YtllnocffmlagjaaZ0
import Derived.Test.YtllnocffmlagjaaT7
namespace Go.Proofs.Ytllnocffmlagjaa
open Go.ChangeShapes Go.WideShapes Go.ChangeAt Go.RowKit

set_option maxRecDepth 100000 in
theorem tallyTrees_lifted (os : Os) (started : os.Started) (H : Type) (enc : TypeId × Value → H) :
    ReturnsInHanded {} Try.checked os 6 .any (Rows.tallyTreesSpec.pre6 enc Try.prog Try.f6 Rows.tallyTreesRow.domain false) (Rows.tallyTreesSpec.post enc Try.prog Try.f6 false true false false) := by
  refine returnsInHanded_of_change (C := Try.checked) Try.own started (by kernel_rfl) Try.func6
    (ChangeSpec.witness6 (enc := enc) (C := Try.checked) false ⟨#[], #[.slice none 0 0, .int .i64 0], []⟩ 8 (by kernel_rfl) (by kernel_rfl) (by kernel_rfl) (by kernel_rfl)) ?_
  intro W base args ds gs before hval0 hW _ _
  have hval : ∀ (j : Nat) t v, Try.f6.params[j]? = some t → args[j]? = some v → Value.okWide Try.prog W .any base t v := hval0
  have hW' := hW
  obtain ⟨p, q, hA0, hV, rfl, hfz, hnd⟩ := hW
  have hA : DataW.TrodAll enc Try.prog W 0 (fun _ => true) true Try.f6.params.toList args.toList ds p := hA0
  rw [Try.params6] at hA hval
  obtain ⟨v0, v1, d0, d1, p0, p1, rfl, rfl, rfl, h0, h1⟩ := trodAll_two hA
  obtain ⟨rfl, rfl⟩ := trodVars_none hV
  obtain ⟨pss, hp⟩ := open_parts h0 (hval 0 27 v0 rfl rfl)
  obtain ⟨I, rfl, rfl, _, hI⟩ := open_int Try.underlying3 (hval 1 3 v1 rfl rfl) h1
  refine (tallyTrees_any W v0 pss I hp (bounds_i64 hI)).mono fun e W' ⟨he, hb⟩ => ?_
  subst he
  exact ⟨_, rfl, law_post hW' rfl (by rw [Try.params6]; decide +kernel) rfl rfl rfl rfl hb⟩

theorem tallyTrees_holds : Rows.TallyTreesSaid :=
  OpenClaim.holds_of_wide 6 Try.f6 rfl rfl rfl rfl rfl rfl rfl ⟨rfl, rfl, rfl, rfl, rfl⟩ rfl rfl rfl rfl rfl (by kernel_rfl) Try.func6 (by kernel_rfl)
    (of_decide_eq_true (by kernel_rfl)) (by unfold Func.isWrapper; first | (rw [if_pos (by decide +kernel)]; kernel_rfl) | (rw [if_neg (by decide +kernel)]; exact ⟨rfl, rfl⟩))
    (fun os started H enc _ => tallyTrees_lifted os started H enc)
#print axioms tallyTrees_holds
end Go.Proofs.Ytllnocffmlagjaa
