/- The statement 'SealMarks': the mark of any bytes, in two parts, under any key, is the standard's. Conditions: none beyond the statement's own. -/
import Derived.Test.YtllnocffmlagjaaZ0
import Derived.Test.YtllnocffmlagjaaS5
namespace Go.Proofs.Ytllnocffmlagjaa
open Go.ChangeShapes Go.WideShapes Go.ChangeAt Go.RowKit

set_option maxRecDepth 100000 in
theorem sealMarks_lifted (os : Os) (started : os.Started) (H : Type) (enc : TypeId × Value → H) :
    ReturnsInHanded {} Try.checked os 10 .any (Rows.sealMarksSpec.pre6 enc Try.prog Try.f10 Rows.sealMarksRow.domain false) (Rows.sealMarksSpec.post enc Try.prog Try.f10 false true false false) := by
  refine returnsInHanded_of_change (C := Try.checked) Try.own started (by kernel_rfl) Try.func10
    (ChangeSpec.witness6 (enc := enc) (C := Try.checked) false ⟨#[], #[.slice none 0 0, .slice none 0 0, .slice none 0 0], []⟩ 8 (by kernel_rfl) (by kernel_rfl) (by kernel_rfl) (by kernel_rfl)) ?_
  intro W base args ds gs before hval0 hW _ _
  have hval : ∀ (j : Nat) t v, Try.f10.params[j]? = some t → args[j]? = some v → Value.okWide Try.prog W .any base t v := hval0
  have hW' := hW
  obtain ⟨p, q, hA0, hV, rfl, hfz, hnd⟩ := hW
  have hA : DataW.TrodAll enc Try.prog W 0 (fun _ => true) true Try.f10.params.toList args.toList ds p := hA0
  rw [Try.params10] at hA hval
  obtain ⟨v0, v1, v2, d0, d1, d2, p0, p1, p2, rfl, rfl, rfl, h0, h1, h2⟩ := trodAll_three hA
  obtain ⟨rfl, rfl⟩ := trodVars_none hV
  obtain ⟨b0, q0⟩ := open_bytes h0 (hval 0 22 v0 rfl rfl)
  obtain ⟨b1, q1⟩ := open_bytes h1 (hval 1 22 v1 rfl rfl)
  obtain ⟨b2, q2⟩ := open_bytes h2 (hval 2 22 v2 rfl rfl)
  refine (sealMarks_any W v0 v1 v2 b0 b1 b2 q0 q1 q2).mono fun e W' ⟨he, hb⟩ => ?_
  subst he
  exact ⟨_, rfl, law_post hW' rfl (by rw [Try.params10]; decide +kernel) rfl rfl rfl rfl hb⟩

theorem sealMarks_holds : Rows.SealMarksSaid :=
  OpenClaim.holds_of_wide 10 Try.f10 rfl rfl rfl rfl rfl rfl rfl ⟨rfl, rfl, rfl, rfl, rfl⟩ rfl rfl rfl rfl rfl (by kernel_rfl) Try.func10 (by kernel_rfl)
    (of_decide_eq_true (by kernel_rfl)) (by unfold Func.isWrapper; first | (rw [if_pos (by decide +kernel)]; kernel_rfl) | (rw [if_neg (by decide +kernel)]; exact ⟨rfl, rfl⟩))
    (fun os started H enc _ => sealMarks_lifted os started H enc)
#print axioms sealMarks_holds
end Go.Proofs.Ytllnocffmlagjaa
