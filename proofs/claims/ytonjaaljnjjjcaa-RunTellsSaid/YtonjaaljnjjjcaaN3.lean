/- RunTells: whatever the input, the call returns true, and the argument reads as it read before. Conditions: none. -/
import Derived.Test.YtonjaaljnjjjcaaRows
import Derived.Test.YtonjaaljnjjjcaaKJ
import Derived.Test.YtonjaaljnjjjcaaA1
import Derived.ProofKit
set_option linter.unusedVariables false
set_option linter.unusedSimpArgs false
namespace Go.Proofs.Ytonjaaljnjjjcaa
open Go Go.ChangeShapes Go.WideShapes Go.ChangeAt Go.RowKit

theorem own0 : ownKnob Try.prog.godebug = none := by kernel_rfl
theorem laidOut0 : laidOutB Try.prog = true := by kernel_rfl

set_option maxRecDepth 100000 in
theorem runTells_lifted (os : Os) (started : os.Started) (H : Type) (enc : TypeId × Value → H) :
    ReturnsInHanded {} Try.checked os 6 .any (Rows.runTellsSpec.pre6 enc Try.prog Try.f6 Rows.runTellsRow.domain false) (Rows.runTellsSpec.post enc Try.prog Try.f6 false true false false) := by
  refine returnsInHanded_of_change (C := Try.checked) own0 started (by kernel_rfl) Try.func6
    (ChangeSpec.witness6 (enc := enc) (C := Try.checked) false ⟨#[], #[.slice none 0 0], []⟩ 8 (by kernel_rfl) (by kernel_rfl) (by kernel_rfl) (by kernel_rfl)) ?_
  intro W base args ds gs before hval0 hW hcnd _
  have hW' := hW
  obtain ⟨p, q, hA0, hV, rfl, hfz, hnd⟩ := hW
  have hA : DataW.TrodAll enc Try.prog W 0 (fun _ => true) true Try.f6.params.toList args.toList ds p := hA0
  rw [Try.params6] at hA
  obtain ⟨v0, d0, rfl, rfl, h0⟩ := trodAll_one hA
  obtain ⟨rfl, rfl⟩ := trodVars_none hV
  have hval : ∀ (j : Nat) t v, Try.f6.params[j]? = some t → #[v0][j]? = some v → Value.okWide Try.prog W .any base t v := hval0
  obtain ⟨a0, len, cap, rfl⟩ := okWide_slice tiB.und (hval 0 26 v0 rfl rfl)
  obtain ⟨fuel, hf⟩ := h0
  obtain ⟨s, ls, hs, hr, hm⟩ := arg_bytes (enc := enc) (w := W) (fuel := fuel) (v := .slice a0 len cap) hf
  obtain ⟨rfl, rfl, rfl⟩ := Value.slice.inj hs
  clear hA0 hval0 hval hs
  simp only [List.append_nil] at hW'
  have hlt : ∀ x ∈ p, x.block < W.heap.size := fun x hx => by simpa using hW'.lt x hx
  refine (k6 (Sep.all W) hr hm).mono fun e W' ⟨he, C, hS⟩ => ?_
  subst he
  have bel : Below W.heap.size W W' := hS.below fun f => by rw [ms_append]; omega
  refine ⟨_, rfl, _, _, _, [], p, [], hW', ?_, ?_, rfl, bel.frame _, fun h => by cases h⟩
  · exact trodAll_mk1 (shut_bool Try.underlying4 true)
  · exact trodAll_mk1 (Below.trod laidOut0 (by kernel_rfl) (of_decide_eq_true (by kernel_rfl)) ⟨fuel, hf⟩ bel fun x hx => hlt x hx)

theorem runTells_holds : Rows.RunTellsSaid :=
  OpenClaim.holds_of_wide 6 Try.f6 rfl rfl rfl rfl rfl rfl rfl ⟨rfl, rfl, rfl, rfl, rfl⟩ rfl rfl rfl rfl rfl (by kernel_rfl) Try.func6 (by kernel_rfl)
    (of_decide_eq_true (by kernel_rfl)) (by unfold Func.isWrapper; rw [if_neg (of_decide_eq_false (by kernel_rfl))]; exact ⟨rfl, rfl⟩)
    (fun os started H enc _ => runTells_lifted os started H enc)

#print axioms runTells_holds
end Go.Proofs.Ytonjaaljnjjjcaa
