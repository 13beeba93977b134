/- RegistryNames returns true, whatever the order of evaluation: the example of chapter 24 has the results that it states; no condition. -/
import Derived.Test.YtfgnipcegnoagaaRows
import Derived.Test.YtfgnipcegnoagaaNames
import Derived.ProofKit
namespace Go.Proofs.Ytfgnipcegnoagaa
open Go.ChangeShapes Go.WideShapes Go.ChangeAt Go.RowKit

theorem Try.own : ownKnob Try.prog.godebug = none := by kernel_rfl
theorem Try.laidOut : laidOutB Try.prog = true := by kernel_rfl
theorem belowF {w w' : World} (h : Fr (fun _ => False) w w') : Below w.heap.size w w' := (h.mono (fun k _ hk => hk.elim)).below (Nat.le_refl _)

set_option maxRecDepth 100000 in
theorem names_lifted (os : Os) (started : os.Started) (H : Type) (enc : TypeId × Value → H) :
    ReturnsInHanded {} Try.checked os 6 .any (Rows.registryNamesSpec.pre6 enc Try.prog Try.f6 Rows.registryNamesRow.domain false) (Rows.registryNamesSpec.post enc Try.prog Try.f6 false true false false) := by
  refine returnsInHanded_of_change (C := Try.checked) Try.own started (by kernel_rfl) Try.func6
    (ChangeSpec.witness6 (enc := enc) (C := Try.checked) false ⟨#[], #[], []⟩ 8 (by kernel_rfl) (by kernel_rfl) (by kernel_rfl) (by kernel_rfl)) ?_
  intro W base args ds gs before hval0 hW hcnd _
  have hW' := hW
  obtain ⟨p, q, hA0, hV, rfl, hfz, hnd⟩ := hW
  have hA : DataW.TrodAll enc Try.prog W 0 (fun _ => true) true Try.f6.params.toList args.toList ds p := hA0
  rw [Try.params6] at hA
  obtain ⟨rfl, rfl, rfl⟩ := trodAll_none hA
  obtain ⟨rfl, rfl⟩ := trodVars_none hV
  clear hA0 hval0
  simp only [List.append_nil] at hW'
  refine (names_walk W).mono fun e W' ⟨he, hf⟩ => ?_
  subst he
  have hb := belowF hf
  have hres : DataW.TrodAll enc Try.prog W' W.heap.size (fun _ => false) false Try.f6.resultTypes.toList ((Value.bool true).resultList Try.f6.resultTypes.size) [.lit (.bool true)] [] := trodAll_mk1 (shut_bool Try.underlying4 true)
  exact ⟨_, rfl, [], [], [], [], [], [], hW', hres, trodAll_mk0, rfl, hb.frame _, fun h => by cases h⟩

theorem names_holds : Rows.RegistryNamesSaid :=
  OpenClaim.holds_of_wide 6 Try.f6 rfl rfl rfl rfl rfl rfl rfl ⟨rfl, rfl, rfl, rfl, rfl⟩ rfl rfl rfl rfl rfl (by kernel_rfl) Try.func6 (by kernel_rfl)
    (of_decide_eq_true (by kernel_rfl)) (by unfold Func.isWrapper; rw [if_neg (by decide +kernel)]; exact ⟨rfl, rfl⟩)
    (fun os started H enc _ => names_lifted os started H enc)
end Go.Proofs.Ytfgnipcegnoagaa
