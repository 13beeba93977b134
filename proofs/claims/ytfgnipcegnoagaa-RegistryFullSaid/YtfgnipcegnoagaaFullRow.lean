/- RegistryFull returns true, for every number of predefined ids, whatever the order of evaluation: as many names are registered as there are ids; no condition. -/
import Derived.Test.YtfgnipcegnoagaaRows
import Derived.Test.YtfgnipcegnoagaaFull
import Derived.ProofKit
namespace Go.Proofs.Ytfgnipcegnoagaa
open Go.ChangeShapes Go.WideShapes Go.ChangeAt Go.RowKit

theorem Try.own : ownKnob Try.prog.godebug = none := by kernel_rfl
theorem Try.laidOut : laidOutB Try.prog = true := by kernel_rfl
theorem belowF {w w' : World} (h : Fr (fun _ => False) w w') : Below w.heap.size w w' := (h.mono (fun k _ hk => hk.elim)).below (Nat.le_refl _)

set_option maxRecDepth 100000 in
theorem full_lifted (os : Os) (started : os.Started) (H : Type) (enc : TypeId × Value → H) :
    ReturnsInHanded {} Try.checked os 3 .any (Rows.registryFullSpec.pre6 enc Try.prog Try.f3 Rows.registryFullRow.domain false) (Rows.registryFullSpec.post enc Try.prog Try.f3 false true false false) := by
  refine returnsInHanded_of_change (C := Try.checked) Try.own started (by kernel_rfl) Try.func3
    (ChangeSpec.witness6 (enc := enc) (C := Try.checked) false ⟨#[], #[.int .i64 0], []⟩ 8 (by kernel_rfl) (by kernel_rfl) (by kernel_rfl) (by kernel_rfl)) ?_
  intro W base args ds gs before hval0 hW hcnd _
  have hval : ∀ (j : Nat) t v, Try.f3.params[j]? = some t → args[j]? = some v → Value.okWide Try.prog W .any base t v := hval0
  have hW' := hW
  obtain ⟨p, q, hA0, hV, rfl, hfz, hnd⟩ := hW
  have hA : DataW.TrodAll enc Try.prog W 0 (fun _ => true) true Try.f3.params.toList args.toList ds p := hA0
  rw [Try.params3] at hA hval
  obtain ⟨v0, d0, rfl, rfl, h0⟩ := trodAll_one hA
  obtain ⟨rfl, rfl⟩ := trodVars_none hV
  obtain ⟨a, rfl, rfl, rfl, wa⟩ := open_int Try.underlying3 (hval 0 3 v0 rfl rfl) h0
  clear hA0 hval0
  simp only [List.append_nil] at hW'
  refine (full_walk W a).mono fun e W' ⟨he, hf⟩ => ?_
  subst he
  have hb := belowF hf
  have hres : DataW.TrodAll enc Try.prog W' W.heap.size (fun _ => false) false Try.f3.resultTypes.toList ((Value.bool true).resultList Try.f3.resultTypes.size) [.lit (.bool true)] [] := trodAll_mk1 (shut_bool Try.underlying4 true)
  exact ⟨_, rfl, [.lit (.int .i64 a)], [], [], [], [], [], hW', hres, trodAll_mk1 (shut_int Try.underlying3 wa), rfl, hb.frame _, fun h => by cases h⟩

theorem full_holds : Rows.RegistryFullSaid :=
  OpenClaim.holds_of_wide 3 Try.f3 rfl rfl rfl rfl rfl rfl rfl ⟨rfl, rfl, rfl, rfl, rfl⟩ rfl rfl rfl rfl rfl (by kernel_rfl) Try.func3 (by kernel_rfl)
    (of_decide_eq_true (by kernel_rfl)) (by unfold Func.isWrapper; rw [if_neg (by decide +kernel)]; exact ⟨rfl, rfl⟩)
    (fun os started H enc _ => full_lifted os started H enc)
end Go.Proofs.Ytfgnipcegnoagaa
