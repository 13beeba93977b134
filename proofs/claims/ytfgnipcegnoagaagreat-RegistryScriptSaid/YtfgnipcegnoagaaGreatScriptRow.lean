/- RegistryScript returns true, for all calls, whatever the order of evaluation: whatever is registered, predefined and cleared, a registry returns, and contains, what the document's reference does; no condition. -/
import Derived.Test.YtfgnipcegnoagaaGreatRows
import Derived.Test.YtfgnipcegnoagaaGreatScript
import Derived.Test.YtfgnipcegnoagaaGreatActs
namespace Go.Proofs.YtfgnipcegnoagaaGreat
open Go.ChangeShapes Go.WideShapes Go.ChangeAt Go.RowKit

theorem Tryz.own : ownKnob Tryz.prog.godebug = none := by kernel_rfl
theorem Tryz.laidOut : laidOutB Tryz.prog = true := by kernel_rfl
theorem belowF {w w' : World} (h : Fr (fun _ => False) w w') : Below w.heap.size w w' := (h.mono (fun k _ hk => hk.elim)).below (Nat.le_refl _)

set_option maxRecDepth 100000 in
theorem script_lifted (os : Os) (started : os.Started) (H : Type) (enc : TypeId × Value → H) :
    ReturnsInHanded {} Tryz.checked os 3 .any (Rows.registryScriptSpec.pre6 enc Tryz.prog Tryz.f3 Rows.registryScriptRow.domain false) (Rows.registryScriptSpec.post enc Tryz.prog Tryz.f3 false true false false) := by
  refine returnsInHanded_of_change (C := Tryz.checked) Tryz.own started (by kernel_rfl) Tryz.func3
    (ChangeSpec.witness6 (enc := enc) (C := Tryz.checked) false ⟨#[], #[.slice none 0 0], []⟩ 8 (by kernel_rfl) (by kernel_rfl) (by kernel_rfl) (by kernel_rfl)) ?_
  intro W base args ds gs before hval0 hW hcnd _
  have hval : ∀ (j : Nat) t v, Tryz.f3.params[j]? = some t → args[j]? = some v → Value.okWide Tryz.prog W .any base t v := hval0
  have hW' := hW
  obtain ⟨p, q, hA0, hV, rfl, hfz, hnd⟩ := hW
  have hA : DataW.TrodAll enc Tryz.prog W 0 (fun _ => true) true Tryz.f3.params.toList args.toList ds p := hA0
  rw [Tryz.params3] at hA hval
  obtain ⟨v0, d0, rfl, rfl, h0⟩ := trodAll_one hA
  obtain ⟨rfl, rfl⟩ := trodVars_none hV
  clear hA0 hval0
  simp only [List.append_nil] at hW'
  have hb0 := hval 0 22 v0 rfl rfl
  obtain ⟨l, hl, hlen⟩ := open_acts hb0 h0
  refine (script_walk W v0 l hl (Nat.le_trans hlen (by decide))).mono fun e W' ⟨he, hf⟩ => ?_
  subst he
  have hb := belowF hf
  have hlt : ∀ x ∈ p, x.block < W.heap.size := fun x hx => by simpa using hW'.lt x hx
  have hres : DataW.TrodAll enc Tryz.prog W' W.heap.size (fun _ => false) false Tryz.f3.resultTypes.toList ((Value.bool true).resultList Tryz.f3.resultTypes.size) [.lit (.bool true)] [] := trodAll_mk1 (shut_bool Tryz.underlying4 true)
  have hargs : DataW.TrodAll enc Tryz.prog W' 0 (fun b => decide (b < W.heap.size)) true [22] [v0] [d0] p :=
    trodAll_mk1 (Below.trod Tryz.laidOut (by kernel_rfl) (of_decide_eq_true (by kernel_rfl)) h0 hb hlt)
  exact ⟨_, rfl, [d0], [], p, [], p, [], hW', hres, hargs, rfl, hb.frame _, fun h => by cases h⟩

theorem script_holds : Rows.RegistryScriptSaid :=
  OpenClaim.holds_of_wide 3 Tryz.f3 rfl rfl rfl rfl rfl rfl rfl ⟨rfl, rfl, rfl, rfl, rfl⟩ rfl rfl rfl rfl rfl (by kernel_rfl) Tryz.func3 (by kernel_rfl)
    (of_decide_eq_true (by kernel_rfl)) (by unfold Func.isWrapper; rw [if_neg (by decide +kernel)]; exact ⟨rfl, rfl⟩)
    (fun os started H enc _ => script_lifted os started H enc)
end Go.Proofs.YtfgnipcegnoagaaGreat
