/- RegistryMaps returns true, for all calls, whatever the order of evaluation: the names and ids of a client correspond one to one, a new name gets the smallest free id, other clients are not affected, an error changes nothing; no condition. -/
import Derived.Test.YtfgnipcegnoagaaRows
import Derived.Test.YtfgnipcegnoagaaMapsE
import Derived.Test.YtfgnipcegnoagaaActs
namespace Go.Proofs.Ytfgnipcegnoagaa
open Go.ChangeShapes Go.WideShapes Go.ChangeAt Go.RowKit

theorem Try.own : ownKnob Try.prog.godebug = none := by kernel_rfl
theorem Try.laidOut : laidOutB Try.prog = true := by kernel_rfl
theorem belowF {w w' : World} (h : Fr (fun _ => False) w w') : Below w.heap.size w w' := (h.mono (fun k _ hk => hk.elim)).below (Nat.le_refl _)

set_option maxRecDepth 100000 in
theorem maps_lifted (os : Os) (started : os.Started) (H : Type) (enc : TypeId × Value → H) :
    ReturnsInHanded {} Try.checked os 4 .any (Rows.registryMapsSpec.pre6 enc Try.prog Try.f4 Rows.registryMapsRow.domain false) (Rows.registryMapsSpec.post enc Try.prog Try.f4 false true false false) := by
  refine returnsInHanded_of_change (C := Try.checked) Try.own started (by kernel_rfl) Try.func4
    (ChangeSpec.witness6 (enc := enc) (C := Try.checked) false ⟨#[], #[.slice none 0 0], []⟩ 8 (by kernel_rfl) (by kernel_rfl) (by kernel_rfl) (by kernel_rfl)) ?_
  intro W base args ds gs before hval0 hW hcnd _
  have hval : ∀ (j : Nat) t v, Try.f4.params[j]? = some t → args[j]? = some v → Value.okWide Try.prog W .any base t v := hval0
  have hW' := hW
  obtain ⟨p, q, hA0, hV, rfl, hfz, hnd⟩ := hW
  have hA : DataW.TrodAll enc Try.prog W 0 (fun _ => true) true Try.f4.params.toList args.toList ds p := hA0
  rw [Try.params4] at hA hval
  obtain ⟨v0, d0, rfl, rfl, h0⟩ := trodAll_one hA
  obtain ⟨rfl, rfl⟩ := trodVars_none hV
  clear hA0 hval0
  simp only [List.append_nil] at hW'
  have hb0 := hval 0 33 v0 rfl rfl
  obtain ⟨l, hl, hlen⟩ := open_acts hb0 h0
  refine (maps_walk W v0 l hl (Nat.le_trans hlen (by decide))).mono fun e W' ⟨he, hf⟩ => ?_
  subst he
  have hb := belowF hf
  have hlt : ∀ x ∈ p, x.block < W.heap.size := fun x hx => by simpa using hW'.lt x hx
  have hres : DataW.TrodAll enc Try.prog W' W.heap.size (fun _ => false) false Try.f4.resultTypes.toList ((Value.bool true).resultList Try.f4.resultTypes.size) [.lit (.bool true)] [] := trodAll_mk1 (shut_bool Try.underlying4 true)
  have hargs : DataW.TrodAll enc Try.prog W' 0 (fun b => decide (b < W.heap.size)) true [33] [v0] [d0] p :=
    trodAll_mk1 (Below.trod Try.laidOut (by kernel_rfl) (of_decide_eq_true (by kernel_rfl)) h0 hb hlt)
  exact ⟨_, rfl, [d0], [], p, [], p, [], hW', hres, hargs, rfl, hb.frame _, fun h => by cases h⟩

theorem maps_holds : Rows.RegistryMapsSaid :=
  OpenClaim.holds_of_wide 4 Try.f4 rfl rfl rfl rfl rfl rfl rfl ⟨rfl, rfl, rfl, rfl, rfl⟩ rfl rfl rfl rfl rfl (by kernel_rfl) Try.func4 (by kernel_rfl)
    (of_decide_eq_true (by kernel_rfl)) (by unfold Func.isWrapper; rw [if_neg (by decide +kernel)]; exact ⟨rfl, rfl⟩)
    (fun os started H enc _ => maps_lifted os started H enc)
end Go.Proofs.Ytfgnipcegnoagaa
