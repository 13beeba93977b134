/- RegistryApart returns true, for all calls and every client, whatever the order of evaluation: the result of the calls of one client does not depend on those of others; no condition. -/
import Derived.Test.YtfgnipcegnoagaaRows
import Derived.Test.YtfgnipcegnoagaaApart
import Derived.Test.YtfgnipcegnoagaaActs
namespace Go.Proofs.Ytfgnipcegnoagaa
open Go.ChangeShapes Go.WideShapes Go.ChangeAt Go.RowKit

theorem Try.own : ownKnob Try.prog.godebug = none := by kernel_rfl
theorem Try.laidOut : laidOutB Try.prog = true := by kernel_rfl
theorem belowF {w w' : World} (h : Fr (fun _ => False) w w') : Below w.heap.size w w' := (h.mono (fun k _ hk => hk.elim)).below (Nat.le_refl _)

set_option maxRecDepth 100000 in
theorem apart_lifted (os : Os) (started : os.Started) (H : Type) (enc : TypeId × Value → H) :
    ReturnsInHanded {} Try.checked os 5 .any (Rows.registryApartSpec.pre6 enc Try.prog Try.f5 Rows.registryApartRow.domain false) (Rows.registryApartSpec.post enc Try.prog Try.f5 false true false false) := by
  refine returnsInHanded_of_change (C := Try.checked) Try.own started (by kernel_rfl) Try.func5
    (ChangeSpec.witness6 (enc := enc) (C := Try.checked) false ⟨#[], #[.slice none 0 0, .string ⟨#[]⟩], []⟩ 8 (by kernel_rfl) (by kernel_rfl) (by kernel_rfl) (by kernel_rfl)) ?_
  intro W base args ds gs before hval0 hW hcnd _
  have hval : ∀ (j : Nat) t v, Try.f5.params[j]? = some t → args[j]? = some v → Value.okWide Try.prog W .any base t v := hval0
  have hW' := hW
  obtain ⟨p, q, hA0, hV, rfl, hfz, hnd⟩ := hW
  have hA : DataW.TrodAll enc Try.prog W 0 (fun _ => true) true Try.f5.params.toList args.toList ds p := hA0
  rw [Try.params5] at hA hval
  obtain ⟨v0, v1, d0, d1, p0, p1, rfl, rfl, rfl, h0, h1⟩ := trodAll_two hA
  obtain ⟨rfl, rfl⟩ := trodVars_none hV
  clear hA0 hval0
  simp only [List.append_nil] at hW'
  have hb0 := hval 0 33 v0 rfl rfl
  obtain ⟨s, rfl⟩ := okWide_string Try.underlying9 (hval 1 9 v1 rfl rfl)
  obtain ⟨l, hl, hlen⟩ := open_acts hb0 h0
  refine (apart_walk W v0 l s hl (Nat.le_trans hlen (by decide))).mono fun e W' ⟨he, hf⟩ => ?_
  subst he
  have hb := belowF hf
  have hlt : ∀ x ∈ p0 ++ p1, x.block < W.heap.size := fun x hx => by simpa using hW'.lt x hx
  have hres : DataW.TrodAll enc Try.prog W' W.heap.size (fun _ => false) false Try.f5.resultTypes.toList ((Value.bool true).resultList Try.f5.resultTypes.size) [.lit (.bool true)] [] := trodAll_mk1 (shut_bool Try.underlying4 true)
  have hargs : DataW.TrodAll enc Try.prog W' 0 (fun b => decide (b < W.heap.size)) true [33, 9] [v0, .string s] [d0, d1] (p0 ++ p1) :=
    trodAll_mk2 (Below.trod Try.laidOut (by kernel_rfl) (of_decide_eq_true (by kernel_rfl)) h0 hb (fun x hx => hlt x (List.mem_append.2 (.inl hx)))) (Below.trod Try.laidOut (by kernel_rfl) (of_decide_eq_true (by kernel_rfl)) h1 hb (fun x hx => hlt x (List.mem_append.2 (.inr hx))))
  exact ⟨_, rfl, [d0, d1], [], p0 ++ p1, [], p0 ++ p1, [], hW', hres, hargs, rfl, hb.frame _, fun h => by cases h⟩

theorem apart_holds : Rows.RegistryApartSaid :=
  OpenClaim.holds_of_wide 5 Try.f5 rfl rfl rfl rfl rfl rfl rfl ⟨rfl, rfl, rfl, rfl, rfl⟩ rfl rfl rfl rfl rfl (by kernel_rfl) Try.func5 (by kernel_rfl)
    (of_decide_eq_true (by kernel_rfl)) (by unfold Func.isWrapper; rw [if_neg (by decide +kernel)]; exact ⟨rfl, rfl⟩)
    (fun os started H enc _ => apart_lifted os started H enc)
end Go.Proofs.Ytfgnipcegnoagaa
