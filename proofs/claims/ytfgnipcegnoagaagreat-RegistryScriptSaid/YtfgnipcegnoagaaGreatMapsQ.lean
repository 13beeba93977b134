/- RegistryMaps: the loop that finds the least free id, plainly. -/
import Derived.Test.YtfgnipcegnoagaaGreatMapsP
namespace Go.Proofs.YtfgnipcegnoagaaGreat
open Go.RowKit Go.MapKept

/-- What the law's 'free' is when k of the topics, by rising ids, have been gone through. -/
structure FreeAt (l : List Top) (k : Nat) (f : Int) : Prop where
  pos : 1 ≤ f
  le : f ≤ (k : Int) + 1
  used : ∀ i, 1 ≤ i → i < f → ∃ t ∈ l, t.id = i
  free : ∀ t ∈ l.take k, t.id ≠ f
theorem FreeAt.zero (l : List Top) : FreeAt l 0 1 := ⟨by omega, by omega, fun i h1 h2 => by omega, fun t ht => by simp at ht⟩
theorem FreeAt.next {l : List Top} {k : Nat} {f : Int} {t : Top} (h : FreeAt l k f) (ht : l[k]? = some t) (hs : l.Pairwise (fun a b => a.id < b.id)) : FreeAt l (k + 1) (if t.id = f then f + 1 else f) := by
  have htk : l.take (k + 1) = l.take k ++ [t] := by rw [List.take_add_one, ht]; rfl
  have hm := List.mem_of_getElem? ht
  have hlt : ∀ s ∈ l.take k, s.id < t.id := fun s hs2 => by
    obtain ⟨j, hj⟩ := List.getElem?_of_mem hs2
    rw [List.getElem?_take] at hj
    split at hj
    · rename_i hjk
      obtain ⟨a1, a2⟩ := List.getElem?_eq_some_iff.1 hj
      obtain ⟨b1, b2⟩ := List.getElem?_eq_some_iff.1 ht
      have := List.pairwise_iff_getElem.1 hs j k a1 b1 hjk
      rw [a2, b2] at this
      exact this
    · cases hj
  by_cases e : t.id = f
  · rw [if_pos e]
    refine ⟨by have := h.pos; omega, by have := h.le; omega, fun i h1 h2 => ?_, fun s hs2 => ?_⟩
    · by_cases e2 : i = f
      · exact ⟨t, hm, by rw [e, e2]⟩
      · exact h.used i h1 (by omega)
    · rw [htk, List.mem_append, List.mem_singleton] at hs2
      rcases hs2 with hs2 | rfl
      · have := hlt s hs2; omega
      · omega
  · rw [if_neg e]
    refine ⟨h.pos, by have := h.le; omega, h.used, fun s hs2 => ?_⟩
    rw [htk, List.mem_append, List.mem_singleton] at hs2
    rcases hs2 with hs2 | rfl
    · exact h.free s hs2
    · exact e
theorem FreeAt.last {l l0 : List Top} {f : Int} (h : FreeAt l l.length f) (hp : l.Perm l0) (hl : l.length ≤ 65000) : lf 65534 1 l0 = f := by
  refine lf_unique h.pos (by have := h.le; omega) (fun t ht => ?_) (fun i h1 h2 => ?_)
  · have := h.free t
    rw [List.take_length] at this
    exact this (hp.mem_iff.2 ht)
  · obtain ⟨t, ht, e⟩ := h.used i h1 h2
    exact ⟨t, hp.mem_iff.1 ht, e⟩
end Go.Proofs.YtfgnipcegnoagaaGreat
