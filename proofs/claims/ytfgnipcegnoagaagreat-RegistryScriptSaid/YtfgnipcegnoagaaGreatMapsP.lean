/- RegistryMaps, plainly. -/
import Derived.Test.YtfgnipcegnoagaaGreatFullP
import Derived.Test.YtfgnipcegnoagaaGreatRef3
namespace Go.Proofs.YtfgnipcegnoagaaGreat
open Go.RowKit Go.MapKept

theorem nodup_len {α : Type} [DecidableEq α] {l ks : List α} (hn : l.Nodup) (hs : ∀ x ∈ l, x ∈ ks) : l.length ≤ ks.length := by
  induction l generalizing ks with
  | nil => simp
  | cons x l ih =>
    simp only [List.nodup_cons] at hn
    have hx : x ∈ ks := hs x (.head _)
    have h1 := ih (ks := ks.filter (fun y => decide (y ≠ x))) hn.2 (fun y hy => List.mem_filter.2 ⟨hs y (.tail _ hy), decide_eq_true (fun e => hn.1 (by rw [← e]; exact hy))⟩)
    have h2 : (ks.filter (fun y => decide (y ≠ x))).length < ks.length := List.length_filter_lt_length_iff_exists.2 ⟨x, hx, by simp⟩
    simp only [List.length_cons]
    omega
theorem lf_le (l : List Top) : lf 65534 1 l ≤ l.length + 1 := by
  obtain ⟨q1, q2, q3, _⟩ := lf_spec 65534 1 l
  have h := nodup_len (l := (List.range (lf 65534 1 l - 1).toNat).map (fun i : Nat => (i : Int) + 1)) (ks := l.map (·.id)) (by
    refine List.pairwise_map.2 (List.nodup_range.imp fun {a b} h => ?_)
    omega) (fun x hx => by
    obtain ⟨i, hi, rfl⟩ := List.mem_map.1 hx
    have hi := List.mem_range.1 hi
    obtain ⟨t, ht, e⟩ := q3 ((i : Int) + 1) (by omega) (by omega)
    exact List.mem_map.2 ⟨t, ht, e⟩)
  rw [List.length_map, List.length_map, List.length_range] at h
  omega
theorem regF_len (l : List Top) (n : ByteArray) : (regF l n).tops.length ≤ l.length + 1 := by
  unfold regF
  split
  · split
    · simp
    · split <;> simp
  · simp
theorem preF_len (l : List Top) (n : ByteArray) (id : Int) : (preF l n id).2.length ≤ l.length + 1 := by
  unfold preF
  split
  · split
    · simp
    · split
      · simp
      · split <;> simp
  · simp
theorem clearF_len (l : List Top) : (clearF l).2.length ≤ l.length := List.length_filter_le _ _
theorem clearF_sum (l : List Top) : (clearF l).1 + ((clearF l).2.length : Int) = l.length := by
  unfold clearF
  induction l with
  | nil => rfl
  | cons t l ih =>
    simp only [List.filter_cons, List.length_cons] at ih ⊢
    cases t.fixed <;> simp at ih ⊢ <;> omega
theorem preF_err (l : List Top) (n : ByteArray) (id : Int) (h : (preF l n id).1 ≠ 0) : (preF l n id).2 = l := by
  unfold preF at h ⊢
  split
  · rename_i h1
    rw [if_pos h1] at h
    split
    · rfl
    · rename_i h2
      rw [if_neg h2] at h
      split
      · rfl
      · rename_i h3
        rw [if_neg h3] at h
        split
        · rfl
        · rename_i h4
          rw [if_neg h4] at h
          exact absurd rfl h
  · rfl
/-- What Register answers where few topics are there. -/
theorem regF_cases {cl : Cl} (h : cl.Ok) (n : ByteArray) (hl : cl.tops.length ≤ 65000) :
    (nameOk n = false ∧ regF cl.tops n = ⟨0, false, 10, cl.tops⟩) ∨ (nameOk n = true ∧ ∃ t ∈ cl.tops, t.name = n ∧ regF cl.tops n = ⟨t.id, false, 0, cl.tops⟩) ∨
      (nameOk n = true ∧ (∀ t ∈ cl.tops, t.name ≠ n) ∧ regF cl.tops n = ⟨lf 65534 1 cl.tops, true, 0, cl.tops ++ [⟨lf 65534 1 cl.tops, n, false⟩]⟩) := by
  cases hn : nameOk n with
  | false => exact .inl ⟨rfl, by unfold regF; rw [if_neg (by rw [hn]; simp)]⟩
  | true =>
    right
    by_cases he : ∃ t ∈ cl.tops, t.name = n
    · obtain ⟨t, ht, e⟩ := he
      refine .inl ⟨rfl, t, ht, e, ?_⟩
      rw [← e]; exact regF_found h ht
    · have hno : ∀ t ∈ cl.tops, t.name ≠ n := fun t ht e => he ⟨t, ht, e⟩
      refine .inr ⟨rfl, hno, ?_⟩
      have hle := lf_le cl.tops
      unfold regF
      have : byName cl.tops n = none := List.find?_eq_none.2 fun t ht => by simpa using hno t ht
      rw [if_pos hn, this]
      show (if lf 65534 1 cl.tops = 65535 then _ else _) = _
      rw [if_neg (by omega)]
end Go.Proofs.YtfgnipcegnoagaaGreat
