/- ref03.Point, walked: at each class of leading bytes. -/
import Derived.Test.YtfgnipcegnoagaaGreatRef
namespace Go.Proofs.YtfgnipcegnoagaaGreat
open Go.RowKit Go.MapKept

def PtEnd (s : ByteArray) (k : Nat) (w : World) (e : Ending) (w' : World) : Prop := e = .returned (.tuple #[.int .i64 ((ptF s k).1 : Nat), .int .i64 ((ptF s k).2 : Nat)]) ∧ w = w'
theorem accF_succ (s : ByteArray) (n k j : Nat) : accF s n k (j + 1) = 64 * accF s n k j + (byteAt s (k + j) - 128) := rfl
theorem accF_le {s : ByteArray} {n k : Nat} : ∀ {j : Nat}, (∀ t, t < j → contB s (k + t) = true) → accF s n k j + 1 ≤ (n + 1) * 64 ^ j
  | 0, _ => by
    show n + 1 ≤ (n + 1) * 64 ^ 0
    rw [Nat.pow_zero, Nat.mul_one]
    exact Nat.le_refl _
  | j + 1, h => by
    have h1 := accF_le (n := n) (j := j) (fun t ht => h t (by omega))
    have h2 := contB_range (h j (by omega))
    rw [accF_succ, Nat.pow_succ, ← Nat.mul_assoc]
    omega
theorem ptC_all {s : ByteArray} {k n size least : Nat} (h : ∀ t, t < size - 1 → contB s (k + 1 + t) = true) : ptC s k n size least = if accF s n (k + 1) (size - 1) < least ∨ 1114111 < accF s n (k + 1) (size - 1) ∨ (55296 ≤ accF s n (k + 1) (size - 1) ∧ accF s n (k + 1) (size - 1) ≤ 57343) then (0, 0) else (accF s n (k + 1) (size - 1), size) := by
  unfold ptC
  rewrite [if_pos (List.all_eq_true.2 fun t ht => h t (List.mem_range.1 ht))]
  rfl
theorem ptC_not {s : ByteArray} {k n size least t : Nat} (ht : t < size - 1) (h : contB s (k + 1 + t) = false) : ptC s k n size least = (0, 0) := by
  unfold ptC
  rewrite [if_neg (fun ha => by have := List.all_eq_true.1 ha t (List.mem_range.2 ht); rw [h] at this; cases this)]
  rfl

set_option maxRecDepth 100000 in
set_option maxHeartbeats 4000000 in
theorem point_two (s : ByteArray) (k : Nat) (w : World) (hk : k < s.size) (hs : s.size ≤ 1000000) (h1 : 192 ≤ byteAt s k ∧ byteAt s k < 224) :
    Calls Tryz.prog 81 #[.string s, .int .i64 k] w (PtEnd s k w) := by
  have hk2 : (k : Int) < (s.size : Int) := by omega
  have hb := byte_at hk
  have b1 : ¬ ((byteAt s k : Nat) : Int) < 128 := by omega
  have b2 : 192 ≤ ((byteAt s k : Nat) : Int) := by omega
  have b3 : ((byteAt s k : Nat) : Int) < 224 := by omega
  have hpt : ptF s k = ptC s k (byteAt s k - 192) 2 128 := by
    unfold ptF ptB
    rewrite [if_neg (by omega), if_pos h1]
    rfl
  have hcast : ((byteAt s k : Nat) : Int) - 192 = ((byteAt s k - 192 : Nat) : Int) := by omega
  have hn0 : byteAt s k - 192 ≤ 31 := by omega
  have Hpt := Lib.hid hpt
  have Hcast := Lib.hid hcast
  clear hpt hcast
  go_enter Tryz.func81, Tryz.ntmps81
  go_wp2
  rw [Hcast.out]
  generalize byteAt s k - 192 = n0 at *
  go_loopw [6, 9] (fun n i wr => ∃ j : Nat, i = .int .i64 ((j : Int) + 1) ∧ j + 1 ≤ 2 ∧ n = .int .i64 (accF s n0 (k + 1) j : Nat) ∧ wr = w ∧ ∀ t, t < j → contB s (k + 1 + t) = true) (fun _ i _ => 2 - (intOf i).toNat)
  case atStart => exact ⟨0, rfl, by omega, rfl, rfl, fun t ht => absurd ht (by omega)⟩
  case round =>
    obtain ⟨j, rfl, hj, rfl, rfl, hall⟩ := hrel
    have hacc := accF_le (n := n0) hall
    have hp : 64 ^ j ≤ 64 ^ 3 := Nat.pow_le_pow_right (by omega) (by omega)
    have hacc2 : accF s n0 (k + 1) j ≤ 32 * 262144 := by
      have : (n0 + 1) * 64 ^ j ≤ 32 * 64 ^ 3 := Nat.mul_le_mul (by omega) hp
      omega
    have Hall := Lib.hid hall
    clear hall hacc hp
    by_cases hlt : j + 1 < 2
    · have hlt2 : (j : Int) + 1 < 2 := by omega
      have hm := more_walk s (k + (j + 1)) wr (by omega)
      have e1 : ((k + (j + 1) : Nat) : Int) = (k : Int) + ((j : Int) + 1) := by omega
      rw [e1, show k + (j + 1) = k + 1 + j by omega] at hm
      clear e1
      by_cases hc : contB s (k + 1 + j) = true
      · rw [if_pos hc] at hm
        have hrg := contB_range hc
        have Hc := Lib.hid hc
        clear hc
        have hlow : ((byteAt s (k + 1 + j) - 128 : Nat) : Int) ≤ 63 := by omega
        have hcn : Hid ((64 * (accF s n0 (k + 1) j : Nat) + (byteAt s (k + 1 + j) - 128 : Nat) : Int) = (accF s n0 (k + 1) (j + 1) : Nat)) := by
          show _ = _
          rw [accF_succ]
          omega
        generalize byteAt s (k + 1 + j) - 128 = low at *
        go_wp2_with (go_at_call 101; refine hm.mono ?_; rintro e w' ⟨rfl, rfl⟩)
        refine ⟨⟨j + 1, by simp, by omega, by rw [hcn.out], trivial, fun t ht => ?_⟩, by simp only [intOf]; omega⟩
        by_cases e : t = j
        · rw [e]; exact Hc.out
        · exact Hall.out t (by omega)
      · rw [if_neg hc] at hm
        have hc2 : contB s (k + 1 + j) = false := by simpa using hc
        have hz : Hid (ptF s k = (0, 0)) := by
          show _ = _
          rw [Hpt.out]; exact ptC_not (t := j) (by omega) hc2
        clear hc hc2
        go_wp2_with (go_at_call 101; refine hm.mono ?_; rintro e w' ⟨rfl, rfl⟩)
        go_ret2
        exact ⟨by rw [hz.out]; rfl, rfl⟩
    · have hlt2 : ¬ (j : Int) + 1 < 2 := by omega
      have hjs : j = 2 - 1 := by omega
      subst hjs
      have hfin : ptF s k = if accF s n0 (k + 1) (2 - 1) < 128 ∨ 1114111 < accF s n0 (k + 1) (2 - 1) ∨ (55296 ≤ accF s n0 (k + 1) (2 - 1) ∧ accF s n0 (k + 1) (2 - 1) ≤ 57343) then (0, 0) else (accF s n0 (k + 1) (2 - 1), 2) := by rw [Hpt.out]; exact ptC_all Hall.out
      generalize accF s n0 (k + 1) (2 - 1) = v at *
      clear Hall hj hlt
      by_cases q1 : v < 128
      · rw [if_pos (.inl q1)] at hfin
        have p1 : (v : Int) < 128 := by omega
        have Hfin := Lib.hid hfin
        clear hfin q1
        go_wp2
        go_ret2
        exact ⟨by rw [Hfin.out]; rfl, rfl⟩
      have p1 : ¬ (v : Int) < 128 := by omega
      by_cases q2 : 1114111 < v
      · rw [if_pos (.inr (.inl q2))] at hfin
        have p2 : 1114111 < (v : Int) := by omega
        have Hfin := Lib.hid hfin
        clear hfin q1 q2
        go_wp2
        go_ret2
        exact ⟨by rw [Hfin.out]; rfl, rfl⟩
      have p2 : ¬ 1114111 < (v : Int) := by omega
      by_cases q3 : 55296 ≤ v
      · have p3 : 55296 ≤ (v : Int) := by omega
        by_cases q4 : v ≤ 57343
        · rw [if_pos (.inr (.inr ⟨q3, q4⟩))] at hfin
          have p4 : (v : Int) ≤ 57343 := by omega
          have Hfin := Lib.hid hfin
          clear hfin q1 q2 q3 q4
          go_wp2
          go_ret2
          exact ⟨by rw [Hfin.out]; rfl, rfl⟩
        · rw [if_neg (by omega)] at hfin
          have p4 : ¬ (v : Int) ≤ 57343 := by omega
          have Hfin := Lib.hid hfin
          clear hfin q1 q2 q3 q4
          go_wp2
          go_ret2
          exact ⟨by rw [Hfin.out]; rfl, rfl⟩
      · rw [if_neg (by omega)] at hfin
        have p3 : ¬ 55296 ≤ (v : Int) := by omega
        have Hfin := Lib.hid hfin
        clear hfin q1 q2 q3
        go_wp2
        go_ret2
        exact ⟨by rw [Hfin.out]; rfl, rfl⟩

set_option maxRecDepth 100000 in
set_option maxHeartbeats 4000000 in
theorem point_three (s : ByteArray) (k : Nat) (w : World) (hk : k < s.size) (hs : s.size ≤ 1000000) (h1 : 224 ≤ byteAt s k ∧ byteAt s k < 240) :
    Calls Tryz.prog 81 #[.string s, .int .i64 k] w (PtEnd s k w) := by
  have hk2 : (k : Int) < (s.size : Int) := by omega
  have hb := byte_at hk
  have b1 : ¬ ((byteAt s k : Nat) : Int) < 128 := by omega
  have b2 : 192 ≤ ((byteAt s k : Nat) : Int) := by omega
  have b3 : ¬ ((byteAt s k : Nat) : Int) < 224 := by omega
  have b4 : 224 ≤ ((byteAt s k : Nat) : Int) := by omega
  have b5 : ((byteAt s k : Nat) : Int) < 240 := by omega
  have hpt : ptF s k = ptC s k (byteAt s k - 224) 3 2048 := by
    unfold ptF ptB
    rewrite [if_neg (by omega), if_neg (by omega), if_pos h1]
    rfl
  have hcast : ((byteAt s k : Nat) : Int) - 224 = ((byteAt s k - 224 : Nat) : Int) := by omega
  have hn0 : byteAt s k - 224 ≤ 31 := by omega
  have Hpt := Lib.hid hpt
  have Hcast := Lib.hid hcast
  clear hpt hcast
  go_enter Tryz.func81, Tryz.ntmps81
  go_wp2
  rw [Hcast.out]
  generalize byteAt s k - 224 = n0 at *
  go_loopw [6, 9] (fun n i wr => ∃ j : Nat, i = .int .i64 ((j : Int) + 1) ∧ j + 1 ≤ 3 ∧ n = .int .i64 (accF s n0 (k + 1) j : Nat) ∧ wr = w ∧ ∀ t, t < j → contB s (k + 1 + t) = true) (fun _ i _ => 3 - (intOf i).toNat)
  case atStart => exact ⟨0, rfl, by omega, rfl, rfl, fun t ht => absurd ht (by omega)⟩
  case round =>
    obtain ⟨j, rfl, hj, rfl, rfl, hall⟩ := hrel
    have hacc := accF_le (n := n0) hall
    have hp : 64 ^ j ≤ 64 ^ 3 := Nat.pow_le_pow_right (by omega) (by omega)
    have hacc2 : accF s n0 (k + 1) j ≤ 32 * 262144 := by
      have : (n0 + 1) * 64 ^ j ≤ 32 * 64 ^ 3 := Nat.mul_le_mul (by omega) hp
      omega
    have Hall := Lib.hid hall
    clear hall hacc hp
    by_cases hlt : j + 1 < 3
    · have hlt2 : (j : Int) + 1 < 3 := by omega
      have hm := more_walk s (k + (j + 1)) wr (by omega)
      have e1 : ((k + (j + 1) : Nat) : Int) = (k : Int) + ((j : Int) + 1) := by omega
      rw [e1, show k + (j + 1) = k + 1 + j by omega] at hm
      clear e1
      by_cases hc : contB s (k + 1 + j) = true
      · rw [if_pos hc] at hm
        have hrg := contB_range hc
        have Hc := Lib.hid hc
        clear hc
        have hlow : ((byteAt s (k + 1 + j) - 128 : Nat) : Int) ≤ 63 := by omega
        have hcn : Hid ((64 * (accF s n0 (k + 1) j : Nat) + (byteAt s (k + 1 + j) - 128 : Nat) : Int) = (accF s n0 (k + 1) (j + 1) : Nat)) := by
          show _ = _
          rw [accF_succ]
          omega
        generalize byteAt s (k + 1 + j) - 128 = low at *
        go_wp2_with (go_at_call 101; refine hm.mono ?_; rintro e w' ⟨rfl, rfl⟩)
        refine ⟨⟨j + 1, by simp, by omega, by rw [hcn.out], trivial, fun t ht => ?_⟩, by simp only [intOf]; omega⟩
        by_cases e : t = j
        · rw [e]; exact Hc.out
        · exact Hall.out t (by omega)
      · rw [if_neg hc] at hm
        have hc2 : contB s (k + 1 + j) = false := by simpa using hc
        have hz : Hid (ptF s k = (0, 0)) := by
          show _ = _
          rw [Hpt.out]; exact ptC_not (t := j) (by omega) hc2
        clear hc hc2
        go_wp2_with (go_at_call 101; refine hm.mono ?_; rintro e w' ⟨rfl, rfl⟩)
        go_ret2
        exact ⟨by rw [hz.out]; rfl, rfl⟩
    · have hlt2 : ¬ (j : Int) + 1 < 3 := by omega
      have hjs : j = 3 - 1 := by omega
      subst hjs
      have hfin : ptF s k = if accF s n0 (k + 1) (3 - 1) < 2048 ∨ 1114111 < accF s n0 (k + 1) (3 - 1) ∨ (55296 ≤ accF s n0 (k + 1) (3 - 1) ∧ accF s n0 (k + 1) (3 - 1) ≤ 57343) then (0, 0) else (accF s n0 (k + 1) (3 - 1), 3) := by rw [Hpt.out]; exact ptC_all Hall.out
      generalize accF s n0 (k + 1) (3 - 1) = v at *
      clear Hall hj hlt
      by_cases q1 : v < 2048
      · rw [if_pos (.inl q1)] at hfin
        have p1 : (v : Int) < 2048 := by omega
        have Hfin := Lib.hid hfin
        clear hfin q1
        go_wp2
        go_ret2
        exact ⟨by rw [Hfin.out]; rfl, rfl⟩
      have p1 : ¬ (v : Int) < 2048 := by omega
      by_cases q2 : 1114111 < v
      · rw [if_pos (.inr (.inl q2))] at hfin
        have p2 : 1114111 < (v : Int) := by omega
        have Hfin := Lib.hid hfin
        clear hfin q1 q2
        go_wp2
        go_ret2
        exact ⟨by rw [Hfin.out]; rfl, rfl⟩
      have p2 : ¬ 1114111 < (v : Int) := by omega
      by_cases q3 : 55296 ≤ v
      · have p3 : 55296 ≤ (v : Int) := by omega
        by_cases q4 : v ≤ 57343
        · rw [if_pos (.inr (.inr ⟨q3, q4⟩))] at hfin
          have p4 : (v : Int) ≤ 57343 := by omega
          have Hfin := Lib.hid hfin
          clear hfin q1 q2 q3 q4
          go_wp2
          go_ret2
          exact ⟨by rw [Hfin.out]; rfl, rfl⟩
        · rw [if_neg (by omega)] at hfin
          have p4 : ¬ (v : Int) ≤ 57343 := by omega
          have Hfin := Lib.hid hfin
          clear hfin q1 q2 q3 q4
          go_wp2
          go_ret2
          exact ⟨by rw [Hfin.out]; rfl, rfl⟩
      · rw [if_neg (by omega)] at hfin
        have p3 : ¬ 55296 ≤ (v : Int) := by omega
        have Hfin := Lib.hid hfin
        clear hfin q1 q2 q3
        go_wp2
        go_ret2
        exact ⟨by rw [Hfin.out]; rfl, rfl⟩

set_option maxRecDepth 100000 in
set_option maxHeartbeats 4000000 in
theorem point_four (s : ByteArray) (k : Nat) (w : World) (hk : k < s.size) (hs : s.size ≤ 1000000) (h1 : 240 ≤ byteAt s k ∧ byteAt s k < 248) :
    Calls Tryz.prog 81 #[.string s, .int .i64 k] w (PtEnd s k w) := by
  have hk2 : (k : Int) < (s.size : Int) := by omega
  have hb := byte_at hk
  have b1 : ¬ ((byteAt s k : Nat) : Int) < 128 := by omega
  have b2 : 192 ≤ ((byteAt s k : Nat) : Int) := by omega
  have b3 : ¬ ((byteAt s k : Nat) : Int) < 224 := by omega
  have b4 : 224 ≤ ((byteAt s k : Nat) : Int) := by omega
  have b5 : ¬ ((byteAt s k : Nat) : Int) < 240 := by omega
  have b6 : 240 ≤ ((byteAt s k : Nat) : Int) := by omega
  have b7 : ((byteAt s k : Nat) : Int) < 248 := by omega
  have hpt : ptF s k = ptC s k (byteAt s k - 240) 4 65536 := by
    unfold ptF ptB
    rewrite [if_neg (by omega), if_neg (by omega), if_neg (by omega), if_pos h1]
    rfl
  have hcast : ((byteAt s k : Nat) : Int) - 240 = ((byteAt s k - 240 : Nat) : Int) := by omega
  have hn0 : byteAt s k - 240 ≤ 31 := by omega
  have Hpt := Lib.hid hpt
  have Hcast := Lib.hid hcast
  clear hpt hcast
  go_enter Tryz.func81, Tryz.ntmps81
  go_wp2
  rw [Hcast.out]
  generalize byteAt s k - 240 = n0 at *
  go_loopw [6, 9] (fun n i wr => ∃ j : Nat, i = .int .i64 ((j : Int) + 1) ∧ j + 1 ≤ 4 ∧ n = .int .i64 (accF s n0 (k + 1) j : Nat) ∧ wr = w ∧ ∀ t, t < j → contB s (k + 1 + t) = true) (fun _ i _ => 4 - (intOf i).toNat)
  case atStart => exact ⟨0, rfl, by omega, rfl, rfl, fun t ht => absurd ht (by omega)⟩
  case round =>
    obtain ⟨j, rfl, hj, rfl, rfl, hall⟩ := hrel
    have hacc := accF_le (n := n0) hall
    have hp : 64 ^ j ≤ 64 ^ 3 := Nat.pow_le_pow_right (by omega) (by omega)
    have hacc2 : accF s n0 (k + 1) j ≤ 32 * 262144 := by
      have : (n0 + 1) * 64 ^ j ≤ 32 * 64 ^ 3 := Nat.mul_le_mul (by omega) hp
      omega
    have Hall := Lib.hid hall
    clear hall hacc hp
    by_cases hlt : j + 1 < 4
    · have hlt2 : (j : Int) + 1 < 4 := by omega
      have hm := more_walk s (k + (j + 1)) wr (by omega)
      have e1 : ((k + (j + 1) : Nat) : Int) = (k : Int) + ((j : Int) + 1) := by omega
      rw [e1, show k + (j + 1) = k + 1 + j by omega] at hm
      clear e1
      by_cases hc : contB s (k + 1 + j) = true
      · rw [if_pos hc] at hm
        have hrg := contB_range hc
        have Hc := Lib.hid hc
        clear hc
        have hlow : ((byteAt s (k + 1 + j) - 128 : Nat) : Int) ≤ 63 := by omega
        have hcn : Hid ((64 * (accF s n0 (k + 1) j : Nat) + (byteAt s (k + 1 + j) - 128 : Nat) : Int) = (accF s n0 (k + 1) (j + 1) : Nat)) := by
          show _ = _
          rw [accF_succ]
          omega
        generalize byteAt s (k + 1 + j) - 128 = low at *
        go_wp2_with (go_at_call 101; refine hm.mono ?_; rintro e w' ⟨rfl, rfl⟩)
        refine ⟨⟨j + 1, by simp, by omega, by rw [hcn.out], trivial, fun t ht => ?_⟩, by simp only [intOf]; omega⟩
        by_cases e : t = j
        · rw [e]; exact Hc.out
        · exact Hall.out t (by omega)
      · rw [if_neg hc] at hm
        have hc2 : contB s (k + 1 + j) = false := by simpa using hc
        have hz : Hid (ptF s k = (0, 0)) := by
          show _ = _
          rw [Hpt.out]; exact ptC_not (t := j) (by omega) hc2
        clear hc hc2
        go_wp2_with (go_at_call 101; refine hm.mono ?_; rintro e w' ⟨rfl, rfl⟩)
        go_ret2
        exact ⟨by rw [hz.out]; rfl, rfl⟩
    · have hlt2 : ¬ (j : Int) + 1 < 4 := by omega
      have hjs : j = 4 - 1 := by omega
      subst hjs
      have hfin : ptF s k = if accF s n0 (k + 1) (4 - 1) < 65536 ∨ 1114111 < accF s n0 (k + 1) (4 - 1) ∨ (55296 ≤ accF s n0 (k + 1) (4 - 1) ∧ accF s n0 (k + 1) (4 - 1) ≤ 57343) then (0, 0) else (accF s n0 (k + 1) (4 - 1), 4) := by rw [Hpt.out]; exact ptC_all Hall.out
      generalize accF s n0 (k + 1) (4 - 1) = v at *
      clear Hall hj hlt
      by_cases q1 : v < 65536
      · rw [if_pos (.inl q1)] at hfin
        have p1 : (v : Int) < 65536 := by omega
        have Hfin := Lib.hid hfin
        clear hfin q1
        go_wp2
        go_ret2
        exact ⟨by rw [Hfin.out]; rfl, rfl⟩
      have p1 : ¬ (v : Int) < 65536 := by omega
      by_cases q2 : 1114111 < v
      · rw [if_pos (.inr (.inl q2))] at hfin
        have p2 : 1114111 < (v : Int) := by omega
        have Hfin := Lib.hid hfin
        clear hfin q1 q2
        go_wp2
        go_ret2
        exact ⟨by rw [Hfin.out]; rfl, rfl⟩
      have p2 : ¬ 1114111 < (v : Int) := by omega
      by_cases q3 : 55296 ≤ v
      · have p3 : 55296 ≤ (v : Int) := by omega
        by_cases q4 : v ≤ 57343
        · rw [if_pos (.inr (.inr ⟨q3, q4⟩))] at hfin
          have p4 : (v : Int) ≤ 57343 := by omega
          have Hfin := Lib.hid hfin
          clear hfin q1 q2 q3 q4
          go_wp2
          go_ret2
          exact ⟨by rw [Hfin.out]; rfl, rfl⟩
        · rw [if_neg (by omega)] at hfin
          have p4 : ¬ (v : Int) ≤ 57343 := by omega
          have Hfin := Lib.hid hfin
          clear hfin q1 q2 q3 q4
          go_wp2
          go_ret2
          exact ⟨by rw [Hfin.out]; rfl, rfl⟩
      · rw [if_neg (by omega)] at hfin
        have p3 : ¬ 55296 ≤ (v : Int) := by omega
        have Hfin := Lib.hid hfin
        clear hfin q1 q2 q3
        go_wp2
        go_ret2
        exact ⟨by rw [Hfin.out]; rfl, rfl⟩

end Go.Proofs.YtfgnipcegnoagaaGreat
