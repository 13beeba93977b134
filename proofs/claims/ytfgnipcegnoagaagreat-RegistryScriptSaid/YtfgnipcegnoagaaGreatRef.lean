/- The reference's text (polyglotref03, polyglotref04), walked. -/
import Derived.Test.YtfgnipcegnoagaaGreatPoint
namespace Go.Proofs.YtfgnipcegnoagaaGreat
open Go.RowKit Go.MapKept

theorem byte_at {s : ByteArray} {k : Nat} (h : k < s.size) : (s[k].toNat : Int) = (byteAt s k : Nat) := by
  unfold byteAt
  rw [get_bang h]

set_option maxRecDepth 100000 in
theorem has4_walk (s : ByteArray) (c : Nat) (w : World) (hs : s.size ≤ 9223372036854775807) (hc : c < 256) :
    Calls Tryz.prog 49 #[.string s, .int .u8 c] w fun e w' => e = .returned (.bool (decide (∃ k, k < s.size ∧ byteAt s k = c))) ∧ w = w' := by
  go_enter Tryz.func49, Tryz.ntmps49
  go_wp2
  go_loopw [5] (fun v wr => ∃ (i : Nat), v = .int .i64 i ∧ i ≤ s.size ∧ wr = w ∧ ∀ k, k < i → byteAt s k ≠ c) (fun v _ => s.size - (intOf v).toNat)
  case atStart => exact ⟨0, rfl, Nat.zero_le _, rfl, fun k hk => absurd hk (by omega)⟩
  case round =>
    obtain ⟨i, rfl, hil, rfl, hpre⟩ := hrel
    have Hpre := Lib.hid hpre
    clear hpre
    by_cases hlt : i < s.size
    · have hlt2 : (i : Int) < (s.size : Int) := by omega
      have hb := byte_at hlt
      by_cases hq : byteAt s i = c
      · have hqb : (((byteAt s i : Nat) : Int) == (c : Int)) = true := by rw [beq_iff_eq]; omega
        have hd : decide (∃ k, k < s.size ∧ byteAt s k = c) = true := decide_eq_true ⟨i, hlt, hq⟩
        have Hd := Lib.hid hd
        clear hd hq
        go_wp2_with fail
        go_ret
        exact ⟨by rw [Hd.out]; rfl, rfl⟩
      · have hqb : (((byteAt s i : Nat) : Int) == (c : Int)) = false := by rw [beq_eq_false_iff_ne]; omega
        have Hq := Lib.hid hq
        clear hq
        go_wp2_with fail
        go_roundw
        case rel =>
          refine ⟨i + 1, rfl, by omega, trivial, fun k hk => ?_⟩
          by_cases e : k = i
          · rw [e]; exact Hq.out
          · exact Hpre.out k (by omega)
        case measure =>
          simp only [intOf]
          omega
    · have hlt2 : ¬ (i : Int) < (s.size : Int) := by omega
      have hd : decide (∃ k, k < s.size ∧ byteAt s k = c) = false := decide_eq_false (by
        rintro ⟨k, h1, h2⟩
        exact Hpre.out k (by omega) h2)
      have Hd := Lib.hid hd
      clear hd
      go_wp2_with fail
      go_ret
      exact ⟨by rw [Hd.out]; rfl, rfl⟩

set_option maxRecDepth 100000 in
theorem more_walk (s : ByteArray) (k : Nat) (w : World) (hk : k ≤ 9223372036854775807) :
    Calls Tryz.prog 101 #[.string s, .int .i64 k] w fun e w' => e = .returned (if contB s k = true then .tuple #[.int .i64 ((byteAt s k - 128 : Nat) : Int), .bool true] else .tuple #[.int .i64 0, .bool false]) ∧ w = w' := by
  by_cases hlt : k < s.size
  · have hlt2 : (k : Int) < (s.size : Int) := by omega
    have hle : ¬ (s.size : Int) ≤ (k : Int) := by omega
    have hb := byte_at hlt
    have hb256 : byteAt s k < 256 := (s.get! k).toNat_lt
    by_cases h1 : 128 ≤ byteAt s k
    · by_cases h2 : byteAt s k ≤ 191
      · have hc : contB s k = true := by unfold contB; simp [hlt, h1, h2]
        rw [if_pos hc]
        have h3 : ¬ ((byteAt s k : Nat) : Int) < 128 := by omega
        have h4 : ¬ 191 < ((byteAt s k : Nat) : Int) := by omega
        clear hc
        go_enter Tryz.func101, Tryz.ntmps101
        go_wp2
        go_ret2
        exact ⟨by rw [show ((byteAt s k - 128 : Nat) : Int) = ((byteAt s k : Nat) : Int) - 128 by omega]; rfl, rfl⟩
      · have hc : ¬ contB s k = true := by unfold contB; simp [h2]
        rw [if_neg hc]
        have h3 : ¬ ((byteAt s k : Nat) : Int) < 128 := by omega
        have h4 : 191 < ((byteAt s k : Nat) : Int) := by omega
        clear hc
        go_enter Tryz.func101, Tryz.ntmps101
        go_wp2
        go_ret2
        exact ⟨rfl, rfl⟩
    · have hc : ¬ contB s k = true := by unfold contB; simp [h1]
      rw [if_neg hc]
      have h3 : ((byteAt s k : Nat) : Int) < 128 := by omega
      clear hc
      go_enter Tryz.func101, Tryz.ntmps101
      go_wp2
      go_ret2
      exact ⟨rfl, rfl⟩
  · have hc : ¬ contB s k = true := by unfold contB; simp [hlt]
    rw [if_neg hc]
    have hle : (s.size : Int) ≤ (k : Int) := by omega
    clear hc
    go_enter Tryz.func101, Tryz.ntmps101
    go_wp2
    go_ret2
    exact ⟨rfl, rfl⟩
end Go.Proofs.YtfgnipcegnoagaaGreat
