import Derived.Test.YtfgnipcegnoagaaGreatBase
import Derived.Lib.Strings
import Derived.Lib.IndexBytes
namespace Go.Proofs.YtfgnipcegnoagaaGreat
open Go.RowKit

/-- U+FFFD as it should be. -/
def fffd : List UInt8 := [239, 191, 189]
def wholeB (s : ByteArray) (k : Nat) : Bool := (s.data.toList.drop k).take 3 == fffd
/-- No code point begins at k as it should, or U+0000 does. -/
def badB (s : ByteArray) (k : Nat) : Bool := (Utf8.decode s k).1 == 0 || ((Utf8.decode s k).1 == 65533 && !wholeB s k)
def badFrom (s : ByteArray) : Nat → Nat → Option Nat
  | 0, _ => none
  | n + 1, k => if k < s.size then (if badB s k then some k else badFrom s n (k + (Utf8.decode s k).2)) else none
def badIn (s : ByteArray) : Option Nat := badFrom s (s.size + 1) 0
def usOk (s : ByteArray) : Bool := decide (s.size ≤ 65535) && (badIn s).isNone

theorem decode_pos (s : ByteArray) (k : Nat) : 1 ≤ (Utf8.decode s k).2 := by
  unfold Utf8.decode
  dsimp only
  repeat' split
  all_goals simp
theorem badFrom_fuel (s : ByteArray) : ∀ (n m k : Nat), s.size - k < n → s.size - k < m → badFrom s n k = badFrom s m k := by
  intro n
  induction n with
  | zero => intro m k h; omega
  | succ n ih =>
    intro m k h1 h2
    cases m with
    | zero => omega
    | succ m =>
      simp only [badFrom]
      split
      · split
        · rfl
        · have := decode_pos s k
          exact ih m _ (by omega) (by omega)
      · rfl
/-- The rest of the way from k on, told with enough rounds. -/
def badAt (s : ByteArray) (k : Nat) : Option Nat := badFrom s (s.size + 1) k
theorem badAt_end {s : ByteArray} {k : Nat} (h : ¬ k < s.size) : badAt s k = none := by simp [badAt, badFrom, h]
theorem badAt_bad {s : ByteArray} {k : Nat} (h : k < s.size) (hb : badB s k = true) : badAt s k = some k := by simp [badAt, badFrom, h, hb]
theorem badAt_next {s : ByteArray} {k : Nat} (h : k < s.size) (hb : badB s k = false) : badAt s k = badAt s (k + (Utf8.decode s k).2) := by
  have := decode_pos s k
  unfold badAt
  rw [badFrom]
  simp only [h, if_true, hb]
  exact badFrom_fuel s _ _ _ (by omega) (by omega)

theorem get_bang {s : ByteArray} {j : Nat} (h : j < s.size) : s.get! j = s[j] := by
  show s.data[j]! = s.data[j]
  rw [getElem!_pos s.data j h]

def DecOk (s : ByteArray) (p : Nat) (r : Nat × Nat) : Prop := 128 ≤ r.1 ∧ Utf8.valid (r.1 : Nat) = true ∧ ∀ j, p ≤ j → j < p + r.2 → ∃ h : j < s.size, 128 ≤ (s[j]).toNat
/-- A code point that begins with a byte beyond ASCII: it is beyond ASCII and legal, and all its bytes are beyond ASCII. -/
theorem decode_high_all (s : ByteArray) (p : Nat) (h : p < s.size) (hb : 128 ≤ (s[p]).toNat) : DecOk s p (Utf8.decode s p) := by
  have one : ∀ j, p ≤ j → j < p + 1 → ∃ h : j < s.size, 128 ≤ (s[j]).toNat := fun j h1 h2 => by
    obtain rfl : j = p := by omega
    exact ⟨h, hb⟩
  have hv : Utf8.valid (65533 : Nat) = true := by decide
  have cont : ∀ k, (decide (p + k < s.size) && (s.get! (p + k)).toNat / 64 == 2) = true → ∃ h : p + k < s.size, 128 ≤ (s[p + k]).toNat := fun k hk => by
    simp only [Bool.and_eq_true, decide_eq_true_eq, beq_iff_eq] at hk
    refine ⟨hk.1, ?_⟩
    rw [← get_bang hk.1]; omega
  unfold Utf8.decode
  dsimp only
  have e0 : (s.get! (p + 0)).toNat = (s[p]).toNat := by rw [Nat.add_zero, get_bang h]
  rw [if_neg (by rw [e0]; omega)]
  split
  · rename_i h1
    rw [Bool.and_eq_true] at h1
    obtain ⟨h1, c1⟩ := h1
    have c1 := cont 1 c1
    simp only [beq_iff_eq] at h1
    split
    · rename_i h2
      refine ⟨by omega, ?_, fun j h3 h4 => ?_⟩
      · have : (s.get! (p + 0)).toNat % 32 < 32 := Nat.mod_lt _ (by omega)
        have : (s.get! (p + 1)).toNat % 64 < 64 := Nat.mod_lt _ (by omega)
        simp only [Utf8.valid, Bool.or_eq_true, Bool.and_eq_true, decide_eq_true_eq]
        left; omega
      · obtain rfl | rfl : j = p ∨ j = p + 1 := by omega
        · exact ⟨h, hb⟩
        · exact c1
    · exact ⟨by decide, hv, one⟩
  · split
    · rename_i h1
      simp only [Bool.and_eq_true] at h1
      obtain ⟨⟨h1, c1⟩, c2⟩ := h1
      have c1 := cont 1 (by simpa using c1)
      have c2 := cont 2 (by simpa using c2)
      split
      · rename_i h2
        simp only [Bool.and_eq_true, decide_eq_true_eq] at h2
        refine ⟨by omega, h2.2, fun j h3 h4 => ?_⟩
        obtain rfl | rfl | rfl : j = p ∨ j = p + 1 ∨ j = p + 2 := by omega
        · exact ⟨h, hb⟩
        · exact c1
        · exact c2
      · exact ⟨by decide, hv, one⟩
    · split
      · rename_i h1
        simp only [Bool.and_eq_true] at h1
        obtain ⟨⟨⟨h1, c1⟩, c2⟩, c3⟩ := h1
        have c1 := cont 1 (by simpa using c1)
        have c2 := cont 2 (by simpa using c2)
        have c3 := cont 3 (by simpa using c3)
        split
        · rename_i h2
          simp only [Bool.and_eq_true, decide_eq_true_eq] at h2
          refine ⟨by omega, h2.2, fun j h3 h4 => ?_⟩
          obtain rfl | rfl | rfl | rfl : j = p ∨ j = p + 1 ∨ j = p + 2 ∨ j = p + 3 := by omega
          · exact ⟨h, hb⟩
          · exact c1
          · exact c2
          · exact c3
        · exact ⟨by decide, hv, one⟩
      · exact ⟨by decide, hv, one⟩

end Go.Proofs.YtfgnipcegnoagaaGreat
