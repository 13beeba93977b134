/- The reference's text (polyglotref03, polyglotref04): Point, Bad, Valid, Name, plainly. -/
import Derived.Test.YtfgnipcegnoagaaGreatLaw
namespace Go.Proofs.YtfgnipcegnoagaaGreat
open Go.RowKit Go.MapKept

def byteAt (s : ByteArray) (k : Nat) : Nat := (s.get! k).toNat
def contB (s : ByteArray) (k : Nat) : Bool := decide (k < s.size) && decide (128 ≤ byteAt s k) && decide (byteAt s k ≤ 191)
/-- n, and j bytes that go on, from place k on. -/
def accF (s : ByteArray) : Nat → Nat → Nat → Nat
  | n, _, 0 => n
  | n, k, j + 1 => 64 * accF s n k j + (byteAt s (k + j) - 128)
def ptC (s : ByteArray) (k n size least : Nat) : Nat × Nat :=
  if (List.range (size - 1)).all (fun j => contB s (k + 1 + j)) = true then
    let v := accF s n (k + 1) (size - 1)
    if v < least ∨ 1114111 < v ∨ (55296 ≤ v ∧ v ≤ 57343) then (0, 0) else (v, size)
  else (0, 0)
def ptB (s : ByteArray) (k b : Nat) : Nat × Nat :=
  if b < 128 then (b, 1) else if 192 ≤ b ∧ b < 224 then ptC s k (b - 192) 2 128 else if 224 ≤ b ∧ b < 240 then ptC s k (b - 224) 3 2048 else if 240 ≤ b ∧ b < 248 then ptC s k (b - 240) 4 65536 else (0, 0)

theorem cont_eq (s : ByteArray) (k : Nat) : (decide (k < s.size) && (s.get! k).toNat / 64 == 2) = contB s k := by
  unfold contB byteAt
  have : (s.get! k).toNat < 256 := (s.get! k).toNat_lt
  rw [Bool.eq_iff_iff]
  simp only [Bool.and_eq_true, decide_eq_true_eq, beq_iff_eq]
  omega
def ptF (s : ByteArray) (k : Nat) : Nat × Nat := ptB s k (byteAt s k)
/-- The model's decoding, in the reference's words. -/
def decB (s : ByteArray) (k b : Nat) : Nat × Nat :=
  if b < 128 then (b, 1)
  else if (b / 32 == 6 && contB s (k + 1)) = true then (if b % 32 * 64 + byteAt s (k + 1) % 64 ≥ 128 then (b % 32 * 64 + byteAt s (k + 1) % 64, 2) else (65533, 1))
  else if (b / 16 == 14 && contB s (k + 1) && contB s (k + 2)) = true then
    (if (decide (b % 16 * 4096 + byteAt s (k + 1) % 64 * 64 + byteAt s (k + 2) % 64 ≥ 2048) && Utf8.valid ((b % 16 * 4096 + byteAt s (k + 1) % 64 * 64 + byteAt s (k + 2) % 64 : Nat) : Int)) = true then (b % 16 * 4096 + byteAt s (k + 1) % 64 * 64 + byteAt s (k + 2) % 64, 3) else (65533, 1))
  else if (b / 8 == 30 && contB s (k + 1) && contB s (k + 2) && contB s (k + 3)) = true then
    (if (decide (b % 8 * 262144 + byteAt s (k + 1) % 64 * 4096 + byteAt s (k + 2) % 64 * 64 + byteAt s (k + 3) % 64 ≥ 65536) && Utf8.valid ((b % 8 * 262144 + byteAt s (k + 1) % 64 * 4096 + byteAt s (k + 2) % 64 * 64 + byteAt s (k + 3) % 64 : Nat) : Int)) = true then (b % 8 * 262144 + byteAt s (k + 1) % 64 * 4096 + byteAt s (k + 2) % 64 * 64 + byteAt s (k + 3) % 64, 4) else (65533, 1))
  else (65533, 1)
def decF (s : ByteArray) (k : Nat) : Nat × Nat := decB s k (byteAt s k)
set_option maxRecDepth 100000 in
theorem decF_eq (s : ByteArray) (k : Nat) : Utf8.decode s k = decF s k := by
  have h1 := cont_eq s (k + 1)
  have h2 := cont_eq s (k + 2)
  have h3 := cont_eq s (k + 3)
  unfold Utf8.decode decF decB
  dsimp only
  simp only [h1, h2, h3]
  rfl
theorem valid_iff (v : Nat) : Utf8.valid (v : Int) = true ↔ (v < 55296 ∨ (57343 < v ∧ v ≤ 1114111)) := by
  simp only [Utf8.valid, Bool.or_eq_true, Bool.and_eq_true, decide_eq_true_eq]
  omega
theorem contB_range {s : ByteArray} {k : Nat} (h : contB s k = true) : 128 ≤ byteAt s k ∧ byteAt s k ≤ 191 := by
  unfold contB at h
  simp only [Bool.and_eq_true, decide_eq_true_eq] at h
  exact ⟨h.1.2, h.2⟩

theorem ptB2 (s : ByteArray) (k b : Nat) (h1 : 192 ≤ b ∧ b < 224) : ptB s k b = (if (decB s k b) = (65533, 1) then (0, 0) else decB s k b) := by
  have h0 : ¬ b < 128 := by omega
  unfold ptB decB
  rewrite [if_neg h0, if_neg h0, if_pos h1]
  have e1 : (b / 32 == 6) = true := by rw [beq_iff_eq]; omega
  have e2 : (b / 16 == 14) = false := by rw [beq_eq_false_iff_ne]; omega
  have e3 : (b / 8 == 30) = false := by rw [beq_eq_false_iff_ne]; omega
  simp only [e1, e2, e3, Bool.true_and, Bool.false_and, Bool.false_eq_true, if_false]
  unfold ptC
  have e5 : (List.range (2 - 1)).all (fun j => contB s (k + 1 + j)) = contB s (k + 1) := by
    show (contB s (k + 1 + 0) && true) = _
    rewrite [Bool.and_true]
    rfl
  have e6 : accF s (b - 192) (k + 1) (2 - 1) = 64 * (b - 192) + (byteAt s (k + 1) - 128) := rfl
  rewrite [e5, e6]
  dsimp only
  clear e5 e6
  by_cases c1 : contB s (k + 1) = true
  · obtain ⟨r1, r2⟩ := contB_range c1
    rewrite [if_pos c1, if_pos c1]
    generalize byteAt s (k + 1) = b1 at *
    by_cases hv : b % 32 * 64 + b1 % 64 ≥ 128
    · rewrite [if_pos hv, if_neg (by omega), if_neg (by simp)]
      simp only [Prod.mk.injEq, and_true]
      omega
    · rewrite [if_neg hv, if_pos (by omega), if_pos rfl]; rfl
  · rewrite [if_neg c1, if_neg c1, if_pos rfl]; rfl
theorem ptB3 (s : ByteArray) (k b : Nat) (h2 : 224 ≤ b ∧ b < 240) : ptB s k b = (if (decB s k b) = (65533, 1) then (0, 0) else decB s k b) := by
  have h0 : ¬ b < 128 := by omega
  have h1 : ¬ (192 ≤ b ∧ b < 224) := by omega
  have e1 : (b / 32 == 6) = false := by rw [beq_eq_false_iff_ne]; omega
  unfold ptB decB
  rewrite [if_neg h0, if_neg h0, if_neg h1, if_pos h2]
  have e2 : (b / 16 == 14) = true := by rw [beq_iff_eq]; omega
  have e3 : (b / 8 == 30) = false := by rw [beq_eq_false_iff_ne]; omega
  simp only [e1, e2, e3, Bool.true_and, Bool.false_and, Bool.false_eq_true, if_false]
  unfold ptC
  have e5 : (List.range (3 - 1)).all (fun j => contB s (k + 1 + j)) = (contB s (k + 1) && contB s (k + 2)) := by
    show (contB s (k + 1 + 0) && (contB s (k + 1 + 1) && true)) = _
    rewrite [Bool.and_true]
    rfl
  have e6 : accF s (b - 224) (k + 1) (3 - 1) = 64 * (64 * (b - 224) + (byteAt s (k + 1) - 128)) + (byteAt s (k + 1 + 1) - 128) := rfl
  rewrite [e5, e6]
  dsimp only
  clear e5 e6
  by_cases c1 : (contB s (k + 1) && contB s (k + 2)) = true
  · have c2 := c1
    rw [Bool.and_eq_true] at c2
    obtain ⟨r1, r2⟩ := contB_range c2.1
    obtain ⟨r3, r4⟩ := contB_range c2.2
    rewrite [if_pos c1, if_pos c1]
    simp only [Bool.and_eq_true, decide_eq_true_eq, valid_iff]
    generalize byteAt s (k + 1) = b1 at *
    have e4 : byteAt s (k + 1 + 1) = byteAt s (k + 2) := rfl
    rw [e4]
    generalize byteAt s (k + 2) = b2 at *
    by_cases hv : b % 16 * 4096 + b1 % 64 * 64 + b2 % 64 ≥ 2048 ∧ (b % 16 * 4096 + b1 % 64 * 64 + b2 % 64 < 55296 ∨ (57343 < b % 16 * 4096 + b1 % 64 * 64 + b2 % 64 ∧ b % 16 * 4096 + b1 % 64 * 64 + b2 % 64 ≤ 1114111))
    · rewrite [if_pos hv, if_neg (by omega), if_neg (by simp)]
      simp only [Prod.mk.injEq, and_true]
      omega
    · rewrite [if_neg hv, if_pos (by omega), if_pos rfl]; rfl
  · rewrite [if_neg c1, if_neg c1, if_pos rfl]; rfl
theorem ptB4 (s : ByteArray) (k b : Nat) (h3 : 240 ≤ b ∧ b < 248) : ptB s k b = (if (decB s k b) = (65533, 1) then (0, 0) else decB s k b) := by
  have h0 : ¬ b < 128 := by omega
  have h1 : ¬ (192 ≤ b ∧ b < 224) := by omega
  have h2 : ¬ (224 ≤ b ∧ b < 240) := by omega
  have e1 : (b / 32 == 6) = false := by rw [beq_eq_false_iff_ne]; omega
  have e2 : (b / 16 == 14) = false := by rw [beq_eq_false_iff_ne]; omega
  unfold ptB decB
  rewrite [if_neg h0, if_neg h0, if_neg h1, if_neg h2, if_pos h3]
  have e3 : (b / 8 == 30) = true := by rw [beq_iff_eq]; omega
  simp only [e1, e2, e3, Bool.true_and, Bool.false_and, Bool.false_eq_true, if_false]
  unfold ptC
  have e5 : (List.range (4 - 1)).all (fun j => contB s (k + 1 + j)) = (contB s (k + 1) && (contB s (k + 1 + 1) && contB s (k + 1 + 2))) := by
    show (contB s (k + 1 + 0) && (contB s (k + 1 + 1) && (contB s (k + 1 + 2) && true))) = _
    rewrite [Bool.and_true]
    rfl
  have e6 : accF s (b - 240) (k + 1) (4 - 1) = 64 * (64 * (64 * (b - 240) + (byteAt s (k + 1) - 128)) + (byteAt s (k + 1 + 1) - 128)) + (byteAt s (k + 1 + 2) - 128) := rfl
  rewrite [e5, e6]
  dsimp only
  clear e5 e6
  by_cases c1 : (contB s (k + 1) && contB s (k + 2) && contB s (k + 3)) = true
  · have c2 := c1
    rw [Bool.and_eq_true, Bool.and_eq_true] at c2
    obtain ⟨r1, r2⟩ := contB_range c2.1.1
    obtain ⟨r3, r4⟩ := contB_range c2.1.2
    obtain ⟨r5, r6⟩ := contB_range c2.2
    have c3 : (contB s (k + 1) && (contB s (k + 1 + 1) && contB s (k + 1 + 2))) = true := by
      rw [Bool.and_eq_true, Bool.and_eq_true]; exact ⟨c2.1.1, c2.1.2, c2.2⟩
    rewrite [if_pos c1, if_pos c3]
    simp only [Bool.and_eq_true, decide_eq_true_eq, valid_iff]
    have e4 : byteAt s (k + 1 + 1) = byteAt s (k + 2) := rfl
    have e5 : byteAt s (k + 1 + 2) = byteAt s (k + 3) := rfl
    rw [e4, e5]
    generalize byteAt s (k + 1) = b1 at *
    generalize byteAt s (k + 2) = b2 at *
    generalize byteAt s (k + 3) = b3 at *
    by_cases hv : b % 8 * 262144 + b1 % 64 * 4096 + b2 % 64 * 64 + b3 % 64 ≥ 65536 ∧ (b % 8 * 262144 + b1 % 64 * 4096 + b2 % 64 * 64 + b3 % 64 < 55296 ∨ (57343 < b % 8 * 262144 + b1 % 64 * 4096 + b2 % 64 * 64 + b3 % 64 ∧ b % 8 * 262144 + b1 % 64 * 4096 + b2 % 64 * 64 + b3 % 64 ≤ 1114111))
    · rewrite [if_pos hv, if_neg (by omega), if_neg (by simp)]
      simp only [Prod.mk.injEq, and_true]
      omega
    · rewrite [if_neg hv, if_pos (by omega), if_pos rfl]; rfl
  · have c3 : ¬ (contB s (k + 1) && (contB s (k + 1 + 1) && contB s (k + 1 + 2))) = true := fun h => c1 (by
      rw [Bool.and_eq_true, Bool.and_eq_true] at h
      rw [Bool.and_eq_true, Bool.and_eq_true]; exact ⟨⟨h.1, h.2.1⟩, h.2.2⟩)
    rewrite [if_neg c1, if_neg c3, if_pos rfl]; rfl
theorem ptF_dec (s : ByteArray) (k : Nat) : ptF s k = (if (decF s k) = (65533, 1) then (0, 0) else decF s k) := by
  have hb : byteAt s k < 256 := (s.get! k).toNat_lt
  unfold ptF decF
  generalize byteAt s k = b at *
  by_cases h0 : b < 128
  · unfold ptB decB
    rewrite [if_pos h0, if_pos h0, if_neg (by intro e; simp only [Prod.mk.injEq] at e; omega)]
    rfl
  by_cases h1 : 192 ≤ b ∧ b < 224
  · exact ptB2 s k b h1
  by_cases h2 : 224 ≤ b ∧ b < 240
  · exact ptB3 s k b h2
  by_cases h3 : 240 ≤ b ∧ b < 248
  · exact ptB4 s k b h3
  have e1 : (b / 32 == 6) = false := by rw [beq_eq_false_iff_ne]; omega
  have e2 : (b / 16 == 14) = false := by rw [beq_eq_false_iff_ne]; omega
  have e3 : (b / 8 == 30) = false := by rw [beq_eq_false_iff_ne]; omega
  unfold ptB decB
  rewrite [if_neg h0, if_neg h0, if_neg h1, if_neg h2, if_neg h3]
  simp only [e1, e2, e3, Bool.false_and, Bool.false_eq_true, if_false, if_true]

theorem whole_iff (s : ByteArray) (k : Nat) : wholeB s k = true ↔ k + 2 < s.size ∧ byteAt s k = 239 ∧ byteAt s (k + 1) = 191 ∧ byteAt s (k + 2) = 189 := by
  have hget : ∀ j, j < s.size → s.data.toList[j]? = some (s.get! j) := fun j hj => by
    rw [get_bang hj]
    have : j < s.data.size := hj
    rw [Array.getElem?_toList, Array.getElem?_eq_getElem this]
    rfl
  have hlen : s.data.toList.length = s.size := by rw [Array.length_toList]; rfl
  unfold wholeB fffd
  rw [beq_iff_eq]
  have hn : ∀ (x : UInt8) (n : Nat), n < 256 → (x.toNat = n ↔ x = UInt8.ofNat n) := fun x n hn => by
    constructor
    · intro h; rw [← h]; simp
    · intro h; rw [h]; simp; omega
  constructor
  · intro h
    have hl := congrArg List.length h
    simp only [List.length_take, List.length_drop, List.length_cons, List.length_nil, hlen] at hl
    have hk : k + 2 < s.size := by omega
    have g := fun j : Nat => congrArg (fun l => l[j]?) h
    have g0 := g 0
    have g1 := g 1
    have g2 := g 2
    simp only [List.getElem?_take, List.getElem?_drop] at g0 g1 g2
    simp only [show (0 : Nat) < 3 by omega, show (1 : Nat) < 3 by omega, show (2 : Nat) < 3 by omega, if_true, Nat.add_zero] at g0 g1 g2
    rw [hget k (by omega)] at g0
    rw [hget (k + 1) (by omega)] at g1
    rw [hget (k + 2) (by omega)] at g2
    simp at g0 g1 g2
    unfold byteAt
    rw [g0, g1, g2]
    exact ⟨hk, by decide, by decide, by decide⟩
  · rintro ⟨hk, h0, h1, h2⟩
    unfold byteAt at h0 h1 h2
    rw [hn _ _ (by omega)] at h0 h1 h2
    apply List.ext_getElem?
    intro j
    rw [List.getElem?_take]
    by_cases hj : j < 3
    · rw [if_pos hj, List.getElem?_drop, hget (k + j) (by omega)]
      match j, hj with
      | 0, _ => rw [Nat.add_zero, h0]; rfl
      | 1, _ => rw [h1]; rfl
      | 2, _ => rw [h2]; rfl
    · rw [if_neg hj, List.getElem?_eq_none (by simp; omega)]

theorem decB_whole (s : ByteArray) (k : Nat) (h0 : byteAt s k = 239) (h1 : byteAt s (k + 1) = 191) (h2 : byteAt s (k + 2) = 189) (hk : k + 2 < s.size) : decF s k = (65533, 3) := by
  have c1 : contB s (k + 1) = true := by unfold contB; rw [h1]; simp; omega
  have c2 : contB s (k + 2) = true := by unfold contB; rw [h2]; simp; omega
  unfold decF decB
  rewrite [h0, h1, h2, c1, c2]
  rewrite [if_neg (by decide), if_neg (by decide), if_pos (by decide), if_pos (by decide)]
  rfl
theorem decB_fffd (s : ByteArray) (k b : Nat) (hb : b < 256) (h : (decB s k b).1 = 65533) (hne : decB s k b ≠ (65533, 1)) : b = 239 ∧ byteAt s (k + 1) = 191 ∧ byteAt s (k + 2) = 189 ∧ k + 2 < s.size := by
  unfold decB at h hne
  by_cases h0 : b < 128
  · rewrite [if_pos h0] at h
    simp only at h
    omega
  rewrite [if_neg h0] at h hne
  by_cases k1 : (b / 32 == 6 && contB s (k + 1)) = true
  · rewrite [if_pos k1] at h hne
    by_cases hv : b % 32 * 64 + byteAt s (k + 1) % 64 ≥ 128
    · rewrite [if_pos hv] at h
      simp only at h
      omega
    · rewrite [if_neg hv] at hne
      exact absurd rfl hne
  rewrite [if_neg k1] at h hne
  by_cases k2 : (b / 16 == 14 && contB s (k + 1) && contB s (k + 2)) = true
  · rewrite [if_pos k2] at h hne
    rw [Bool.and_eq_true, Bool.and_eq_true, beq_iff_eq] at k2
    obtain ⟨r1, r2⟩ := contB_range k2.1.2
    obtain ⟨r3, r4⟩ := contB_range k2.2
    have hsz : k + 2 < s.size := by
      have := k2.2
      unfold contB at this
      simp only [Bool.and_eq_true, decide_eq_true_eq] at this
      exact this.1.1
    by_cases hv : (decide (b % 16 * 4096 + byteAt s (k + 1) % 64 * 64 + byteAt s (k + 2) % 64 ≥ 2048) && Utf8.valid ((b % 16 * 4096 + byteAt s (k + 1) % 64 * 64 + byteAt s (k + 2) % 64 : Nat) : Int)) = true
    · rewrite [if_pos hv] at h
      simp only at h
      refine ⟨?_, ?_, ?_, hsz⟩ <;> omega
    · rewrite [if_neg hv] at hne
      exact absurd rfl hne
  rewrite [if_neg k2] at h hne
  by_cases k3 : (b / 8 == 30 && contB s (k + 1) && contB s (k + 2) && contB s (k + 3)) = true
  · rewrite [if_pos k3] at h hne
    by_cases hv : (decide (b % 8 * 262144 + byteAt s (k + 1) % 64 * 4096 + byteAt s (k + 2) % 64 * 64 + byteAt s (k + 3) % 64 ≥ 65536) && Utf8.valid ((b % 8 * 262144 + byteAt s (k + 1) % 64 * 4096 + byteAt s (k + 2) % 64 * 64 + byteAt s (k + 3) % 64 : Nat) : Int)) = true
    · have hv2 := hv
      rw [Bool.and_eq_true, decide_eq_true_eq] at hv2
      rewrite [if_pos hv] at h
      simp only at h
      omega
    · rewrite [if_neg hv] at hne
      exact absurd rfl hne
  rewrite [if_neg k3] at hne
  exact absurd rfl hne

/-- The reference stops where the program does, and goes on as far. -/
theorem pt_bad (s : ByteArray) (k : Nat) : badB s k = decide ((ptF s k).2 = 0 ∨ (ptF s k).1 = 0) := by
  have hb : byteAt s k < 256 := (s.get! k).toNat_lt
  unfold badB
  rw [decF_eq, ptF_dec]
  by_cases hd : decF s k = (65533, 1)
  · have hw : wholeB s k = false := by
      cases hw : wholeB s k with
      | false => rfl
      | true =>
        obtain ⟨h1, h2, h3, h4⟩ := (whole_iff s k).1 hw
        rw [decB_whole s k h2 h3 h4 h1] at hd
        simp at hd
    rw [if_pos hd, hd, hw]
    rfl
  · rw [if_neg hd]
    have hp := decode_pos s k
    rw [decF_eq] at hp
    have hw : ((decF s k).1 == 65533 && !wholeB s k) = false := by
      by_cases h : (decF s k).1 = 65533
      · obtain ⟨q1, q2, q3, q4⟩ := decB_fffd s k (byteAt s k) hb h hd
        rw [(whole_iff s k).2 ⟨q4, q1, q2, q3⟩]
        simp
      · rw [beq_eq_false_iff_ne.2 h]; rfl
    rw [hw, Bool.or_false, Bool.eq_iff_iff, beq_iff_eq, decide_eq_true_iff]
    constructor
    · exact fun h => .inr h
    · rintro (h | h)
      · omega
      · exact h
theorem pt_next (s : ByteArray) (k : Nat) (h : badB s k = false) : ptF s k = Utf8.decode s k := by
  rw [pt_bad] at h
  have h2 := of_decide_eq_false h
  rw [decF_eq, ptF_dec]
  rw [ptF_dec] at h2
  by_cases hd : decF s k = (65533, 1)
  · rw [if_pos hd] at h2
    exact absurd (.inl rfl) h2
  · rw [if_neg hd]
end Go.Proofs.YtfgnipcegnoagaaGreat
