/- ref03.Point, Bad, Valid; ref04.Name, walked. -/
import Derived.Test.YtfgnipcegnoagaaGreatRef2
namespace Go.Proofs.YtfgnipcegnoagaaGreat
open Go.RowKit Go.MapKept

set_option maxRecDepth 100000 in
theorem point_walk (s : ByteArray) (k : Nat) (w : World) (hk : k < s.size) (hs : s.size ≤ 1000000) :
    Calls Tryz.prog 81 #[.string s, .int .i64 k] w (PtEnd s k w) := by
  have hk2 : (k : Int) < (s.size : Int) := by omega
  have hb := byte_at hk
  have hb256 : byteAt s k < 256 := (s.get! k).toNat_lt
  by_cases h0 : byteAt s k < 128
  · have hpt : Hid (ptF s k = (byteAt s k, 1)) := by
      show _ = _
      unfold ptF ptB
      exact if_pos h0
    have b1 : ((byteAt s k : Nat) : Int) < 128 := by omega
    clear h0
    go_enter Tryz.func81, Tryz.ntmps81
    go_wp2
    go_ret2
    exact ⟨by rw [hpt.out]; rfl, rfl⟩
  by_cases h2 : 192 ≤ byteAt s k ∧ byteAt s k < 224
  · exact point_two s k w hk hs h2
  by_cases h3 : 224 ≤ byteAt s k ∧ byteAt s k < 240
  · exact point_three s k w hk hs h3
  by_cases h4 : 240 ≤ byteAt s k ∧ byteAt s k < 248
  · exact point_four s k w hk hs h4
  have hpt : Hid (ptF s k = (0, 0)) := by
    show _ = _
    unfold ptF ptB
    rewrite [if_neg h0, if_neg h2, if_neg h3, if_neg h4]
    rfl
  have b1 : ¬ ((byteAt s k : Nat) : Int) < 128 := by omega
  by_cases h5 : byteAt s k < 192
  · have b2 : ¬ 192 ≤ ((byteAt s k : Nat) : Int) := by omega
    have b3 : ¬ 224 ≤ ((byteAt s k : Nat) : Int) := by omega
    have b4 : ¬ 240 ≤ ((byteAt s k : Nat) : Int) := by omega
    clear h0 h2 h3 h4 h5
    go_enter Tryz.func81, Tryz.ntmps81
    go_wp2
    go_ret2
    exact ⟨by rw [hpt.out]; rfl, rfl⟩
  · have b2 : 192 ≤ ((byteAt s k : Nat) : Int) := by omega
    have b3 : ¬ ((byteAt s k : Nat) : Int) < 224 := by omega
    have b4 : 224 ≤ ((byteAt s k : Nat) : Int) := by omega
    have b5 : ¬ ((byteAt s k : Nat) : Int) < 240 := by omega
    have b6 : 240 ≤ ((byteAt s k : Nat) : Int) := by omega
    have b7 : ¬ ((byteAt s k : Nat) : Int) < 248 := by omega
    clear h0 h2 h3 h4 h5
    go_enter Tryz.func81, Tryz.ntmps81
    go_wp2
    go_ret2
    exact ⟨by rw [hpt.out]; rfl, rfl⟩

theorem ptC_le (s : ByteArray) (k n size least : Nat) : (ptC s k n size least).2 ≤ size := by
  unfold ptC
  split
  · dsimp only
    split
    · exact Nat.zero_le _
    · exact Nat.le_refl _
  · exact Nat.zero_le _
theorem ptF_le (s : ByteArray) (k : Nat) : (ptF s k).2 ≤ 4 := by
  unfold ptF ptB
  split
  · show 1 ≤ 4; omega
  split
  · exact Nat.le_trans (ptC_le ..) (by omega)
  split
  · exact Nat.le_trans (ptC_le ..) (by omega)
  split
  · exact ptC_le ..
  · exact Nat.zero_le _

def badRes (s : ByteArray) : Int := match badAt s 0 with | some p => p | none => -1
set_option maxRecDepth 100000 in
set_option maxHeartbeats 1000000 in
theorem bad3_walk (s : ByteArray) (w : World) (hs : s.size ≤ 65535) :
    Calls Tryz.prog 62 #[.string s] w fun e w' => e = .returned (.int .i64 (badRes s)) ∧ w = w' := by
  go_enter Tryz.func62, Tryz.ntmps62
  go_wp2
  go_loopw [3] (fun v wr => ∃ p : Nat, v = .int .i64 p ∧ p ≤ 65540 ∧ wr = w ∧ badAt s 0 = badAt s p) (fun v _ => s.size - (intOf v).toNat)
  case atStart => exact ⟨0, rfl, by omega, rfl, rfl⟩
  case round =>
    obtain ⟨p, rfl, hp, rfl, hat⟩ := hrel
    by_cases hlt : p < s.size
    · have hlt2 : (p : Int) < (s.size : Int) := by omega
      have hpt : Calls Tryz.prog 81 #[.string s, .int .i64 p] wr fun e w' => e = .returned (.tuple #[.int .i64 ((ptF s p).1 : Nat), .int .i64 ((ptF s p).2 : Nat)]) ∧ wr = w' := point_walk s p wr hlt (by omega)
      have hle := ptF_le s p
      have hbad := pt_bad s p
      have hnext := pt_next s p
      have Hbad := Lib.hid hbad
      have Hnext := Lib.hid hnext
      have Hat := Lib.hid hat
      clear hbad hnext hat
      obtain ⟨a, b, hab⟩ : ∃ a b, ptF s p = (a, b) := ⟨_, _, rfl⟩
      rw [hab] at hpt hle
      have Hab := Lib.hid hab
      clear hab
      simp only at hpt hle
      by_cases hb0 : b = 0
      · have hz : ((b : Int) == 0) = true := by rw [beq_iff_eq]; omega
        have hres : Hid (badRes s = p) := by
          show _ = _
          unfold badRes
          rw [Hat.out, badAt_bad hlt (by rw [Hbad.out, Hab.out]; exact decide_eq_true (.inl hb0))]
        clear hb0
        go_wp2_with (go_at_call 81; refine hpt.mono ?_; rintro e w' ⟨rfl, rfl⟩)
        go_ret
        exact ⟨by rw [hres.out]; rfl, rfl⟩
      · have hz : ((b : Int) == 0) = false := by rw [beq_eq_false_iff_ne]; omega
        by_cases ha0 : a = 0
        · have hza : ((a : Int) == 0) = true := by rw [beq_iff_eq]; omega
          have hres : Hid (badRes s = p) := by
            show _ = _
            unfold badRes
            rw [Hat.out, badAt_bad hlt (by rw [Hbad.out, Hab.out]; exact decide_eq_true (.inr ha0))]
          clear hb0 ha0
          go_wp2_with (go_at_call 81; refine hpt.mono ?_; rintro e w' ⟨rfl, rfl⟩)
          go_ret
          exact ⟨by rw [hres.out]; rfl, rfl⟩
        · have hza : ((a : Int) == 0) = false := by rw [beq_eq_false_iff_ne]; omega
          have hbf : badB s p = false := by
            rw [Hbad.out, Hab.out]
            exact decide_eq_false (by rintro (h | h); exact hb0 h; exact ha0 h)
          have hn : badAt s 0 = badAt s (p + b) := by
            rw [Hat.out, badAt_next hlt hbf, ← Hnext.out hbf, Hab.out]
          have Hn := Lib.hid hn
          have hbp : 0 < b := by omega
          clear hn hbf hb0 ha0
          go_wp2_with (go_at_call 81; refine hpt.mono ?_; rintro e w' ⟨rfl, rfl⟩)
          exact ⟨⟨p + b, by simp, by omega, trivial, Hn.out⟩, by simp only [intOf]; omega⟩
    · have hlt2 : ¬ (p : Int) < (s.size : Int) := by omega
      have hres : Hid (badRes s = -1) := by
        show _ = _
        unfold badRes
        rw [hat, badAt_end hlt]
      clear hat
      go_wp2
      go_ret
      exact ⟨by rw [hres.out]; rfl, rfl⟩

theorem badRes_neg (s : ByteArray) : decide (badRes s < 0) = (badIn s).isNone := by
  unfold badRes
  show decide ((match badIn s with | some p => ((p : Nat) : Int) | none => -1) < 0) = _
  cases badIn s with
  | none => decide
  | some p =>
    have : ¬ ((p : Nat) : Int) < 0 := by omega
    simp [this]

set_option maxRecDepth 100000 in
theorem valid3_walk (s : ByteArray) (w : World) :
    Calls Tryz.prog 48 #[.string s] w fun e w' => e = .returned (.bool (usOk s)) ∧ w = w' := by
  by_cases h : s.size ≤ 65535
  · have h1 : (s.size : Int) ≤ 65535 := by omega
    have hb := bad3_walk s w h
    have hu : Hid (usOk s = decide (badRes s < 0)) := by
      show _ = _
      rw [badRes_neg]
      unfold usOk
      rw [decide_eq_true h]; rfl
    generalize badRes s = r at *
    clear h
    go_enter Tryz.func48, Tryz.ntmps48
    go_wp2_with (go_at_call 62; refine hb.mono ?_; rintro e w' ⟨rfl, rfl⟩)
    go_ret
    exact ⟨by rw [hu.out]; rfl, rfl⟩
  · have h1 : ¬ (s.size : Int) ≤ 65535 := by omega
    have hu : Hid (usOk s = false) := by
      show _ = _
      unfold usOk
      rw [decide_eq_false h]; rfl
    clear h
    go_enter Tryz.func48, Tryz.ntmps48
    go_wp2
    go_ret
    exact ⟨by rw [hu.out]; rfl, rfl⟩

/-- Has a text a byte? -/
def hasB (s : ByteArray) (c : Nat) : Bool := decide (∃ k, k < s.size ∧ byteAt s k = c)
theorem byte_list (s : ByteArray) (k : Nat) (h : k < s.size) : s.data.toList[k]? = some (s.get! k) := by
  rw [get_bang h]
  have : k < s.data.size := h
  rw [Array.getElem?_toList, Array.getElem?_eq_getElem this]
  rfl
theorem wildB_has (s : ByteArray) : wildB s = (hasB s 43 || hasB s 35) := by
  have hlen : s.data.toList.length = s.size := by rw [Array.length_toList]; rfl
  have hu : ∀ (x : UInt8) (n : Nat), n < 256 → x.toNat = n → x = UInt8.ofNat n := fun x n _ h => by rw [← h]; simp
  rw [Bool.eq_iff_iff, Bool.or_eq_true]
  unfold hasB
  rw [decide_eq_true_iff, decide_eq_true_iff]
  unfold wildB Lib.containsAny
  rw [decide_eq_true_iff]
  constructor
  · intro h
    refine Decidable.byContradiction fun hn => ?_
    have : Lib.indexAny s.data.toList wilds = -1 := Lib.indexAny_none fun j b hj hb => by
      rw [hlen] at hj
      rw [byte_list s j hj] at hb
      have hb := Option.some.inj hb
      cases hc : wilds.contains b with
      | false => rfl
      | true =>
        refine absurd ?_ hn
        simp [wilds] at hc
        rcases hc with hc | hc
        · exact .inl ⟨j, hj, by unfold byteAt; rw [hb, hc]; rfl⟩
        · exact .inr ⟨j, hj, by unfold byteAt; rw [hb, hc]; rfl⟩
    omega
  · intro h
    refine Decidable.byContradiction fun hn => ?_
    have hno : ∀ i, i ≤ s.size → Lib.NoAny s.data.toList wilds i := by
      intro i
      induction i with
      | zero => exact fun _ => Lib.NoAny.zero _ _
      | succ i ih =>
        intro hi
        have h1 := ih (by omega)
        have h2 := byte_list s i (by omega)
        refine Lib.NoAny.succ h1 h2 ?_
        cases hc : wilds.contains (s.get! i) with
        | false => rfl
        | true =>
          have := Lib.indexAny_hit h1 h2 hc
          rw [this] at hn
          exact absurd (Int.natCast_nonneg i) hn
    have key : ∀ k c, k < s.size → byteAt s k = c → c = 43 ∨ c = 35 → False := fun k c hk hc hcc => by
      have h3 := hno (k + 1) (by omega) k (s.get! k) (by omega) (byte_list s k hk)
      have h4 := hu (s.get! k) c (by omega) hc
      rw [h4] at h3
      rcases hcc with rfl | rfl <;> exact absurd h3 (by decide)
    rcases h with ⟨k, hk, hc⟩ | ⟨k, hk, hc⟩
    · exact key k 43 hk hc (.inl rfl)
    · exact key k 35 hk hc (.inr rfl)

set_option maxRecDepth 100000 in
theorem name4_walk (s : ByteArray) (w : World) (hs : s.size ≤ 9223372036854775807) :
    Calls Tryz.prog 34 #[.string s] w fun e w' => e = .returned (.bool (nameOk s)) ∧ w = w' := by
  have hv := valid3_walk s w
  have hp : Calls Tryz.prog 49 #[.string s, .int .u8 43] w fun e w' => e = .returned (.bool (hasB s 43)) ∧ w = w' := has4_walk s 43 w hs (by omega)
  have hh : Calls Tryz.prog 49 #[.string s, .int .u8 35] w fun e w' => e = .returned (.bool (hasB s 35)) ∧ w = w' := has4_walk s 35 w hs (by omega)
  have hfin : Hid (nameOk s = (decide (0 < s.size) && usOk s && !(hasB s 43 || hasB s 35))) := by
    show _ = _
    unfold nameOk
    rw [wildB_has]
  by_cases h0 : s.size = 0
  · have hs0 : s = ⟨#[]⟩ := by
      apply ByteArray.ext
      exact Array.eq_empty_of_size_eq_zero h0
    have hz : Hid (nameOk s = false) := by
      show _ = _
      unfold nameOk
      rw [decide_eq_false (by omega)]
      rfl
    have hq : s.toList = [] := by rw [hs0, ByteArray.toList_eq]
    clear hs0 h0
    go_enter Tryz.func34, Tryz.ntmps34
    go_wp2
    go_ret
    exact ⟨by rw [hz.out]; rfl, rfl⟩
  · have hq : ¬ s.toList = [] := fun e => h0 (by
      rw [ByteArray.toList_eq] at e
      have := congrArg List.length e
      rw [Array.length_toList] at this
      exact this)
    have hq2 : s.toList.isEmpty = false := by
      cases h : s.toList with
      | nil => exact absurd h hq
      | cons _ _ => rfl
    have hfin2 : Hid (nameOk s = (usOk s && !(hasB s 43 || hasB s 35))) := by
      show _ = _
      rw [hfin.out, decide_eq_true (by omega), Bool.true_and]
    clear h0 hfin
    generalize nameOk s = r at *
    generalize usOk s = a at *
    generalize hasB s 43 = b at *
    generalize hasB s 35 = c at *
    cases a <;> cases b <;> cases c
    all_goals
      go_enter Tryz.func34, Tryz.ntmps34
      go_wp2_with (first | (go_at_call 48; refine hv.mono ?_; clear hv; rintro e w' ⟨rfl, rfl⟩) | (go_at_call 49; refine hp.mono ?_; clear hp; rintro e w' ⟨rfl, rfl⟩) | (go_at_call 49; refine hh.mono ?_; clear hh; rintro e w' ⟨rfl, rfl⟩))
      go_ret
      exact ⟨by rw [hfin2.out]; rfl, rfl⟩
end Go.Proofs.YtfgnipcegnoagaaGreat
