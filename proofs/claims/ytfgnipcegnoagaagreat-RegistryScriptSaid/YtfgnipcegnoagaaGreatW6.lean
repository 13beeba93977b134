/- Package ustring, as walked. -/
import Derived.Test.YtfgnipcegnoagaaGreatW1
import Derived.Test.YtfgnipcegnoagaaGreatText
import Derived.Lib.Hide
namespace Go.Proofs.YtfgnipcegnoagaaGreat
open Go.RowKit Go.MapKept

theorem whole_walk (s : ByteArray) (k : Nat) (hs : s.size ≤ 65535) (w : World) :
    Calls Tryz.prog 96 #[.string (s.extract k s.size)] w fun e w' => e = .returned (.bool (wholeB s k)) ∧ w = w' := by
  have hsz : (s.extract k s.size).size = s.size - k := by simp [ByteArray.size_extract]
  have hd : (s.extract k s.size).data.toList = s.data.toList.drop k := by
    rw [Lib.extract_data]; simp [← ByteArray.size_data, List.take_of_length_le]
  by_cases h3 : 3 ≤ s.size - k
  · have hfin : Hid (((((s.extract k s.size).extract 0 3).toList == [239, 191, 189]) : Bool) = wholeB s k) := by
      show _ = _
      unfold wholeB fffd
      rw [Lib.toList_data, Lib.extract_data, hd]
      simp
    clear hd
    go_enter Tryz.func96, Tryz.ntmps96
    go_wp2
    go_ret
    refine ⟨?_, rfl⟩
    rw [← hfin.out]; rfl
  · have hfin : Hid (wholeB s k = false) := by
      show _ = _
      unfold wholeB fffd
      have hl : (s.data.toList.drop k).length < 3 := by rw [List.length_drop, Array.length_toList, ByteArray.size_data]; omega
      cases hx : (s.data.toList.drop k).take 3 == [239, 191, 189]
      · rfl
      · have := congrArg List.length (eq_of_beq hx)
        rw [List.length_take] at this
        simp only [List.length_cons, List.length_nil] at this
        omega
    have h3' : ¬ (3 : Int) ≤ ((s.size - k : Nat) : Int) := by omega
    clear hd
    go_enter Tryz.func96, Tryz.ntmps96
    go_wp2
    go_ret
    refine ⟨?_, rfl⟩
    rw [hfin.out]; rfl

/-- What Bad returns. -/
def badInt (s : ByteArray) : Int := match badAt s 0 with | some k => k | none => -1

set_option maxHeartbeats 1000000 in
theorem bad_walk (s : ByteArray) (hs : s.size ≤ 65535) (w : World) :
    Calls Tryz.prog 76 #[.string s] w fun e w' => e = .returned (.int .i64 (badInt s)) ∧ ∃ o, w' = w.alloc o := by
  go_enter Tryz.func76, Tryz.ntmps76
  go_wp2
  go_loopw [3] (fun _ wr => ∃ p, wr = w.iter s p ∧ badAt s 0 = badAt s p) (fun _ wr => s.size - wr.iterPos w.heap.size)
  case atStart => exact ⟨0, rfl, rfl⟩
  case round =>
    obtain ⟨p, rfl, hp⟩ := hrel
    have hpp := Lib.hid hp
    clear hp
    by_cases hlt : p < s.size
    · have hn := fun ty => run_next_any (P := Tryz.prog) w s p ty hlt
      have hw := whole_walk s p hs
      have hdl := decode_le s p
      have hd1 := decode_pos s p
      have hb : Hid (badB s p = ((Utf8.decode s p).1 == 0 || ((Utf8.decode s p).1 == 65533 && !wholeB s p))) := rfl
      have hnx := fun h => badAt_next (s := s) (k := p) hlt h
      have hbd := fun h => badAt_bad (s := s) (k := p) hlt h
      have hnx := Lib.hid hnx
      have hbd := Lib.hid hbd
      generalize (Utf8.decode s p).1 = c at *
      generalize (Utf8.decode s p).2 = wd at *
      have hlast : Hid (badB s p = true → badInt s = p) := fun h => by
        unfold badInt; rw [hpp.out, hbd.out h]
      by_cases c0 : c = 0
      · subst c0
        go_wp2_with fail
        go_ret
        exact ⟨ret_int (hlast.out (by rw [hb.out]; rfl)).symm, _, rfl⟩
      · by_cases cf : c = 65533
        · subst cf
          have hq : (((65533 : Nat) : Int) == 0) = false := rfl
          have hw1 := hw (w.iter s (p + wd))
          have hwb : Hid (badB s p = !wholeB s p) := by show _ = _; rw [hb.out]; rfl
          cases hwq : wholeB s p
          · rw [hwq] at hw1 hwb
            clear hwq hb
            go_wp2_with (go_at_call 96; refine hw1.mono ?_; rintro e w' ⟨rfl, rfl⟩)
            go_ret
            exact ⟨ret_int (hlast.out hwb.out).symm, _, rfl⟩
          · rw [hwq] at hw1 hwb
            clear hwq hb
            go_wp2_with (go_at_call 96; refine hw1.mono ?_; rintro e w' ⟨rfl, rfl⟩)
            go_roundw
            case rel => exact ⟨p + wd, rfl, by rw [hpp.out, hnx.out hwb.out]⟩
            case measure => simp; omega
        · have hq : ((c : Int) == 0) = false := beq_eq_false_iff_ne.2 (by omega)
          have hq2 : ((c : Int) == 65533) = false := beq_eq_false_iff_ne.2 (by omega)
          have hbf : Hid (badB s p = false) := by show _ = _; rw [hb.out]; simp [c0, cf]
          clear hb
          go_wp2_with fail
          go_roundw
          case rel => exact ⟨p + wd, rfl, by rw [hpp.out, hnx.out hbf.out]⟩
          case measure => simp; omega
    · have hn := fun ty => run_next_end (P := Tryz.prog) w s p ty hlt
      have hlast : Hid (badInt s = -1) := by show _ = _; unfold badInt; rw [hpp.out, badAt_end hlt]
      go_wp2_with fail
      go_ret
      exact ⟨ret_int hlast.out.symm, _, rfl⟩

theorem badInt_none {s : ByteArray} : (badInt s == -1) = (badAt s 0).isNone := by
  unfold badInt
  cases badAt s 0 with
  | none => rfl
  | some k => simp only [Option.isNone_some, beq_eq_false_iff_ne]; omega

theorem valid_walk (s : ByteArray) (hs : s.size ≤ 9223372036854775807) (w : World) :
    Calls Tryz.prog 60 #[.string s] w fun e w' => e = .returned (.bool (usOk s)) ∧ Fr (fun _ => False) w w' := by
  by_cases h : s.size ≤ 65535
  · have hb := bad_walk s h w
    have hfin : Hid (usOk s = (badInt s == -1)) := by show _ = _; rw [badInt_none]; simp [usOk, h, badIn, badAt]
    generalize badInt s = b at *
    go_enter Tryz.func60, Tryz.ntmps60
    go_wp2_with (go_at_call 76; refine hb.mono ?_; rintro e w' ⟨rfl, o, rfl⟩)
    go_ret
    exact ⟨ret_bool hfin.out.symm, Fr.alloc _ _ _⟩
  · have hfin : Hid (usOk s = false) := by show _ = _; simp [usOk, h]
    have h' : ¬ (s.size : Int) ≤ 65535 := by omega
    go_enter Tryz.func60, Tryz.ntmps60
    go_wp2
    go_ret
    exact ⟨ret_bool hfin.out.symm, Fr.refl _ _⟩

theorem text_walk (s : ByteArray) (hs : s.size ≤ 9223372036854775807) (w : World) :
    Calls Tryz.prog 46 #[.string s] w fun e w' => e = .returned (.bool (decide (0 < s.size) && usOk s)) ∧ Fr (fun _ => False) w w' := by
  have hv := valid_walk s hs w
  by_cases h : s.size = 0
  · have he : s.toList.isEmpty = true := by rw [Lib.toList_data]; simpa [← ByteArray.size_data] using h
    have hfin : Hid ((decide (0 < s.size) && usOk s) = false) := by show _ = _; simp [h]
    clear h
    go_enter Tryz.func46, Tryz.ntmps46
    go_wp2
    go_ret
    exact ⟨ret_bool hfin.out.symm, Fr.refl _ _⟩
  · have he : s.toList.isEmpty = false := by
      rw [Lib.toList_data]
      cases hx : s.data.toList with
      | nil => exact absurd (by rw [Lib.size_eq, hx]; rfl) h
      | cons _ _ => rfl
    have hfin : Hid ((decide (0 < s.size) && usOk s) = usOk s) := by show _ = _; simp; omega
    clear h
    generalize usOk s = b at *
    go_enter Tryz.func46, Tryz.ntmps46
    go_wp2_with (go_at_call 60; refine hv.mono ?_; rintro e w' ⟨rfl, fr⟩)
    go_ret
    exact ⟨ret_bool hfin.out.symm, fr⟩

end Go.Proofs.YtfgnipcegnoagaaGreat
