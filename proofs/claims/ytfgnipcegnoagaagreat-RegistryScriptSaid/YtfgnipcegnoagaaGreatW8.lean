/- strings.IndexAny, ContainsAny at + and #; topic.Name, as walked. -/
import Derived.Test.YtfgnipcegnoagaaGreatW7
import Derived.Lib.OthersKept
namespace Go.Proofs.YtfgnipcegnoagaaGreat
open Go.RowKit Go.MapKept

def wilds : List UInt8 := [43, 35]

theorem noAny_high {s : ByteArray} {p q : Nat} (h : Lib.NoAny s.data.toList wilds p) (hh : ∀ j, p ≤ j → j < q → ∃ h : j < s.size, 128 ≤ (s[j]).toNat) : Lib.NoAny s.data.toList wilds q := fun j b hj hb => by
  by_cases hjp : j < p
  · exact h j b hjp hb
  · obtain ⟨h1, h2⟩ := hh j (by omega) hj
    have e : b = s[j] := by
      rw [Lib.data_getElem? s j h1] at hb
      cases hb; rfl
    unfold wilds
    rw [← e] at h2
    simp only [List.contains_cons, List.contains_nil, Bool.or_false, Bool.or_eq_false_iff, beq_eq_false_iff_ne]
    exact ⟨fun e => by subst e; simp at h2, fun e => by subst e; simp at h2⟩

set_option maxRecDepth 100000 in
set_option maxHeartbeats 4000000 in
/-- 'strings.IndexAny(s, "+#")' at a text of at most eight bytes, ASCII or not. -/
theorem indexAny_short (s : ByteArray) (w : World) (h8 : s.size ≤ 8) :
    Calls Tryz.prog 61 #[.string s, .string ⟨#[43, 35]⟩] w fun e w' => e = .returned (.int .i64 (Lib.indexAny s.data.toList wilds)) ∧ Fr (fun _ => False) w w' := by
  have h8z : decide ((8 : Int) < (s.size : Int)) = false := decide_eq_false (by omega)
  have hsh := Tryz.strings_shouldUseASCIISet (s.size : Int) w
  rw [h8z] at hsh
  go_enter Tryz.func61, Tryz.ntmps61
  go_wp2_with (go_at_call 78; refine hsh.mono ?_; rintro e w' ⟨rfl, hw⟩; rw [hw]; clear hw)
  go_loopw [9] (fun _ wr => ∃ p, wr.heap[w.heap.size]? = some (.stringIter s p) ∧ p ≤ s.size ∧ Lib.NoAny s.data.toList wilds p ∧ Fr (fun _ => False) w wr) (fun _ wr => s.size - wr.iterPos w.heap.size)
  case atStart => exact ⟨0, World.iter_heap w s 0, by omega, Lib.NoAny.zero _ _, Fr.alloc _ _ _⟩
  case round =>
    obtain ⟨p, hit, hp, hno0, hfr⟩ := hrel
    have hno := Lib.hid hno0
    clear hno0
    have hpos : wr.iterPos w.heap.size = p := by simp [World.iterPos, hit]
    by_cases hlt : p < s.size
    · have hn := fun ty => Lib.run_next_any_at (P := Tryz.prog) wr w.heap.size s p ty hit hlt
      have hit2 := Lib.iterAt_heap wr w.heap.size s p (p + (Utf8.decode s p).2) hit
      have hfr2 : Fr (fun _ => False) w (wr.iterAt w.heap.size s (p + (Utf8.decode s p).2)) := by
        refine ⟨hfr.os, hfr.tape, hfr.output, by rw [Lib.iterAt_size]; exact hfr.size, fun k hk hnk => (Lib.iterAt_other wr w.heap.size k s _ (by omega)).trans (hfr.block k hk hnk)⟩
      have hd1 := decode_pos s p
      have hdl := decode_le s p
      by_cases ha : (s[p]).toNat < 128
      · have hd := decode_ascii s p hlt ha
        rw [hd] at hn hit2 hfr2
        have hxl : s.data.toList[p]? = some s[p] := Lib.data_getElem? s p hlt
        generalize s[p] = x at *
        have hir := Tryz.strings_IndexRune_ascii ⟨#[43, 35]⟩ (x.toNat : Int) (wr.iterAt w.heap.size s (p + 1)) (by omega) (by omega)
        have hback : ((x.toNat : Int)).toNat.toUInt8 = x := by simp
        rw [hback] at hir
        have hcon := Lib.contains_iff_indexByte wilds x
        have Hx := Lib.hid hxl
        have hge := Lib.indexByte_ge wilds x
        change Calls _ _ _ _ (fun e w' => e = .returned (.int .i64 (Lib.indexByte wilds x)) ∧ _) at hir
        dsimp only at hn hit2 hfr2
        clear hd hback hxl
        generalize wr.iterAt w.heap.size s (p + 1) = W at *
        generalize hib : Lib.indexByte wilds x = ib at *
        cases hin : wilds.contains x
        · rw [hin] at hcon
          have hlt2 : ¬ ((0 : Int) ≤ ib) := of_decide_eq_false hcon.symm
          have hno2 := Lib.hid (hno.out.succ Hx.out hin)
          clear hcon hib hin
          go_wp2_with (go_at_call 77; refine hir.mono ?_; rintro e w' ⟨rfl, hw⟩; rw [hw]; clear hw)
          go_roundw
          case rel => exact ⟨p + 1, hit2, by omega, hno2.out, hfr2⟩
          case measure =>
            have : W.iterPos w.heap.size = p + 1 := by simp [World.iterPos, hit2]
            rw [this, hpos]; omega
        · rw [hin] at hcon
          have hlt2 : ((0 : Int) ≤ ib) := of_decide_eq_true hcon.symm
          have hfin := Lib.hid (Lib.indexAny_hit hno.out Hx.out hin)
          clear hcon hib hin
          go_wp2_with (go_at_call 77; refine hir.mono ?_; rintro e w' ⟨rfl, hw⟩; rw [hw]; clear hw)
          go_ret
          exact ⟨ret_int hfin.out.symm, hfr2⟩
      · obtain ⟨q1, q2, q3⟩ := decode_high_all s p hlt (by omega)
        have hno2 := Lib.hid (noAny_high hno.out q3)
        have hpl : p + (Utf8.decode s p).2 ≤ s.size := by
          obtain ⟨h, _⟩ := q3 (p + (Utf8.decode s p).2 - 1) (by omega) (by omega)
          omega
        clear q3
        generalize (Utf8.decode s p).1 = c at *
        generalize (Utf8.decode s p).2 = wd at *
        generalize wr.iterAt w.heap.size s (p + wd) = W at *
        have hir := indexRune_high c W q1 q2
        clear q2
        go_wp2_with (go_at_call 77; refine hir.mono ?_; rintro e w' ⟨rfl, fr3⟩)
        go_roundw
        case rel => exact ⟨p + wd, by rw [fr3.block _ (lt_of_heap hit2) (fun h => h)]; exact hit2, hpl, hno2.out, hfr2.trans fr3 (fun _ _ h => h)⟩
        case measure =>
          have : w'.iterPos w.heap.size = p + wd := by simp [World.iterPos, fr3.block _ (lt_of_heap hit2) (fun h => h), hit2]
          rw [this, hpos]; omega
    · have hn := fun ty => Lib.run_next_end_at (P := Tryz.prog) wr w.heap.size s p ty hit hlt
      have hfin : Hid (Lib.indexAny s.data.toList wilds = -1) := Lib.indexAny_none (by
        have : p = s.data.toList.length := by rw [← Lib.size_eq]; omega
        rw [← this]; exact hno.out)
      go_wp2_with fail
      go_ret
      exact ⟨ret_int hfin.out.symm, hfr⟩

def wildB (s : ByteArray) : Bool := Lib.containsAny s.data.toList wilds

theorem containsAny_walk (s : ByteArray) (w : World) (hs : s.size ≤ 65535) :
    Calls Tryz.prog 47 #[.string s, .string ⟨#[43, 35]⟩] w fun e w' => e = .returned (.bool (wildB s)) ∧ Fr (fun _ => False) w w' := by
  have hia : Calls Tryz.prog 61 #[.string s, .string ⟨#[43, 35]⟩] w fun e w' => e = .returned (.int .i64 (Lib.indexAny s.data.toList wilds)) ∧ Fr (fun _ => False) w w' := by
    by_cases h8 : s.size ≤ 8
    · exact indexAny_short s w h8
    · refine (Tryz.strings_IndexAny_long (fun _ => by kernel_rfl) s ⟨#[43, 35]⟩ w (by decide) (by omega) (by omega) (by decide) (fun j b hb => ?_)).mono fun e w' ⟨h1, h2⟩ => ⟨h1, ?_⟩
      · match j, hb with
        | 0, hb => cases hb; decide
        | 1, hb => cases hb; decide
        | n + 2, hb => simp at hb
      · rw [h2]; exact (Fr.alloc _ _ _).trans (Fr.alloc _ _ _) (fun _ _ h => h)
  have hfin : Hid (wildB s = decide (0 ≤ Lib.indexAny s.data.toList wilds)) := rfl
  generalize Lib.indexAny s.data.toList wilds = k at *
  go_enter Tryz.func47, Tryz.ntmps47
  go_wp2_with (go_at_call 61; refine hia.mono ?_; rintro e w' ⟨rfl, fr⟩)
  go_ret
  exact ⟨ret_bool hfin.out.symm, fr⟩

/-- What topic.Name tells. -/
def nameOk (s : ByteArray) : Bool := decide (0 < s.size) && usOk s && !wildB s

theorem topicName_walk (s : ByteArray) (w : World) (hs : s.size ≤ 9223372036854775807) :
    Calls Tryz.prog 29 #[.string s] w fun e w' => e = .returned (.bool (nameOk s)) ∧ Fr (fun _ => False) w w' := by
  have ht := text_walk s hs w
  cases hx : decide (0 < s.size) && usOk s
  · have hfin : Hid (nameOk s = false) := by show _ = _; unfold nameOk; rw [hx]; rfl
    rw [hx] at ht
    clear hx
    go_enter Tryz.func29, Tryz.ntmps29
    go_wp2_with (go_at_call 46; refine ht.mono ?_; rintro e w' ⟨rfl, fr⟩)
    go_ret
    exact ⟨ret_bool hfin.out.symm, fr⟩
  · have hfin : Hid (nameOk s = !wildB s) := by show _ = _; unfold nameOk; rw [hx]; rfl
    have hsz : s.size ≤ 65535 := by
      simp only [usOk, Bool.and_eq_true, decide_eq_true_eq] at hx
      exact hx.2.1
    have hca := fun W => containsAny_walk s W hsz
    rw [hx] at ht
    clear hx
    generalize wildB s = b at *
    go_enter Tryz.func29, Tryz.ntmps29
    go_wp2_with (first | (go_at_call 46; refine ht.mono ?_; rintro e w1 ⟨rfl, fr⟩) | (go_at_call 47; refine (hca _).mono ?_; rintro e w2 ⟨rfl, fr2⟩))
    go_ret
    exact ⟨ret_bool hfin.out.symm, fr.trans fr2 (fun _ _ h => h)⟩

end Go.Proofs.YtfgnipcegnoagaaGreat
