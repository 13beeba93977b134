/- strings.IndexRune at a rune beyond ASCII, as walked. -/
import Derived.Test.YtfgnipcegnoagaaGreatW6
import Derived.Test.YtfgnipcegnoagaaGreatShelf
namespace Go.Proofs.YtfgnipcegnoagaaGreat
open Go.RowKit Go.MapKept

def wildV : ByteArray := ⟨#[43, 35]⟩

set_option maxRecDepth 100000 in
set_option maxHeartbeats 4000000 in
/-- 'strings.IndexRune("+#", r)' at a code point beyond ASCII: there is none. -/
theorem indexRune_high (c : Nat) (w : World) (h1 : 128 ≤ c) (hv : Utf8.valid c = true) :
    Calls Tryz.prog 77 #[.string ⟨#[43, 35]⟩, .int .i32 c] w fun e w' => e = .returned (.int .i64 (-1)) ∧ Fr (fun _ => False) w w' := by
  have hc3 : (c : Int) ≤ 1114111 := by
    simp only [Utf8.valid] at hv
    simp at hv; omega
  by_cases hf : c = 65533
  · subst hf
    go_enter Tryz.func77, Tryz.ntmps77
    go_wp2_with fail
    have n0 := fun ty => run_next_ascii (P := Tryz.prog) w ⟨#[43, 35]⟩ 0 ty (by decide) (by decide)
    have n1 := fun ty => run_next_ascii (P := Tryz.prog) w ⟨#[43, 35]⟩ 1 ty (by decide) (by decide)
    have n2 := fun ty => run_next_end (P := Tryz.prog) w ⟨#[43, 35]⟩ 2 ty (by decide)
    have q0 : ((((⟨#[43, 35]⟩ : ByteArray)[0]).toNat : Int) == 65533) = false := by decide
    have q1 : ((((⟨#[43, 35]⟩ : ByteArray)[1]).toNat : Int) == 65533) = false := by decide
    go_loopw [5] (fun _ wr => ∃ p, p ≤ 2 ∧ wr = w.iter ⟨#[43, 35]⟩ p) (fun _ wr => 2 - wr.iterPos w.heap.size)
    case atStart => exact ⟨0, by omega, rfl⟩
    case round =>
      obtain ⟨p, hp, rfl⟩ := hrel
      obtain rfl | rfl | rfl : p = 0 ∨ p = 1 ∨ p = 2 := by omega
      · go_wp2_with fail
        go_roundw
        case rel => exact ⟨1, by omega, rfl⟩
        case measure => simp
      · go_wp2_with fail
        go_roundw
        case rel => exact ⟨2, by omega, rfl⟩
        case measure => simp
      · go_wp2_with fail
        go_ret
        exact ⟨rfl, Fr.alloc _ _ _⟩
  · have hf2 : ((c : Int) == 65533) = false := beq_eq_false_iff_ne.2 (by omega)
    have hvr : Lib.validRune c = true := by
      simp only [Utf8.valid] at hv
      simp at hv
      unfold Lib.validRune
      simp; omega
    have hval := Tryz.utf8_ValidRune c w
    rw [hvr] at hval
    obtain ⟨e1, e2, e3⟩ := encode_facts c hv (by omega)
    have Henc : Hid (∃ rs, Utf8.encode (c : Int) = rs ∧ 2 ≤ rs.size ∧ rs.size ≤ 4 ∧ ∀ h : rs.size - 1 < rs.size, 128 ≤ (rs[rs.size - 1]'h).toNat) := ⟨_, rfl, e1, e2, e3⟩
    clear hvr hv e1 e2 e3
    go_enter Tryz.func77, Tryz.ntmps77
    go_upto_region 1 with (go_at_call 98; refine hval.mono ?_; rintro e w' ⟨rfl, hw'⟩; rw [hw']; clear hw')
    go_step3
    go_upto_region 2 with fail
    obtain ⟨rs, hrs, e1, e2, e3⟩ := Henc.out
    rw [hrs]
    have e3 := Lib.hid (e3 (by omega))
    clear Henc hrs
    by_cases h3 : 3 ≤ rs.size
    · go_wp2_with fail
      refine wp_loop_once ?_
      go_wp2_with fail
      rw [Exit.noGoto_ret]
      go_ret
      exact ⟨rfl, Fr.refl _ _⟩
    · obtain hz : rs.size = 2 := by omega
      obtain ⟨a, b, rfl⟩ : ∃ a b, rs = ⟨#[a, b]⟩ := by
        obtain ⟨⟨l⟩⟩ := rs
        match l, hz with
        | [a, b], _ => exact ⟨a, b, rfl⟩
      have hb : Hid (128 ≤ b.toNat) := e3.out
      have hb2 : 128 ≤ b.toNat := hb
      have hne : ∀ h1 h2, ((((⟨#[43, 35]⟩ : ByteArray)[1]'h1).toNat : Int) != (((⟨#[a, b]⟩ : ByteArray)[1]'h2).toNat : Int)) = true := fun h1 h2 => by
        show ((35 : Int) != (b.toNat : Int)) = true
        rw [bne_iff_ne]; omega
      have hIB : ∀ W k, Calls Tryz.prog 97 #[.string ByteArray.empty, .int .u8 k] W fun e w' => e = .returned (.int .i64 (-1)) ∧ w' = W := fun W k => Tryz.strings_IndexByte _ _ W
      clear hz e1 e2 e3 h3
      go_wp2_with fail
      refine wp_loop_once ?_
      go_wp2_with fail
      go_step3
      go_wp2_with fail
      go_quiet (fail)
      go_wp2_with fail
      have hw2 : IntKind.i64.wrap 2 = 2 := by decide
      have hfr1 : Fr (fun _ => False) w (w.drewN nq) := Fr.drewN _ _ _
      generalize w.drewN nq = w1 at hfr1 ⊢
      go_quiet ((go_at_call 97; exact Calls.quiet_of_same (hIB _ _)))
      go_wp2_with fail
      rw [Exit.noGoto_ret]
      simp only [Exit.inBlock, Exit.then]
      change Exit.noGoto _ Exit.ret _ _
      rw [Exit.noGoto_ret]
      simp only [Exit.inBlock, Exit.then]
      rw [Exit.noGoto_ret]
      go_ret
      exact ⟨rfl, hfr1.trans (Fr.drewN (fun _ => False) _ _) (fun _ _ h => h)⟩

end Go.Proofs.YtfgnipcegnoagaaGreat
