/- polyglotkit.Same, at topics and at strings. -/
import Derived.Test.YtfgnipcegnoagaaGreatSpec
namespace Go.Proofs.YtfgnipcegnoagaaGreat
open Go.RowKit Go.MapKept

theorem top_eq2 {t s : Top} : (t.id == s.id && (t.name.toList == s.name.toList && t.fixed == s.fixed)) = true ↔ t = s := by
  rcases t with ⟨i1, n1, f1⟩
  rcases s with ⟨i2, n2, f2⟩
  simp only [Bool.and_eq_true, beq_iff_eq, Top.mk.injEq]
  constructor
  · rintro ⟨h1, h2, h3⟩
    rw [ByteArray.toList_eq, ByteArray.toList_eq] at h2
    exact ⟨h1, ByteArray.ext (Array.toList_inj.1 h2), h3⟩
  · rintro ⟨rfl, rfl, rfl⟩
    exact ⟨rfl, rfl, rfl⟩

set_option maxRecDepth 100000 in
set_option maxHeartbeats 1000000 in
theorem sameT_walk (w : World) (v1 v2 : Value) (l1 l2 : List Top) (h1 : RowT w v1 l1) (h2 : RowT w v2 l2) (hn : l1.length ≤ 1000000) :
    Calls Tryz.prog 21 #[v1, v2] w fun e w' => e = .returned (.bool (decide (l1 = l2))) ∧ Fr (fun _ => False) w w' := by
  obtain ⟨a1, c1, e1⟩ : ∃ a c, v1 = .slice a l1.length c := by
    rcases h1 with ⟨h, h'⟩ | ⟨g, cap, h, _⟩
    · exact ⟨none, 0, by rw [h, h']; rfl⟩
    · exact ⟨_, _, h⟩
  obtain ⟨a2, c2, e2⟩ : ∃ a c, v2 = .slice a l2.length c := by
    rcases h2 with ⟨h, h'⟩ | ⟨g, cap, h, _⟩
    · exact ⟨none, 0, by rw [h, h']; rfl⟩
    · exact ⟨_, _, h⟩
  subst e1 e2
  by_cases hlen : l1.length = l2.length
  · have hq : ∀ (w' : World) (i : Nat) (t1 t2 : Top), l1[i]? = some t1 → l2[i]? = some t2 → Fr (fun _ => False) w w' → ∃ g1 g2, a1 = some ⟨g1, 0, none⟩ ∧ a2 = some ⟨g2, 0, none⟩ ∧ w'.cell? ⟨g1, i * 3, none⟩ = some (.int .i64 t1.id) ∧ w'.cell? ⟨g1, i * 3 + 1, none⟩ = some (.string t1.name) ∧ w'.cell? ⟨g1, i * 3 + 2, none⟩ = some (.bool t1.fixed) ∧
        w'.cell? ⟨g2, i * 3, none⟩ = some (.int .i64 t2.id) ∧ w'.cell? ⟨g2, i * 3 + 1, none⟩ = some (.string t2.name) ∧ w'.cell? ⟨g2, i * 3 + 2, none⟩ = some (.bool t2.fixed) := by
      intro w' i t1 t2 hi1 hi2 hf
      have k1 := h1.kept hf (fun _ _ h => h)
      have k2 := h2.kept hf (fun _ _ h => h)
      rcases k1 with ⟨h, h'⟩ | ⟨g1, cap1, e1, _, _, q1⟩
      · rw [h'] at hi1; cases hi1
      · rcases k2 with ⟨h, h'⟩ | ⟨g2, cap2, e2, _, _, q2⟩
        · rw [h'] at hi2; cases hi2
        · cases e1
          cases e2
          obtain ⟨x1, x2, x3⟩ := q1 i t1 hi1
          obtain ⟨y1, y2, y3⟩ := q2 i t2 hi2
          exact ⟨g1, g2, rfl, rfl, x1, x2, x3, y1, y2, y3⟩
    have hi : (l1.length : Int) = (l2.length : Int) := by omega
    have Hq := Lib.hid hq
    have HL := Lib.hid hlen
    clear h1 h2 hq
    go_enter Tryz.func21, Tryz.ntmps21
    go_wp2
    go_loopw [5] (fun s wr => ∃ (i : Nat), s = .int .i64 i ∧ i ≤ l1.length ∧ (∀ k, k < i → l1[k]? = l2[k]?) ∧ Fr (fun _ => False) w wr) (fun s _ => l1.length - (intOf s).toNat)
    case atStart => exact ⟨0, rfl, Nat.zero_le _, fun k h => absurd h (by omega), Fr.refl _ _⟩
    case round =>
      obtain ⟨i, rfl, hil, hpre, hfr⟩ := hrel
      have Hpre := Lib.hid hpre
      clear hpre
      by_cases hlt : i < l1.length
      · have hlt2 : (i : Int) < (l1.length : Int) := by omega
        have hlt3 : i < l2.length := by omega
        have ht1 : l1[i]? = some l1[i] := List.getElem?_eq_getElem hlt
        have ht2 : l2[i]? = some l2[i] := List.getElem?_eq_getElem hlt3
        generalize l1[i] = t1 at ht1
        generalize l2[i] = t2 at ht2
        obtain ⟨g1, g2, rfl, rfl, x1, x2, x3, y1, y2, y3⟩ := Hq.out wr i t1 t2 ht1 ht2 hfr
        have Ht1 := Lib.hid ht1
        have Ht2 := Lib.hid ht2
        have hneq := run_neq_top t1.id t2.id t1.name t2.name t1.fixed t2.fixed
        rw [show (t1.id == t2.id && (t1.name.toList == t2.name.toList && t1.fixed == t2.fixed)) = decide (t1 = t2) from Bool.eq_iff_iff.2 (by rw [top_eq2, decide_eq_true_iff])] at hneq
        clear ht1 ht2
        by_cases ht : t1 = t2
        · rw [decide_eq_true ht] at hneq
          simp only [Bool.not_true] at hneq
          go_upto_region 6 with fail
          go_quiet (fail)
          go_wp2_with fail
          go_roundw
          case rel =>
            refine ⟨i + 1, rfl, by omega, fun k hk => ?_, hfr.trans (Fr.drewN (fun _ => False) _ _) (fun _ _ h => h)⟩
            by_cases e : k = i
            · rw [e, Ht1.out, Ht2.out, ht]
            · exact Hpre.out k (by omega)
          case measure =>
            simp only [intOf]
            omega
        · rw [decide_eq_false ht] at hneq
          simp only [Bool.not_false] at hneq
          have hd : decide (l1 = l2) = false := decide_eq_false (fun e => ht (by have := Ht1.out; rw [e, Ht2.out] at this; exact (Option.some.inj this).symm))
          have hd := Lib.hid hd
          have Ht := Lib.hid ht
          clear ht
          go_upto_region 6 with fail
          go_quiet (fail)
          go_wp2_with fail
          go_ret
          exact ⟨by first | rfl | (rw [hd.out]; rfl), hfr.trans (Fr.drewN (fun _ => False) _ _) (fun _ _ h => h)⟩
      · have hie : ¬ (i : Int) < (l1.length : Int) := by omega
        have hd : decide (l1 = l2) = true := decide_eq_true (List.ext_getElem? fun k => by
          by_cases hk : k < l1.length
          · exact Hpre.out k (by omega)
          · rw [List.getElem?_eq_none (by omega), List.getElem?_eq_none (by omega)])
        have hd := Lib.hid hd
        go_wp2
        go_ret
        exact ⟨by first | rfl | (rw [hd.out]; rfl), hfr⟩
  · have hd : decide (l1 = l2) = false := decide_eq_false (fun e => hlen (by rw [e]))
    rw [hd]
    have hi : ¬ (l1.length : Int) = (l2.length : Int) := by omega
    clear h1 h2
    go_enter Tryz.func21, Tryz.ntmps21
    go_wp2
    go_ret
    exact ⟨rfl, Fr.refl _ _⟩

theorem beq_toList (a b : ByteArray) : (a.toList == b.toList) = decide (a = b) := Bool.eq_iff_iff.2 (by
  rw [beq_iff_eq, decide_eq_true_iff, ByteArray.toList_eq, ByteArray.toList_eq]
  exact ⟨fun h => ByteArray.ext (Array.toList_inj.1 h), fun h => by rw [h]⟩)
set_option maxRecDepth 100000 in
set_option maxHeartbeats 1000000 in
theorem sameS_walk (w : World) (v1 v2 : Value) (l1 l2 : List ByteArray) (h1 : RowS w v1 l1) (h2 : RowS w v2 l2) (hn : l1.length ≤ 1000000) :
    Calls Tryz.prog 24 #[v1, v2] w fun e w' => e = .returned (.bool (decide (l1 = l2))) ∧ Fr (fun _ => False) w w' := by
  obtain ⟨a1, c1, e1⟩ : ∃ a c, v1 = .slice a l1.length c := by
    rcases h1 with ⟨h, h'⟩ | ⟨g, cap, h, _⟩
    · exact ⟨none, 0, by rw [h, h']; rfl⟩
    · exact ⟨_, _, h⟩
  obtain ⟨a2, c2, e2⟩ : ∃ a c, v2 = .slice a l2.length c := by
    rcases h2 with ⟨h, h'⟩ | ⟨g, cap, h, _⟩
    · exact ⟨none, 0, by rw [h, h']; rfl⟩
    · exact ⟨_, _, h⟩
  subst e1 e2
  by_cases hlen : l1.length = l2.length
  · have hq : ∀ (w' : World) (i : Nat) (t1 t2 : ByteArray), l1[i]? = some t1 → l2[i]? = some t2 → Fr (fun _ => False) w w' → ∃ g1 g2, a1 = some ⟨g1, 0, none⟩ ∧ a2 = some ⟨g2, 0, none⟩ ∧ w'.cell? ⟨g1, i, none⟩ = some (.string t1) ∧ w'.cell? ⟨g2, i, none⟩ = some (.string t2) := by
      intro w' i t1 t2 hi1 hi2 hf
      have k1 := h1.kept hf (fun _ _ h => h)
      have k2 := h2.kept hf (fun _ _ h => h)
      rcases k1 with ⟨h, h'⟩ | ⟨g1, cap1, e1, _, _, q1⟩
      · rw [h'] at hi1; cases hi1
      · rcases k2 with ⟨h, h'⟩ | ⟨g2, cap2, e2, _, _, q2⟩
        · rw [h'] at hi2; cases hi2
        · cases e1
          cases e2
          exact ⟨g1, g2, rfl, rfl, q1 i t1 hi1, q2 i t2 hi2⟩
    have hi : (l1.length : Int) = (l2.length : Int) := by omega
    have Hq := Lib.hid hq
    have HL := Lib.hid hlen
    clear h1 h2 hq
    go_enter Tryz.func24, Tryz.ntmps24
    go_wp2
    go_loopw [5] (fun s wr => ∃ (i : Nat), s = .int .i64 i ∧ i ≤ l1.length ∧ (∀ k, k < i → l1[k]? = l2[k]?) ∧ Fr (fun _ => False) w wr) (fun s _ => l1.length - (intOf s).toNat)
    case atStart => exact ⟨0, rfl, Nat.zero_le _, fun k h => absurd h (by omega), Fr.refl _ _⟩
    case round =>
      obtain ⟨i, rfl, hil, hpre, hfr⟩ := hrel
      have Hpre := Lib.hid hpre
      clear hpre
      by_cases hlt : i < l1.length
      · have hlt2 : (i : Int) < (l1.length : Int) := by omega
        have hlt3 : i < l2.length := by omega
        have ht1 : l1[i]? = some l1[i] := List.getElem?_eq_getElem hlt
        have ht2 : l2[i]? = some l2[i] := List.getElem?_eq_getElem hlt3
        generalize l1[i] = t1 at ht1
        generalize l2[i] = t2 at ht2
        obtain ⟨g1, g2, rfl, rfl, x1, y1⟩ := Hq.out wr i t1 t2 ht1 ht2 hfr
        have Ht1 := Lib.hid ht1
        have Ht2 := Lib.hid ht2
        have hneq := beq_toList t1 t2
        clear ht1 ht2
        by_cases ht : t1 = t2
        · rw [decide_eq_true ht] at hneq
          go_upto_region 6 with fail
          go_quiet (fail)
          go_wp2_with fail
          go_roundw
          case rel =>
            refine ⟨i + 1, rfl, by omega, fun k hk => ?_, hfr.trans (Fr.drewN (fun _ => False) _ _) (fun _ _ h => h)⟩
            by_cases e : k = i
            · rw [e, Ht1.out, Ht2.out, ht]
            · exact Hpre.out k (by omega)
          case measure =>
            simp only [intOf]
            omega
        · rw [decide_eq_false ht] at hneq
          have hd : decide (l1 = l2) = false := decide_eq_false (fun e => ht (by have := Ht1.out; rw [e, Ht2.out] at this; exact (Option.some.inj this).symm))
          have hd := Lib.hid hd
          have Ht := Lib.hid ht
          clear ht
          go_upto_region 6 with fail
          go_quiet (fail)
          go_wp2_with fail
          go_ret
          exact ⟨by first | rfl | (rw [hd.out]; rfl), hfr.trans (Fr.drewN (fun _ => False) _ _) (fun _ _ h => h)⟩
      · have hie : ¬ (i : Int) < (l1.length : Int) := by omega
        have hd : decide (l1 = l2) = true := decide_eq_true (List.ext_getElem? fun k => by
          by_cases hk : k < l1.length
          · exact Hpre.out k (by omega)
          · rw [List.getElem?_eq_none (by omega), List.getElem?_eq_none (by omega)])
        have hd := Lib.hid hd
        go_wp2
        go_ret
        exact ⟨by first | rfl | (rw [hd.out]; rfl), hfr⟩
  · have hd : decide (l1 = l2) = false := decide_eq_false (fun e => hlen (by rw [e]))
    rw [hd]
    have hi : ¬ (l1.length : Int) = (l2.length : Int) := by omega
    clear h1 h2
    go_enter Tryz.func24, Tryz.ntmps24
    go_wp2
    go_ret
    exact ⟨rfl, Fr.refl _ _⟩
end Go.Proofs.YtfgnipcegnoagaaGreat
