/- The reference registry: Register, Predefine. -/
import Derived.Test.YtfgnipcegnoagaaGreatRr7
namespace Go.Proofs.YtfgnipcegnoagaaGreat
open Go.RowKit Go.MapKept

/-- The least free id, not to be reckoned. -/
@[irreducible] def lfO (l : List Top) : Int := lf 65534 1 l
theorem lfO_eq (l : List Top) : lfO l = lf 65534 1 l := by unfold lfO; rfl
/-- What Register answers, over topics by rising ids. -/
def rregF (l : List Top) (n : ByteArray) : RegOut :=
  if nameOk n = true then
    match byName l n with
    | some t => ⟨t.id, false, 0, l⟩
    | none => ⟨lfO l, true, 0, ins l ⟨lfO l, n, false⟩⟩
  else ⟨0, false, 10, l⟩
def RRegEnd (w : World) (S : Rr) (c n : ByteArray) (e : Ending) (w' : World) : Prop :=
  e = .returned (.tuple #[.int .i64 (rregF (S.get c) n).id, .bool (rregF (S.get c) n).fresh, .int .i64 (rregF (S.get c) n).er]) ∧ ∃ S', NxtR w w' S S' c (rregF (S.get c) n).tops

set_option maxRecDepth 100000 in
set_option maxHeartbeats 2000000 in
theorem rregister_walk (w : World) (S : Rr) (c n : ByteArray) (h : RrOk w S) (hpw : (S.get c).Pairwise (fun a b => a.id < b.id)) (hn : n.size ≤ 9223372036854775807) :
    Calls Tryz.prog 14 #[ptrV S.ob, .string c, .string n] w (RRegEnd w S c n) := by
  have hn4 := name4_walk n w hn
  have ht := h.topics c
  have hl := h.len c
  have hset := fun (w1 : World) (lv : Value) (l : List Top) (hf : Fr (fun _ => False) w w1) (hr : RowT w1 lv l) (hk : ∀ k, lv.ownBlock = some k → w.heap.size ≤ k) => rset_to (c := c) h hf hr hk
  have hsame := fun (w1 : World) (hf : Fr (fun _ => False) w w1) => NxtR.same h.at' hf c
  have Hset := Lib.hid hset
  have Hsame := Lib.hid hsame
  have hend : ∀ e w', (e = .returned (.tuple #[.int .i64 (rregF (S.get c) n).id, .bool (rregF (S.get c) n).fresh, .int .i64 (rregF (S.get c) n).er]) ∧ ∃ S', NxtR w w' S S' c (rregF (S.get c) n).tops) → RRegEnd w S c n e w' := fun _ _ h => h
  have Hend := Lib.hid hend
  obtain ⟨l, hgl⟩ : ∃ l, l = S.get c := ⟨_, rfl⟩
  have Hgl := Lib.hid hgl
  rw [← hgl] at ht hl hpw
  have Hpw := Lib.hid hpw
  clear h hset hsame hgl hpw hend
  cases hok : nameOk n with
  | false =>
    have Hok := Lib.hid hok
    rw [hok] at hn4
    clear hok ht
    unfold ptrV at *
    go_enter Tryz.func14, Tryz.ntmps14
    go_wp2_with (go_at_call 34; refine hn4.mono ?_; rintro e w' ⟨rfl, rfl⟩)
    refine bodyPost_ret (v := .tuple #[.int .i64 0, .bool false, .int .i64 10]) (by simp [results, Tryz.results14, go_sem]) rfl (Hend.out _ _ ?_)
    have e : rregF (S.get c) n = ⟨0, false, 10, S.get c⟩ := by unfold rregF; rw [if_neg (by rw [Hok.out]; simp)]
    rw [e]
    exact ⟨rfl, S, Hsame.out _ (Fr.refl _ _)⟩
  | true =>
    have Hok := Lib.hid hok
    rw [hok] at hn4
    clear hok
    unfold ptrV at *
    go_enter Tryz.func14, Tryz.ntmps14
    go_upto_region 3 with (go_at_call 34; refine hn4.mono ?_; rintro e w' ⟨rfl, rfl⟩)
    go_wp2_with fail
    refine ht.mono ?_
    rintro e w1 ⟨v, rfl, hr, hf, _⟩
    obtain ⟨p, cap, rfl⟩ := hr.shape
    have Hr := Lib.hid hr
    have Hf := Lib.hid hf
    clear ht hr hf hn4
    go_wp2_with fail
    go_loopg [10, 11] l.length (fun gk fv s wr => ∃ (i : Nat) (f : Int), s = .int .i64 i ∧ fv = .int .i64 f ∧ i ≤ l.length ∧ gk = l.length - i ∧ FreeAt l i f ∧ (∀ k y, k < i → l[k]? = some y → decide (y.name = n) = false) ∧ wr = w1)
    case atStart => exact ⟨0, 1, rfl, rfl, Nat.zero_le _, rfl, FreeAt.zero _, fun k y h => absurd h (by omega), rfl⟩
    case round =>
      obtain ⟨i, f, rfl, rfl, hil, hgk, hfa, hpre, rfl⟩ := hrel
      have hq1 := hfa.pos
      have hq2 : f ≤ 1000 := by have := hfa.le; omega
      have Hgk := Lib.hid hgk
      have Hfa := Lib.hid hfa
      have Hpre := Lib.hid hpre
      clear hgk hfa hpre
      by_cases hlt : i < l.length
      · have hlt2 : (i : Int) < (l.length : Int) := by omega
        have hx : l[i]? = some l[i] := List.getElem?_eq_getElem hlt
        generalize l[i] = x at hx
        obtain ⟨g, rfl, x1, x2, x3⟩ := Hr.out.at hx
        have hmb := beq_toList x.name n
        have Hx := Lib.hid hx
        have hnx := Hfa.out.next hx Hpw.out
        have Hnx := Lib.hid hnx
        clear hx hnx
        by_cases hc : x.name = n
        · rw [decide_eq_true hc] at hmb
          have hfd := Lib.hid (find_first (p := fun t => decide (t.name = n)) Hx.out (decide_eq_true hc) Hpre.out)
          clear hc
          go_wp2_with fail
          refine bodyPost_ret (v := .tuple #[.int .i64 x.id, .bool false, .int .i64 0]) (by simp [results, Tryz.results14, go_sem]) rfl (Hend.out _ _ ?_)
          have e : rregF (S.get c) n = ⟨x.id, false, 0, S.get c⟩ := by unfold rregF byName; rw [if_pos Hok.out, ← Hgl.out, hfd.out]
          rw [e]
          exact ⟨rfl, S, Hsame.out _ Hf.out⟩
        · rw [decide_eq_false hc] at hmb
          have Hp := Lib.hid (decide_eq_false hc)
          have hpre2 : ∀ k y, k < i + 1 → l[k]? = some y → decide (y.name = n) = false := fun k e hk he => by
            by_cases hki : k = i
            · subst hki
              rw [Hx.out] at he
              cases he
              exact Hp.out
            · exact Hpre.out k e (by omega) he
          have Hpre2 := Lib.hid hpre2
          clear hc hpre2
          by_cases htf : x.id = f
          · have htb : (x.id == f) = true := beq_iff_eq.2 htf
            have Htf := Lib.hid htf
            clear htf
            go_wp2_with fail
            go_roundg (l.length - (i + 1))
            case measure => have := Hgk.out; omega
            case rel => exact ⟨i + 1, f + 1, rfl, rfl, by omega, rfl, by have := Hnx.out; rw [if_pos Htf.out] at this; exact this, Hpre2.out, rfl⟩
          · have htb : (x.id == f) = false := beq_eq_false_iff_ne.2 htf
            have Htf := Lib.hid htf
            clear htf
            go_wp2_with fail
            go_roundg (l.length - (i + 1))
            case measure => have := Hgk.out; omega
            case rel => exact ⟨i + 1, f, rfl, rfl, by omega, rfl, by have := Hnx.out; rw [if_neg Htf.out] at this; exact this, Hpre2.out, rfl⟩
      · have hlt2 : ¬ (i : Int) < (l.length : Int) := by omega
        have hil2 : i = l.length := by omega
        subst hil2
        have hlf : lfO l = f := by rw [lfO_eq]; exact Hfa.out.last (List.Perm.refl _) (by omega)
        have Hlf := Lib.hid hlf
        have hno := Lib.hid (find_no (l := l) fun k y hk hy => Hpre.out k y hk hy)
        have hput : Calls Tryz.prog 36 #[.slice p l.length cap, .agg #[.int .i64 f, .string n, .bool false]] wr (PutEnd wr (ins l ⟨f, n, false⟩)) := rput_walk wr _ l ⟨f, n, false⟩ Hr.out (by omega)
        have e : rregF (S.get c) n = ⟨f, true, 0, ins l ⟨f, n, false⟩⟩ := by unfold rregF byName; rw [if_pos Hok.out, ← Hgl.out, hno.out, Hlf.out]
        have He := Lib.hid e
        clear hlf e
        generalize ins l ⟨f, n, false⟩ = l2 at *
        go_wp2_with fail
        refine hput.mono ?_
        rintro e w2 ⟨v2, rfl, hr2, hf2, hk2⟩
        have hcall := Hset.out w2 v2 _ (Hf.out.trans hf2 (fun _ _ h => h)) hr2 (fun k hk => by have := hk2 k hk; have := Hf.out.size; omega)
        clear hput hr2 hf2 hk2
        go_wp2_with fail
        refine hcall.mono ?_
        rintro e w3 ⟨rfl, hS3⟩
        have HS3 := Lib.hid hS3
        clear hS3 hcall
        go_wp2_with fail
        refine bodyPost_ret (v := .tuple #[.int .i64 f, .bool true, .int .i64 0]) (by simp [results, Tryz.results14, go_sem]) rfl (Hend.out _ _ ?_)
        rw [He.out]
        exact ⟨rfl, HS3.out⟩
end Go.Proofs.YtfgnipcegnoagaaGreat
