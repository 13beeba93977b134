/- RegistryApart, walked. -/
import Derived.Test.YtfgnipcegnoagaaBoth
namespace Go.Proofs.Ytfgnipcegnoagaa
open Go.RowKit Go.MapKept

theorem RowS.shape {w : World} {v : Value} {l : List ByteArray} (h : RowS w v l) : ∃ p cap, v = .slice p l.length cap := by
  rcases h with ⟨h1, h2⟩ | ⟨b, cap, h1, _⟩
  · exact ⟨none, 0, by rw [h1, h2]; rfl⟩
  · exact ⟨_, cap, h1⟩
theorem RowS.at {w : World} {p : Option Addr} {cap n : Nat} {l : List ByteArray} (h : RowS w (.slice p n cap) l) {i : Nat} {x : ByteArray} (hi : l[i]? = some x) :
    ∃ b, p = some ⟨b, 0, none⟩ ∧ w.cell? ⟨b, i, none⟩ = some (.string x) := by
  rcases h with ⟨h1, h2⟩ | ⟨b, cap', h1, _, _, h2⟩
  · rw [h2] at hi; cases hi
  · cases h1
    exact ⟨b, rfl, h2 i x hi⟩

theorem count_one {l : List ByteArray} {g : ByteArray → List Top} {c : ByteArray} (hn : l.Nodup) (hm : ∀ x, x ∈ l ↔ g x ≠ []) : (l.filter (fun x => decide (x = c))).length = if g c = [] then 0 else 1 := by
  have key : ∀ l : List ByteArray, l.Nodup → (c ∈ l → (l.filter (fun x => decide (x = c))).length = 1) ∧ (c ∉ l → (l.filter (fun x => decide (x = c))).length = 0) := by
    intro l hn
    induction l with
    | nil => exact ⟨nofun, fun _ => rfl⟩
    | cons x l ih =>
      simp only [List.nodup_cons] at hn
      rw [List.filter_cons]
      by_cases e : x = c
      · subst e
        have := (ih hn.2).2 hn.1
        exact ⟨fun _ => by simp [this], fun h => absurd (.head _) h⟩
      · rw [if_neg (by simp [e])]
        refine ⟨fun h => (ih hn.2).1 ?_, fun h => (ih hn.2).2 (fun h2 => h (.tail _ h2))⟩
        cases h with
        | head => exact absurd rfl e
        | tail _ h => exact h
  by_cases h : g c = []
  · rw [if_pos h, (key l hn).2 (fun hc => (hm c).1 hc h)]
  · rw [if_neg h, (key l hn).1 ((hm c).2 h)]

theorem sameT_yes {w : World} {v1 v2 : Value} {l : List Top} (h1 : RowT w v1 l) (h2 : RowT w v2 l) (hn : l.length ≤ 1000000) : Calls Try.prog 18 #[v1, v2] w fun e w' => e = .returned (.bool true) ∧ Fr (fun _ => False) w w' :=
  (sameT_walk w v1 v2 l l h1 h2 hn).mono fun _ _ ⟨he, hf⟩ => ⟨by rw [he, decide_eq_true rfl], hf⟩

/-- The clients that have topics have been named. -/
def Named (g : ByteArray → List Top) (l : List Act) (i : Nat) : Prop := ∀ c, g c ≠ [] → c ∈ (l.take i).map Act.client
theorem Named.next {g g' : ByteArray → List Top} {l : List Act} {i : Nat} {x : Act} {t : List Top} (h : Named g l i) (hx : l[i]? = some x) (hg : ∀ y, g' y = upd g x.client t y) : Named g' l (i + 1) := fun c hc => by
  have htk : l.take (i + 1) = l.take i ++ [x] := by rw [List.take_add_one, hx]; rfl
  rw [htk, List.map_append, List.mem_append]
  by_cases e : c = x.client
  · exact .inr (by simp [e])
  · refine .inl (h c ?_)
    rw [hg c] at hc
    unfold upd at hc
    rwa [if_neg e] at hc

set_option maxRecDepth 100000 in
set_option maxHeartbeats 8000000 in
theorem apart_walk (w : World) (v : Value) (l : List Act) (cl : ByteArray) (h : RowA w v l) (hn : l.length ≤ 9223372036854775807) :
    Calls Try.prog 5 #[v, .string cl] w fun e w' => e = .returned (.bool true) ∧ Fr (fun _ => False) w w' := by
  obtain ⟨p, cap, rfl⟩ := h.shape
  have Hh := Lib.hid h
  have hlv := lives_walk w
  have hlt := fun W (hf : Fr (fun _ => False) w W) => light_walk W _ l (h.kept hf (fun _ _ _ h => h)) hn
  have Hlt := Lib.hid hlt
  clear h hlt
  go_enter Try.func5, Try.ntmps5
  go_wp2_with (go_at_call 7; refine hlv.mono ?_; rintro e w1 ⟨rfl, fr1⟩)
  refine (Hlt.out w1 fr1).mono ?_
  rintro e w1' ⟨b, rfl, hb, rfl⟩
  clear hlv Hlt
  cases b with
  | false =>
    go_wp2_with fail
    go_ret
    exact ⟨rfl, fr1⟩
  | true =>
    have Hb := Lib.hid (hb rfl)
    clear hb
    by_cases hcs : (100 : Int) < (cl.size : Int)
    · go_wp2_with fail
      go_ret
      exact ⟨rfl, fr1⟩
    · go_wp2_with fail
      refine (dis_new w w1 fr1).mono ?_
      rintro e w2 ⟨R, rfl, r1, r2, r3, r4, r5, r6⟩
      go_wp2_with fail
      refine (dis_new w w2 r3).mono ?_
      rintro e w3 ⟨O, rfl, o1, o2, o3, o4, o5, o6⟩
      have hD0 : Dis w w3 R.rb O.rb R O [] := ⟨r1.still o6, o1, rfl, rfl, fun k h1 h2 => by have := o5 k h2; have := r1.at'.lt h1; omega, o3, r4, o4, fun p hp => by cases hp⟩
      have hsame : R.get cl = O.get cl := by rw [r2, o2]
      have hnm : Named R.get l 0 := fun c hc => absurd (r2 c) hc
      generalize R.rb = rb at *
      generalize O.rb = ob at *
      clear r1 r2 r3 r4 r5 r6 o1 o2 o3 o4 o5 o6
      have HD0 := Lib.hid hD0
      have Hs0 := Lib.hid hsame
      have Hn0 := Lib.hid hnm
      clear hD0 hsame hnm fr1
      go_wp2_with fail
      go_loopw [7] (fun s wr => ∃ (i : Nat) (R O : Rg), s = .int .i64 i ∧ i ≤ l.length ∧ Dis w wr rb ob R O [] ∧ R.get cl = O.get cl ∧ Named R.get l i) (fun s _ => l.length - (intOf s).toNat)
      case atStart => exact ⟨0, R, O, rfl, Nat.zero_le _, HD0.out, Hs0.out, Hn0.out⟩
      case round =>
        clear HD0 Hs0 Hn0
        clear R O
        obtain ⟨i, R, O, rfl, hil, hD, hsame, hnm⟩ := hrel
        have Hsame := Lib.hid hsame
        have Hnm := Lib.hid hnm
        clear hsame hnm
        by_cases hlt : i < l.length
        · have hlt2 : (i : Int) < (l.length : Int) := by omega
          have ht : l[i]? = some l[i] := List.getElem?_eq_getElem hlt
          generalize l[i] = x at ht
          have hrow := Hh.out.kept hD.fr (fun _ _ _ h => h)
          obtain ⟨b, off, rfl, x1, x2, x3, x4⟩ := hrow.at ht
          have Ht := Lib.hid ht
          have HD := Lib.hid hD
          clear ht hrow hD
          go_upto_region 10 with fail
          have hD1 := HD.out.alloc (.cells #[.int .i64 x.kind, .string x.client, .string x.name, .int .i64 x.id] 36) (alloc_new _ _)
          generalize wr.alloc (.cells #[.int .i64 x.kind, .string x.client, .string x.name, .int .i64 x.id] 36) = W1 at *
          generalize wr.heap.size = b8 at *
          clear x1 x2 x3 x4 HD
          have c8 := rowC (hD1.prot _ (.head _)).1
          have hpk := fun W => pick_walk x.kind 5 W (by omega) (by omega)
          have hmb := beq_toList x.client cl
          have hsz : x.name.size ≤ 9223372036854775807 := by
            have := (Hb.out.1 x (List.mem_of_getElem? Ht.out)).2
            omega
          have Hsz := Lib.hid hsz
          clear hsz
          -- what a round leaves
          have hnext : ∀ (W : World) (R' O' : Rg) (t : List Top), Dis w W rb ob R' O' [(b8, .cells #[.int .i64 x.kind, .string x.client, .string x.name, .int .i64 x.id] 36)] → R'.get cl = O'.get cl → (∀ y, R'.get y = upd R.get x.client t y) → (∃ (j : Nat) (R O : Rg), Value.int .i64 ((i : Int) + 1) = .int .i64 j ∧ j ≤ l.length ∧ Dis w W rb ob R O [] ∧ R.get cl = O.get cl ∧ Named R.get l j) :=
            fun W R' O' t h1 h2 h3 => ⟨i + 1, R', O', rfl, by omega, h1.less, h2, Hnm.out.next Ht.out h3⟩
          have Hnext := Lib.hid hnext
          clear hnext
          by_cases hmine : x.client = cl
          · rw [decide_eq_true hmine] at hmb
            have Hmine := Lib.hid hmine
            clear hmine
            go_upto_region 12 with (go_at_call 8; refine (hpk _).mono ?_; rintro e w' ⟨rfl, rfl⟩)
            generalize x.kind % 5 = q at *
            by_cases h3 : q = 3
            · subst h3
              go_wp2_with fail
              refine (dis_pre_r hD1 x.client x.name x.id Hsz.out).mono ?_
              rintro e W2 ⟨rfl, R2, hD2, hg2⟩
              have Hg2 := Lib.hid hg2
              clear hg2 c8
              have c8 := rowC (hD2.prot _ (.head _)).1
              go_wp2_with fail
              have D := dis_pre_o hD2 x.client x.name x.id Hsz.out
              have es : O.get x.client = R.get x.client := by rw [Hmine.out]; exact Hsame.out.symm
              rw [es] at D
              refine D.mono ?_
              rintro e W3 ⟨rfl, O3, hD3, hg3⟩
              have Hg3 := Lib.hid hg3
              clear hg3 D es c8
              go_wp2_with fail
              go_roundw
              case rel => exact Hnext.out W3 R2 O3 (preF (R.get x.client) x.name x.id).2 hD3 (by rw [Hg2.out, Hg3.out]; unfold upd; rw [if_pos Hmine.out.symm, if_pos Hmine.out.symm]) Hg2.out
              case measure =>
                simp only [intOf]
                omega
            · by_cases h4 : q = 4
              · subst h4
                go_wp2_with fail
                refine (dis_clear_r hD1 x.client).mono ?_
                rintro e W2 ⟨rfl, R2, hD2, hg2⟩
                have Hg2 := Lib.hid hg2
                clear hg2 c8
                have c8 := rowC (hD2.prot _ (.head _)).1
                go_wp2_with fail
                have D := dis_clear_o hD2 x.client
                have es : O.get x.client = R.get x.client := by rw [Hmine.out]; exact Hsame.out.symm
                rw [es] at D
                refine D.mono ?_
                rintro e W3 ⟨rfl, O3, hD3, hg3⟩
                have Hg3 := Lib.hid hg3
                clear hg3 D es c8
                go_wp2_with fail
                go_roundw
                case rel => exact Hnext.out W3 R2 O3 (clearF (R.get x.client)).2 hD3 (by rw [Hg2.out, Hg3.out]; unfold upd; rw [if_pos Hmine.out.symm, if_pos Hmine.out.symm]) Hg2.out
                case measure =>
                  simp only [intOf]
                  omega
              · have h3' : (q == 3) = false := beq_eq_false_iff_ne.2 h3
                have h4' : (q == 4) = false := beq_eq_false_iff_ne.2 h4
                go_wp2_with fail
                refine (dis_reg_r hD1 x.client x.name Hsz.out).mono ?_
                rintro e W2 ⟨rfl, R2, hD2, hg2⟩
                have Hg2 := Lib.hid hg2
                clear hg2 c8
                have c8 := rowC (hD2.prot _ (.head _)).1
                go_wp2_with fail
                have D := dis_reg_o hD2 x.client x.name Hsz.out
                have es : O.get x.client = R.get x.client := by rw [Hmine.out]; exact Hsame.out.symm
                rw [es] at D
                refine D.mono ?_
                rintro e W3 ⟨rfl, O3, hD3, hg3⟩
                have Hg3 := Lib.hid hg3
                clear hg3 D es c8
                go_wp2_with fail
                go_roundw
                case rel => exact Hnext.out W3 R2 O3 (regF (R.get x.client) x.name).tops hD3 (by rw [Hg2.out, Hg3.out]; unfold upd; rw [if_pos Hmine.out.symm, if_pos Hmine.out.symm]) Hg2.out
                case measure =>
                  simp only [intOf]
                  omega
          · rw [decide_eq_false hmine] at hmb
            have Hmine := Lib.hid hmine
            clear hmine
            go_upto_region 12 with (go_at_call 8; refine (hpk _).mono ?_; rintro e w' ⟨rfl, rfl⟩)
            generalize x.kind % 5 = q at *
            by_cases h3 : q = 3
            · subst h3
              go_wp2_with fail
              refine (dis_pre_r hD1 x.client x.name x.id Hsz.out).mono ?_
              rintro e W2 ⟨rfl, R2, hD2, hg2⟩
              have Hg2 := Lib.hid hg2
              clear hg2 c8
              have c8 := rowC (hD2.prot _ (.head _)).1
              go_wp2_with fail
              go_roundw
              case rel => exact Hnext.out W2 R2 O (preF (R.get x.client) x.name x.id).2 hD2 (by rw [Hg2.out]; unfold upd; rw [if_neg (fun e => Hmine.out e.symm)]; exact Hsame.out) Hg2.out
              case measure =>
                simp only [intOf]
                omega
            · by_cases h4 : q = 4
              · subst h4
                go_wp2_with fail
                refine (dis_clear_r hD1 x.client).mono ?_
                rintro e W2 ⟨rfl, R2, hD2, hg2⟩
                have Hg2 := Lib.hid hg2
                clear hg2 c8
                have c8 := rowC (hD2.prot _ (.head _)).1
                go_wp2_with fail
                go_roundw
                case rel => exact Hnext.out W2 R2 O (clearF (R.get x.client)).2 hD2 (by rw [Hg2.out]; unfold upd; rw [if_neg (fun e => Hmine.out e.symm)]; exact Hsame.out) Hg2.out
                case measure =>
                  simp only [intOf]
                  omega
              · have h3' : (q == 3) = false := beq_eq_false_iff_ne.2 h3
                have h4' : (q == 4) = false := beq_eq_false_iff_ne.2 h4
                go_wp2_with fail
                refine (dis_reg_r hD1 x.client x.name Hsz.out).mono ?_
                rintro e W2 ⟨rfl, R2, hD2, hg2⟩
                have Hg2 := Lib.hid hg2
                clear hg2 c8
                have c8 := rowC (hD2.prot _ (.head _)).1
                go_wp2_with fail
                go_roundw
                case rel => exact Hnext.out W2 R2 O (regF (R.get x.client) x.name).tops hD2 (by rw [Hg2.out]; unfold upd; rw [if_neg (fun e => Hmine.out e.symm)]; exact Hsame.out) Hg2.out
                case measure =>
                  simp only [intOf]
                  omega
        · have hie : ¬ (i : Int) < (l.length : Int) := by omega
          have hil2 : i = l.length := by omega
          subst hil2
          have hcl := clients_to wr R hD.r (l.map Act.client) (fun c hc => by have := Hnm.out c hc; rwa [List.take_length] at this) (by have := Hb.out.2; simp; omega)
          rw [hD.rbe] at hcl
          have HD := Lib.hid hD
          clear hD
          go_wp2_with fail
          refine hcl.mono ?_
          rintro e wc ⟨vc, lc, rfl, hrs, hmem, hnd, hsrt, hfc, hfresh⟩
          have hDc := HD.out.still hfc
          have HDc := Lib.hid hDc
          have Hmem := Lib.hid hmem
          have Hnd := Lib.hid hnd
          have Hsrt := Lib.hid hsrt
          have Hrs := Lib.hid hrs
          clear HD hDc hmem hnd hsrt hfc hfresh hcl
          obtain ⟨pc, cc, rfl⟩ := hrs.shape
          have hlcn : lc.length ≤ 80 := by
            have h1 := nodup_sub_len (ks := l.map Act.client) Hnd.out (fun c hc => by have := Hnm.out c ((Hmem.out c).1 hc); rwa [List.take_length] at this)
            have := Hb.out.2
            simp at h1
            omega
          clear hrs
          go_wp2_with fail
          go_loopw [19, 21] (fun n s wr2 => ∃ (j : Nat), s = .int .i64 j ∧ j ≤ lc.length ∧ n = .int .i64 (((lc.take j).filter (fun c => decide (c = cl))).length : Nat) ∧ Fr (fun _ => False) wc wr2) (fun _ s _ => lc.length - (intOf s).toNat)
          case atStart => exact ⟨0, rfl, Nat.zero_le _, rfl, Fr.refl _ _⟩
          case round =>
            obtain ⟨j, rfl, hjl, rfl, hf2⟩ := hrel
            have hcnt : ((lc.take j).filter (fun c => decide (c = cl))).length ≤ 80 := by
              have h1 := List.length_filter_le (fun c => decide (c = cl)) (lc.take j)
              have h2 : (lc.take j).length ≤ lc.length := by rw [List.length_take]; exact Nat.min_le_right ..
              omega
            have hD2 := HDc.out.still hf2
            by_cases hlt2 : j < lc.length
            · have hlt3 : (j : Int) < (lc.length : Int) := by omega
              have ht : lc[j]? = some lc[j] := List.getElem?_eq_getElem hlt2
              have hrs2 := Hrs.out.kept hf2 (fun _ _ h => h)
              have hbj : ∀ k, j = k + 1 → ∃ y, lc[k]? = some y ∧ Op.bytesLess y.toList lc[j].toList = true := fun k hk => by
                have hkl : k < lc.length := by omega
                exact ⟨lc[k], List.getElem?_eq_getElem hkl, List.pairwise_iff_getElem.1 Hsrt.out k j hkl hlt2 (by omega)⟩
              generalize lc[j] = y at ht hbj
              obtain ⟨b, rfl, y1⟩ := hrs2.at ht
              have hyn : R.get y ≠ [] := (Hmem.out y).1 (List.mem_of_getElem? ht)
              have hzl : (((R.get y).length : Int) == 0) = false := beq_eq_false_iff_ne.2 (by have := List.length_pos_iff.2 hyn; omega)
              have hlen : ∀ n, Calls Try.prog 13 #[ptrV rb, .string y] (wr.drewN n) fun e w' => e = .returned (.int .i64 (R.get y).length) ∧ w' = wr.drewN n := fun n => by
                have := len_rg (wr.drewN n) R y ((hD2.still (Fr.drewN _ _ n)).r.at')
                rw [hD2.rbe] at this
                exact this.mono fun _ _ ⟨h1, h2⟩ => ⟨h1, h2.symm⟩
              have htk : lc.take (j + 1) = lc.take j ++ [y] := by rw [List.take_add_one, ht]; rfl
              have Htk := Lib.hid htk
              have Ht := Lib.hid ht
              have Hrs2 := Lib.hid hrs2
              have hmb := beq_toList y cl
              clear ht hrs2 htk hD2
              by_cases hm : y = cl
              · rw [decide_eq_true hm] at hmb
                have Hm := Lib.hid hm
                clear hm
                have hrel : ∀ nq, (∃ (k : Nat), Value.int .i64 ((j : Int) + 1) = .int .i64 k ∧ k ≤ lc.length ∧ Value.int .i64 ((((lc.take j).filter (fun c => decide (c = cl))).length : Int) + 1) = .int .i64 (((lc.take k).filter (fun c => decide (c = cl))).length : Nat) ∧ Fr (fun _ => False) wc (wr.drewN nq)) := fun nq =>
                  ⟨j + 1, rfl, by omega, by rw [Htk.out, List.filter_append, List.length_append]; simp [Hm.out], hf2.trans (Fr.drewN (fun _ => False) _ _) (fun _ _ h => h)⟩
                have Hrel := Lib.hid hrel
                clear hrel
                by_cases hj0 : j = 0
                · have hj : ¬ (0 : Int) < (j : Int) := by omega
                  have hjd : decide ((0 : Int) < (j : Int)) = false := decide_eq_false hj
                  have hjn : ¬ 0 < j := by omega
                  have hjm : decide (0 < j) = false := decide_eq_false hjn
                  clear hj0
                  go_upto_region 33 with fail
                  go_quiet ((go_at_call 13; exact Calls.quiet_of_same (hlen _)))
                  go_wp2_with fail
                  exact ⟨Hrel.out _, by simp only [intOf]; omega⟩
                · have hj : (0 : Int) < (j : Int) := by omega
                  have hjd : decide ((0 : Int) < (j : Int)) = true := decide_eq_true hj
                  have hjn : 0 < j := by omega
                  have hjm : decide (0 < j) = true := decide_eq_true hjn
                  obtain ⟨k, hk⟩ : ∃ k, j = k + 1 := ⟨j - 1, by omega⟩
                  have hk1 : (j : Int) - 1 = (k : Int) := by omega
                  obtain ⟨y', z1, z2⟩ := hbj k hk
                  obtain ⟨b', e1, z3⟩ := Hrs2.out.at z1
                  cases e1
                  have hkl : (k : Int) < (lc.length : Int) := by omega
                  clear hj0 hk
                  go_upto_region 33 with fail
                  go_quiet ((go_at_call 13; exact Calls.quiet_of_same (hlen _)))
                  go_wp2_with fail
                  exact ⟨Hrel.out _, by simp only [intOf]; omega⟩
              · rw [decide_eq_false hm] at hmb
                have Hm := Lib.hid hm
                clear hm
                have hrel : ∀ nq, (∃ (k : Nat), Value.int .i64 ((j : Int) + 1) = .int .i64 k ∧ k ≤ lc.length ∧ Value.int .i64 (((lc.take j).filter (fun c => decide (c = cl))).length : Nat) = .int .i64 (((lc.take k).filter (fun c => decide (c = cl))).length : Nat) ∧ Fr (fun _ => False) wc (wr.drewN nq)) := fun nq =>
                  ⟨j + 1, rfl, by omega, by rw [Htk.out, List.filter_append, List.length_append]; simp [Hm.out], hf2.trans (Fr.drewN (fun _ => False) _ _) (fun _ _ h => h)⟩
                have Hrel := Lib.hid hrel
                clear hrel
                by_cases hj0 : j = 0
                · have hj : ¬ (0 : Int) < (j : Int) := by omega
                  have hjd : decide ((0 : Int) < (j : Int)) = false := decide_eq_false hj
                  have hjn : ¬ 0 < j := by omega
                  have hjm : decide (0 < j) = false := decide_eq_false hjn
                  clear hj0
                  go_upto_region 33 with fail
                  go_quiet ((go_at_call 13; exact Calls.quiet_of_same (hlen _)))
                  go_wp2_with fail
                  exact ⟨Hrel.out _, by simp only [intOf]; omega⟩
                · have hj : (0 : Int) < (j : Int) := by omega
                  have hjd : decide ((0 : Int) < (j : Int)) = true := decide_eq_true hj
                  have hjn : 0 < j := by omega
                  have hjm : decide (0 < j) = true := decide_eq_true hjn
                  obtain ⟨k, hk⟩ : ∃ k, j = k + 1 := ⟨j - 1, by omega⟩
                  have hk1 : (j : Int) - 1 = (k : Int) := by omega
                  obtain ⟨y', z1, z2⟩ := hbj k hk
                  obtain ⟨b', e1, z3⟩ := Hrs2.out.at z1
                  cases e1
                  have hkl : (k : Int) < (lc.length : Int) := by omega
                  clear hj0 hk
                  go_upto_region 33 with fail
                  go_quiet ((go_at_call 13; exact Calls.quiet_of_same (hlen _)))
                  go_wp2_with fail
                  exact ⟨Hrel.out _, by simp only [intOf]; omega⟩
            · have hie2 : ¬ (j : Int) < (lc.length : Int) := by omega
              have hjl2 : j = lc.length := by omega
              subst hjl2
              rw [List.take_length]
              have hcount : (lc.filter (fun c => decide (c = cl))).length = if R.get cl = [] then 0 else 1 := count_one Hnd.out Hmem.out
              have hln := len_rg wr O cl hD2.o.at'
              have T1 := topics_to wr R cl hD2.r
              have hbound : (srtT (O.get cl)).length ≤ 1000000 := by
                obtain ⟨k, hk, e⟩ := O.tops_ok hD2.o.ok cl
                have := ids_le hk
                rw [e] at this
                unfold srtT
                rw [List.length_mergeSort]
                omega
              rw [hD2.rbe] at T1
              rw [← Hsame.out] at hbound
              have HD2 := Lib.hid hD2
              have Hbd := Lib.hid hbound
              clear hD2 hbound hln
              have hlenO : ∀ W, Fr (fun _ => False) wr W → Calls Try.prog 13 #[ptrV ob, .string cl] W fun e w' => e = .returned (.int .i64 (R.get cl).length) ∧ W = w' := fun W hf => by
                have := len_rg W O cl (HD2.out.still hf).o.at'
                rw [HD2.out.obe, ← Hsame.out] at this
                exact this
              have hT2 : ∀ W, Fr (fun _ => False) wr W → Calls Try.prog 16 #[ptrV ob, .string cl] W fun e w' => ∃ v, e = .returned v ∧ RowT w' v (srtT (R.get cl)) ∧ Fr (fun _ => False) W w' ∧ (∀ k, v.ownBlock = some k → W.heap.size ≤ k) := fun W hf => by
                have := topics_to W O cl (HD2.out.still hf).o
                rw [HD2.out.obe, ← Hsame.out] at this
                exact this
              have HT2 := Lib.hid hT2
              have HlenO := Lib.hid hlenO
              clear hT2 hlenO
              by_cases hE : R.get cl = []
              · rw [if_pos hE] at hcount
                rw [hE] at HlenO
                rw [hcount]
                have HE := Lib.hid hE
                clear hE hcount
                go_wp2_with fail
                refine T1.mono ?_
                rintro e wa ⟨v1, rfl, q1, q2, _⟩
                go_wp2_with fail
                refine (HT2.out wa q2).mono ?_
                rintro e wb ⟨v2, rfl, q4, q5, _⟩
                go_wp2_with fail
                refine (sameT_yes (q1.kept q5 (fun _ _ h => h)) q4 Hbd.out).mono ?_
                rintro e wd ⟨rfl, q7⟩
                have q8 : Fr (fun _ => False) wr wd := (q2.trans q5 (fun _ _ h => h)).trans q7 (fun _ _ h => h)
                have hL := HlenO.out wd q8
                simp only [List.length_nil] at hL
                go_wp2_with (go_at_call 13; refine hL.mono ?_; rintro e w' ⟨rfl, rfl⟩)
                go_ret
                exact ⟨rfl, HD2.out.fr.trans q8 (fun _ _ h => h)⟩
              · have hpos : (0 : Int) < ((R.get cl).length : Int) := by have := List.length_pos_iff.2 hE; omega
                have hposn : 0 < (R.get cl).length := List.length_pos_iff.2 hE
                rw [if_neg hE] at hcount
                rw [hcount]
                clear hE hcount
                go_wp2_with fail
                refine T1.mono ?_
                rintro e wa ⟨v1, rfl, q1, q2, _⟩
                go_wp2_with fail
                refine (HT2.out wa q2).mono ?_
                rintro e wb ⟨v2, rfl, q4, q5, _⟩
                go_wp2_with fail
                refine (sameT_yes (q1.kept q5 (fun _ _ h => h)) q4 Hbd.out).mono ?_
                rintro e wd ⟨rfl, q7⟩
                have q8 : Fr (fun _ => False) wr wd := (q2.trans q5 (fun _ _ h => h)).trans q7 (fun _ _ h => h)
                have hL := HlenO.out wd q8
                go_wp2_with (go_at_call 13; refine hL.mono ?_; rintro e w' ⟨rfl, rfl⟩)
                go_ret
                exact ⟨rfl, HD2.out.fr.trans q8 (fun _ _ h => h)⟩
end Go.Proofs.Ytfgnipcegnoagaa
