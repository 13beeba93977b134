/- The reference registry: set. -/
import Derived.Test.YtfgnipcegnoagaaGreatRr4
namespace Go.Proofs.YtfgnipcegnoagaaGreat
open Go.RowKit Go.MapKept

theorem Tryz.infoEntry : (Tryz.prog.info? 81).map (fun i => (i.zero, i.size, i.bytes)) = some (some (.agg #[.string ⟨#[]⟩, .slice none 0 0]), 2, 40) := by kernel_rfl
theorem cell_two_new (w : World) (x y : Value) (t : TypeId) : ∀ j u, [x, y][j]? = some u → (w.alloc (.cells #[x, y] t)).cell? ((⟨w.heap.size, 0, none⟩ : Addr).add j) = some u := by
  intro j u hj
  have h := rowC (alloc_new w (.cells #[x, y] t)) j
  rw [addr_add, h]
  exact (List.getElem?_toArray ..).trans hj
theorem rowE_snoc {w : World} {base : Nat} {v : Value} {es : List Ent} {e : Ent} (h : w.ownsRow base 81 2 v (es.length + 1) (entCells es ++ [.string e.c, e.v])) : w.ownsRow base 81 2 v (es ++ [e]).length (entCells (es ++ [e])) := by
  rw [entCells_snoc]
  simpa [Ent.cells] using h

def SetEnd (w : World) (S : Rr) (c : ByteArray) (lv : Value) (l : List Top) (e : Ending) (w' : World) : Prop :=
  e = .returned (.tuple #[]) ∧ ∃ S' : Rr, S'.ob = S.ob ∧ S'.At w' ∧ Fr (fun k => k = S.ob) w w' ∧ (∀ k, S'.fp k → S.fp k ∨ lv.ownBlock = some k ∨ w.heap.size ≤ k) ∧ (∀ y, S'.get y = upd S.get c l y) ∧ S'.es.length ≤ S.es.length + 1 ∧ ∀ e ∈ S'.es, e ∈ S.es ∨ e.l = l

/-- The registry behind set. -/
theorem set_end {w wr : World} {S : Rr} {c : ByteArray} {lv vo : Value} {l : List Top} (h : S.At w) (hl : RowT w lv l) (hne : lv.ownBlock ≠ some S.ob) (hf : Fr (fun _ => False) w wr)
    (hrow : wr.ownsRow w.heap.size 81 2 vo (setGo (decide (l = [])) ⟨c, lv, l⟩ S.es).length (entCells (setGo (decide (l = [])) ⟨c, lv, l⟩ S.es))) :
    SetEnd w S c lv l (.returned (.tuple #[])) (wr.setCell ⟨S.ob, 0, none⟩ vo) := by
  have hob := lt_of_heap h.reg
  have hreg := (hf.block _ hob (fun h => h)).trans h.reg
  have hvo : vo.ownBlock ≠ some S.ob := fun e => by have := (hrow.lt _ e).1; omega
  have hfs : Fr (fun k => k = S.ob) wr (wr.setCell ⟨S.ob, 0, none⟩ vo) := Fr.setCell _ _ _ rfl
  have hmem := setGo_mem (decide (l = [])) ⟨c, lv, l⟩ S.es
  refine ⟨rfl, ⟨S.ob, vo, setGo (decide (l = [])) ⟨c, lv, l⟩ S.es⟩, rfl, ⟨?_, ?_, fun e he => ?_, hvo, fun e he => ?_, setGo_pw h.srt _ _⟩, ?_, fun k hk => ?_, fun y => ?_, (setGo_len _ _ _).1, fun e he => ?_⟩
  · have := heap_setCell hreg 0 vo
    simpa using this
  · exact (rowE_of_own hrow).kept hfs (fun k hk e => hvo (by rw [hk, e]))
  · rcases (hmem e).1 he with ⟨h1, _⟩ | ⟨h1, rfl⟩
    · exact ⟨((h.each e h1).1.kept hf (fun _ _ h => h)).kept hfs (fun k hk e2 => h.ne e h1 (by rw [hk, e2])), (h.each e h1).2⟩
    · exact ⟨(hl.kept hf (fun _ _ h => h)).kept hfs (fun k hk e2 => hne (by rw [hk, e2])), of_decide_eq_false h1⟩
  · rcases (hmem e).1 he with ⟨h1, _⟩ | ⟨_, rfl⟩
    · exact h.ne e h1
    · exact hne
  · exact (hf.mono (fun _ _ h => h.elim)).trans hfs (fun _ _ h => h)
  · rcases hk with hk | hk | ⟨e, he, hk⟩
    · exact .inl (.inl hk)
    · exact .inr (.inr (hrow.lt k hk).1)
    · rcases (hmem e).1 he with ⟨h1, _⟩ | ⟨_, rfl⟩
      · exact .inl (.inr (.inr ⟨e, h1, hk⟩))
      · exact .inr (.inl hk)
  · exact setGo_get h.srt ⟨c, lv, l⟩ _ (fun h => of_decide_eq_true h) y
  · rcases (hmem e).1 he with ⟨h1, _⟩ | ⟨_, rfl⟩
    · exact .inl h1
    · exact .inr rfl

set_option maxRecDepth 100000 in
set_option maxHeartbeats 4000000 in
theorem rset_walk (w : World) (S : Rr) (c : ByteArray) (lv : Value) (l : List Top) (h : S.At w) (hl : RowT w lv l) (hne : lv.ownBlock ≠ some S.ob) (hN : S.es.length ≤ 1000) :
    Calls Tryz.prog 35 #[ptrV S.ob, .string c, lv] w (SetEnd w S c lv l) := by
  obtain ⟨i0, hi, hz0, hz1, hz2⟩ := info_parts Tryz.infoEntry
  obtain ⟨p, cap, hv⟩ := h.row.shape
  obtain ⟨pl, cl, rfl⟩ := hl.shape
  have hreg := h.reg
  have hob := lt_of_heap h.reg
  have hrow := h.row
  rw [hv] at hreg hrow
  have Hh := Lib.hid h
  have Hl := Lib.hid hl
  have Hne := Lib.hid hne
  have Hreg := Lib.hid hreg
  have HrowS := Lib.hid hrow
  have hb0 : decide ((l.length : Int) = 0) = decide (l = []) := by
    refine Bool.eq_iff_iff.2 ?_
    rw [decide_eq_true_iff, decide_eq_true_iff, ← List.length_eq_zero_iff]
    omega
  have hbq : ((l.length : Int) == 0) = decide (l = []) := by
    refine Bool.eq_iff_iff.2 ?_
    rw [beq_iff_eq, decide_eq_true_iff, ← List.length_eq_zero_iff]
    omega
  have hbn : (l.length == 0) = decide (l = []) := by
    refine Bool.eq_iff_iff.2 ?_
    rw [beq_iff_eq, decide_eq_true_iff, ← List.length_eq_zero_iff]
  have hend := fun (wr : World) (vo : Value) (hf : Fr (fun _ => False) w wr) (hr : wr.ownsRow w.heap.size 81 2 vo (setGo (decide (l = [])) ⟨c, .slice pl l.length cl, l⟩ S.es).length (entCells (setGo (decide (l = [])) ⟨c, .slice pl l.length cl, l⟩ S.es))) => set_end (c := c) h hl hne hf hr
  have Hend := Lib.hid hend
  obtain ⟨b0, hb00⟩ : ∃ b0, b0 = decide (l = []) := ⟨_, rfl⟩
  rw [← hb00] at hb0 hbq hbn
  have Hb00 := Lib.hid hb00
  clear h hv hreg hrow hl hne hend hb00
  unfold ptrV
  go_enter Tryz.func35, Tryz.ntmps35
  go_upto_region 2 with fail
  clear hb0 hbq hbn
  go_wp2_with fail
  go_loopg [6, 7, 8] S.es.length (fun gk o b s wr => ∃ (i : Nat) (bb : Bool) (out : List Ent), s = .int .i64 i ∧ b = .bool bb ∧ i ≤ S.es.length ∧ gk = S.es.length - i ∧
    wr.ownsRow w.heap.size 81 2 o out.length (entCells out) ∧ out.length ≤ i + (if bb then 1 else 0) ∧ out ++ setGo bb ⟨c, .slice pl l.length cl, l⟩ (S.es.drop i) = setGo b0 ⟨c, .slice pl l.length cl, l⟩ S.es ∧ Fr (fun _ => False) w wr)
  case atStart => exact ⟨0, b0, [], rfl, rfl, Nat.zero_le _, rfl, World.ownsRow_nil _ _ _ _, Nat.zero_le _, rfl, Fr.refl _ _⟩
  case round =>
    obtain ⟨i, bb, out, rfl, rfl, hil, hgk, hrow, hol, heq, hf⟩ := hrel
    have Hgk := Lib.hid hgk
    have Heq := Lib.hid heq
    have Hol := Lib.hid hol
    have hout : out.length ≤ 1001 := by split at hol <;> omega
    clear hgk heq hol
    have c0 := rowC ((hf.block _ hob (fun h => h)).trans Hreg.out)
    have hob2 : S.ob < wr.heap.size := Nat.lt_of_lt_of_le hob hf.size
    by_cases hlt : i < S.es.length
    · have hlt2 : (i : Int) < (S.es.length : Int) := by omega
      have ht : S.es[i]? = some S.es[i] := List.getElem?_eq_getElem hlt
      generalize S.es[i] = x at ht
      obtain ⟨g, rfl, x1, x2⟩ := (HrowS.out.kept hf (fun _ _ h => h)).at ht
      obtain ⟨pv, cv, hxv⟩ := (Hh.out.each x (List.mem_of_getElem? ht)).1.shape
      obtain ⟨xc, xv, xl⟩ := x
      simp only at hxv x1 x2
      subst hxv
      have Hcons := Lib.hid (setGo_cons (b := bb) (n := ⟨c, .slice pl l.length cl, l⟩) ht)
      have hmb := beq_toList xc c
      clear ht
      go_upto_region 6 with fail
      have hfa := hf.trans (Fr.alloc (fun _ => False) wr (.cells #[.string xc, .slice pv xl.length cv] 81)) (fun _ _ h => h)
      have hra := hrow.alloc (.cells #[.string xc, .slice pv xl.length cv] 81)
      have c9 := rowC (alloc_new wr (.cells #[.string xc, .slice pv xl.length cv] 81))
      have l9 := lt_of_heap (alloc_new wr (.cells #[.string xc, .slice pv xl.length cv] 81))
      have h9 := alloc_new wr (.cells #[.string xc, .slice pv xl.length cv] 81)
      have hb9 : w.heap.size ≤ wr.heap.size := hf.size
      have hu6' : u6.ownBlock ≠ some wr.heap.size := fun e => by have := (hrow.lt _ e).2; omega
      generalize wr.alloc (.cells #[.string xc, .slice pv xl.length cv] 81) = W2 at *
      generalize wr.heap.size = b9 at *
      clear hf hrow x1 x2 c0 hob2
      have hu6 : u6.ownBlock ≠ some b9 := fun e => hu6' e
      cases bb with
      | true =>
        by_cases hc : xc = c
        · rw [decide_eq_true hc] at hmb
          have Hc := Lib.hid hc
          clear hc
          go_wp2_with fail
          go_roundg (S.es.length - (i + 1))
          case measure => have := Hgk.out; omega
          case rel => exact ⟨i + 1, true, out, rfl, rfl, by omega, rfl, hra, by have := Hol.out; simp at this ⊢; omega, by rw [← Heq.out, Hcons.out]; simp [Hc.out], hfa⟩
        · rw [decide_eq_false hc] at hmb
          have Hc := Lib.hid hc
          clear hc
          go_wp2_with (at_builtin; refine wpList_append_own _ rfl _ _ 53 rfl w.heap.size 81 i0 (.agg #[.string ⟨#[]⟩, .slice none 0 0]) 2 40 Tryz.underlying53 hi hz0 hz1 hz2 rfl (by decide) _ _ _ rfl (hra.alloc _) ⟨W2.heap.size, 0, none⟩ 1 1 [.string xc, .slice pv xl.length cv] rfl rfl (cell_two_new _ _ _ _) (by simp [Value.oneCell']) (by unfold maxLen; omega) (by omega) (by have := hfa.size; simp; omega) ?_; intro v1 w1 hown1 hgrow1 _)
          have hf1 : Fr (fun _ => False) w w1 := (hfa.trans (Fr.alloc (fun _ => False) W2 (.cells #[.string xc, .slice pv xl.length cv] 81)) (fun _ _ h => h)).own (hra.alloc _) hgrow1
          go_roundg (S.es.length - (i + 1))
          case measure => have := Hgk.out; omega
          case rel => exact ⟨i + 1, true, out ++ [⟨xc, .slice pv xl.length cv, xl⟩], rfl, rfl, by omega, rfl, rowE_snoc (e := ⟨xc, .slice pv xl.length cv, xl⟩) hown1, by have := Hol.out; simp at this ⊢; omega, by rw [← Heq.out, Hcons.out]; simp [Hc.out], hf1⟩
      | false =>
        by_cases hl2 : ltB c xc
        · have hlb : Op.bytesLess c.toList xc.toList = true := hl2
          have hc : ¬ xc = c := fun e => ltB_irrefl _ (by rw [e] at hl2; exact hl2)
          rw [decide_eq_false hc] at hmb
          have Hc := Lib.hid hc
          have Hlt := Lib.hid hl2
          clear hc hl2
          have k9 : ∀ w1, (W2.alloc (.cells #[.string c, .slice pl l.length cl] 81)).heap[b9]? = W2.heap[b9]? → (W2.alloc (.cells #[.string c, .slice pl l.length cl] 81)).grownBy w1 u6.ownBlock → w1.heap[b9]? = some (.cells #[.string xc, .slice pv xl.length cv] 81 (0, 0)) := fun w1 e hg => (hg.block b9 (Nat.lt_of_lt_of_le l9 (by simp)) (fun e2 => hu6 e2.symm)).trans (e.trans h9)
          go_upto_region 8 with (at_builtin; refine wpList_append_own _ rfl _ _ 53 rfl w.heap.size 81 i0 (.agg #[.string ⟨#[]⟩, .slice none 0 0]) 2 40 Tryz.underlying53 hi hz0 hz1 hz2 rfl (by decide) _ _ _ rfl (hra.alloc _) ⟨W2.heap.size, 0, none⟩ 1 1 [.string c, .slice pl l.length cl] rfl rfl (cell_two_new _ _ _ _) (by simp [Value.oneCell']) (by unfold maxLen; omega) (by omega) (by have := hfa.size; simp; omega) ?_; intro v1 w1 hown1 hgrow1 _)
          have hf1 : Fr (fun _ => False) w w1 := (hfa.trans (Fr.alloc (fun _ => False) W2 (.cells #[.string c, .slice pl l.length cl] 81)) (fun _ _ h => h)).own (hra.alloc _) hgrow1
          have hr1 := rowE_snoc (e := ⟨c, .slice pl l.length cl, l⟩) hown1
          have c9b := rowC (k9 w1 ((Fr.alloc (fun _ => False) W2 (.cells #[.string c, .slice pl l.length cl] 81)).block _ l9 (fun h => h)) hgrow1)
          have e0 : (out ++ [(⟨c, .slice pl l.length cl, l⟩ : Ent)]).length = out.length + 1 := by simp
          have hl1 : (out ++ [(⟨c, .slice pl l.length cl, l⟩ : Ent)]).length ≤ 1002 := by omega
          clear hown1 hgrow1 hfa hra c9 e0
          go_wp2_with (at_builtin; refine wpList_append_own _ rfl _ _ 53 rfl w.heap.size 81 i0 (.agg #[.string ⟨#[]⟩, .slice none 0 0]) 2 40 Tryz.underlying53 hi hz0 hz1 hz2 rfl (by decide) _ _ _ rfl (hr1.alloc _) ⟨w1.heap.size, 0, none⟩ 1 1 [.string xc, .slice pv xl.length cv] rfl rfl (cell_two_new _ _ _ _) (by simp [Value.oneCell']) (by unfold maxLen; omega) (by omega) (by have := hf1.size; simp; omega) ?_; intro v2 w2 hown2 hgrow2 _)
          have hf2 : Fr (fun _ => False) w w2 := (hf1.trans (Fr.alloc (fun _ => False) w1 (.cells #[.string xc, .slice pv xl.length cv] 81)) (fun _ _ h => h)).own (hr1.alloc _) hgrow2
          go_roundg (S.es.length - (i + 1))
          case measure => have := Hgk.out; omega
          case rel => exact ⟨i + 1, true, out ++ [⟨c, .slice pl l.length cl, l⟩] ++ [⟨xc, .slice pv xl.length cv, xl⟩], rfl, rfl, by omega, rfl, rowE_snoc (e := ⟨xc, .slice pv xl.length cv, xl⟩) hown2, by have := Hol.out; simp at this ⊢; omega, by rw [← Heq.out, Hcons.out]; simp [Hlt.out, Hc.out], hf2⟩
        · have hlb : Op.bytesLess c.toList xc.toList = false := by
            cases hq : Op.bytesLess c.toList xc.toList with
            | true => exact absurd hq hl2
            | false => rfl
          have Hlt := Lib.hid hl2
          clear hl2
          by_cases hc : xc = c
          · rw [decide_eq_true hc] at hmb
            have Hc := Lib.hid hc
            clear hc
            go_wp2_with fail
            go_roundg (S.es.length - (i + 1))
            case measure => have := Hgk.out; omega
            case rel => exact ⟨i + 1, false, out, rfl, rfl, by omega, rfl, hra, by have := Hol.out; simp at this ⊢; omega, by rw [← Heq.out, Hcons.out]; simp [Hc.out, ltB_irrefl], hfa⟩
          · rw [decide_eq_false hc] at hmb
            have Hc := Lib.hid hc
            clear hc
            go_wp2_with (at_builtin; refine wpList_append_own _ rfl _ _ 53 rfl w.heap.size 81 i0 (.agg #[.string ⟨#[]⟩, .slice none 0 0]) 2 40 Tryz.underlying53 hi hz0 hz1 hz2 rfl (by decide) _ _ _ rfl (hra.alloc _) ⟨W2.heap.size, 0, none⟩ 1 1 [.string xc, .slice pv xl.length cv] rfl rfl (cell_two_new _ _ _ _) (by simp [Value.oneCell']) (by unfold maxLen; omega) (by omega) (by have := hfa.size; simp; omega) ?_; intro v1 w1 hown1 hgrow1 _)
            have hf1 : Fr (fun _ => False) w w1 := (hfa.trans (Fr.alloc (fun _ => False) W2 (.cells #[.string xc, .slice pv xl.length cv] 81)) (fun _ _ h => h)).own (hra.alloc _) hgrow1
            go_roundg (S.es.length - (i + 1))
            case measure => have := Hgk.out; omega
            case rel => exact ⟨i + 1, false, out ++ [⟨xc, .slice pv xl.length cv, xl⟩], rfl, rfl, by omega, rfl, rowE_snoc (e := ⟨xc, .slice pv xl.length cv, xl⟩) hown1, by have := Hol.out; simp at this ⊢; omega, by rw [← Heq.out, Hcons.out]; simp [Hlt.out, Hc.out], hf1⟩
    · have hlt2 : ¬ (i : Int) < (S.es.length : Int) := by omega
      have hdrop : S.es.drop i = [] := List.drop_eq_nil_of_le (by omega)
      have Hdrop := Lib.hid hdrop
      clear hdrop
      have cf := rowF ((hf.block _ hob (fun h => h)).trans Hreg.out)
      cases bb with
      | true =>
        have hout2 : out = setGo b0 ⟨c, .slice pl l.length cl, l⟩ S.es := by rw [← Heq.out, Hdrop.out]; simp [setGo]
        have hfin := Hend.out wr u6 hf (by rw [← Hb00.out, ← hout2]; exact hrow)
        have Hfin := Lib.hid hfin
        obtain ⟨po, co, rfl⟩ := ownS_shape hrow
        clear hout2 hfin hrow hf
        go_wp2_with fail

        go_end0
        exact Hfin.out
      | false =>
        have hb9 := hf.size
        go_upto_region 12 with (at_builtin; refine wpList_append_own _ rfl _ _ 53 rfl w.heap.size 81 i0 (.agg #[.string ⟨#[]⟩, .slice none 0 0]) 2 40 Tryz.underlying53 hi hz0 hz1 hz2 rfl (by decide) _ _ _ rfl (hrow.alloc _) ⟨wr.heap.size, 0, none⟩ 1 1 [.string c, .slice pl l.length cl] rfl rfl (cell_two_new _ _ _ _) (by simp [Value.oneCell']) (by unfold maxLen; omega) (by omega) (by have := hf.size; simp; omega) ?_; intro v1 w1 hown1 hgrow1 _)
        have hf1 : Fr (fun _ => False) w w1 := (hf.trans (Fr.alloc (fun _ => False) wr (.cells #[.string c, .slice pl l.length cl] 81)) (fun _ _ h => h)).own (hrow.alloc _) hgrow1
        have hr1 := rowE_snoc (e := ⟨c, .slice pl l.length cl, l⟩) hown1
        have hout2 : out ++ [⟨c, .slice pl l.length cl, l⟩] = setGo b0 ⟨c, .slice pl l.length cl, l⟩ S.es := by rw [← Heq.out, Hdrop.out]; simp [setGo]
        have hfin := Hend.out w1 v1 hf1 (by rw [← Hb00.out, ← hout2]; exact hr1)
        have Hfin := Lib.hid hfin
        have c1 := rowC ((hf1.block _ hob (fun h => h)).trans Hreg.out)
        have cf1 := rowF ((hf1.block _ hob (fun h => h)).trans Hreg.out)
        obtain ⟨po, co, rfl⟩ := ownS_shape hr1
        clear hout2 hfin hr1 hown1 hgrow1 hrow hf c0 cf hf1
        go_wp2_with fail
        go_end0
        have := Hfin.out
        simpa using this
end Go.Proofs.YtfgnipcegnoagaaGreat
