/- The reference registry: put. -/
import Derived.Test.YtfgnipcegnoagaaGreatRr1
namespace Go.Proofs.YtfgnipcegnoagaaGreat
open Go.RowKit Go.MapKept

set_option maxRecDepth 100000 in
set_option maxHeartbeats 2000000 in
theorem rput_walk (w : World) (v : Value) (l : List Top) (t : Top) (h : RowT w v l) (hN : l.length ≤ 1000) :
    Calls Tryz.prog 36 #[v, .agg #[.int .i64 t.id, .string t.name, .bool t.fixed]] w (PutEnd w (ins l t)) := by
  obtain ⟨i0, hi, hz0, hz1, hz2⟩ := info_parts Tryz.infoTopic
  obtain ⟨p, cap, rfl⟩ := h.shape
  have Hh := Lib.hid h
  clear h
  rw [← putGo_ins]
  go_enter Tryz.func36, Tryz.ntmps36
  go_upto_region 1 with fail
  have hb := alloc_new w (.cells #[.int .i64 t.id, .string t.name, .bool t.fixed] 44)
  have hf0 := Fr.alloc (fun _ => False) w (.cells #[.int .i64 t.id, .string t.name, .bool t.fixed] 44)
  have hl0 := lt_of_heap hb
  generalize w.alloc (.cells #[.int .i64 t.id, .string t.name, .bool t.fixed] 44) = W0 at *
  generalize hB : w.heap.size = B at *
  have HB := Lib.hid hB
  have Hb := Lib.hid hb
  have Hf0 := Lib.hid hf0
  have Hl0 := Lib.hid hl0
  clear hB hb hf0 hl0
  go_wp2_with fail
  go_loopg [5, 6, 7] l.length (fun gk o b s wr => ∃ (i : Nat) (bb : Bool) (out : List Top), s = .int .i64 i ∧ b = .bool bb ∧ i ≤ l.length ∧ gk = l.length - i ∧
    wr.ownsRow W0.heap.size 44 3 o out.length (topCells out) ∧ (bb = false → out.length ≤ i) ∧ out.length ≤ i + 1 ∧ out ++ putGo bb t (l.drop i) = putGo false t l ∧ Fr (fun _ => False) W0 wr)
  case atStart => exact ⟨0, false, [], rfl, rfl, Nat.zero_le _, rfl, World.ownsRow_nil _ _ _ _, fun _ => Nat.le_refl _, Nat.zero_le _, rfl, Fr.refl _ _⟩
  case round =>
    obtain ⟨i, bb, out, rfl, rfl, hil, hgk, hrow, hol0, hol, heq, hf⟩ := hrel
    have Hgk := Lib.hid hgk
    have Heq := Lib.hid heq
    have Hol0 := Lib.hid hol0
    clear hgk heq hol0
    have c3 := rowC ((hf.block _ Hl0.out (fun h => h)).trans Hb.out)
    by_cases hlt : i < l.length
    · have hlt2 : (i : Int) < (l.length : Int) := by omega
      have ht : l[i]? = some l[i] := List.getElem?_eq_getElem hlt
      generalize l[i] = x at ht
      obtain ⟨g, rfl, x1, x2, x3⟩ := (Hh.out.kept (Hf0.out.trans hf (fun _ _ h => h)) (fun _ _ h => h)).at ht
      have hgl : g < W0.heap.size := by
        have h1 := (Hh.out.kept Hf0.out (fun _ _ h => h)).lt rfl
        exact h1
      have Hcons := Lib.hid (putGo_cons (b := bb) (t := t) ht)
      have Hx := Lib.hid ht
      clear ht
      go_upto_region 6 with fail
      go_cut [25] from 8 to 36 (fun bv wx => bv = .bool (!bb && decide (t.id < x.id)) ∧ ∃ nq, wx = wr.drewN nq)
      case first =>
        cases bb with
        | true =>
          go_quiet (fail)
          go_wp2_with fail
          go_meet
          exact ⟨rfl, _, rfl⟩
        | false =>
          by_cases hti : t.id < x.id
          · have htd : decide (t.id < x.id) = true := decide_eq_true hti
            go_quiet (fail)
            go_wp2_with fail
            go_meet
            exact ⟨by simp [htd], _, rfl⟩
          · have htd : decide (t.id < x.id) = false := decide_eq_false hti
            clear hti
            go_quiet (fail)
            go_wp2_with fail
            go_meet
            exact ⟨by simp [htd], _, rfl⟩
      case rest =>
        obtain ⟨rfl, nq, rfl⟩ := hcut
        have hrow2 : (wr.drewN nq).ownsRow W0.heap.size 44 3 u5 out.length (topCells out) := hrow
        have hf2 : Fr (fun _ => False) W0 (wr.drewN nq) := hf.trans (Fr.drewN (fun _ => False) _ _) (fun _ _ h => h)
        have k3 : ∀ j, (wr.drewN nq).cell? ⟨B, j, none⟩ = _ := c3
        have k4 : (wr.drewN nq).cell? ⟨g, i * 3, none⟩ = _ := x1
        have k5 : (wr.drewN nq).cell? ⟨g, i * 3 + 1, none⟩ = _ := x2
        have k6 : (wr.drewN nq).cell? ⟨g, i * 3 + 2, none⟩ = _ := x3
        clear c3 x1 x2 x3 hrow hf
        generalize wr.drewN nq = W2 at *
        have hf2a := hf2.trans (Fr.alloc (fun _ => False) W2 (.cells #[.int .i64 x.id, .string x.name, .bool x.fixed] 44)) (fun _ _ h => h)
        cases bb with
        | true =>
          simp only [Bool.not_true, Bool.false_and]
          go_wp2_with (at_builtin; refine wpList_append_own _ rfl _ _ 45 rfl W0.heap.size 44 i0 (.agg #[.int .i64 0, .string ⟨#[]⟩, .bool false]) 3 32 Tryz.underlying45 hi hz0 hz1 hz2 rfl (by decide) _ _ _ rfl (hrow2.alloc _) ⟨W2.heap.size, 0, none⟩ 1 1 [.int .i64 x.id, .string x.name, .bool x.fixed] rfl rfl (cell_three_new _ _ _ _ _) (by simp [Value.oneCell']) (by unfold maxLen; omega) (by omega) (by have := hf2.size; simp; omega) ?_; intro v1 w1 hown1 hgrow1 _)
          have hf1 : Fr (fun _ => False) W0 w1 := hf2a.own (hrow2.alloc _) hgrow1
          go_roundg (l.length - (i + 1))
          case measure => have := Hgk.out; omega
          case rel =>
            have e1 : (out ++ [x]).length = out.length + 1 := by simp
            refine ⟨i + 1, true, out ++ [x], rfl, rfl, by omega, rfl, ?_, nofun, by rw [e1]; omega, ?_, hf1⟩
            · rw [e1, topCells_snoc]; exact hown1
            · rw [← Heq.out, Hcons.out]; simp
        | false =>
          have hol1 : out.length ≤ i := Hol0.out rfl
          by_cases hti : t.id < x.id
          · have htd : decide (t.id < x.id) = true := decide_eq_true hti
            have Hti := Lib.hid hti
            clear hti
            simp only [htd, Bool.not_false, Bool.true_and]
            go_upto_region 8 with (at_builtin; refine wpList_append_own _ rfl _ _ 45 rfl W0.heap.size 44 i0 (.agg #[.int .i64 0, .string ⟨#[]⟩, .bool false]) 3 32 Tryz.underlying45 hi hz0 hz1 hz2 rfl (by decide) _ _ _ rfl (hrow2.alloc _) ⟨W2.heap.size, 0, none⟩ 1 1 [.int .i64 t.id, .string t.name, .bool t.fixed] rfl rfl (cell_three_new _ _ _ _ _) (by simp [Value.oneCell']) (by unfold maxLen; omega) (by omega) (by have := hf2.size; simp; omega) ?_; intro v1 w1 hown1 hgrow1 _)
            have hf1 : Fr (fun _ => False) W0 w1 := (hf2.trans (Fr.alloc (fun _ => False) W2 (.cells #[.int .i64 t.id, .string t.name, .bool t.fixed] 44)) (fun _ _ h => h)).own (hrow2.alloc _) hgrow1
            have e0 : (out ++ [t]).length = out.length + 1 := by simp
            have hr1 : w1.ownsRow W0.heap.size 44 3 v1 (out ++ [t]).length (topCells (out ++ [t])) := by rw [e0, topCells_snoc]; exact hown1
            obtain ⟨g', e', y1, y2, y3⟩ := (Hh.out.kept (Hf0.out.trans hf1 (fun _ _ h => h)) (fun _ _ h => h)).at Hx.out
            cases e'
            have hl1 : (out ++ [t]).length ≤ 1002 := by rw [e0]; omega
            clear hown1 hgrow1 k3 k4 k5 k6 hf2 hf2a hrow2
            go_wp2_with (at_builtin; refine wpList_append_own _ rfl _ _ 45 rfl W0.heap.size 44 i0 (.agg #[.int .i64 0, .string ⟨#[]⟩, .bool false]) 3 32 Tryz.underlying45 hi hz0 hz1 hz2 rfl (by decide) _ _ _ rfl (hr1.alloc _) ⟨w1.heap.size, 0, none⟩ 1 1 [.int .i64 x.id, .string x.name, .bool x.fixed] rfl rfl (cell_three_new _ _ _ _ _) (by simp [Value.oneCell']) (by unfold maxLen; omega) (by omega) (by have := hf1.size; simp; omega) ?_; intro v2 w2 hown2 hgrow2 _)
            have hf3 : Fr (fun _ => False) W0 w2 := (hf1.trans (Fr.alloc (fun _ => False) w1 (.cells #[.int .i64 x.id, .string x.name, .bool x.fixed] 44)) (fun _ _ h => h)).own (hr1.alloc _) hgrow2
            go_roundg (l.length - (i + 1))
            case measure => have := Hgk.out; omega
            case rel =>
              have e1 : (out ++ [t] ++ [x]).length = (out ++ [t]).length + 1 := by simp
              refine ⟨i + 1, true, out ++ [t] ++ [x], rfl, rfl, by omega, rfl, ?_, nofun, by rw [e1, e0]; omega, ?_, hf3⟩
              · rw [e1, topCells_snoc]; exact hown2
              · rw [← Heq.out, Hcons.out]; simp [Hti.out]
          · have htd : decide (t.id < x.id) = false := decide_eq_false hti
            have Hti := Lib.hid hti
            clear hti
            simp only [htd, Bool.not_false, Bool.true_and]
            go_wp2_with (at_builtin; refine wpList_append_own _ rfl _ _ 45 rfl W0.heap.size 44 i0 (.agg #[.int .i64 0, .string ⟨#[]⟩, .bool false]) 3 32 Tryz.underlying45 hi hz0 hz1 hz2 rfl (by decide) _ _ _ rfl (hrow2.alloc _) ⟨W2.heap.size, 0, none⟩ 1 1 [.int .i64 x.id, .string x.name, .bool x.fixed] rfl rfl (cell_three_new _ _ _ _ _) (by simp [Value.oneCell']) (by unfold maxLen; omega) (by omega) (by have := hf2.size; simp; omega) ?_; intro v1 w1 hown1 hgrow1 _)
            have hf1 : Fr (fun _ => False) W0 w1 := hf2a.own (hrow2.alloc _) hgrow1
            go_roundg (l.length - (i + 1))
            case measure => have := Hgk.out; omega
            case rel =>
              have e1 : (out ++ [x]).length = out.length + 1 := by simp
              refine ⟨i + 1, false, out ++ [x], rfl, rfl, by omega, rfl, ?_, fun _ => by rw [e1]; omega, by rw [e1]; omega, ?_, hf1⟩
              · rw [e1, topCells_snoc]; exact hown1
              · rw [← Heq.out, Hcons.out, if_neg (fun h => absurd h.2 (by have := Hti.out; omega)), decide_eq_false (by have := Hti.out; omega)]; simp
    · have hlt2 : ¬ (i : Int) < (l.length : Int) := by omega
      have hdrop : l.drop i = [] := List.drop_eq_nil_of_le (by omega)
      have hfresh : ∀ (v' : Value) (w' : World) n (xs : List Value), w'.ownsRow W0.heap.size 44 3 v' n xs → ∀ k, v'.ownBlock = some k → w.heap.size ≤ k := fun v' w' n xs h k hk => by
        have h1 := (h.lt k hk).1
        have h2 := Hf0.out.size
        omega
      have Hfresh := Lib.hid hfresh
      have Hdrop := Lib.hid hdrop
      clear hfresh hdrop
      cases bb with
      | true =>
        have hout : out = putGo false t l := by rw [← Heq.out, Hdrop.out]; simp [putGo]
        have hfin : PutEnd w (putGo false t l) (.returned u5) wr := ⟨u5, rfl, by rw [← hout]; exact rowT_of_own hrow (by rw [hout, putGo_ins]; exact ins_ne _ _), Hf0.out.trans hf (fun _ _ h => h), Hfresh.out _ _ _ _ hrow⟩
        have Hfin := Lib.hid hfin
        clear hout hfin hrow hf
        go_wp2_with fail
        go_ret
        exact Hfin.out
      | false =>
        have hol1 : out.length ≤ i := Hol0.out rfl
        have hfa := hf.trans (Fr.alloc (fun _ => False) wr (.cells #[.int .i64 t.id, .string t.name, .bool t.fixed] 44)) (fun _ _ h => h)
        go_wp2_with (at_builtin; refine wpList_append_own _ rfl _ _ 45 rfl W0.heap.size 44 i0 (.agg #[.int .i64 0, .string ⟨#[]⟩, .bool false]) 3 32 Tryz.underlying45 hi hz0 hz1 hz2 rfl (by decide) _ _ _ rfl (hrow.alloc _) ⟨wr.heap.size, 0, none⟩ 1 1 [.int .i64 t.id, .string t.name, .bool t.fixed] rfl rfl (cell_three_new _ _ _ _ _) (by simp [Value.oneCell']) (by unfold maxLen; omega) (by omega) (by have := hf.size; simp; omega) ?_; intro v1 w1 hown1 hgrow1 _)
        have hf1 : Fr (fun _ => False) W0 w1 := hfa.own (hrow.alloc _) hgrow1
        have hout : out ++ [t] = putGo false t l := by rw [← Heq.out, Hdrop.out]; simp [putGo]
        have hr1 : w1.ownsRow W0.heap.size 44 3 v1 (out ++ [t]).length (topCells (out ++ [t])) := by
          have e0 : (out ++ [t]).length = out.length + 1 := by simp
          rw [e0, topCells_snoc]; exact hown1
        have hfin : PutEnd w (putGo false t l) (.returned v1) w1 := ⟨v1, rfl, by rw [← hout]; exact rowT_of_own hr1 (by simp), Hf0.out.trans hf1 (fun _ _ h => h), Hfresh.out _ _ _ _ hr1⟩
        have Hfin := Lib.hid hfin
        clear hout hfin hr1 hf1 hown1 hgrow1
        go_ret
        exact Hfin.out
end Go.Proofs.YtfgnipcegnoagaaGreat
