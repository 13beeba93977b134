/- The reference registry: New, Topics, Len. -/
import Derived.Test.YtfgnipcegnoagaaGreatRr3
namespace Go.Proofs.YtfgnipcegnoagaaGreat
open Go.RowKit Go.MapKept

theorem ptrV_own (b : Nat) : (ptrV b).ownBlock = none := rfl
/-- The registry without entries. -/
theorem rnew_walk (w : World) : Calls Tryz.prog 7 #[] w fun e w' => ∃ S : Rr, e = .returned (ptrV S.ob) ∧ S.At w' ∧ S.es = [] ∧ Fr (fun _ => False) w w' ∧ ∀ k, S.fp k → w.heap.size ≤ k := by
  go_enter Tryz.func7, Tryz.ntmps7
  go_wp2
  go_ret
  refine ⟨⟨w.heap.size, .slice none 0 0, []⟩, rfl, ⟨alloc_new w _, .inl ⟨rfl, rfl⟩, by simp, by simp [Value.ownBlock], by simp, .nil⟩, rfl, Fr.alloc _ _ _, fun k hk => ?_⟩
  rcases hk with hk | hk | ⟨e, he, _⟩
  · exact Nat.le_of_eq hk.symm
  · simp [Value.ownBlock] at hk
  · cases he

set_option maxRecDepth 100000 in
set_option maxHeartbeats 2000000 in
theorem rtopics_walk (w : World) (S : Rr) (c : ByteArray) (h : S.At w) (hN : S.es.length ≤ 1000) (hL : ∀ e ∈ S.es, e.l.length ≤ 1000) :
    Calls Tryz.prog 23 #[ptrV S.ob, .string c] w (PutEnd w (S.get c)) := by
  obtain ⟨i0, hi, hz0, hz1, hz2⟩ := info_parts Tryz.infoTopic
  obtain ⟨p, cap, hv⟩ := h.row.shape
  have c0 := rowC h.reg
  have hob := lt_of_heap h.reg
  have hrow := h.row
  rw [hv] at c0 hrow
  have Hh := Lib.hid h
  have HrowS := Lib.hid hrow
  have HL := Lib.hid hL
  clear h hv hrow hL
  unfold ptrV
  go_enter Tryz.func23, Tryz.ntmps23
  go_wp2
  go_loop [5] (fun s => ∃ i : Nat, s = .int .i64 i ∧ i ≤ S.es.length ∧ ∀ k e, k < i → S.es[k]? = some e → e.c ≠ c) (fun s => S.es.length - (intOf s).toNat)
  case atStart => exact ⟨0, rfl, Nat.zero_le _, fun k e h => absurd h (by omega)⟩
  case round =>
    obtain ⟨i, rfl, hil, hpre⟩ := hrel
    have Hpre := Lib.hid hpre
    clear hpre
    by_cases hlt : i < S.es.length
    · have hlt2 : (i : Int) < (S.es.length : Int) := by omega
      have ht : S.es[i]? = some S.es[i] := List.getElem?_eq_getElem hlt
      generalize S.es[i] = x at ht
      obtain ⟨g, rfl, x1, x2⟩ := HrowS.out.at ht
      have hgl : g < w.heap.size := HrowS.out.lt rfl
      have hmb := beq_toList x.c c
      have hm := List.mem_of_getElem? ht
      by_cases hc : x.c = c
      · rw [decide_eq_true hc] at hmb
        obtain ⟨hr, hne⟩ := Hh.out.each x hm
        have hget : S.get c = x.l := by rw [← hc]; exact entGet_mem Hh.out.srt hm
        have hxl := HL.out x hm
        rcases hr with ⟨_, h0⟩ | ⟨b, cp, hxv, _, hbl, hcells⟩
        · exact absurd h0 hne
        · have hr2 : RowT w (.slice (some ⟨b, 0, none⟩) x.l.length cp) x.l := .inr ⟨b, cp, rfl, hne, hbl, hcells⟩
          rw [hxv] at x2
          have Hr2 := Lib.hid hr2
          have Hget := Lib.hid hget
          have Hne := Lib.hid hne
          clear hc ht hm hcells hxv hr2 hget hne
          have hpos : 0 < x.l.length := List.length_pos_iff.2 Hne.out
          have hone : ∀ u ∈ topCells x.l, u.oneCell' = true := fun u hu => by
            simp only [topCells, List.mem_flatMap] at hu
            obtain ⟨t, _, ht⟩ := hu
            simp [Top.cells] at ht
            rcases ht with rfl | rfl | rfl <;> rfl
          have Hone := Lib.hid hone
          clear hone
          go_wp2_with (at_builtin; refine wpList_append_own _ rfl _ _ 45 rfl w.heap.size 44 i0 (.agg #[.int .i64 0, .string ⟨#[]⟩, .bool false]) 3 32 Tryz.underlying45 hi hz0 hz1 hz2 rfl (by decide) _ _ _ rfl (World.ownsRow_made w #[] 0 (Nat.le_refl _) (by unfold maxLen; omega) rfl) ⟨b, 0, none⟩ x.l.length cp (topCells x.l) rfl (topCells_length _) ((Hr2.out.kept (Fr.alloc (fun _ => False) w _) (fun _ _ h => h)).cells) Hone.out (by unfold maxLen; omega) (by omega) (by simp) ?_; intro v1 w1 hown1 hgrow1 _)
          go_ret
          refine ⟨v1, rfl, ?_, ?_, ?_⟩
          · rw [Hget.out]
            have : w1.ownsRow w.heap.size 44 3 v1 x.l.length (topCells x.l) := by
              have := hown1
              rw [Nat.zero_add, List.nil_append] at this
              exact this
            exact rowT_of_own this Hne.out
          · exact (Fr.alloc (fun _ => False) w _).own (World.ownsRow_made (e := 44) (size := 3) w #[] 0 (Nat.le_refl _) (by unfold maxLen; omega) rfl) hgrow1
          · exact fun k hk => (hown1.lt k hk).1
      · rw [decide_eq_false hc] at hmb
        have Hc := Lib.hid hc
        have Ht := Lib.hid ht
        clear hc ht hm
        go_wp2_with fail
        go_round
        case rel => exact ⟨i + 1, rfl, by omega, fun k e hk he => by
          by_cases hki : k = i
          · subst hki
            rw [Ht.out] at he
            cases he
            exact Hc.out
          · exact Hpre.out k e (by omega) he⟩
        case measure =>
          simp only [intOf]
          omega
    · have hlt2 : ¬ (i : Int) < (S.es.length : Int) := by omega
      have hget : S.get c = [] := entGet_none fun e he => by
        obtain ⟨k, hk⟩ := List.getElem?_of_mem he
        exact Hpre.out k e (by have := (List.getElem?_eq_some_iff.1 hk).1; omega) hk
      have Hget := Lib.hid hget
      clear hget
      go_wp2
      go_ret
      exact ⟨.slice none 0 0, rfl, .inl ⟨rfl, Hget.out⟩, Fr.refl _ _, fun k hk => by simp [Value.ownBlock] at hk⟩

set_option maxRecDepth 100000 in
theorem rlen_walk (w : World) (S : Rr) (c : ByteArray) (h : S.At w) (hN : S.es.length ≤ 1000) (hL : ∀ e ∈ S.es, e.l.length ≤ 1000) :
    Calls Tryz.prog 28 #[ptrV S.ob, .string c] w fun e w' => e = .returned (.int .i64 (S.get c).length) ∧ Fr (fun _ => False) w w' := by
  have ht := rtopics_walk w S c h hN hL
  generalize S.get c = l at *
  clear h hL
  unfold ptrV at *
  go_enter Tryz.func28, Tryz.ntmps28
  go_wp2_with fail
  refine ht.mono ?_
  rintro e w1 ⟨v, rfl, hr, hf, _⟩
  obtain ⟨p, cap, rfl⟩ := hr.shape
  clear ht hr
  go_wp2_with fail
  go_ret
  exact ⟨rfl, hf⟩
end Go.Proofs.YtfgnipcegnoagaaGreat
