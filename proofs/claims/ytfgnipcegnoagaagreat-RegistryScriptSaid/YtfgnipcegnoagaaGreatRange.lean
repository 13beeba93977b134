/- A range over a map whose block is a list of entries: which are still to come. No program in sight. -/
import Derived.Test.YtfgnipcegnoagaaGreatBase
import Derived.RangeFuncGives
import Derived.Sort.MapsRangeIn
namespace Go.Proofs.YtfgnipcegnoagaaGreat
open Go.RowKit Go.MapKept
open Go.ChangeMaps (setBlock heap_setBlock_same heap_setBlock_other)

section ranges
variable {κ ν : Type} {enc : κ → Value} {encV : ν → Value} {w : World} {b r : Nat} {P : Program}

/-- Block r is an iterator over the map of block b; the entries 'left' are still to come. -/
def RangesM (w : World) (b r : Nat) (enc : κ → Value) (encV : ν → Value) (left : List (κ × ν)) : Prop :=
  ∃ es clock since seen c0, w.heap[b]? = some (.map es clock) ∧ Stamped es clock ∧ w.heap[r]? = some (.mapIter (some b) since seen c0) ∧ (∀ x ∈ es.toList, x.born < since) ∧ since ≤ c0 ∧ since ≤ clock ∧
    (leftOf es seen).toList.map (fun e => (e.key, e.val)) = left.map (fun p => (enc p.1, encV p.2))

theorem RangesM.ne {left : List (κ × ν)} (h : RangesM w b r enc encV left) : r ≠ b := by
  obtain ⟨es, clock, since, seen, c0, hb, _, hr, _⟩ := h
  intro e
  rw [e, hb] at hr
  cases hr
theorem RangesM.left_eq {left : List (κ × ν)} (h : RangesM w b r enc encV left) : w.rangeLeft b r = left.length := by
  obtain ⟨es, clock, since, seen, c0, hb, _, hr, _, _, _, hl⟩ := h
  simp only [World.rangeLeft, hb, hr]
  have := congrArg List.length hl
  simpa using this
theorem RangesM.of_walks {w' : World} {left : List (κ × ν)} (h : RangesM w b r enc encV left) (hk : KeepsWalks w w') : RangesM w' b r enc encV left := by
  obtain ⟨es, clock, since, seen, c0, hb, hs, hr, rest⟩ := h
  exact ⟨es, clock, since, seen, c0, hk.same b _ hb rfl, hs, hk.same r _ hr rfl, rest⟩
theorem RangesM.iter_walk {left : List (κ × ν)} (h : RangesM w b r enc encV left) : ∃ o : Obj, w.heap[r]? = some o ∧ o.isWalk = true := by
  obtain ⟨es, clock, since, seen, c0, hb, hs, hr, rest⟩ := h
  exact ⟨_, hr, rfl⟩

theorem MapAt.range {m : List (κ × ν)} {t k e : TypeId} (h : MapAt w b enc encV m) (ht : P.underlying t = some (.map k e)) :
    ∃ w', (Instr.range t (.map (some b))).run P w = .ok (.pointer (some ⟨w.heap.size, 0, none⟩)) w' ∧ RangesM w' b w.heap.size enc encV m ∧ w.grownBy w' none ∧ w'.heap.size = w.heap.size + 1 := by
  have hlt := h.lt
  obtain ⟨es, clock, hb, hs, he⟩ := h
  refine ⟨_, run_range_map w t k e b es clock ht hb, ⟨es, clock, clock, #[], clock, ((MapKept.heap_alloc w _).2 b hlt).trans hb, hs, (MapKept.heap_alloc w _).1, hs.1, Nat.le_refl _, Nat.le_refl _, ?_⟩, World.grownBy_alloc w _ none, by simp⟩
  have e1 : (leftOf es #[]).toList = es.toList := by
    unfold leftOf
    rw [Array.toList_filter]
    exact List.filter_eq_self.2 (fun x _ => by simp)
  rw [e1]
  exact he

theorem strike_born {L : List MapEntry} (hn : (L.map (·.born)).Nodup) {s t : List MapEntry} {e : MapEntry} (h : L = s ++ e :: t) : L.filter (fun x => !(x.born == e.born)) = s ++ t := by
  subst h
  simp only [List.map_append, List.map_cons, List.nodup_append, List.nodup_cons, List.mem_map, List.mem_cons] at hn
  obtain ⟨h1, ⟨h2, h3⟩, h4⟩ := hn
  rw [List.filter_append, List.filter_cons]
  simp only [beq_self_eq_true, Bool.not_true, Bool.false_eq_true, if_false]
  congr 1
  · refine List.filter_eq_self.2 fun x hx => ?_
    have := h4 x.born ⟨x, hx, rfl⟩ e.born (.inl rfl)
    simpa using this
  · refine List.filter_eq_self.2 fun x hx => ?_
    have : x.born ≠ e.born := fun e1 => h2 ⟨x, hx, e1⟩
    simpa using this

theorem RangesM.next {left : List (κ × ν)} (h : RangesM w b r enc encV left) (ty : TypeId) :
    (left = [] ∧ (Instr.next (.pointer (some ⟨r, 0, none⟩)) false ty).run P w = .ok (.tuple #[.bool false]) w) ∨
    ∃ l1 p l2 w', left = l1 ++ p :: l2 ∧ (Instr.next (.pointer (some ⟨r, 0, none⟩)) false ty).run P w = .ok (.tuple #[.bool true, enc p.1, encV p.2]) w' ∧
      RangesM w' b r enc encV (l1 ++ l2) ∧ w.grownBy w' (some r) ∧ w'.heap.size = w.heap.size ∧ (Instr.entry (.pointer (some ⟨r, 0, none⟩))).run P w' = .ok (.tuple #[enc p.1, encV p.2]) w' := by
  have hne := h.ne
  obtain ⟨es, clock, since, seen, c0, hb, hs, hr, hold, hsc, hsk, hl⟩ := h
  have hst := (stamped_iff es clock).1 hs
  rcases run_next_at (P := P) w ty r b since c0 seen es clock hr hb hold hsc with ⟨h0, hrun⟩ | ⟨e, he, w1, hal, hrun⟩
  · refine Or.inl ⟨?_, hrun⟩
    have h00 : (leftOf es seen).toList = [] := by simpa using h0
    rw [h00] at hl
    cases left with
    | nil => rfl
    | cons p l => simp at hl
  · obtain ⟨hem, hes⟩ := mem_left he
    have hr1 : w1.heap[r]? = some (.mapIter (some b) since seen c0) := by rcases hal with rfl | rfl <;> exact hr
    have hb1 : w1.heap[b]? = some (.map es clock) := by rcases hal with rfl | rfl <;> exact hb
    have hset := heap_set (o' := .mapIter (some b) since (seen.push e.born) clock) hr1
    have hb' : (setBlock w1 r (.mapIter (some b) since (seen.push e.born) clock)).heap[b]? = some (.map es clock) := (hset.2 b (fun e1 => hne e1.symm)).trans hb1
    obtain ⟨s, t, hL⟩ := List.append_of_mem he
    have hnL : ((leftOf es seen).toList.map (·.born)).Nodup := by
      have : (leftOf es seen).toList.Sublist es.toList := by
        unfold leftOf
        rw [Array.toList_filter]
        exact List.filter_sublist
      exact (this.map _).nodup hst.2.1
    have hleft : (leftOf es (seen.push e.born)).toList = s ++ t := by
      rw [← strike_born hnL hL]
      unfold leftOf
      rw [Array.toList_filter, Array.toList_filter, List.filter_filter]
      congr 1
      funext x
      rw [contains_push]
      cases seen.contains x.born <;> cases (x.born == e.born) <;> rfl
    rw [hL] at hl
    simp only [List.map_append, List.map_cons] at hl
    obtain ⟨l1, l2', e1, e2, e3⟩ := List.append_eq_map_iff.1 hl
    cases l2' with
    | nil => simp at e3
    | cons p l2 =>
      simp only [List.map_cons, List.cons.injEq, Prod.mk.injEq] at e3
      obtain ⟨⟨k1, k2⟩, e4⟩ := e3
      refine Or.inr ⟨l1, p, l2, _, e1, by rw [hrun, k1, k2], ⟨es, clock, since, seen.push e.born, clock, hb', hs, hset.1, hold, hsk, hsk, ?_⟩, ?_, ?_, ?_⟩
      · rw [hleft, List.map_append, List.map_append, e2, e4]
      · rcases hal with rfl | rfl <;> exact ⟨rfl, rfl, rfl, by simp [setBlock], fun i _ hi => hset.2 i (fun e1 => hi (by rw [e1]))⟩
      · rcases hal with rfl | rfl <;> simp [setBlock]
      · rw [k1, k2]
        exact run_entry_at _ r b since seen es clock e hset.1 hb' hem hst.2.1
end ranges

section arms
variable {κ ν : Type} {enc : κ → Value} {encV : ν → Value} {b r : Nat} {F : Fence} {n : Nat} {P : Program} (w : World) {ops : Array Oper} {rest : List Oper} {o : Oper} {a : Act} {Q : Exit → Act → World → Prop}

theorem wpListIn_rangeM (hg : o.guard = none) (m : Operand) (t : TypeId) (hop : o.op = Op.range t m) (k e : TypeId) (ht : P.underlying t = some (.map k e)) (ms : List (κ × ν))
    (hm : a.eval m = .map (some b)) (hown : MapAt w b enc encV ms)
    (hK : ∀ w', RangesM w' b w.heap.size enc encV ms → w.grownBy w' none → w'.heap.size = w.heap.size + 1 → wpListIn F n P ops Q rest (a.put o.dst (.pointer (some ⟨w.heap.size, 0, none⟩))) w') :
    wpListIn F n P ops Q (o :: rest) a w := by
  refine wpListIn_plain hg fun K' hK' => ?_
  obtain ⟨w', hrun, r1, r2, r3⟩ := hown.range (P := P) ht
  unfold Oper.wpIn
  refine ⟨?_, ?_⟩
  · simp [Oper.about, hop]
  · rw [Oper.semAt_plain F _ _ (by rw [hop]; intro c hc'; cases hc')]
    simp [execOp, hop, hm, hrun, Result.andThen]
    exact hK' _ _ (hK w' r1 r2 r3)

theorem wpListIn_nextM (hg : o.guard = none) (it : Operand) (hop : o.op = Op.next it false) (left : List (κ × ν))
    (hit : a.eval it = .pointer (some ⟨r, 0, none⟩)) (h : RangesM w b r enc encV left)
    (hDone : left = [] → wpListIn F n P ops Q rest (a.put o.dst (.tuple #[.bool false])) w)
    (hMore : ∀ l1 p l2 w', left = l1 ++ p :: l2 → RangesM w' b r enc encV (l1 ++ l2) → w.grownBy w' (some r) → w'.heap.size = w.heap.size → (Instr.entry (.pointer (some ⟨r, 0, none⟩))).run P w' = .ok (.tuple #[enc p.1, encV p.2]) w' → wpListIn F n P ops Q rest (a.put o.dst (.tuple #[.bool true, enc p.1, encV p.2])) w') :
    wpListIn F n P ops Q (o :: rest) a w := by
  refine wpListIn_plain hg fun K' hK' => ?_
  unfold Oper.wpIn
  refine ⟨by simp [Oper.about, hop], ?_⟩
  rw [Oper.semAt_plain F _ _ (by rw [hop]; intro c hc'; cases hc')]
  rcases h.next (P := P) o.type with ⟨h0, hrun⟩ | ⟨l1, p, l2, w', hl, hrun, hrg, hgr, hsz, hen⟩
  · simp [execOp, hop, hit, hrun, Result.andThen]
    exact hK' _ _ (hDone h0)
  · simp [execOp, hop, hit, hrun, Result.andThen]
    exact hK' _ _ (hMore l1 p l2 w' hl hrg hgr hsz hen)
end arms
end Go.Proofs.YtfgnipcegnoagaaGreat
