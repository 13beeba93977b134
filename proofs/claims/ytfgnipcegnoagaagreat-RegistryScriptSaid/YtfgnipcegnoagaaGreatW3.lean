/- The methods of the heap of free ids, as walked. -/
import Derived.Test.YtfgnipcegnoagaaGreatW1
import Derived.Test.YtfgnipcegnoagaaGreatHeapP
import Derived.Maps.AppendAt
namespace Go.Proofs.YtfgnipcegnoagaaGreat
open Go.RowKit Go.MapKept
open Go.ChangeMaps (setBlock heap_setBlock_same heap_setBlock_other)

theorem meth_Len (n : Nat) (a : Addr) (w : World) (v : Value) (h : w.cell? a = some v) : (method (n + 1) 72 (.pointer (some a)) "Len").run Tryz.prog w = .ok (126, v) w := by
  have e : (method (n + 1) 72 (.pointer (some a)) "Len").run Tryz.prog w = (Sem.load .plain a (fun v => .pure (126, v))).run Tryz.prog w := by kernel_rfl
  rw [e]; simp [Sem.run, h]
theorem meth_Less (n : Nat) (a : Addr) (w : World) (v : Value) (h : w.cell? a = some v) : (method (n + 1) 72 (.pointer (some a)) "Less").run Tryz.prog w = .ok (127, v) w := by
  have e : (method (n + 1) 72 (.pointer (some a)) "Less").run Tryz.prog w = (Sem.load .plain a (fun v => .pure (127, v))).run Tryz.prog w := by kernel_rfl
  rw [e]; simp [Sem.run, h]
theorem meth_Swap (n : Nat) (a : Addr) (w : World) (v : Value) (h : w.cell? a = some v) : (method (n + 1) 72 (.pointer (some a)) "Swap").run Tryz.prog w = .ok (128, v) w := by
  have e : (method (n + 1) 72 (.pointer (some a)) "Swap").run Tryz.prog w = (Sem.load .plain a (fun v => .pure (128, v))).run Tryz.prog w := by kernel_rfl
  rw [e]; simp [Sem.run, h]
theorem meth_Pop (n : Nat) (a : Addr) (w : World) : (method (n + 1) 72 (.pointer (some a)) "Pop").run Tryz.prog w = .ok (129, .pointer (some a)) w := by kernel_rfl
theorem meth_Push (n : Nat) (a : Addr) (w : World) : (method (n + 1) 72 (.pointer (some a)) "Push").run Tryz.prog w = .ok (130, .pointer (some a)) w := by kernel_rfl
theorem nil_Len (n : Nat) (a : Addr) (w : World) : (nilAhead (n + 1) 72 (.pointer (some a)) "Len").run Tryz.prog w = .ok (some false) w := by kernel_rfl
theorem nil_Less (n : Nat) (a : Addr) (w : World) : (nilAhead (n + 1) 72 (.pointer (some a)) "Less").run Tryz.prog w = .ok (some false) w := by kernel_rfl
theorem nil_Swap (n : Nat) (a : Addr) (w : World) : (nilAhead (n + 1) 72 (.pointer (some a)) "Swap").run Tryz.prog w = .ok (some false) w := by kernel_rfl
theorem nil_Pop (n : Nat) (a : Addr) (w : World) : (nilAhead (n + 1) 72 (.pointer (some a)) "Pop").run Tryz.prog w = .ok (some false) w := by kernel_rfl
theorem nil_Push (n : Nat) (a : Addr) (w : World) : (nilAhead (n + 1) 72 (.pointer (some a)) "Push").run Tryz.prog w = .ok (some false) w := by kernel_rfl

theorem flen_walk (a : Option Addr) (n c : Nat) (w : World) :
    Calls Tryz.prog 126 #[.slice a n c] w fun e w' => e = .returned (.int .i64 n) ∧ w = w' := by
  go_enter Tryz.func126, Tryz.ntmps126
  go_wp2
  go_ret
  exact ⟨rfl, rfl⟩

/-- Block g is a row of ints; its first cells are xs. -/
def IntRow (w : World) (g cap : Nat) (xs : List Int) : Prop := ∃ cur, w.heap[g]? = some (.cells cur 3 (0, 0)) ∧ cur.size = cap ∧ xs.length ≤ cap ∧ cap ≤ maxLen ∧ cur.toList.take xs.length = xs.map (.int .i64)

theorem IntRow.at {w : World} {g cap : Nat} {xs : List Int} (h : IntRow w g cap xs) {i : Nat} (hi : i < xs.length) : w.cell? ⟨g, i, none⟩ = some (.int .i64 xs[i]) := by
  obtain ⟨cur, h1, h2, h3, _, h4⟩ := h
  rw [rowC h1]
  have := congrArg (fun l => l[i]?) h4
  simp only [List.getElem?_take, hi, if_true, List.getElem?_map, List.getElem?_eq_getElem hi, Option.map_some] at this
  simpa using this
theorem IntRow.free {w : World} {g cap : Nat} {xs : List Int} (h : IntRow w g cap xs) (i : Nat) : w.frozen? ⟨g, i, none⟩ = false := by
  obtain ⟨cur, h1, _⟩ := h
  exact rowF h1 i
theorem IntRow.of_block {w w' : World} {g cap : Nat} {xs : List Int} (h : IntRow w g cap xs) (hb : w'.heap[g]? = w.heap[g]?) : IntRow w' g cap xs := by
  obtain ⟨cur, h1, h2⟩ := h
  exact ⟨cur, hb.trans h1, h2⟩
theorem IntRow.lt {w : World} {g cap : Nat} {xs : List Int} (h : IntRow w g cap xs) : g < w.heap.size := by
  obtain ⟨cur, h1, _⟩ := h
  exact lt_of_heap h1
theorem heap_setCell {w : World} {b : Nat} {cs : Array Value} {t : TypeId} {f : Nat × Nat} (h : w.heap[b]? = some (.cells cs t f)) (i : Nat) (v : Value) : (w.setCell ⟨b, i, none⟩ v).heap[b]? = some (.cells (cs.setIfInBounds i v) t f) := by
  obtain ⟨hlt, hk⟩ := Array.getElem?_eq_some_iff.1 h
  show (w.heap.modify b _)[b]? = _
  rw [Array.getElem?_eq_getElem (by rw [Array.size_modify]; exact hlt), Array.getElem_modify_self, hk]
  rfl
theorem IntRow.set {w : World} {g cap : Nat} {xs : List Int} (h : IntRow w g cap xs) (i : Nat) (x : Int) : IntRow (w.setCell ⟨g, i, none⟩ (.int .i64 x)) g cap (xs.set i x) := by
  obtain ⟨cur, h1, h2, h3, h5, h4⟩ := h
  refine ⟨_, heap_setCell h1 i _, by simpa using h2, by simpa using h3, h5, ?_⟩
  simp only [Array.toList_setIfInBounds, List.length_set]
  rw [List.take_set, h4, List.map_set]

theorem fless_walk (g cap : Nat) (xs : List Int) (i j : Nat) (w : World) (h : IntRow w g cap xs) (hi : i < xs.length) (hj : j < xs.length) :
    Calls Tryz.prog 127 #[.slice (some ⟨g, 0, none⟩) xs.length cap, .int .i64 i, .int .i64 j] w fun e w' => e = .returned (.bool (decide (xs[i] < xs[j]))) ∧ ∃ k, w' = w.drewN k := by
  have ci := h.at hi
  have cj := h.at hj
  clear h
  generalize xs[i] = a at *
  generalize xs[j] = b at *
  go_enter Tryz.func127, Tryz.ntmps127
  go_wp2
  go_quiet (fail)
  go_wp2
  go_ret
  exact ⟨rfl, _, rfl⟩

set_option maxRecDepth 100000 in
theorem fswap_walk (g cap : Nat) (xs : List Int) (i j : Nat) (w : World) (h : IntRow w g cap xs) (hi : i < xs.length) (hj : j < xs.length) :
    Calls Tryz.prog 128 #[.slice (some ⟨g, 0, none⟩) xs.length cap, .int .i64 i, .int .i64 j] w fun e w' => e = .returned (.tuple #[]) ∧ IntRow w' g cap (swapI xs i j) ∧ ∃ v1 v2, w' = ((w.setCell ⟨g, i, none⟩ v1).setCell ⟨g, j, none⟩ v2).drew := by
  have ci := h.at hi
  have cj := h.at hj
  have fr := h.free
  have ea : gx xs i = xs[i] := gx_eq hi
  have eb : gx xs j = xs[j] := gx_eq hj
  have hfin : Hid (IntRow ((w.setCell ⟨g, i, none⟩ (.int .i64 xs[j])).setCell ⟨g, j, none⟩ (.int .i64 xs[i])) g cap (swapI xs i j)) := by
    unfold swapI
    rw [ea, eb]
    exact (h.set i xs[j]).set j xs[i]
  clear h ea eb
  generalize xs[i] = a at *
  generalize xs[j] = b at *
  go_enter Tryz.func128, Tryz.ntmps128
  go_wp2
  by_cases hne : i = j
  · subst hne
    have : a = b := by rw [ci] at cj; cases cj; rfl
    subst this
    go_region
    go_end0
    exact ⟨rfl, hfin.out, _, _, rfl⟩
  · go_region
    go_end0
    exact ⟨rfl, hfin.out, _, _, rfl⟩

/-- '*f = (*f)[:last]; return id' -/
theorem fpop_walk (a : Addr) (g cap : Nat) (xs : List Int) (x : Int) (w : World) (hc : w.cell? a = some (.slice (some ⟨g, 0, none⟩) (xs.length + 1) cap)) (hf : w.frozen? a = false) (h : IntRow w g cap (xs ++ [x])) :
    Calls Tryz.prog 129 #[.pointer (some a)] w fun e w' => e = .returned (.iface 3 (.int .i64 x)) ∧ w' = w.setCell a (.slice (some ⟨g, 0, none⟩) xs.length cap) := by
  have hx := h.at (i := xs.length) (by simp)
  have hle : xs.length + 1 ≤ cap := by obtain ⟨_, _, _, h3, _⟩ := h; simpa using h3
  have hml : cap ≤ maxLen := by obtain ⟨_, _, _, _, h4, _⟩ := h; exact h4
  unfold maxLen at hml
  simp only [List.getElem_append_right (Nat.le_refl _), Nat.sub_self, List.getElem_cons_zero] at hx
  clear h
  go_enter Tryz.func129, Tryz.ntmps129
  go_wp2
  go_ret
  exact ⟨rfl, rfl⟩

theorem info_int : (Tryz.prog.info? 3).map (fun i => (i.zero, i.size, i.bytes)) = some (some (.int .i64 0), 1, 8) := by kernel_rfl

/-- A slice of ints of the call's own: nil, or a row. -/
def BackAt (w : World) (v : Value) (xs : List Int) : Prop := w.ownsRow 0 3 1 v xs.length (xs.map (.int .i64))

set_option maxRecDepth 100000 in
theorem fpush_walk (a : Addr) (v : Value) (xs : List Int) (x : Int) (w : World) (hc : w.cell? a = some v) (hf : w.frozen? a = false) (hal : a.block < w.heap.size) (h : BackAt w v xs) (hne : v.ownBlock ≠ some a.block) (hlen : xs.length ≤ 100000) :
    Calls Tryz.prog 130 #[.pointer (some a), .iface 3 (.int .i64 x)] w fun e w' => e = .returned (.tuple #[]) ∧ ∃ g cap w1, IntRow w1 g cap (xs ++ [x]) ∧ (v.ownBlock = some g ∨ w.heap.size ≤ g) ∧ Fr (fun k => v.ownBlock = some k) w w1 ∧ w' = w1.setCell a (.slice (some ⟨g, 0, none⟩) (xs.length + 1) cap) := by
  obtain ⟨i0, hi, hz0, hz1, hz2⟩ := info_parts info_int
  have hown : w.ownsRow 0 3 1 v xs.length (xs.map (.int .i64)) := h
  have hta : ∀ x w, (Instr.typeAssert (.iface 3 (.int .i64 x)) 20 3 true).run Tryz.prog w = .ok (.tuple #[.int .i64 x, .bool true]) w := fun x w => by kernel_rfl
  clear h
  go_enter Tryz.func130, Tryz.ntmps130
  go_wp2_with (at_builtin; refine wpList_append_own_at _ rfl _ _ 63 rfl 0 3 i0 (.int .i64 0) 1 8 Tryz.underlying63 hi hz0 hz1 hz2 rfl (by decide) _ _ _ rfl (hown.alloc _) ⟨w.heap.size, 0, none⟩ 1 1 [.int .i64 x] rfl rfl (cell_one_new _ _ _) (ints_oneCell .i64 [x]) (by unfold maxLen; omega) (by omega) (by omega) ?_; intro v' w1 hown' hg1 hnil hloc; have hc1 : w1.cell? a = some v := hg1.cell ((cell_old _ hal).trans hc) (fun e => hne e.symm); have hf1 : w1.frozen? a = false := (World.frozen?_of_block (hg1.block a.block (by simp; omega) (fun e => hne e.symm))).trans ((frozen_old _ hal).trans hf); obtain ⟨g, cap, cur, rfl, hrow⟩ : ∃ g cap cur, v' = .slice (some ⟨g, 0, none⟩) (xs.length + 1) cap ∧ w1.heap[g]? = some (.cells cur 3 (0, 0)) ∧ xs.length + 1 ≤ cap ∧ cap ≤ maxLen ∧ cur.size = cap * 1 ∧ cur.toList.take ((xs.length + 1) * 1) = xs.map (.int .i64) ++ [.int .i64 x] := (by rcases hown'.2 with ⟨_, h0⟩ | ⟨g, cap, cur, q1, _, q2⟩; exact absurd h0 (by omega); exact ⟨g, cap, cur, q1, q2⟩); clear hown')
  go_end0
  refine ⟨rfl, g, cap, w1, ⟨cur, hrow.1, by simpa using hrow.2.2.2.1, by simpa using hrow.2.1, hrow.2.2.1, by simpa using hrow.2.2.2.2⟩, ?_, ?_, rfl⟩
  · rcases hloc with h | h
    · exact .inl h.symm
    · right
      have : g = (w.alloc (Obj.cells #[Value.int IntKind.i64 x] 3)).heap.size := by injection h
      rw [this]; simp
  · exact (Fr.alloc (fun k => v.ownBlock = some k) w _).trans (Fr.of_grown hg1 (fp := fun k => v.ownBlock = some k) (fun k e => e)) (fun _ _ h => h)

end Go.Proofs.YtfgnipcegnoagaaGreat
