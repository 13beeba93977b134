/- The look-ups of a registry: need, Name, ID, Fixed, Len. -/
import Derived.Test.YtfgnipcegnoagaaGreatW1
namespace Go.Proofs.YtfgnipcegnoagaaGreat
open Go.RowKit Go.MapKept
open Go.ChangeMaps (setBlock heap_setBlock_same heap_setBlock_other)

theorem need_some (w : World) (rb mb cb : Nat) (c : ByteArray) (cm : List (ByteArray × Nat)) (hr : w.heap[rb]? = some (.cells #[.map (some mb)] 52 (0, 0))) (hm : ClientsAt w mb cm) (hc : mget cm c = some cb) :
    Calls Tryz.prog 32 #[ptrV rb, .string c] w fun e w' => e = .returned (ptrV cb) ∧ w = w' := by
  have hl := hm.lookup_some keyC Tryz.underlying50 hc false
  have c0 := rowC hr
  unfold ptrV at hl ⊢
  simp only [Bool.false_eq_true, if_false] at hl
  clear hc hm hr
  go_enter Tryz.func32, Tryz.ntmps32
  go_wp2
  go_ret
  exact ⟨rfl, rfl⟩

set_option maxRecDepth 100000 in
theorem need_none (w : World) (rb mb : Nat) (c : ByteArray) (cm : List (ByteArray × Nat)) (hr : w.heap[rb]? = some (.cells #[.map (some mb)] 52 (0, 0))) (hm : ClientsAt w mb cm) (hc : mget cm c = none) :
    Calls Tryz.prog 32 #[ptrV rb, .string c] w fun e w' => e = .returned (ptrV (w.heap.size + 2)) ∧ ClientB w' (w.heap.size + 2) w.heap.size (w.heap.size + 1) (.slice none 0 0) 1 ∧ IdsAt w' w.heap.size [] ∧ AllAt w' (w.heap.size + 1) [] ∧ ClientsAt w' mb (mput cm c (w.heap.size + 2)) ∧ Fr (fun k => k = mb) w w' ∧ w'.heap.size = w.heap.size + 3 := by
  have hl := hm.lookup_none keyC Tryz.underlying50 hc (Tryz.zeroValue57 w) false
  have hmm := @run_makeMap Tryz.prog
  have c0 := rowC hr
  have hrl := lt_of_heap hr
  have hml := hm.lt
  simp only [Bool.false_eq_true, if_false] at hl
  unfold ptrV at *
  clear hc
  have c3 : ∀ x y z i, (((w.alloc x).alloc y).alloc z).cell? ⟨rb, i, none⟩ = #[Value.map (some mb)][i]? := fun x y z i => by
    rw [cell_old _ (by simp; omega), cell_old _ (by simp; omega), cell_old _ hrl, c0]
  have HM : ∀ x y z, ClientsAt (((w.alloc x).alloc y).alloc z) mb cm := fun x y z => hm.of_block (by rw [alloc_old _ _ (by simp; omega), alloc_old _ _ (by simp; omega), alloc_old _ _ hml])
  go_enter Tryz.func32, Tryz.ntmps32
  go_wp2_with (at_mapUpdate; refine wpList_updateM _ rfl _ _ _ _ rfl keyC Tryz.underlying50 mb cm rfl (HM _ _ _) c (w.heap.size + 1 + 1) rfl rfl ?_; intro w2 m2 r2 s2)
  go_ret
  have e1 : w.heap.size + 1 + 1 = w.heap.size + 2 := rfl
  rw [e1] at *
  have hb : ∀ k, k < w.heap.size + 3 → k ≠ mb → w2.heap[k]? = _ := fun k hk hn => r2.block k (by simp; omega) (fun e => hn (by cases e; rfl))
  refine ⟨rfl, ?_, ⟨#[], 0, ?_, stamped_empty 0, rfl⟩, ⟨#[], 0, ?_, stamped_empty 0, rfl⟩, m2, ?_, by rw [s2]; simp⟩
  · refine (hb _ (by omega) (by omega)).trans ?_
    exact alloc_at _ _ (by simp)
  · refine (hb _ (by omega) (by omega)).trans ?_
    rw [alloc_old _ _ (by simp <;> omega), alloc_old _ _ (by simp <;> omega)]
    exact alloc_new w _
  · refine (hb _ (by omega) (by omega)).trans ?_
    rw [alloc_old _ _ (by simp <;> omega)]
    exact alloc_at _ _ (by simp)
  · exact ((Fr.alloc _ _ _).trans ((Fr.alloc _ _ _).trans (Fr.alloc _ _ _) (fun _ _ h => h)) (fun _ _ h => h)).trans (Fr.of_grown r2 (fp := fun k => k = mb) (fun k e => by cases e; rfl)) (fun _ _ h => h)

theorem name_none (w : World) (rb mb : Nat) (c : ByteArray) (id : Int) (cm : List (ByteArray × Nat)) (hr : w.heap[rb]? = some (.cells #[.map (some mb)] 52 (0, 0))) (hm : ClientsAt w mb cm) (hc : mget cm c = none) :
    Calls Tryz.prog 15 #[ptrV rb, .string c, .int .i64 id] w fun e w' => e = .returned (.tuple #[.string ⟨#[]⟩, .int .i64 11]) ∧ w = w' := by
  have c0 := rowC hr
  have hof := of_none w rb mb c cm (c0 0) hm hc
  unfold ptrV at *
  clear c0 hm hc hr
  go_enter Tryz.func15, Tryz.ntmps15
  go_wp2_with (go_at_call 30; refine hof.mono ?_; rintro e w' ⟨rfl, rfl⟩)
  go_ret2
  exact ⟨rfl, rfl⟩

set_option maxRecDepth 100000 in
theorem name_some (w : World) (rb mb cb ib ab : Nat) (bv : Value) (nx : Int) (c : ByteArray) (id : Int) (cm : List (ByteArray × Nat)) (am : List (Int × Top)) (hr : w.heap[rb]? = some (.cells #[.map (some mb)] 52 (0, 0))) (hm : ClientsAt w mb cm) (hc : mget cm c = some cb) (hcb : ClientB w cb ib ab bv nx) (ha : AllAt w ab am) :
    Calls Tryz.prog 15 #[ptrV rb, .string c, .int .i64 id] w fun e w' => e = .returned (match mget am id with | some t => .tuple #[.string t.name, .int .i64 0] | none => .tuple #[.string ⟨#[]⟩, .int .i64 11]) ∧ Fr (fun _ => False) w w' := by
  have c0 := rowC hr
  have hof := of_some w rb mb cb c cm (c0 0) hm hc
  have hhas := has_walk w cb ib ab bv nx id am hcb ha
  have c1 := rowC hcb
  have hcl := lt_of_heap hcb
  have hal := ha.lt
  have c2 : ∀ o i, (w.alloc o).cell? ⟨cb, i, none⟩ = _ := fun o i => (cell_old o (a := ⟨cb, i, none⟩) hcl).trans (c1 i)
  cases hg : mget am id with
  | none =>
    simp only [hg, Option.isSome_none] at hhas
    unfold ptrV at *
    clear c0 hm hc hr hg hcb ha
    go_enter Tryz.func15, Tryz.ntmps15
    go_wp2_with (first | (go_at_call 30; refine hof.mono ?_; rintro e w' ⟨rfl, rfl⟩) | (go_at_call 31; refine hhas.mono ?_; rintro e w' ⟨rfl, o, rfl⟩))
    go_ret2
    exact ⟨rfl, Fr.alloc _ _ _⟩
  | some t =>
    simp only [hg, Option.isSome_some] at hhas
    have hf := fun w => (topic_fields t.id t.name t.fixed w).2.1
    have hl : ∀ o, (Instr.lookup 61 (.map (some ab)) (.int .i64 id) false).run Tryz.prog (w.alloc o) = .ok (.agg #[.int .i64 t.id, .string t.name, .bool t.fixed]) (w.alloc o) := fun o => (ha.of_block (alloc_old w o hal)).lookup_some keyI Tryz.underlying61 hg false
    unfold ptrV at *
    clear c0 hm hc hr hg hcb ha
    go_enter Tryz.func15, Tryz.ntmps15
    go_wp2_with (first | (go_at_call 30; refine hof.mono ?_; rintro e w' ⟨rfl, rfl⟩) | (go_at_call 31; refine hhas.mono ?_; rintro e w' ⟨rfl, o, rfl⟩))
    go_ret2
    exact ⟨rfl, Fr.alloc _ _ _⟩

theorem name_nil (w : World) (c : ByteArray) (id : Int) :
    Calls Tryz.prog 15 #[.pointer none, .string c, .int .i64 id] w fun e w' => e = .returned (.tuple #[.string ⟨#[]⟩, .int .i64 1]) ∧ w = w' := by
  go_enter Tryz.func15, Tryz.ntmps15
  go_wp2
  go_ret2
  exact ⟨rfl, rfl⟩

theorem id_nil (w : World) (c n : ByteArray) :
    Calls Tryz.prog 17 #[.pointer none, .string c, .string n] w fun e w' => e = .returned (.tuple #[.int .i64 0, .int .i64 1]) ∧ w = w' := by
  go_enter Tryz.func17, Tryz.ntmps17
  go_wp2
  go_ret2
  exact ⟨rfl, rfl⟩

theorem id_none (w : World) (rb mb : Nat) (c n : ByteArray) (cm : List (ByteArray × Nat)) (hr : w.heap[rb]? = some (.cells #[.map (some mb)] 52 (0, 0))) (hm : ClientsAt w mb cm) (hc : mget cm c = none) :
    Calls Tryz.prog 17 #[ptrV rb, .string c, .string n] w fun e w' => e = .returned (.tuple #[.int .i64 0, .int .i64 11]) ∧ w = w' := by
  have c0 := rowC hr
  have hof := of_none w rb mb c cm (c0 0) hm hc
  unfold ptrV at *
  clear c0 hm hc hr
  go_enter Tryz.func17, Tryz.ntmps17
  go_wp2_with (go_at_call 30; refine hof.mono ?_; rintro e w' ⟨rfl, rfl⟩)
  go_ret2
  exact ⟨rfl, rfl⟩

theorem id_some (w : World) (rb mb cb ib ab : Nat) (bv : Value) (nx : Int) (c n : ByteArray) (cm : List (ByteArray × Nat)) (im : List (ByteArray × Int)) (hr : w.heap[rb]? = some (.cells #[.map (some mb)] 52 (0, 0))) (hm : ClientsAt w mb cm) (hc : mget cm c = some cb) (hcb : ClientB w cb ib ab bv nx) (hi : IdsAt w ib im) :
    Calls Tryz.prog 17 #[ptrV rb, .string c, .string n] w fun e w' => e = .returned (match mget im n with | some i => .tuple #[.int .i64 i, .int .i64 0] | none => .tuple #[.int .i64 0, .int .i64 11]) ∧ w = w' := by
  have c0 := rowC hr
  have hof := of_some w rb mb cb c cm (c0 0) hm hc
  have c1 := rowC hcb
  cases hg : mget im n with
  | none =>
    have hl := hi.lookup_none keyC Tryz.underlying60 hg (Tryz.zeroValue3 w) true
    simp only [if_true] at hl
    unfold ptrV at *
    clear c0 hm hc hr hg hcb hi
    go_enter Tryz.func17, Tryz.ntmps17
    go_wp2_with (go_at_call 30; refine hof.mono ?_; rintro e w' ⟨rfl, rfl⟩)
    go_ret2
    exact ⟨rfl, rfl⟩
  | some i =>
    have hl := hi.lookup_some keyC Tryz.underlying60 hg true
    simp only [if_true] at hl
    unfold ptrV at *
    clear c0 hm hc hr hg hcb hi
    go_enter Tryz.func17, Tryz.ntmps17
    go_wp2_with (go_at_call 30; refine hof.mono ?_; rintro e w' ⟨rfl, rfl⟩)
    go_ret2
    exact ⟨rfl, rfl⟩

theorem fixed_nil (w : World) (c : ByteArray) (id : Int) :
    Calls Tryz.prog 19 #[.pointer none, .string c, .int .i64 id] w fun e w' => e = .returned (.bool false) ∧ w = w' := by
  have hof := of_nil w c
  go_enter Tryz.func19, Tryz.ntmps19
  go_wp2_with (go_at_call 30; refine hof.mono ?_; rintro e w' ⟨rfl, rfl⟩)
  go_ret
  exact ⟨rfl, rfl⟩

theorem fixed_none (w : World) (rb mb : Nat) (c : ByteArray) (id : Int) (cm : List (ByteArray × Nat)) (hr : w.heap[rb]? = some (.cells #[.map (some mb)] 52 (0, 0))) (hm : ClientsAt w mb cm) (hc : mget cm c = none) :
    Calls Tryz.prog 19 #[ptrV rb, .string c, .int .i64 id] w fun e w' => e = .returned (.bool false) ∧ w = w' := by
  have c0 := rowC hr
  have hof := of_none w rb mb c cm (c0 0) hm hc
  unfold ptrV at *
  clear c0 hm hc hr
  go_enter Tryz.func19, Tryz.ntmps19
  go_wp2_with (go_at_call 30; refine hof.mono ?_; rintro e w' ⟨rfl, rfl⟩)
  go_ret
  exact ⟨rfl, rfl⟩

theorem fixed_some (w : World) (rb mb cb ib ab : Nat) (bv : Value) (nx : Int) (c : ByteArray) (id : Int) (cm : List (ByteArray × Nat)) (am : List (Int × Top)) (hr : w.heap[rb]? = some (.cells #[.map (some mb)] 52 (0, 0))) (hm : ClientsAt w mb cm) (hc : mget cm c = some cb) (hcb : ClientB w cb ib ab bv nx) (ha : AllAt w ab am) :
    Calls Tryz.prog 19 #[ptrV rb, .string c, .int .i64 id] w fun e w' => e = .returned (.bool (match mget am id with | some t => t.fixed | none => false)) ∧ w = w' := by
  have c0 := rowC hr
  have hof := of_some w rb mb cb c cm (c0 0) hm hc
  have c1 := rowC hcb
  cases hg : mget am id with
  | none =>
    have hl := ha.lookup_none keyI Tryz.underlying61 hg (Tryz.zeroValue44 w) false
    have hf := fun w => (topic_fields 0 ⟨#[]⟩ false w).2.2
    simp only [Bool.false_eq_true, if_false] at hl
    unfold ptrV at *
    clear c0 hm hc hr hg hcb ha
    go_enter Tryz.func19, Tryz.ntmps19
    go_wp2_with (go_at_call 30; refine hof.mono ?_; rintro e w' ⟨rfl, rfl⟩)
    go_ret
    exact ⟨rfl, rfl⟩
  | some t =>
    have hl := ha.lookup_some keyI Tryz.underlying61 hg false
    have hf := fun w => (topic_fields t.id t.name t.fixed w).2.2
    simp only [Bool.false_eq_true, if_false, Top.val] at hl
    unfold ptrV at *
    clear c0 hm hc hr hg hcb ha
    go_enter Tryz.func19, Tryz.ntmps19
    go_wp2_with (go_at_call 30; refine hof.mono ?_; rintro e w' ⟨rfl, rfl⟩)
    go_ret
    exact ⟨rfl, rfl⟩

theorem len_nil (w : World) (c : ByteArray) :
    Calls Tryz.prog 27 #[.pointer none, .string c] w fun e w' => e = .returned (.int .i64 0) ∧ w = w' := by
  have hof := of_nil w c
  go_enter Tryz.func27, Tryz.ntmps27
  go_wp2_with (go_at_call 30; refine hof.mono ?_; rintro e w' ⟨rfl, rfl⟩)
  go_ret
  exact ⟨rfl, rfl⟩

theorem len_none (w : World) (rb mb : Nat) (c : ByteArray) (cm : List (ByteArray × Nat)) (hr : w.heap[rb]? = some (.cells #[.map (some mb)] 52 (0, 0))) (hm : ClientsAt w mb cm) (hc : mget cm c = none) :
    Calls Tryz.prog 27 #[ptrV rb, .string c] w fun e w' => e = .returned (.int .i64 0) ∧ w = w' := by
  have c0 := rowC hr
  have hof := of_none w rb mb c cm (c0 0) hm hc
  unfold ptrV at *
  clear c0 hm hc hr
  go_enter Tryz.func27, Tryz.ntmps27
  go_wp2_with (go_at_call 30; refine hof.mono ?_; rintro e w' ⟨rfl, rfl⟩)
  go_ret
  exact ⟨rfl, rfl⟩

theorem len_some (w : World) (rb mb cb ib ab : Nat) (bv : Value) (nx : Int) (c : ByteArray) (cm : List (ByteArray × Nat)) (am : List (Int × Top)) (hr : w.heap[rb]? = some (.cells #[.map (some mb)] 52 (0, 0))) (hm : ClientsAt w mb cm) (hc : mget cm c = some cb) (hcb : ClientB w cb ib ab bv nx) (ha : AllAt w ab am) :
    Calls Tryz.prog 27 #[ptrV rb, .string c] w fun e w' => e = .returned (.int .i64 am.length) ∧ w = w' := by
  have c0 := rowC hr
  have hof := of_some w rb mb cb c cm (c0 0) hm hc
  have c1 := rowC hcb
  have hl := fun ty => ha.len Tryz.underlying61 ty
  unfold ptrV at *
  clear c0 hm hc hr hcb ha
  go_enter Tryz.func27, Tryz.ntmps27
  go_wp2_with (go_at_call 30; refine hof.mono ?_; rintro e w' ⟨rfl, rfl⟩)
  go_ret
  exact ⟨rfl, rfl⟩

end Go.Proofs.YtfgnipcegnoagaaGreat
