/- A registry's parts in memory; of, New, has, put, Pick, as walked. -/
import Derived.Test.YtfgnipcegnoagaaGreatProg
import Derived.Test.YtfgnipcegnoagaaGreatBase
namespace Go.Proofs.YtfgnipcegnoagaaGreat
open Go.RowKit Go.MapKept
open Go.ChangeMaps (setBlock heap_setBlock_same heap_setBlock_other)

/-- A topic: its id, its name, whether it is predefined. -/
structure Top where
  id : Int
  name : ByteArray
  fixed : Bool
def Top.val (t : Top) : Value := .agg #[.int .i64 t.id, .string t.name, .bool t.fixed]
def ptrV (b : Nat) : Value := .pointer (some ⟨b, 0, none⟩)

theorem keyC : KeyEnc Tryz.prog 9 Value.string := keyEnc_string Tryz.underlying9
theorem keyI : KeyEnc Tryz.prog 3 (Value.int .i64) := keyEnc_int Tryz.underlying3

abbrev ClientsAt (w : World) (b : Nat) (m : List (ByteArray × Nat)) : Prop := MapAt w b Value.string ptrV m
abbrev IdsAt (w : World) (b : Nat) (m : List (ByteArray × Int)) : Prop := MapAt w b Value.string (Value.int .i64) m
abbrev AllAt (w : World) (b : Nat) (m : List (Int × Top)) : Prop := MapAt w b (Value.int .i64) Top.val m

theorem pick_walk (n m : Int) (w : World) (hm : 1 ≤ m) (hm2 : m ≤ 1000000) :
    Calls Tryz.prog 8 #[.int .i64 n, .int .i64 m] w fun e w' => e = .returned (.int .i64 (n % m)) ∧ w = w' := by
  have h1 : ¬ m < 1 := by omega
  have ht := Int.tmod_eq_emod (a := n) (b := m)
  have hp := Int.emod_nonneg n (show m ≠ 0 by omega)
  have hq := Int.emod_lt_of_pos n (show 0 < m by omega)
  have HT : Hid (n.tmod m = n % m ∨ (n.tmod m < 0 ∧ n.tmod m + m = n % m)) := by
    show _ ∨ _
    by_cases h0 : 0 ≤ n ∨ m ∣ n
    · left; rw [ht, if_pos h0]; omega
    · right; rw [if_neg h0] at ht; rw [ht]; omega
  clear ht
  go_enter Tryz.func8, Tryz.ntmps8
  go_wp2
  · go_ret
    have hneg : n.tmod m < 0 := by assumption
    have := HT.out
    have h2 : wrap64 (n.tmod m + m) = n % m := by
      rcases this with h | ⟨_, h⟩
      · omega
      · rw [h]; unfold wrap64; omega
    refine ⟨?_, rfl⟩
    simp [h2]
  · go_ret
    have hpos : 0 ≤ n.tmod m := by assumption
    have h2 : n.tmod m = n % m := by
      rcases HT.out with h | ⟨h, _⟩
      · exact h
      · omega
    refine ⟨?_, rfl⟩
    simp [h2]

theorem of_some (w : World) (rb mb cb : Nat) (c : ByteArray) (cm : List (ByteArray × Nat)) (hr : w.cell? ⟨rb, 0, none⟩ = some (.map (some mb))) (hm : ClientsAt w mb cm) (hc : mget cm c = some cb) :
    Calls Tryz.prog 30 #[ptrV rb, .string c] w fun e w' => e = .returned (ptrV cb) ∧ w = w' := by
  have hl := hm.lookup_some keyC Tryz.underlying50 hc false
  unfold ptrV at hl ⊢
  simp only [Bool.false_eq_true, if_false] at hl
  clear hc hm
  go_enter Tryz.func30, Tryz.ntmps30
  go_wp2
  go_ret
  exact ⟨rfl, rfl⟩

theorem of_none (w : World) (rb mb : Nat) (c : ByteArray) (cm : List (ByteArray × Nat)) (hr : w.cell? ⟨rb, 0, none⟩ = some (.map (some mb))) (hm : ClientsAt w mb cm) (hc : mget cm c = none) :
    Calls Tryz.prog 30 #[ptrV rb, .string c] w fun e w' => e = .returned (.pointer none) ∧ w = w' := by
  have hl := hm.lookup_none keyC Tryz.underlying50 hc (Tryz.zeroValue57 w) false
  unfold ptrV
  simp only [Bool.false_eq_true, if_false] at hl
  clear hc hm
  go_enter Tryz.func30, Tryz.ntmps30
  go_wp2
  go_ret
  exact ⟨rfl, rfl⟩

theorem of_nil (w : World) (c : ByteArray) :
    Calls Tryz.prog 30 #[.pointer none, .string c] w fun e w' => e = .returned (.pointer none) ∧ w = w' := by
  go_enter Tryz.func30, Tryz.ntmps30
  go_wp2
  go_ret
  exact ⟨rfl, rfl⟩

theorem new_walk (w : World) :
    Calls Tryz.prog 6 #[] w fun e w' => e = .returned (ptrV (w.heap.size + 1)) ∧ w' = (w.alloc (.map #[] 0)).alloc (.cells #[.map (some w.heap.size)] 52) := by
  have hmm := @run_makeMap Tryz.prog
  go_enter Tryz.func6, Tryz.ntmps6
  go_wp2
  go_ret
  exact ⟨rfl, rfl⟩

/-- A client's block. -/
def ClientB (w : World) (cb ib ab : Nat) (bv : Value) (nx : Int) : Prop := w.heap[cb]? = some (.cells #[.map (some ib), .map (some ab), bv, .int .i64 nx] 65 (0, 0))

theorem ClientB.cells {w : World} {cb ib ab : Nat} {bv : Value} {nx : Int} (h : ClientB w cb ib ab bv nx) :
    w.cell? ⟨cb, 0, none⟩ = some (.map (some ib)) ∧ w.cell? ⟨cb, 1, none⟩ = some (.map (some ab)) ∧ w.cell? ⟨cb, 2, none⟩ = some bv ∧ w.cell? ⟨cb, 3, none⟩ = some (.int .i64 nx) := by
  unfold ClientB at h
  simp [World.cell?, h]
theorem ClientB.free {w : World} {cb ib ab : Nat} {bv : Value} {nx : Int} (h : ClientB w cb ib ab bv nx) (i : Nat) : w.frozen? ⟨cb, i, none⟩ = false := by
  unfold ClientB at h
  simp [World.frozen?, h]

theorem has_walk (w : World) (cb ib ab : Nat) (bv : Value) (nx id : Int) (am : List (Int × Top)) (hc : ClientB w cb ib ab bv nx) (ha : AllAt w ab am) :
    Calls Tryz.prog 31 #[ptrV cb, .int .i64 id] w fun e w' => e = .returned (.bool (mget am id).isSome) ∧ ∃ o, w' = w.alloc o := by
  obtain ⟨_, c1, _, _⟩ := hc.cells
  unfold ptrV
  cases hg : mget am id with
  | none =>
    have hl := ha.lookup_none keyI Tryz.underlying61 hg (Tryz.zeroValue44 w) true
    simp only [if_true] at hl
    clear hg ha hc
    go_enter Tryz.func31, Tryz.ntmps31
    go_wp2
    go_ret
    exact ⟨rfl, _, rfl⟩
  | some t =>
    have hl := ha.lookup_some keyI Tryz.underlying61 hg true
    simp only [if_true] at hl
    unfold Top.val at hl
    clear hg ha hc
    go_enter Tryz.func31, Tryz.ntmps31
    go_wp2
    go_ret
    exact ⟨rfl, _, rfl⟩

set_option maxRecDepth 100000 in
theorem put_walk (w : World) (cb ib ab : Nat) (bv : Value) (nx : Int) (t : Top) (im : List (ByteArray × Int)) (am : List (Int × Top)) (hc : ClientB w cb ib ab bv nx) (hi : IdsAt w ib im) (ha : AllAt w ab am) (hne : ib ≠ ab) (h1 : cb ≠ ib) (h2 : cb ≠ ab) :
    Calls Tryz.prog 33 #[ptrV cb, t.val] w fun e w' => e = .returned (.tuple #[]) ∧ ClientB w' cb ib ab bv nx ∧ IdsAt w' ib (mput im t.name t.id) ∧ AllAt w' ab (mput am t.id t) ∧ Fr (fun k => k = ib ∨ k = ab) w w' := by
  have hcl : cb < w.heap.size := (Array.getElem?_eq_some_iff.1 hc).1
  have hal := ha.lt
  have hil := hi.lt
  unfold ptrV Top.val
  go_enter Tryz.func33, Tryz.ntmps33
  go_wp2
  generalize hW : w.alloc (.cells #[.int .i64 t.id, .string t.name, .bool t.fixed] 44) = W
  have hB : ∀ k, k < w.heap.size → W.heap[k]? = w.heap[k]? := fun k hk => by rw [← hW]; exact Below.heap_alloc _ _ _ hk
  have hS : W.heap.size = w.heap.size + 1 := by rw [← hW]; simp
  have HT : W.heap[w.heap.size]? = some (.cells #[.int .i64 t.id, .string t.name, .bool t.fixed] 44 (0, 0)) := by rw [← hW]; exact alloc_new w _
  have hF : Fr (fun k => k = ib ∨ k = ab) w W := by rw [← hW]; exact Fr.alloc _ _ _
  have HC : ClientB W cb ib ab bv nx := (hB cb hcl).trans hc
  have HI : IdsAt W ib im := hi.of_block (hB ib hil)
  have HA : AllAt W ab am := ha.of_block (hB ab hal)
  clear hW hc hi ha
  refine wp_region_tail 8 (by kernel_rfl) (by kernel_rfl) ?_
  intro w1 g1 g2 g3 g4
  have c0 := rowC (w := w1) (by rw [g1]; exact HC)
  have t0 := rowC (w := w1) (by rw [g1]; exact HT)
  simp only [List.take_succ_cons, List.take_zero, List.drop_succ_cons, List.drop_zero]
  repeat still_step
  refine wpStill_nil ?_
  go_wp2_with (at_mapUpdate; refine wpList_updateM _ rfl _ _ _ _ rfl keyC Tryz.underlying60 ib im rfl (HI.of_block (by rw [g1])) t.name t.id rfl rfl ?_; intro w2 m2 r2 s2)
  have HA2 : AllAt w2 ab am := HA.of_block ((r2.block ab (by rw [g1]; omega) (fun e => hne (by cases e; rfl))).trans (by rw [g1]))
  have HC2 : ClientB w2 cb ib ab bv nx := (r2.block cb (by rw [g1]; omega) (fun e => h1 (by cases e; rfl))).trans (by rw [g1]; exact HC)
  have HT2 : w2.heap[w.heap.size]? = some (.cells #[.int .i64 t.id, .string t.name, .bool t.fixed] 44 (0, 0)) := (r2.block w.heap.size (by rw [g1]; omega) (fun e => by injection e with e; omega)).trans (by rw [g1]; exact HT)
  have hF2 : Fr (fun k => k = ib ∨ k = ab) w w2 := (hF.trans (Fr.of_heap (fp := fun _ => False) g1 g2 g3 g4) (fun _ _ h => h.elim)).trans (Fr.of_grown r2 (fp := fun k => k = ib) (fun k e => by cases e; rfl)) (fun k _ h => .inl h)
  have s2' : w2.heap.size = w.heap.size + 1 := by rw [s2, g1, hS]
  clear r2 s2 c0 t0 g1 g2 g3 g4 HA HI HC HT hF hB hS w1 W
  refine wp_region_tail 7 (by kernel_rfl) (by kernel_rfl) ?_
  intro w3 g1 g2 g3 g4
  have c0 := rowC (w := w3) (by rw [g1]; exact HC2)
  have t0 := rowC (w := w3) (by rw [g1]; exact HT2)
  simp only [List.take_succ_cons, List.take_zero, List.drop_succ_cons, List.drop_zero]
  repeat still_step
  refine wpStill_nil ?_
  go_wp2_with (at_mapUpdate; refine wpList_updateM _ rfl _ _ _ _ rfl keyI Tryz.underlying61 ab am rfl (HA2.of_block (by rw [g1])) t.id t rfl rfl ?_; intro w4 m4 r4 s4)
  go_end0
  refine ⟨rfl, (r4.block cb (by rw [g1]; omega) (fun e => h2 (by cases e; rfl))).trans (by rw [g1]; exact HC2), m2.of_block ((r4.block ib (by rw [g1]; omega) (fun e => hne (by cases e; rfl))).trans (by rw [g1])), m4, ?_⟩
  exact (hF2.trans (Fr.of_heap (fp := fun _ => False) g1 g2 g3 g4) (fun _ _ h => h.elim)).trans (Fr.of_grown r4 (fp := fun k => k = ab) (fun k e => by cases e; rfl)) (fun k _ h => .inr h)

theorem topic_fields (a : Int) (b : ByteArray) (c : Bool) (w : World) : (Instr.field 44 (.agg #[.int .i64 a, .string b, .bool c]) 0).run Tryz.prog w = .ok (.int .i64 a) w ∧ (Instr.field 44 (.agg #[.int .i64 a, .string b, .bool c]) 1).run Tryz.prog w = .ok (.string b) w ∧ (Instr.field 44 (.agg #[.int .i64 a, .string b, .bool c]) 2).run Tryz.prog w = .ok (.bool c) w := by
  refine ⟨?_, ?_, ?_⟩ <;> kernel_rfl

end Go.Proofs.YtfgnipcegnoagaaGreat
