/- The calls that a law is handed, opened: whatever slice of calls reads as data lies as RowA says. -/
import Derived.Test.YtfgnipcegnoagaaGreatAct
import Derived.ProofKit
import Derived.Deep.Slices
import Derived.Lib.SmallJoins
namespace Go.Proofs.YtfgnipcegnoagaaGreat
open Go.ChangeShapes Go.WideShapes Go.ChangeAt Go.RowKit Go.Deep

theorem Tryz.cells30 : Tryz.prog.cellsOf 30 = 4 := by kernel_rfl
theorem Tryz.cells3 : Tryz.prog.cellsOf 3 = 1 := by kernel_rfl
theorem Tryz.cells9 : Tryz.prog.cellsOf 9 = 1 := by kernel_rfl

theorem spot_of_cell {W : World} {a : Addr} {v : Value} (h : W.cell? a = some v) : a.spot = none ∧ a.block < W.heap.size := by
  obtain ⟨b, off, sp⟩ := a
  simp only [World.cell?] at h
  cases hb : W.heap[b]? with
  | none => rw [hb] at h; cases h
  | some o =>
    have hl := (Array.getElem?_eq_some_iff.1 hb).1
    rw [hb] at h
    cases o with
    | cells cs t f =>
      cases sp with
      | some _ => cases h
      | none => exact ⟨rfl, hl⟩
    | _ => cases h

instance : Inhabited Act := ⟨⟨0, ⟨#[]⟩, ⟨#[]⟩, 0⟩⟩
variable {H : Type} {enc : TypeId × Value → H}
set_option maxRecDepth 100000 in
theorem open_acts {W : World} {v : Value} {d : DataW H} {ps : List MemPlace} (hv : Value.okWide Tryz.prog W .any 0 22 v) (h : DataW.Trod enc Tryz.prog W 0 (fun _ => true) true 22 v d ps) : ∃ l : List Act, RowA W v l ∧ l.length ≤ maxLen := by
  obtain ⟨a, len, cap, rfl⟩ := okWide_slice Tryz.underlying22 hv
  obtain ⟨fuel, hf⟩ := h
  rcases open_slice Tryz.underlying22 hf with ⟨h0, _⟩ | ⟨a', len', cap', m, n, D, Pl, hcs, hb, hl, hm, hmm, _, hx⟩
  · simp [Value.cells] at h0
    obtain ⟨rfl, rfl, rfl⟩ := h0
    exact ⟨[], .inl ⟨none, 0, rfl, rfl⟩, Nat.zero_le _⟩
  · simp [Value.cells] at hcs
    obtain ⟨rfl, rfl, rfl⟩ := hcs
    have hlm : len ≤ m := by rw [hmm]; split <;> omega
    obtain ⟨I, hI⟩ := choose_lt (α := Act) (n := m) (p := fun i q => W.cell? (a'.add (i * 4)) = some (.int .i64 q.kind) ∧ W.cell? ((a'.add (i * 4)).add 1) = some (.string q.client) ∧ W.cell? ((a'.add (i * 4)).add 2) = some (.string q.name) ∧ W.cell? ((a'.add (i * 4)).add 3) = some (.int .i64 q.id)) (fun i hi => by
      obtain ⟨cs', h1, h2⟩ := hx i hi
      rw [Tryz.cells30] at h1
      obtain ⟨_, hlen, hcell⟩ := World.cells?_some h1
      obtain ⟨y0, y1, y2, y3, k, _, _, u0, u1, u2, u3⟩ := Go.Joins.trod_struct4 Tryz.underlying30 h2
      match cs', hlen with
      | [c0, c1, c2, c3], _ =>
        simp only [Tryz.cells3, Tryz.cells9] at u0 u1 u2 u3
        obtain ⟨z0, e0, _, _⟩ := DataW.trod_int Tryz.underlying3 u0
        obtain ⟨z1, e1, _, _⟩ := DataW.trod_string Tryz.underlying9 u1
        obtain ⟨z2, e2, _, _⟩ := DataW.trod_string Tryz.underlying9 u2
        obtain ⟨z3, e3, _, _⟩ := DataW.trod_int Tryz.underlying3 u3
        simp at e0 e1 e2 e3
        subst e0 e1 e2 e3
        exact ⟨⟨z0, z1, z2, z3⟩, hcell 0 (by omega), hcell 1 (by omega), hcell 2 (by omega), hcell 3 (by omega)⟩)
    refine ⟨(List.range len).map I, ?_, by simp; omega⟩
    cases len with
    | zero => exact .inl ⟨_, _, rfl, rfl⟩
    | succ len =>
      obtain ⟨hsp, hbl⟩ := spot_of_cell (hI 0 (by omega)).1
      rw [Nat.zero_mul] at hsp hbl
      have e0 : a'.add 0 = a' := rfl
      rw [e0] at hsp hbl
      obtain ⟨b, off, sp⟩ := a'
      simp only at hsp
      subst hsp
      refine .inr ⟨b, off, cap, by simp, by simp, hbl, fun i x hi => ?_⟩
      have hil : i < len + 1 := by
        have := (List.getElem?_eq_some_iff.1 hi).1
        simpa using this
      have hx2 : I i = x := by
        rw [List.getElem?_map, List.getElem?_range hil] at hi
        simpa using hi
      have key : ∀ k, (⟨b, off, none⟩ : Addr).add k = ⟨b, off + k, none⟩ := fun k => by
        unfold Addr.add
        split
        · rename_i e; subst e; rfl
        · rfl
      obtain ⟨p0, p1, p2, p3⟩ := hI i (by omega)
      rw [hx2] at p0 p1 p2 p3
      rw [key] at p0 p1 p2 p3
      have key2 : ∀ k, (⟨b, off + i * 4, none⟩ : Addr).add k = ⟨b, off + i * 4 + k, none⟩ := fun k => by
        unfold Addr.add
        split
        · rename_i e; subst e; rfl
        · rfl
      rw [key2] at p1 p2 p3
      exact ⟨p0, p1, p2, p3⟩
end Go.Proofs.YtfgnipcegnoagaaGreat
