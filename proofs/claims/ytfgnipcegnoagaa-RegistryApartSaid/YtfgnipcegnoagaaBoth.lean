/- Two registries side by side, and blocks that neither touches: what is carried through RegistryApart's rounds. -/
import Derived.Test.YtfgnipcegnoagaaAct
namespace Go.Proofs.Ytfgnipcegnoagaa
open Go.RowKit Go.MapKept

/-- Registries R and O in w, made since w0; the blocks of ps lie as they lie, outside both. -/
structure Dis (w0 w : World) (rb ob : Nat) (R O : Rg) (ps : List (Nat × Obj)) : Prop where
  r : RegAt w R
  o : RegAt w O
  rbe : R.rb = rb
  obe : O.rb = ob
  dis : ∀ k, R.fp k → ¬ O.fp k
  fr : Fr (fun _ => False) w0 w
  fpr : ∀ k, R.fp k → w0.heap.size ≤ k
  fpo : ∀ k, O.fp k → w0.heap.size ≤ k
  prot : ∀ p ∈ ps, w.heap[p.1]? = some p.2 ∧ ¬ R.fp p.1 ∧ ¬ O.fp p.1

variable {w0 w w' : World} {rb ob : Nat} {R O R' O' : Rg} {ps : List (Nat × Obj)}
theorem Dis.stepR (h : Dis w0 w rb ob R O ps) (hr : RegAt w' R') (st : Step R R' w w') : Dis w0 w' rb ob R' O ps := by
  have hk : ∀ k, O.fp k → w'.heap[k]? = w.heap[k]? := fun k hk => st.fr.block k (h.o.at'.lt hk) (fun hr => h.dis k hr hk)
  obtain ⟨q1, q2⟩ := Step.fresh h.fr h.fpr st
  refine ⟨hr, ⟨h.o.at'.kept hk, h.o.ok, h.o.live⟩, st.rb.trans h.rbe, h.obe, fun k h1 h2 => ?_, q1, q2, h.fpo, fun p hp => ?_⟩
  · rcases st.fp k h1 with h3 | h3
    · exact h.dis k h3 h2
    · have := h.o.at'.lt h2; omega
  · obtain ⟨a, b, c⟩ := h.prot p hp
    have hl := lt_of_heap a
    exact ⟨(st.fr.block _ hl b).trans a, fun hf => by
      rcases st.fp _ hf with h3 | h3
      · exact b h3
      · omega, c⟩
theorem Dis.swap (h : Dis w0 w rb ob R O ps) : Dis w0 w ob rb O R ps := ⟨h.o, h.r, h.obe, h.rbe, fun k h1 h2 => h.dis k h2 h1, h.fr, h.fpo, h.fpr, fun p hp => ⟨(h.prot p hp).1, (h.prot p hp).2.2, (h.prot p hp).2.1⟩⟩
theorem Dis.stepO (h : Dis w0 w rb ob R O ps) (ho : RegAt w' O') (st : Step O O' w w') : Dis w0 w' rb ob R O' ps := (h.swap.stepR ho st).swap
theorem Dis.still (h : Dis w0 w rb ob R O ps) (hf : Fr (fun _ => False) w w') : Dis w0 w' rb ob R O ps := h.stepR (h.r.still hf) (Step.still hf)
theorem Dis.less (h : Dis w0 w rb ob R O ps) : Dis w0 w rb ob R O [] := ⟨h.r, h.o, h.rbe, h.obe, h.dis, h.fr, h.fpr, h.fpo, fun p hp => by cases hp⟩
theorem Dis.alloc (h : Dis w0 w rb ob R O ps) (o : Obj) (ho : (w.alloc o).heap[w.heap.size]? = some o) : Dis w0 (w.alloc o) rb ob R O ((w.heap.size, o) :: ps) := by
  have h2 := h.still (Fr.alloc _ w o)
  refine ⟨h2.r, h2.o, h2.rbe, h2.obe, h2.dis, h2.fr, h2.fpr, h2.fpo, fun p hp => ?_⟩
  cases hp with
  | head => exact ⟨ho, fun hf => absurd (h.r.at'.lt hf) (Nat.lt_irrefl _), fun hf => absurd (h.o.at'.lt hf) (Nat.lt_irrefl _)⟩
  | tail _ hp => exact h2.prot p hp

theorem dis_new (w0 w : World) (hf : Fr (fun _ => False) w0 w) : Calls Try.prog 9 #[] w fun e w' => ∃ R, e = .returned (ptrV R.rb) ∧ RegAt w' R ∧ (∀ c, R.get c = []) ∧ Fr (fun _ => False) w0 w' ∧ (∀ k, R.fp k → w0.heap.size ≤ k) ∧ (∀ k, R.fp k → w.heap.size ≤ k) ∧ Fr (fun _ => False) w w' :=
  (new_to w).mono fun _ _ ⟨R, he, h, hg, h2, h3⟩ => ⟨R, he, h, hg, hf.trans h2 (fun _ _ h => h), fun k hk => Nat.le_trans hf.size (h3 k hk), h3, h2⟩

section calls
variable (h : Dis w0 w rb ob R O ps)
include h
theorem dis_pre_r (c n : ByteArray) (id : Int) (hn : n.size ≤ 9223372036854775807) : Calls Try.prog 10 #[ptrV rb, .string c, .string n, .int .i64 id] w fun e w' => e = .returned (.int .i64 (preF (R.get c) n id).1) ∧ ∃ R', Dis w0 w' rb ob R' O ps ∧ ∀ x, R'.get x = upd R.get c (preF (R.get c) n id).2 x := by
  rw [← h.rbe]
  exact (pre_to w R c n id _ _ h.r rfl hn rfl).mono fun _ _ ⟨he, R', hx⟩ => ⟨he, R', h.rbe ▸ h.stepR hx.toRegAt hx.step, hx.get_upd (fun _ => rfl)⟩
theorem dis_reg_r (c n : ByteArray) (hn : n.size ≤ 9223372036854775807) : Calls Try.prog 12 #[ptrV rb, .string c, .string n] w fun e w' => e = .returned (.tuple #[.int .i64 (regF (R.get c) n).id, .bool (regF (R.get c) n).fresh, .int .i64 (regF (R.get c) n).er]) ∧ ∃ R', Dis w0 w' rb ob R' O ps ∧ ∀ x, R'.get x = upd R.get c (regF (R.get c) n).tops x := by
  rw [← h.rbe]
  exact (reg_to w R c n _ _ h.r rfl hn rfl).mono fun _ _ ⟨he, R', hx⟩ => ⟨he, R', h.rbe ▸ h.stepR hx.toRegAt hx.step, hx.get_upd (fun _ => rfl)⟩
theorem dis_clear_r (c : ByteArray) : Calls Try.prog 14 #[ptrV rb, .string c] w fun e w' => e = .returned (.int .i64 (clearF (R.get c)).1) ∧ ∃ R', Dis w0 w' rb ob R' O ps ∧ ∀ x, R'.get x = upd R.get c (clearF (R.get c)).2 x := by
  rw [← h.rbe]
  exact (clear_to w R c _ _ h.r rfl rfl).mono fun _ _ ⟨he, R', hx⟩ => ⟨he, R', h.rbe ▸ h.stepR hx.toRegAt hx.step, hx.get_upd (fun _ => rfl)⟩
end calls
theorem dis_pre_o (h : Dis w0 w rb ob R O ps) (c n : ByteArray) (id : Int) (hn : n.size ≤ 9223372036854775807) : Calls Try.prog 10 #[ptrV ob, .string c, .string n, .int .i64 id] w fun e w' => e = .returned (.int .i64 (preF (O.get c) n id).1) ∧ ∃ O', Dis w0 w' rb ob R O' ps ∧ ∀ x, O'.get x = upd O.get c (preF (O.get c) n id).2 x :=
  (dis_pre_r h.swap c n id hn).mono fun _ _ ⟨he, O', h1, h2⟩ => ⟨he, O', h1.swap, h2⟩
theorem dis_reg_o (h : Dis w0 w rb ob R O ps) (c n : ByteArray) (hn : n.size ≤ 9223372036854775807) : Calls Try.prog 12 #[ptrV ob, .string c, .string n] w fun e w' => e = .returned (.tuple #[.int .i64 (regF (O.get c) n).id, .bool (regF (O.get c) n).fresh, .int .i64 (regF (O.get c) n).er]) ∧ ∃ O', Dis w0 w' rb ob R O' ps ∧ ∀ x, O'.get x = upd O.get c (regF (O.get c) n).tops x :=
  (dis_reg_r h.swap c n hn).mono fun _ _ ⟨he, O', h1, h2⟩ => ⟨he, O', h1.swap, h2⟩
theorem dis_clear_o (h : Dis w0 w rb ob R O ps) (c : ByteArray) : Calls Try.prog 14 #[ptrV ob, .string c] w fun e w' => e = .returned (.int .i64 (clearF (O.get c)).1) ∧ ∃ O', Dis w0 w' rb ob R O' ps ∧ ∀ x, O'.get x = upd O.get c (clearF (O.get c)).2 x :=
  (dis_clear_r h.swap c).mono fun _ _ ⟨he, O', h1, h2⟩ => ⟨he, O', h1.swap, h2⟩
end Go.Proofs.Ytfgnipcegnoagaa
