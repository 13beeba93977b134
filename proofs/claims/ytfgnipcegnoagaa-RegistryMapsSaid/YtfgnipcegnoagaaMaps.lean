/- RegistryMaps, walked. -/
import Derived.Test.YtfgnipcegnoagaaMapsQ
import Derived.Test.YtfgnipcegnoagaaFull
import Derived.Test.YtfgnipcegnoagaaAct
namespace Go.Proofs.Ytfgnipcegnoagaa
open Go.RowKit Go.MapKept

/-- A registry R in w, made since w0; the blocks of ps lie as they lie, outside it. -/
structure Solo (w0 w : World) (rb : Nat) (R : Rg) (ps : List (Nat × Obj)) : Prop where
  r : RegAt w R
  rbe : R.rb = rb
  fr : Fr (fun _ => False) w0 w
  fpr : ∀ k, R.fp k → w0.heap.size ≤ k
  prot : ∀ p ∈ ps, w.heap[p.1]? = some p.2 ∧ ¬ R.fp p.1
variable {w0 w w' : World} {rb : Nat} {R R' : Rg} {ps : List (Nat × Obj)}
theorem Solo.step (h : Solo w0 w rb R ps) (hr : RegAt w' R') (st : Step R R' w w') : Solo w0 w' rb R' ps := by
  obtain ⟨q1, q2⟩ := Step.fresh h.fr h.fpr st
  refine ⟨hr, st.rb.trans h.rbe, q1, q2, fun p hp => ?_⟩
  obtain ⟨a, b⟩ := h.prot p hp
  have hl := lt_of_heap a
  exact ⟨(st.fr.block _ hl b).trans a, fun hf => by
    rcases st.fp _ hf with h3 | h3
    · exact b h3
    · omega⟩
theorem Solo.still (h : Solo w0 w rb R ps) (hf : Fr (fun _ => False) w w') : Solo w0 w' rb R ps := h.step (h.r.still hf) (Step.still hf)
theorem Solo.less (h : Solo w0 w rb R ps) : Solo w0 w rb R [] := ⟨h.r, h.rbe, h.fr, h.fpr, fun p hp => by cases hp⟩
theorem Solo.alloc (h : Solo w0 w rb R ps) (o : Obj) (ho : (w.alloc o).heap[w.heap.size]? = some o) : Solo w0 (w.alloc o) rb R ((w.heap.size, o) :: ps) := by
  have h2 := h.still (Fr.alloc _ w o)
  refine ⟨h2.r, h2.rbe, h2.fr, h2.fpr, fun p hp => ?_⟩
  cases hp with
  | head => exact ⟨ho, fun hf => absurd (h.r.at'.lt hf) (Nat.lt_irrefl _)⟩
  | tail _ hp => exact h2.prot p hp
theorem solo_new (w0 w : World) (hf : Fr (fun _ => False) w0 w) : Calls Try.prog 9 #[] w fun e w' => ∃ R, e = .returned (ptrV R.rb) ∧ Solo w0 w' R.rb R [] ∧ ∀ c, R.get c = [] :=
  (new_to w).mono fun _ _ ⟨R, he, h, hg, h2, h3⟩ => ⟨R, he, ⟨h, rfl, hf.trans h2 (fun _ _ h => h), fun k hk => Nat.le_trans hf.size (h3 k hk), fun p hp => by cases hp⟩, hg⟩
section calls
variable (h : Solo w0 w rb R ps)
include h
theorem solo_pre (c n : ByteArray) (id : Int) (hn : n.size ≤ 9223372036854775807) : Calls Try.prog 10 #[ptrV rb, .string c, .string n, .int .i64 id] w fun e w' => e = .returned (.int .i64 (preF (R.get c) n id).1) ∧ ∃ R', Solo w0 w' rb R' ps ∧ Step R R' w w' ∧ ∀ x, R'.get x = upd R.get c (preF (R.get c) n id).2 x := by
  rw [← h.rbe]
  exact (pre_to w R c n id _ _ h.r rfl hn rfl).mono fun _ _ ⟨he, R', hx⟩ => ⟨he, R', h.rbe ▸ h.step hx.toRegAt hx.step, hx.step, hx.get_upd (fun _ => rfl)⟩
theorem solo_reg (c n : ByteArray) (hn : n.size ≤ 9223372036854775807) : Calls Try.prog 12 #[ptrV rb, .string c, .string n] w fun e w' => e = .returned (.tuple #[.int .i64 (regF (R.get c) n).id, .bool (regF (R.get c) n).fresh, .int .i64 (regF (R.get c) n).er]) ∧ ∃ R', Solo w0 w' rb R' ps ∧ Step R R' w w' ∧ ∀ x, R'.get x = upd R.get c (regF (R.get c) n).tops x := by
  rw [← h.rbe]
  exact (reg_to w R c n _ _ h.r rfl hn rfl).mono fun _ _ ⟨he, R', hx⟩ => ⟨he, R', h.rbe ▸ h.step hx.toRegAt hx.step, hx.step, hx.get_upd (fun _ => rfl)⟩
theorem solo_clear (c : ByteArray) : Calls Try.prog 14 #[ptrV rb, .string c] w fun e w' => e = .returned (.int .i64 (clearF (R.get c)).1) ∧ ∃ R', Solo w0 w' rb R' ps ∧ Step R R' w w' ∧ ∀ x, R'.get x = upd R.get c (clearF (R.get c)).2 x := by
  rw [← h.rbe]
  exact (clear_to w R c _ _ h.r rfl rfl).mono fun _ _ ⟨he, R', hx⟩ => ⟨he, R', h.rbe ▸ h.step hx.toRegAt hx.step, hx.step, hx.get_upd (fun _ => rfl)⟩
theorem solo_topics (c : ByteArray) : Calls Try.prog 16 #[ptrV rb, .string c] w fun e w' => ∃ v, e = .returned v ∧ Solo w0 w' rb R ps ∧ Fr (fun _ => False) w w' ∧ RowF w' R v (srtT (R.get c)) := by
  rw [← h.rbe]
  exact (topics_to w R c h.r).mono fun _ _ ⟨v, he, hr, hf, hk⟩ => ⟨v, he, h.rbe ▸ h.still hf, hf, RowF.made h.r hr hk⟩
theorem solo_name (c : ByteArray) (id : Int) : Calls Try.prog 19 #[ptrV rb, .string c, .int .i64 id] w fun e w' => e = nameRes (R.get c) id ∧ Solo w0 w' rb R ps ∧ Fr (fun _ => False) w w' := by
  rw [← h.rbe]
  exact (name_rg w R c id h.r.at').mono fun _ _ ⟨he, hf⟩ => ⟨he, h.rbe ▸ h.still hf, hf⟩
theorem solo_id (c n : ByteArray) : Calls Try.prog 20 #[ptrV rb, .string c, .string n] w fun e w' => e = idRes (R.get c) n ∧ w = w' := by
  rw [← h.rbe]
  exact id_rg w R c n h.r.at'
theorem solo_len (c : ByteArray) : Calls Try.prog 13 #[ptrV rb, .string c] w fun e w' => e = .returned (.int .i64 (R.get c).length) ∧ w = w' := by
  rw [← h.rbe]
  exact len_rg w R c h.r.at'
theorem solo_fixed (c : ByteArray) (id : Int) : Calls Try.prog 21 #[ptrV rb, .string c, .int .i64 id] w fun e w' => e = .returned (.bool (match byId (R.get c) id with | some t => t.fixed | none => false)) ∧ w = w' := by
  rw [← h.rbe]
  exact fixed_rg w R c id h.r.at'
end calls
end Go.Proofs.Ytfgnipcegnoagaa
