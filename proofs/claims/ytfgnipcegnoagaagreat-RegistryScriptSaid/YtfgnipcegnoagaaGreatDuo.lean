/- A registry and the reference's, side by side: what the laws' walks carry. -/
import Derived.Test.YtfgnipcegnoagaaGreatRrP
import Derived.Test.YtfgnipcegnoagaaGreatAct
namespace Go.Proofs.YtfgnipcegnoagaaGreat
open Go.RowKit Go.MapKept

/-- Registry R and the reference's S in w, made since w0, with the same topics; the blocks of ps lie as they lie, outside both; no client has more than n topics. -/
structure Duo (w0 w : World) (rb ob n : Nat) (R : Rg) (S : Rr) (ps : List (Nat × Obj)) : Prop where
  r : RegAt w R
  s : S.At w
  rbe : R.rb = rb
  obe : S.ob = ob
  eq : ∀ c, S.get c = srtT (R.get c)
  dis : ∀ k, R.fp k → ¬ S.fp k
  fr : Fr (fun _ => False) w0 w
  fpr : ∀ k, R.fp k → w0.heap.size ≤ k
  fps : ∀ k, S.fp k → w0.heap.size ≤ k
  prot : ∀ p ∈ ps, w.heap[p.1]? = some p.2 ∧ ¬ R.fp p.1 ∧ ¬ S.fp p.1
  few : ∀ c, (R.get c).length ≤ n
  ents : S.es.length ≤ n

variable {w0 w w' : World} {rb ob n : Nat} {R R' : Rg} {S S' : Rr} {ps : List (Nat × Obj)}
theorem Duo.ok (h : Duo w0 w rb ob n R S ps) (hn : n ≤ 900) : RrOk w S := ⟨h.s, by have := h.ents; omega, fun e he => by
  have h1 : S.get e.c = e.l := entGet_mem h.s.srt he
  have h2 := h.eq e.c
  have h3 := h.few e.c
  rw [← h1, h2, srtT_len]
  omega⟩
theorem Duo.still (h : Duo w0 w rb ob n R S ps) (hf : Fr (fun _ => False) w w') : Duo w0 w' rb ob n R S ps :=
  ⟨h.r.still hf, h.s.still hf, h.rbe, h.obe, h.eq, h.dis, h.fr.trans hf (fun _ _ h => h), h.fpr, h.fps, fun p hp => by
    obtain ⟨a, b, c⟩ := h.prot p hp
    exact ⟨(hf.block _ (lt_of_heap a) (fun h => h)).trans a, b, c⟩, h.few, h.ents⟩
theorem Duo.less (h : Duo w0 w rb ob n R S ps) : Duo w0 w rb ob n R S [] := ⟨h.r, h.s, h.rbe, h.obe, h.eq, h.dis, h.fr, h.fpr, h.fps, fun p hp => (by cases hp), h.few, h.ents⟩
theorem Duo.more {m : Nat} (h : Duo w0 w rb ob n R S ps) (hm : n ≤ m) : Duo w0 w rb ob m R S ps := ⟨h.r, h.s, h.rbe, h.obe, h.eq, h.dis, h.fr, h.fpr, h.fps, h.prot, fun c => Nat.le_trans (h.few c) hm, Nat.le_trans h.ents hm⟩
theorem Duo.alloc (h : Duo w0 w rb ob n R S ps) (o : Obj) (ho : (w.alloc o).heap[w.heap.size]? = some o) : Duo w0 (w.alloc o) rb ob n R S ((w.heap.size, o) :: ps) := by
  have h2 := h.still (Fr.alloc _ w o)
  refine ⟨h2.r, h2.s, h2.rbe, h2.obe, h2.eq, h2.dis, h2.fr, h2.fpr, h2.fps, fun p hp => ?_, h2.few, h2.ents⟩
  cases hp with
  | head => exact ⟨ho, fun hf => absurd (h.r.at'.lt hf) (Nat.lt_irrefl _), fun hf => absurd (h.s.lt hf) (Nat.lt_irrefl _)⟩
  | tail _ hp => exact h2.prot p hp

/-- Behind the program's call; the reference's is still to come. -/
structure Half (w0 w : World) (rb ob n : Nat) (R : Rg) (S : Rr) (c : ByteArray) (l : List Top) (g : ByteArray → List Top) (ps : List (Nat × Obj)) : Prop where
  r : RegAt w R
  s : S.At w
  rbe : R.rb = rb
  obe : S.ob = ob
  get : ∀ x, R.get x = upd g c l x
  eq : ∀ c, S.get c = srtT (g c)
  dis : ∀ k, R.fp k → ¬ S.fp k
  fr : Fr (fun _ => False) w0 w
  fpr : ∀ k, R.fp k → w0.heap.size ≤ k
  fps : ∀ k, S.fp k → w0.heap.size ≤ k
  prot : ∀ p ∈ ps, w.heap[p.1]? = some p.2 ∧ ¬ R.fp p.1 ∧ ¬ S.fp p.1
  few : ∀ c, (g c).length ≤ n
  ents : S.es.length ≤ n
  ok : ∃ cl : Cl, cl.Ok ∧ cl.tops = g c
theorem Half.okR {c : ByteArray} {l : List Top} {g : ByteArray → List Top} (h : Half w0 w rb ob n R S c l g ps) (hn : n ≤ 900) : RrOk w S := ⟨h.s, by have := h.ents; omega, fun e he => by
  have h1 : S.get e.c = e.l := entGet_mem h.s.srt he
  have h2 := h.eq e.c
  have h3 := h.few e.c
  rw [← h1, h2, srtT_len]
  omega⟩
theorem Duo.half {c : ByteArray} {l : List Top} (h : Duo w0 w rb ob n R S ps) (hr : RegAt w' R') (st : Step R R' w w') (hg : ∀ x, R'.get x = upd R.get c l x) : Half w0 w' rb ob n R' S c l R.get ps := by
  have hk : ∀ k, S.fp k → w'.heap[k]? = w.heap[k]? := fun k hk => st.fr.block k (h.s.lt hk) (fun hr => h.dis k hr hk)
  obtain ⟨q1, q2⟩ := Step.fresh h.fr h.fpr st
  refine ⟨hr, h.s.kept st.fr (fun k hk hr => h.dis k hr hk), st.rb.trans h.rbe, h.obe, hg, h.eq, fun k h1 h2 => ?_, q1, q2, h.fps, fun p hp => ?_, h.few, h.ents, R.tops_ok h.r.ok c⟩
  · rcases st.fp k h1 with h3 | h3
    · exact h.dis k h3 h2
    · have := h.s.lt h2; omega
  · obtain ⟨a, b, c⟩ := h.prot p hp
    have hl := lt_of_heap a
    exact ⟨(st.fr.block _ hl b).trans a, fun hf => by
      rcases st.fp _ hf with h3 | h3
      · exact b h3
      · omega, c⟩
theorem Half.whole {c : ByteArray} {l l2 : List Top} {g : ByteArray → List Top} (h : Half w0 w rb ob n R S c l g ps) (hx : NxtR w w' S S' c l2) (hl : l2 = srtT l) (hlen : l.length ≤ n + 1) : Duo w0 w' rb ob (n + 1) R S' ps := by
  have hob : S.fp S.ob := .inl rfl
  have hkr : ∀ k, R.fp k → w'.heap[k]? = w.heap[k]? := fun k hk => hx.fr.block k (h.r.at'.lt hk) (fun e => h.dis k hk (by rw [e]; exact hob))
  refine ⟨⟨h.r.at'.kept hkr, h.r.ok, h.r.live⟩, hx.at', h.rbe, hx.ob.trans h.obe, fun x => ?_, fun k h1 h2 => ?_, ?_, h.fpr, fun k hk => ?_, fun p hp => ?_, fun x => ?_, by have := hx.len; have := h.ents; omega⟩
  · rw [hx.get, h.get]
    unfold upd
    split
    · exact hl
    · exact h.eq x
  · rcases hx.fp k h2 with h3 | h3
    · exact h.dis k h1 h3
    · have := h.r.at'.lt h1; omega
  · exact h.fr.trans (hx.fr.mono (fun k _ e => (by rw [e]; exact h.fps _ hob : w0.heap.size ≤ k))) (fun k hk h => absurd h (by omega))
  · rcases hx.fp k hk with h3 | h3
    · exact h.fps k h3
    · have := h.fr.size; omega
  · obtain ⟨a, b, c⟩ := h.prot p hp
    have hl := lt_of_heap a
    exact ⟨(hx.fr.block _ hl (fun e => c (by rw [e]; exact hob))).trans a, b, fun hf => by
      rcases hx.fp _ hf with h3 | h3
      · exact c h3
      · omega⟩
  · rw [h.get]
    unfold upd
    split
    · exact hlen
    · have := h.few x; omega

section calls
variable (h : Duo w0 w rb ob n R S ps)
include h
theorem duo_pre (c nm : ByteArray) (id : Int) (hn : nm.size ≤ 9223372036854775807) : Calls Tryz.prog 9 #[ptrV rb, .string c, .string nm, .int .i64 id] w fun e w' => e = .returned (.int .i64 (preF (R.get c) nm id).1) ∧ ∃ R', Half w0 w' rb ob n R' S c (preF (R.get c) nm id).2 R.get ps := by
  rw [← h.rbe]
  exact (pre_to w R c nm id _ _ h.r rfl hn rfl).mono fun _ _ ⟨he, R', hx⟩ => ⟨he, R', by rw [h.rbe]; exact h.half hx.toRegAt hx.step (hx.get_upd (fun _ => rfl))⟩
theorem duo_reg (c nm : ByteArray) (hn : nm.size ≤ 9223372036854775807) : Calls Tryz.prog 13 #[ptrV rb, .string c, .string nm] w fun e w' => e = .returned (.tuple #[.int .i64 (regF (R.get c) nm).id, .bool (regF (R.get c) nm).fresh, .int .i64 (regF (R.get c) nm).er]) ∧ ∃ R', Half w0 w' rb ob n R' S c (regF (R.get c) nm).tops R.get ps := by
  rw [← h.rbe]
  exact (reg_to w R c nm _ _ h.r rfl hn rfl).mono fun _ _ ⟨he, R', hx⟩ => ⟨he, R', by rw [h.rbe]; exact h.half hx.toRegAt hx.step (hx.get_upd (fun _ => rfl))⟩
theorem duo_clear (c : ByteArray) : Calls Tryz.prog 11 #[ptrV rb, .string c] w fun e w' => e = .returned (.int .i64 (clearF (R.get c)).1) ∧ ∃ R', Half w0 w' rb ob n R' S c (clearF (R.get c)).2 R.get ps := by
  rw [← h.rbe]
  exact (clear_to w R c _ _ h.r rfl rfl).mono fun _ _ ⟨he, R', hx⟩ => ⟨he, R', by rw [h.rbe]; exact h.half hx.toRegAt hx.step (hx.get_upd (fun _ => rfl))⟩
theorem duo_topics (c : ByteArray) : Calls Tryz.prog 22 #[ptrV rb, .string c] w fun e w' => ∃ v, e = .returned v ∧ RowT w' v (srtT (R.get c)) ∧ Fr (fun _ => False) w w' := by
  rw [← h.rbe]
  exact (topics_to w R c h.r).mono fun _ _ ⟨v, he, hr, hf, hk⟩ => ⟨v, he, hr, hf⟩
theorem duo_name (c : ByteArray) (id : Int) : Calls Tryz.prog 15 #[ptrV rb, .string c, .int .i64 id] w fun e w' => e = nameRes (R.get c) id ∧ Fr (fun _ => False) w w' := by
  rw [← h.rbe]
  exact name_rg w R c id h.r.at'
theorem duo_id (c nm : ByteArray) : Calls Tryz.prog 17 #[ptrV rb, .string c, .string nm] w fun e w' => e = idRes (R.get c) nm ∧ w = w' := by
  rw [← h.rbe]
  exact id_rg w R c nm h.r.at'
theorem duo_fixed (c : ByteArray) (id : Int) : Calls Tryz.prog 19 #[ptrV rb, .string c, .int .i64 id] w fun e w' => e = fixRes (R.get c) id ∧ w = w' := by
  rw [← h.rbe]
  exact fixed_rg w R c id h.r.at'
theorem duo_len (c : ByteArray) : Calls Tryz.prog 27 #[ptrV rb, .string c] w fun e w' => e = .returned (.int .i64 (R.get c).length) ∧ w = w' := by
  rw [← h.rbe]
  exact len_rg w R c h.r.at'
variable (hn : n ≤ 900)
include hn
theorem duo_rtopics (c : ByteArray) : Calls Tryz.prog 23 #[ptrV ob, .string c] w fun e w' => ∃ v, e = .returned v ∧ RowT w' v (srtT (R.get c)) ∧ Fr (fun _ => False) w w' := by
  rw [← h.obe]
  exact ((h.ok hn).topics c).mono fun _ _ ⟨v, h1, h2, h3, _⟩ => ⟨v, h1, by rw [← h.eq]; exact h2, h3⟩
theorem duo_rname (c : ByteArray) (id : Int) : Calls Tryz.prog 16 #[ptrV ob, .string c, .int .i64 id] w fun e w' => e = nameRes (R.get c) id ∧ Fr (fun _ => False) w w' := by
  rw [← h.obe]
  obtain ⟨cl, h1, h2⟩ := R.tops_ok h.r.ok c
  have := rname_walk w S c id (h.ok hn)
  rw [h.eq, ← h2, nameRes_srt h1, h2] at this
  exact this
theorem duo_rid (c nm : ByteArray) : Calls Tryz.prog 18 #[ptrV ob, .string c, .string nm] w fun e w' => e = idRes (R.get c) nm ∧ Fr (fun _ => False) w w' := by
  rw [← h.obe]
  obtain ⟨cl, h1, h2⟩ := R.tops_ok h.r.ok c
  have := rid_walk w S c nm (h.ok hn)
  rw [h.eq, ← h2, idRes_srt h1, h2] at this
  exact this
theorem duo_rfixed (c : ByteArray) (id : Int) : Calls Tryz.prog 20 #[ptrV ob, .string c, .int .i64 id] w fun e w' => e = fixRes (R.get c) id ∧ Fr (fun _ => False) w w' := by
  rw [← h.obe]
  obtain ⟨cl, h1, h2⟩ := R.tops_ok h.r.ok c
  have := rfixed_walk w S c id (h.ok hn)
  rw [h.eq, ← h2, fixRes_srt h1, h2] at this
  exact this
theorem duo_rlen (c : ByteArray) : Calls Tryz.prog 28 #[ptrV ob, .string c] w fun e w' => e = .returned (.int .i64 (R.get c).length) ∧ Fr (fun _ => False) w w' := by
  rw [← h.obe]
  have := rlen_walk w S c h.s (by have := h.ents; omega) (fun e he => by have := (h.ok hn).l e he; omega)
  rw [h.eq, srtT_len] at this
  exact this
theorem duo_rclients : Calls Tryz.prog 26 #[ptrV ob] w fun e w' => ∃ v, e = .returned v ∧ RowS w' v (S.es.map (·.c)) ∧ Fr (fun _ => False) w w' := by
  rw [← h.obe]
  exact rclients_walk w S (h.ok hn)
theorem duo_clients : Calls Tryz.prog 25 #[ptrV rb] w fun e w' => ∃ v, e = .returned v ∧ RowS w' v (S.es.map (·.c)) ∧ Fr (fun _ => False) w w' := by
  rw [← h.rbe]
  exact (clients_to w R h.r (S.es.map (·.c)) (fun c hc => (rclients_mem h.s c).2 (by rw [h.eq, Ne, srtT_nil]; exact hc)) (by rw [List.length_map]; have := h.ents; omega)).mono
    fun _ _ ⟨v, l, h1, h2, h3, h4, h5, h6, _⟩ => ⟨v, h1, by rw [rclients_eq h.s h.eq h3 h4 h5]; exact h2, h6⟩
end calls
section half
variable {c : ByteArray} {l : List Top} {g : ByteArray → List Top} (h : Half w0 w rb ob n R S c l g ps) (hn : n ≤ 900)
include h hn
theorem half_pre (nm : ByteArray) (id : Int) (hs : nm.size ≤ 9223372036854775807) (hl : l = (preF (g c) nm id).2) : Calls Tryz.prog 10 #[ptrV ob, .string c, .string nm, .int .i64 id] w fun e w' => e = .returned (.int .i64 (preF (g c) nm id).1) ∧ ∃ S', Duo w0 w' rb ob (n + 1) R S' ps := by
  rw [← h.obe]
  obtain ⟨cl, h1, h2⟩ := h.ok
  have := rpredefine_walk w S c nm id (h.okR hn) hs
  refine this.mono fun e w' ⟨he, S', hx⟩ => ?_
  rw [h.eq, ← h2, rpreF_srt h1, h2] at he hx
  exact ⟨he, S', by rw [h.obe]; exact h.whole hx (by rw [hl]) (by rw [hl]; have := preF_len (g c) nm id; have := h.few c; omega)⟩
theorem half_reg (nm : ByteArray) (hs : nm.size ≤ 9223372036854775807) (hl : l = (regF (g c) nm).tops) : Calls Tryz.prog 14 #[ptrV ob, .string c, .string nm] w fun e w' => e = .returned (.tuple #[.int .i64 (regF (g c) nm).id, .bool (regF (g c) nm).fresh, .int .i64 (regF (g c) nm).er]) ∧ ∃ S', Duo w0 w' rb ob (n + 1) R S' ps := by
  rw [← h.obe]
  obtain ⟨cl, h1, h2⟩ := h.ok
  have hfew := h.few c
  have := rregister_walk w S c nm (h.okR hn) (by rw [h.eq, ← h2]; exact srtT_pw h1) hs
  refine this.mono fun e w' ⟨he, S', hx⟩ => ?_
  rw [h.eq, ← h2, rregF_srt h1 nm (by rw [h2]; omega), h2] at he hx
  exact ⟨he, S', by rw [h.obe]; exact h.whole hx (by rw [hl]) (by rw [hl]; have := regF_len (g c) nm; omega)⟩
theorem half_clear (hl : l = (clearF (g c)).2) : Calls Tryz.prog 12 #[ptrV ob, .string c] w fun e w' => e = .returned (.int .i64 (clearF (g c)).1) ∧ ∃ S', Duo w0 w' rb ob (n + 1) R S' ps := by
  rw [← h.obe]
  obtain ⟨cl, h1, h2⟩ := h.ok
  have hfew := h.few c
  have := rclear_walk w S c (h.okR hn)
  refine this.mono fun e w' ⟨he, S', hx⟩ => ?_
  rw [h.eq, filter_srt_len] at he
  rw [h.eq, ← h2, filter_srt h1, h2] at hx
  exact ⟨he, S', by rw [h.obe]; exact h.whole hx (by rw [hl]) (by rw [hl]; have := clearF_len (g c); omega)⟩
end half
/-- Both, newly made. -/
theorem duo_made {w0 w1 w2 : World} {R : Rg} {S : Rr} (f1 : Fr (fun _ => False) w0 w1) (hr : RegAt w1 R) (hr0 : ∀ c, R.get c = []) (hk : ∀ k, R.fp k → w0.heap.size ≤ k) (f2 : Fr (fun _ => False) w1 w2) (hs : S.At w2) (hs0 : S.es = []) (hk2 : ∀ k, S.fp k → w1.heap.size ≤ k) : Duo w0 w2 R.rb S.ob 0 R S [] :=
  ⟨hr.still f2, hs, rfl, rfl, fun c => by rw [hr0, srtT_nil.2 rfl]; unfold Rr.get; rw [hs0]; rfl, fun k h1 h2 => by have := hr.at'.lt h1; have := hk2 k h2; omega, f1.trans f2 (fun _ _ h => h), hk, fun k h => by have := hk2 k h; have := f1.size; omega, fun p hp => (by cases hp), fun c => by rw [hr0]; exact Nat.le_refl _, by rw [hs0]; exact Nat.le_refl _⟩
end Go.Proofs.YtfgnipcegnoagaaGreat
