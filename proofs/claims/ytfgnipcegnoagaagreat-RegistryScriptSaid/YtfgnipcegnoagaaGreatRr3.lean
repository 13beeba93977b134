/- The reference registry as it lies: entries by rising clients. -/
import Derived.Test.YtfgnipcegnoagaaGreatRr2
namespace Go.Proofs.YtfgnipcegnoagaaGreat
open Go.RowKit Go.MapKept

structure Ent where
  c : ByteArray
  v : Value
  l : List Top
def Ent.cells (e : Ent) : List Value := [.string e.c, e.v]
def entCells (es : List Ent) : List Value := es.flatMap Ent.cells
theorem entCells_snoc (es : List Ent) (e : Ent) : entCells (es ++ [e]) = entCells es ++ e.cells := by simp [entCells]
theorem entCells_get (l : List Ent) (j : Nat) : (entCells l)[j]? = (l[j / 2]?).bind fun t => t.cells[j % 2]? := by
  induction l generalizing j with
  | nil => simp [entCells]
  | cons t l ih =>
    have e : entCells (t :: l) = t.cells ++ entCells l := by simp [entCells]
    rw [e]
    by_cases h : j < 2
    · rw [List.getElem?_append_left (by simpa [Ent.cells] using h), Nat.div_eq_of_lt h, Nat.mod_eq_of_lt h]
      rfl
    · have e3 : t.cells.length = 2 := rfl
      rw [List.getElem?_append_right (by rw [e3]; omega), e3, ih, show j / 2 = (j - 2) / 2 + 1 by omega, show (j - 2) % 2 = j % 2 by omega]
      rfl

/-- A slice of entries, as it lies. -/
def RowE (w : World) (v : Value) (l : List Ent) : Prop :=
  (v = .slice none 0 0 ∧ l = []) ∨ ∃ g cap, v = .slice (some ⟨g, 0, none⟩) l.length cap ∧ g < w.heap.size ∧ ∀ i t, l[i]? = some t →
    w.cell? ⟨g, i * 2, none⟩ = some (.string t.c) ∧ w.cell? ⟨g, i * 2 + 1, none⟩ = some t.v
theorem RowE.kept {w w' : World} {v : Value} {l : List Ent} {fp : Nat → Prop} (h : RowE w v l) (hf : Fr fp w w') (hn : ∀ k, v.ownBlock = some k → ¬ fp k) : RowE w' v l := by
  rcases h with h | ⟨g, cap, hv, hg, hc⟩
  · exact .inl h
  · subst hv
    have hng : ¬ fp g := hn g rfl
    refine .inr ⟨g, cap, rfl, Nat.lt_of_lt_of_le hg hf.size, fun i t hi => ?_⟩
    obtain ⟨h1, h2⟩ := hc i t hi
    exact ⟨(hf.cell (p := ⟨g, i * 2, none⟩) hg hng).trans h1, (hf.cell (p := ⟨g, i * 2 + 1, none⟩) hg hng).trans h2⟩
theorem RowE.shape {w : World} {v : Value} {l : List Ent} (h : RowE w v l) : ∃ p cap, v = .slice p l.length cap := by
  rcases h with ⟨h1, h2⟩ | ⟨b, cap, h1, _⟩
  · exact ⟨none, 0, by rw [h1, h2]; rfl⟩
  · exact ⟨_, cap, h1⟩
theorem RowE.at {w : World} {p : Option Addr} {cap n : Nat} {l : List Ent} (h : RowE w (.slice p n cap) l) {i : Nat} {t : Ent} (hi : l[i]? = some t) :
    ∃ b, p = some ⟨b, 0, none⟩ ∧ w.cell? ⟨b, i * 2, none⟩ = some (.string t.c) ∧ w.cell? ⟨b, i * 2 + 1, none⟩ = some t.v := by
  rcases h with ⟨h1, h2⟩ | ⟨b, cap', h1, _, h2⟩
  · rw [h2] at hi; cases hi
  · cases h1
    exact ⟨b, rfl, h2 i t hi⟩
theorem RowE.lt {w : World} {v : Value} {l : List Ent} (h : RowE w v l) {k : Nat} (hk : v.ownBlock = some k) : k < w.heap.size := by
  rcases h with ⟨rfl, _⟩ | ⟨g, cap, rfl, hg, _⟩
  · simp [Value.ownBlock] at hk
  · have : g = k := by simpa [Value.ownBlock] using hk
    omega
theorem rowE_of_own {w : World} {base : Nat} {v : Value} {l : List Ent} (h : w.ownsRow base 81 2 v l.length (entCells l)) : RowE w v l := by
  rcases h.2 with ⟨h1, h0⟩ | ⟨g, cap, cur, rfl, hbase, hb, h1, h2, h3, h4⟩
  · exact .inl ⟨h1, List.length_eq_zero_iff.1 h0⟩
  · refine .inr ⟨g, cap, rfl, (Array.getElem?_eq_some_iff.1 hb).1, fun i t hi => ?_⟩
    have hil := (List.getElem?_eq_some_iff.1 hi).1
    have key : ∀ r u, r < 2 → t.cells[r]? = some u → w.cell? ⟨g, i * 2 + r, none⟩ = some u := fun r u hr hu => by
      have hj : (entCells l)[i * 2 + r]? = some u := by
        rw [entCells_get, show (i * 2 + r) / 2 = i by omega, show (i * 2 + r) % 2 = r by omega, hi]
        exact hu
      rw [h.cellAt (i * 2 + r) (by omega), hj]
    exact ⟨key 0 _ (by omega) rfl, key 1 _ (by omega) rfl⟩

def ltB (a b : ByteArray) : Prop := Op.bytesLess a.toList b.toList = true
theorem ltB_trans {a b c : ByteArray} (h1 : ltB a b) (h2 : ltB b c) : ltB a c := by
  unfold ltB at *
  simp only [bytesLess_eq] at *
  exact decide_eq_true (List.lt_trans (of_decide_eq_true h1) (of_decide_eq_true h2))
theorem ltB_irrefl (a : ByteArray) : ¬ ltB a a := fun h => by
  unfold ltB at h
  rw [bytesLess_eq] at h
  exact List.lt_irrefl _ (of_decide_eq_true h)
theorem ltB_total {a b : ByteArray} (h1 : ¬ ltB a b) (h2 : a ≠ b) : ltB b a := by
  unfold ltB at *
  simp only [bytesLess_eq] at *
  refine decide_eq_true ?_
  have h3 : ¬ a.toList < b.toList := fun h => h1 (decide_eq_true h)
  have h4 : b.toList ≤ a.toList := h3
  rcases List.le_iff_lt_or_eq.1 h4 with h5 | h5
  · exact h5
  · rw [ByteArray.toList_eq, ByteArray.toList_eq] at h5
    exact absurd (ByteArray.ext (Array.toList_inj.1 h5)).symm h2
instance (a b : ByteArray) : Decidable (ltB a b) := inferInstanceAs (Decidable (_ = _))

structure Rr where
  ob : Nat
  v : Value
  es : List Ent
def Rr.fp (S : Rr) (k : Nat) : Prop := k = S.ob ∨ S.v.ownBlock = some k ∨ ∃ e ∈ S.es, e.v.ownBlock = some k
structure Rr.At (w : World) (S : Rr) : Prop where
  reg : w.heap[S.ob]? = some (.cells #[S.v] 55 (0, 0))
  row : RowE w S.v S.es
  each : ∀ e ∈ S.es, RowT w e.v e.l ∧ e.l ≠ []
  nv : S.v.ownBlock ≠ some S.ob
  ne : ∀ e ∈ S.es, e.v.ownBlock ≠ some S.ob
  srt : S.es.Pairwise (fun a b => ltB a.c b.c)
def entGet (es : List Ent) (c : ByteArray) : List Top := match es.find? (fun e => decide (e.c = c)) with | some e => e.l | none => []
def Rr.get (S : Rr) (c : ByteArray) : List Top := entGet S.es c
theorem Rr.At.lt {w : World} {S : Rr} (h : S.At w) {k : Nat} (hk : S.fp k) : k < w.heap.size := by
  rcases hk with rfl | hk | ⟨e, he, hk⟩
  · exact lt_of_heap h.reg
  · exact h.row.lt hk
  · exact (h.each e he).1.lt hk
theorem Rr.At.kept {w w' : World} {S : Rr} (h : S.At w) {fp : Nat → Prop} (hf : Fr fp w w') (hn : ∀ k, S.fp k → ¬ fp k) : S.At w' :=
  ⟨(hf.block _ (lt_of_heap h.reg) (hn _ (.inl rfl))).trans h.reg, h.row.kept hf (fun k hk => hn k (.inr (.inl hk))),
    fun e he => ⟨(h.each e he).1.kept hf (fun k hk => hn k (.inr (.inr ⟨e, he, hk⟩))), (h.each e he).2⟩, h.nv, h.ne, h.srt⟩
theorem Rr.At.still {w w' : World} {S : Rr} (h : S.At w) (hf : Fr (fun _ => False) w w') : S.At w' := h.kept hf (fun _ _ h => h)

theorem entGet_none {es : List Ent} {c : ByteArray} (h : ∀ e ∈ es, e.c ≠ c) : entGet es c = [] := by
  unfold entGet
  rw [List.find?_eq_none.2 fun e he => by simpa using h e he]
theorem entGet_mem {es : List Ent} (hs : es.Pairwise (fun a b => ltB a.c b.c)) {e : Ent} (he : e ∈ es) : entGet es e.c = e.l := by
  unfold entGet
  cases hf : es.find? (fun x => decide (x.c = e.c)) with
  | none => exact absurd (List.find?_eq_none.1 hf e he) (by simp)
  | some x =>
    have h1 : x.c = e.c := by have := List.find?_some hf; simpa using this
    have h2 := List.mem_of_find?_eq_some hf
    have : x = e := by
      obtain ⟨i, hi, e1⟩ := List.getElem_of_mem h2
      obtain ⟨j, hj, e2⟩ := List.getElem_of_mem he
      by_cases h : i = j
      · subst h; exact e1.symm.trans e2
      · exfalso
        have hp := List.pairwise_iff_getElem.1 hs
        rcases Nat.lt_or_gt_of_ne h with h | h
        · have := hp i j hi hj h
          rw [e1, e2, h1] at this
          exact ltB_irrefl _ this
        · have := hp j i hj hi h
          rw [e1, e2, h1] at this
          exact ltB_irrefl _ this
    rw [this]

/-- What set's loop has still to append; b: the entry is in, or is not to be. -/
def setGo (b : Bool) (n : Ent) : List Ent → List Ent
  | [] => if b then [] else [n]
  | x :: l => (if b = false ∧ ltB n.c x.c then [n] else []) ++ (if x.c = n.c then [] else [x]) ++ setGo (b || decide (ltB n.c x.c)) n l
theorem setGo_mem (b : Bool) (n : Ent) (es : List Ent) (x : Ent) : x ∈ setGo b n es ↔ (x ∈ es ∧ x.c ≠ n.c) ∨ (b = false ∧ x = n) := by
  induction es generalizing b with
  | nil => cases b <;> simp [setGo]
  | cons y l ih =>
    simp only [setGo, List.mem_append, ih]
    by_cases hl : ltB n.c y.c
    · have hne : ¬ y.c = n.c := fun e => ltB_irrefl _ (by rw [e] at hl; exact hl)
      cases b <;> simp [hl, hne] <;> grind
    · by_cases hc : y.c = n.c
      · cases b <;> simp [hl, hc] <;> grind
      · cases b <;> simp [hl, hc] <;> grind
theorem setGo_pw {es : List Ent} (hs : es.Pairwise (fun a b => ltB a.c b.c)) (n : Ent) : ∀ b, (setGo b n es).Pairwise (fun a b => ltB a.c b.c) := by
  induction es with
  | nil => intro b; cases b <;> simp [setGo]
  | cons y l ih =>
    intro b
    simp only [List.pairwise_cons] at hs
    have hrest : ∀ b', (b' = false → ¬ ltB n.c y.c) → ∀ z ∈ setGo b' n l, y.c ≠ n.c → ltB y.c z.c := fun b' hb z hz hyc => by
      rcases (setGo_mem b' n l z).1 hz with ⟨h1, _⟩ | ⟨h1, rfl⟩
      · exact hs.1 z h1
      · exact ltB_total (hb h1) (fun e => hyc e.symm)
    have hrn : ltB n.c y.c → ∀ z ∈ setGo true n l, ltB n.c z.c := fun h z hz => by
      rcases (setGo_mem true n l z).1 hz with ⟨h1, _⟩ | ⟨h1, _⟩
      · exact ltB_trans h (hs.1 z h1)
      · cases h1
    simp only [setGo]
    by_cases hl : ltB n.c y.c
    · have hne : ¬ y.c = n.c := fun e => ltB_irrefl _ (by rw [e] at hl; exact hl)
      have h2 := hrest true nofun
      have h3 := ih hs.2 true
      cases b
      · simp only [hl, and_self, if_true, hne, if_false, decide_true, Bool.or_true, List.cons_append, List.nil_append]
        refine List.pairwise_cons.2 ⟨fun z hz => ?_, List.pairwise_cons.2 ⟨fun z hz => h2 z hz hne, h3⟩⟩
        cases hz with
        | head => exact hl
        | tail _ hz => exact hrn hl z hz
      · simp only [hne, if_false, Bool.true_or, List.cons_append, List.nil_append, Bool.true_eq_false, false_and]
        exact List.pairwise_cons.2 ⟨fun z hz => h2 z hz hne, h3⟩
    · simp only [hl, and_false, if_false, decide_false, Bool.or_false, List.nil_append]
      have h3 := ih hs.2 b
      by_cases hc : y.c = n.c
      · simp only [hc, if_true, List.nil_append]; exact h3
      · simp only [hc, if_false, List.cons_append, List.nil_append]
        exact List.pairwise_cons.2 ⟨fun z hz => hrest b (fun _ => hl) z hz hc, h3⟩
theorem setGo_len (n : Ent) (es : List Ent) : ∀ b, (setGo b n es).length ≤ es.length + 1 ∧ (b = true → (setGo b n es).length ≤ es.length) := by
  induction es with
  | nil => intro b; cases b <;> simp [setGo]
  | cons y l ih =>
    intro b
    simp only [setGo, List.length_append, List.length_cons]
    have h1 := ih true
    have h2 := ih b
    by_cases hl : ltB n.c y.c
    · have h3 := h1.2 rfl
      cases b <;> (simp [hl]; split <;> simp <;> omega)
    · cases b
      · have := h2.1
        simp [hl]; split <;> simp <;> omega
      · have := h2.2 rfl
        simp [hl]; split <;> simp <;> omega
/-- The topics behind set. -/
theorem setGo_get {es : List Ent} (hs : es.Pairwise (fun a b => ltB a.c b.c)) (n : Ent) (b : Bool) (hb : b = true → n.l = []) (y : ByteArray) : entGet (setGo b n es) y = upd (entGet es) n.c n.l y := by
  have hp := setGo_pw hs n b
  unfold upd
  by_cases e : y = n.c
  · rw [if_pos e, e]
    cases b with
    | false => exact entGet_mem hp ((setGo_mem false n es n).2 (.inr ⟨rfl, rfl⟩))
    | true =>
      rw [hb rfl]
      refine entGet_none fun x hx => ?_
      rcases (setGo_mem true n es x).1 hx with ⟨_, h1⟩ | ⟨h1, _⟩
      · exact h1
      · cases h1
  · rw [if_neg e]
    by_cases hx : ∃ x ∈ es, x.c = y
    · obtain ⟨x, hx, rfl⟩ := hx
      rw [entGet_mem hs hx]
      exact entGet_mem hp ((setGo_mem b n es x).2 (.inl ⟨hx, e⟩))
    · have h1 : ∀ x ∈ es, x.c ≠ y := fun x h h2 => hx ⟨x, h, h2⟩
      rw [entGet_none h1]
      refine entGet_none fun x hx => ?_
      rcases (setGo_mem b n es x).1 hx with ⟨h2, _⟩ | ⟨_, h2⟩
      · exact h1 x h2
      · rw [h2]; exact fun e2 => e e2.symm
theorem setGo_cons {b : Bool} {n x : Ent} {l : List Ent} {i : Nat} (hx : l[i]? = some x) : setGo b n (l.drop i) = (if b = false ∧ ltB n.c x.c then [n] else []) ++ (if x.c = n.c then [] else [x]) ++ setGo (b || decide (ltB n.c x.c)) n (l.drop (i + 1)) := by
  obtain ⟨h1, h2⟩ := List.getElem?_eq_some_iff.1 hx
  rw [List.drop_eq_getElem_cons h1, h2]
  rfl
end Go.Proofs.YtfgnipcegnoagaaGreat
