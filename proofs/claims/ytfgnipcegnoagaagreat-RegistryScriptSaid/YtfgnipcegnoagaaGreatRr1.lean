/- The reference registry: topics put in by rising ids; rows that are appended to. -/
import Derived.Test.YtfgnipcegnoagaaGreatLaw
import Derived.Test.YtfgnipcegnoagaaGreatRef3
namespace Go.Proofs.YtfgnipcegnoagaaGreat
open Go.RowKit Go.MapKept

/-- A topic put in by its id. -/
def ins : List Top → Top → List Top
  | [], t => [t]
  | x :: l, t => if t.id < x.id then t :: x :: l else x :: ins l t
/-- What the loop has still to append; b: the topic is in. -/
def putGo (b : Bool) (t : Top) : List Top → List Top
  | [] => if b then [] else [t]
  | x :: l => (if b = false ∧ t.id < x.id then [t] else []) ++ x :: putGo (b || decide (t.id < x.id)) t l
theorem putGo_true (t : Top) (l : List Top) : putGo true t l = l := by
  induction l with
  | nil => rfl
  | cons x l ih => simp [putGo, ih]
theorem putGo_ins (t : Top) (l : List Top) : putGo false t l = ins l t := by
  induction l with
  | nil => rfl
  | cons x l ih =>
    by_cases h : t.id < x.id
    · simp [putGo, ins, h, putGo_true]
    · simp [putGo, ins, h, ih]
theorem ins_perm (l : List Top) (t : Top) : (ins l t).Perm (l ++ [t]) := by
  induction l with
  | nil => exact List.Perm.refl _
  | cons x l ih =>
    simp only [ins]
    split
    · exact (List.perm_append_comm (l₁ := [t]) (l₂ := x :: l))
    · exact ih.cons x
theorem ins_length (l : List Top) (t : Top) : (ins l t).length = l.length + 1 := by rw [(ins_perm l t).length_eq]; simp
theorem ins_ne (l : List Top) (t : Top) : ins l t ≠ [] := fun e => by have := ins_length l t; rw [e] at this; simp at this
theorem ins_pw {l : List Top} {t : Top} (h : l.Pairwise (fun a b => a.id < b.id)) (hn : ∀ x ∈ l, x.id ≠ t.id) : (ins l t).Pairwise (fun a b => a.id < b.id) := by
  induction l with
  | nil => simp [ins]
  | cons x l ih =>
    simp only [List.pairwise_cons] at h
    simp only [ins]
    split
    · rename_i hlt
      refine List.pairwise_cons.2 ⟨fun y hy => ?_, List.pairwise_cons.2 ⟨h.1, h.2⟩⟩
      cases hy with
      | head => exact hlt
      | tail _ hy => have := h.1 y hy; omega
    · rename_i hlt
      refine List.pairwise_cons.2 ⟨fun y hy => ?_, ih h.2 (fun y hy => hn y (.tail _ hy))⟩
      have hm := (ins_perm l t).mem_iff.1 hy
      rcases List.mem_append.1 hm with hm | hm
      · exact h.1 y hm
      · simp at hm
        subst hm
        have := hn x (.head _)
        omega
theorem srtT_perm (l : List Top) : (srtT l).Perm l := List.mergeSort_perm _ _
theorem srtT_len (l : List Top) : (srtT l).length = l.length := (srtT_perm l).length_eq
theorem srtT_pw {cl : Cl} (h : cl.Ok) : (srtT cl.tops).Pairwise (fun a b => a.id < b.id) := by
  have tr : ∀ a b c : Top, decide (a.id ≤ b.id) = true → decide (b.id ≤ c.id) = true → decide (a.id ≤ c.id) = true := fun a b c h1 h2 => by simp only [decide_eq_true_eq] at *; omega
  have tot : ∀ a b : Top, (decide (a.id ≤ b.id) || decide (b.id ≤ a.id)) = true := fun a b => by simp only [Bool.or_eq_true, decide_eq_true_eq]; omega
  have h2 : (srtT cl.tops).Pairwise (fun a b => a.id ≤ b.id) := (List.pairwise_mergeSort tr tot cl.tops).imp (fun h => of_decide_eq_true h)
  have hn : (srtT cl.tops).Pairwise (fun a b => a.id ≠ b.id) := List.pairwise_map.1 ((((srtT_perm cl.tops).map Top.id).nodup_iff.2 h.idn : ((srtT cl.tops).map Top.id).Nodup))
  exact (h2.and hn).imp (fun {a b} ⟨h1, h2⟩ => by omega)
theorem ins_srt {cl : Cl} (h : cl.Ok) {t : Top} (hn : ∀ x ∈ cl.tops, x.id ≠ t.id) : ins (srtT cl.tops) t = srtT (cl.tops ++ [t]) :=
  srtT_eq ((ins_perm _ _).trans ((srtT_perm _).append_right _)) (ins_pw (srtT_pw h) (fun x hx => hn x ((srtT_perm _).mem_iff.1 hx)))

theorem RowT.shape {w : World} {v : Value} {l : List Top} (h : RowT w v l) : ∃ p cap, v = .slice p l.length cap := by
  rcases h with ⟨h1, h2⟩ | ⟨b, cap, h1, _⟩
  · exact ⟨none, 0, by rw [h1, h2]; rfl⟩
  · exact ⟨_, cap, h1⟩
theorem RowT.at {w : World} {p : Option Addr} {cap n : Nat} {l : List Top} (h : RowT w (.slice p n cap) l) {i : Nat} {t : Top} (hi : l[i]? = some t) :
    ∃ b, p = some ⟨b, 0, none⟩ ∧ w.cell? ⟨b, i * 3, none⟩ = some (.int .i64 t.id) ∧ w.cell? ⟨b, i * 3 + 1, none⟩ = some (.string t.name) ∧ w.cell? ⟨b, i * 3 + 2, none⟩ = some (.bool t.fixed) := by
  rcases h with ⟨h1, h2⟩ | ⟨b, cap', h1, _, _, h2⟩
  · rw [h2] at hi; cases hi
  · cases h1
    exact ⟨b, rfl, h2 i t hi⟩
theorem addr_add (b j : Nat) : (⟨b, 0, none⟩ : Addr).add j = ⟨b, j, none⟩ := by
  simp [Addr.add]
  exact fun h => h.symm
theorem RowT.cells {w : World} {b n cap : Nat} {l : List Top} (h : RowT w (.slice (some ⟨b, 0, none⟩) n cap) l) : ∀ j u, (topCells l)[j]? = some u → w.cell? ((⟨b, 0, none⟩ : Addr).add j) = some u := by
  intro j u hj
  rw [topCells_get] at hj
  cases hx : l[j / 3]? with
  | none => rw [hx] at hj; cases hj
  | some t =>
    rw [hx] at hj
    obtain ⟨b', e, h1, h2, h3⟩ := h.at hx
    cases e
    have hm : j % 3 < 3 := Nat.mod_lt _ (by omega)
    have hdm := Nat.div_add_mod j 3
    rw [addr_add]
    generalize j % 3 = r at *
    generalize j / 3 = q at *
    rcases (by omega : r = 0 ∨ r = 1 ∨ r = 2) with rfl | rfl | rfl
    · have : j = q * 3 := by omega
      subst this
      simp [Top.cells] at hj
      rw [h1, hj]
    · have : j = q * 3 + 1 := by omega
      subst this
      simp [Top.cells] at hj
      rw [h2, hj]
    · have : j = q * 3 + 2 := by omega
      subst this
      simp [Top.cells] at hj
      rw [h3, hj]
theorem rowT_of_own {w : World} {base : Nat} {v : Value} {l : List Top} (h : w.ownsRow base 44 3 v l.length (topCells l)) (hne : l ≠ []) : RowT w v l := by
  have hpos := List.length_pos_iff.2 hne
  rcases h.2 with ⟨_, h0⟩ | ⟨g, cap, cur, rfl, hbase, hb, h1, h2, h3, h4⟩
  · omega
  · refine .inr ⟨g, cap, rfl, hne, (Array.getElem?_eq_some_iff.1 hb).1, fun i t hi => ?_⟩
    have hil := (List.getElem?_eq_some_iff.1 hi).1
    have key : ∀ r u, r < 3 → t.cells[r]? = some u → w.cell? ⟨g, i * 3 + r, none⟩ = some u := fun r u hr hu => by
      have hj : (topCells l)[i * 3 + r]? = some u := by
        rw [topCells_get, show (i * 3 + r) / 3 = i by omega, show (i * 3 + r) % 3 = r by omega, hi]
        exact hu
      rw [h.cellAt (i * 3 + r) (by omega), hj]
    exact ⟨key 0 _ (by omega) rfl, key 1 _ (by omega) rfl, key 2 _ (by omega) rfl⟩
theorem ownS_shape {w : World} {base : Nat} {e : TypeId} {size : Nat} {v : Value} {n : Nat} {xs : List Value} (h : w.ownsRow base e size v n xs) : ∃ p cap, v = .slice p n cap := by
  rcases h.2 with ⟨h1, h2⟩ | ⟨g, cap, cur, h1, _⟩
  · exact ⟨none, 0, by rw [h1, h2]⟩
  · exact ⟨_, cap, h1⟩
/-- Behind an append to a row of one's own nothing of before has turned. -/
theorem Fr.own {w0 w w' : World} {e : TypeId} {size n : Nat} {v : Value} {xs : List Value} (h : Fr (fun _ => False) w0 w) (hown : w.ownsRow w0.heap.size e size v n xs) (hg : w.grownBy w' v.ownBlock) : Fr (fun _ => False) w0 w' :=
  h.trans (Fr.of_grown (fp := fun k => w0.heap.size ≤ k) hg (fun k e => (hown.lt k e).1)) (fun k hk h => absurd h (by omega))

def PutEnd (w : World) (l : List Top) (e : Ending) (w' : World) : Prop :=
  ∃ v, e = .returned v ∧ RowT w' v l ∧ Fr (fun _ => False) w w' ∧ ∀ k, v.ownBlock = some k → w.heap.size ≤ k

/-- A step of put's loop. -/
theorem putGo_cons {b : Bool} {t x : Top} {l : List Top} {i : Nat} (hx : l[i]? = some x) : putGo b t (l.drop i) = (if b = false ∧ t.id < x.id then [t] else []) ++ x :: putGo (b || decide (t.id < x.id)) t (l.drop (i + 1)) := by
  obtain ⟨h1, h2⟩ := List.getElem?_eq_some_iff.1 hx
  rw [List.drop_eq_getElem_cons h1, h2]
  rfl
end Go.Proofs.YtfgnipcegnoagaaGreat
