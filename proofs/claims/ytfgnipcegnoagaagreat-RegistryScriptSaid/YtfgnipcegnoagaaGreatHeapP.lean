/- Plain laws of a binary heap in a list of ints, as container/heap keeps it. No program in sight. -/
namespace Go.Proofs.YtfgnipcegnoagaaGreat

/-- The k-th number of a list. -/
def gx (ys : List Int) (k : Nat) : Int := ys.getD k 0
def swapI (xs : List Int) (i j : Nat) : List Int := (xs.set i (gx xs j)).set j (gx xs i)
theorem gx_eq {ys : List Int} {k : Nat} (h : k < ys.length) : gx ys k = ys[k] := by simp [gx, h]

theorem swapI_length (xs : List Int) (i j : Nat) : (swapI xs i j).length = xs.length := by simp [swapI]

theorem swapI_get (xs : List Int) (i j k : Nat) (hi : i < xs.length) (hj : j < xs.length) :
    gx (swapI xs i j) k = if k = i then gx xs j else if k = j then gx xs i else gx xs k := by
  simp only [swapI, gx, List.getD_eq_getElem?_getD, List.getElem?_set, List.length_set]
  by_cases h1 : j = k
  · subst h1
    by_cases h2 : j = i
    · subst h2; simp [hi]
    · simp [hj, h2]
  · by_cases h2 : i = k
    · subst h2
      simp [h1, hi]
    · have h1' : ¬ k = j := fun e => h1 e.symm
      have h2' : ¬ k = i := fun e => h2 e.symm
      simp [h1, h2, h1', h2']

theorem perm_set_of_mem (xs : List Int) (i : Nat) (hi : i < xs.length) (a : Int) : (xs[i] :: xs.set i a).Perm (a :: xs) := by
  induction xs generalizing i with
  | nil => simp at hi
  | cons x xs ih =>
    cases i with
    | zero => simp only [List.getElem_cons_zero, List.set_cons_zero]; exact List.Perm.swap _ _ _
    | succ i =>
      simp only [List.getElem_cons_succ, List.set_cons_succ]
      have := ih i (by simpa using hi)
      exact (List.Perm.swap _ _ _).trans ((this.cons x).trans (List.Perm.swap _ _ _))

theorem swapI_perm (xs : List Int) (i j : Nat) (hi : i < xs.length) (hj : j < xs.length) : (swapI xs i j).Perm xs := by
  unfold swapI
  have e1 : gx xs i = xs[i] := gx_eq hi
  have e2 : gx xs j = xs[j] := gx_eq hj
  rw [e1, e2]
  have h1 := perm_set_of_mem xs i hi xs[j]
  have hj' : j < (xs.set i xs[j]).length := by simpa using hj
  have h2 := perm_set_of_mem (xs.set i xs[j]) j hj' xs[i]
  have e3 : (xs.set i xs[j])[j] = xs[j] := by
    rw [List.getElem_set]; split <;> rfl
  rw [e3] at h2
  exact (List.perm_cons xs[j]).1 (h2.trans h1)

def IsHeap (n : Nat) (ys : List Int) : Prop := ∀ k, 1 ≤ k → k < n → gx ys ((k - 1) / 2) ≤ gx ys k
def DownInv (n : Nat) (ys : List Int) (i : Nat) : Prop :=
  (∀ k, 1 ≤ k → k < n → (k - 1) / 2 ≠ i → gx ys ((k - 1) / 2) ≤ gx ys k) ∧ (∀ k, 1 ≤ k → k < n → (k - 1) / 2 = i → 1 ≤ i → gx ys ((i - 1) / 2) ≤ gx ys k)
def UpInv (n : Nat) (ys : List Int) (j : Nat) : Prop :=
  (∀ k, 1 ≤ k → k < n → k ≠ j → gx ys ((k - 1) / 2) ≤ gx ys k) ∧ (∀ k, 1 ≤ k → k < n → (k - 1) / 2 = j → 1 ≤ j → gx ys ((j - 1) / 2) ≤ gx ys k)

theorem isHeap_min {n : Nat} {ys : List Int} (h : IsHeap n ys) : ∀ k, k < n → gx ys 0 ≤ gx ys k := by
  intro k
  induction k using Nat.strongRecOn with
  | _ k ih =>
    intro hk
    by_cases h0 : k = 0
    · subst h0; exact Int.le_refl _
    · exact Int.le_trans (ih ((k - 1) / 2) (by omega) (by omega)) (h k (by omega) hk)

theorem down_start {n : Nat} {ys : List Int} (h : ∀ k, 1 ≤ k → k < n → (k - 1) / 2 ≠ 0 → gx ys ((k - 1) / 2) ≤ gx ys k) : DownInv n ys 0 := ⟨h, fun _ _ _ _ h => by omega⟩

theorem down_stop1 {n : Nat} {ys : List Int} {i : Nat} (h : DownInv n ys i) (hn : n ≤ 2 * i + 1) : IsHeap n ys := fun k h1 h2 => h.1 k h1 h2 (by omega)
theorem down_stop2 {n : Nat} {ys : List Int} {i j : Nat} (h : DownInv n ys i) (hj : j = 2 * i + 1 ∨ j = 2 * i + 2) (hmin : ∀ k, k < n → k = 2 * i + 1 ∨ k = 2 * i + 2 → gx ys j ≤ gx ys k) (hs : ¬ gx ys j < gx ys i) : IsHeap n ys := fun k h1 h2 => by
  by_cases hk : (k - 1) / 2 = i
  · have := hmin k h2 (by omega)
    rw [hk]; omega
  · exact h.1 k h1 h2 hk
theorem down_step {n : Nat} {ys : List Int} {i j : Nat} (h : DownInv n ys i) (hl : n ≤ ys.length) (hjn : j < n) (hj : j = 2 * i + 1 ∨ j = 2 * i + 2) (hmin : ∀ k, k < n → k = 2 * i + 1 ∨ k = 2 * i + 2 → gx ys j ≤ gx ys k) (hs : gx ys j < gx ys i) : DownInv n (swapI ys i j) j := by
  have hij : i < ys.length := by omega
  have hg := fun k => swapI_get ys i j k hij (by omega)
  refine ⟨fun k h1 h2 hk => ?_, fun k h1 h2 hk hj1 => ?_⟩
  · rw [hg, hg]
    by_cases e1 : (k - 1) / 2 = i
    · -- k is a child of i
      have hm := hmin k h2 (by omega)
      have hki : k ≠ i := by omega
      simp only [e1, if_true, hki, if_false]
      split <;> omega
    · simp only [e1, if_false, hk]
      by_cases e2 : k = i
      · subst e2
        simp only [if_true]
        have := h.2 j (by omega) hjn (by omega) h1
        exact this
      · by_cases e3 : k = j
        · exfalso; subst e3; omega
        · simp only [e2, e3, if_false]; exact h.1 k h1 h2 e1
  · have e1 : (j - 1) / 2 = i := by omega
    rw [hg, hg, e1]
    have hki : k ≠ i := by omega
    have hkj : k ≠ j := by omega
    simp only [if_true, hki, hkj, if_false]
    have := h.1 k h1 h2 (by omega)
    rw [hk] at this
    exact this

theorem up_stop0 {n : Nat} {ys : List Int} (h : UpInv n ys 0) : IsHeap n ys := fun k h1 h2 => h.1 k h1 h2 (by omega)
theorem up_stop {n : Nat} {ys : List Int} {j : Nat} (h : UpInv n ys j) (hs : ¬ gx ys j < gx ys ((j - 1) / 2)) : IsHeap n ys := fun k h1 h2 => by
  by_cases hk : k = j
  · subst hk; omega
  · exact h.1 k h1 h2 hk
theorem up_step {n : Nat} {ys : List Int} {j : Nat} (h : UpInv n ys j) (hl : n ≤ ys.length) (hj : 1 ≤ j) (hjn : j < n) (hs : gx ys j < gx ys ((j - 1) / 2)) : UpInv n (swapI ys ((j - 1) / 2) j) ((j - 1) / 2) := by
  have hg := fun k => swapI_get ys ((j - 1) / 2) j k (by omega) (by omega)
  generalize hp : (j - 1) / 2 = p at *
  refine ⟨fun k h1 h2 hk => ?_, fun k h1 h2 hk hp1 => ?_⟩
  · rw [hg, hg]
    simp only [hk, if_false]
    by_cases e1 : (k - 1) / 2 = p
    · simp only [e1, if_true]
      by_cases e2 : k = j
      · simp only [e2, if_true]; omega
      · simp only [e2, if_false]
        have := h.1 k h1 h2 e2
        rw [e1] at this
        omega
    · by_cases e2 : (k - 1) / 2 = j
      · have hkj : k ≠ j := by omega
        have hjp : j ≠ p := by omega
        simp only [e2, hjp, if_false, if_true, hkj]
        have := h.2 k h1 h2 e2 hj
        rwa [hp] at this
      · have hkj : k ≠ j := fun e => e1 (by subst e; exact hp)
        simp only [e1, e2, hkj, if_false]
        exact h.1 k h1 h2 hkj
  · have hpp : (p - 1) / 2 ≠ p := by omega
    have hpj : (p - 1) / 2 ≠ j := by omega
    have hq := h.1 p hp1 (by omega) (by omega)
    rw [hg, hg]
    simp only [hpp, hpj, if_false]
    have hkp : k ≠ p := by omega
    simp only [hkp, if_false]
    split
    · exact hq
    · rename_i hkj
      have := h.1 k h1 h2 hkj
      rw [hk] at this
      omega

theorem take_last {ys : List Int} {n : Nat} (h : ys.length = n + 1) : ys = ys.take n ++ [gx ys n] := by
  rw [gx_eq (by omega)]
  have := List.take_append_drop n ys
  rw [List.drop_eq_getElem_cons (by omega), List.drop_eq_nil_of_le (by omega)] at this
  exact this.symm
theorem gx_append {zs : List Int} {x : Int} {k : Nat} (h : k < zs.length) : gx (zs ++ [x]) k = gx zs k := by
  simp [gx, List.getElem?_append_left h]
theorem isHeap_snoc {n : Nat} {zs : List Int} {x : Int} (h : IsHeap n zs) (hn : n ≤ zs.length) : ∀ k, 1 ≤ k → k < n → gx (zs ++ [x]) ((k - 1) / 2) ≤ gx (zs ++ [x]) k := fun k h1 h2 => by
  rw [gx_append (by omega), gx_append (by omega)]; exact h k h1 h2

theorem up_start {xs : List Int} {x : Int} (h : IsHeap xs.length xs) : UpInv (xs ++ [x]).length (xs ++ [x]) xs.length := by
  refine ⟨fun k h1 h2 h3 => ?_, fun k h1 h2 h3 h4 => ?_⟩
  · simp at h2
    exact isHeap_snoc h (Nat.le_refl _) k h1 (by omega)
  · simp at h2; omega

end Go.Proofs.YtfgnipcegnoagaaGreat
