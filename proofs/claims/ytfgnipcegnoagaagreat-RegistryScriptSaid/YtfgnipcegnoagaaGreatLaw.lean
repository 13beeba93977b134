/- What the laws' walks carry: a registry whose topics are a function of the client. -/
import Derived.Test.YtfgnipcegnoagaaGreatLives
namespace Go.Proofs.YtfgnipcegnoagaaGreat
open Go.RowKit Go.MapKept Go.Sort

def upd (g : ByteArray → List Top) (c : ByteArray) (l : List Top) : ByteArray → List Top := fun x => if x = c then l else g x
theorem Nxt.get_upd {w w' : World} {R R' : Rg} {c : ByteArray} {l : List Top} {g : ByteArray → List Top} (h : Nxt w w' R R' c l) (hg : ∀ x, R.get x = g x) : ∀ x, R'.get x = upd g c l x := fun x => by
  unfold upd
  by_cases e : x = c
  · rw [if_pos e, e]; exact h.self
  · rw [if_neg e, ← hg]; exact h.others x e

/-- A client's topics by rising ids. -/
def srtT (l : List Top) : List Top := l.mergeSort (fun a b => decide (a.id ≤ b.id))
theorem srtT_eq {l s : List Top} (hp : s.Perm l) (hs : s.Pairwise (fun a b => a.id < b.id)) : s = srtT l := by
  have tr : ∀ a b c : Top, decide (a.id ≤ b.id) = true → decide (b.id ≤ c.id) = true → decide (a.id ≤ c.id) = true := fun a b c h1 h2 => by simp only [decide_eq_true_eq] at *; omega
  have tot : ∀ a b : Top, (decide (a.id ≤ b.id) || decide (b.id ≤ a.id)) = true := fun a b => by simp only [Bool.or_eq_true, decide_eq_true_eq]; omega
  have hp2 : (srtT l).Perm s := (List.mergeSort_perm _ _).trans hp.symm
  have h2 : (srtT l).Pairwise (fun a b => a.id ≤ b.id) := (List.pairwise_mergeSort tr tot l).imp (fun h => of_decide_eq_true h)
  have hn : (srtT l).Pairwise (fun a b => a.id ≠ b.id) := by
    have h3 : (s.map (·.id)).Nodup := List.pairwise_map.2 (hs.imp (fun {a b} h e => by omega))
    exact List.pairwise_map.1 (((hp2.map Top.id).nodup_iff.2 h3 : ((srtT l).map Top.id).Nodup))
  refine List.Perm.eq_of_pairwise (le := fun a b => a.id < b.id) (fun a b _ _ h1 h2 => by omega) hs ?_ hp2.symm
  exact (h2.and hn).imp (fun {a b} ⟨h1, h2⟩ => by omega)

theorem topics_to (w : World) (R : Rg) (c : ByteArray) (h : RegAt w R) :
    Calls Tryz.prog 22 #[ptrV R.rb, .string c] w fun e w' => ∃ v, e = .returned v ∧ RowT w' v (srtT (R.get c)) ∧ Fr (fun _ => False) w w' ∧ (∀ k, v.ownBlock = some k → w.heap.size ≤ k) :=
  (topics_walk w R c h.at' h.ok h.live).mono fun _ _ ⟨v, l, he, hr, hp, hs, hf, hk⟩ => ⟨v, he, by rw [← srtT_eq hp hs]; exact hr, hf, hk⟩

/-- A row that lies outside a registry. -/
def RowF (w : World) (R : Rg) (v : Value) (l : List Top) : Prop := RowT w v l ∧ ∀ k, v.ownBlock = some k → ¬ R.fp k ∧ k < w.heap.size
theorem RowT.lt {w : World} {v : Value} {l : List Top} (h : RowT w v l) {k : Nat} (hk : v.ownBlock = some k) : k < w.heap.size := by
  rcases h with ⟨rfl, _⟩ | ⟨g, cap, rfl, _, hg, _⟩
  · simp [Value.ownBlock] at hk
  · have : g = k := by simpa [Value.ownBlock] using hk
    omega
theorem RowF.step {w w' : World} {R R' : Rg} {v : Value} {l : List Top} (h : RowF w R v l) (st : Step R R' w w') : RowF w' R' v l :=
  ⟨h.1.kept st.fr (fun k hk => (h.2 k hk).1), fun k hk => ⟨fun hf => by
    rcases st.fp k hf with h1 | h1
    · exact (h.2 k hk).1 h1
    · have := (h.2 k hk).2; omega, Nat.lt_of_lt_of_le (h.2 k hk).2 st.fr.size⟩⟩
theorem RowF.still {w w' : World} {R : Rg} {v : Value} {l : List Top} (h : RowF w R v l) (hf : Fr (fun _ => False) w w') : RowF w' R v l := h.step (Step.still hf)
theorem RowF.made {w w' : World} {R : Rg} {v : Value} {l : List Top} (h : RegAt w R) (hr : RowT w' v l) (hk : ∀ k, v.ownBlock = some k → w.heap.size ≤ k) : RowF w' R v l :=
  ⟨hr, fun k hk2 => ⟨fun hf => by have := h.at'.lt hf; have := hk k hk2; omega, hr.lt hk2⟩⟩

def RowFS (w : World) (R : Rg) (v : Value) (l : List ByteArray) : Prop := RowS w v l ∧ ∀ k, v.ownBlock = some k → ¬ R.fp k ∧ k < w.heap.size
theorem RowS.lt {w : World} {v : Value} {l : List ByteArray} (h : RowS w v l) {k : Nat} (hk : v.ownBlock = some k) : k < w.heap.size := by
  rcases h with ⟨rfl, _⟩ | ⟨g, cap, rfl, _, hg, _⟩
  · simp [Value.ownBlock] at hk
  · have : g = k := by simpa [Value.ownBlock] using hk
    omega
theorem RowFS.step {w w' : World} {R R' : Rg} {v : Value} {l : List ByteArray} (h : RowFS w R v l) (st : Step R R' w w') : RowFS w' R' v l :=
  ⟨h.1.kept st.fr (fun k hk => (h.2 k hk).1), fun k hk => ⟨fun hf => by
    rcases st.fp k hf with h1 | h1
    · exact (h.2 k hk).1 h1
    · have := (h.2 k hk).2; omega, Nat.lt_of_lt_of_le (h.2 k hk).2 st.fr.size⟩⟩
theorem RowFS.still {w w' : World} {R : Rg} {v : Value} {l : List ByteArray} (h : RowFS w R v l) (hf : Fr (fun _ => False) w w') : RowFS w' R v l := h.step (Step.still hf)
theorem RowFS.made {w w' : World} {R : Rg} {v : Value} {l : List ByteArray} (h : RegAt w R) (hr : RowS w' v l) (hk : ∀ k, v.ownBlock = some k → w.heap.size ≤ k) : RowFS w' R v l :=
  ⟨hr, fun k hk2 => ⟨fun hf => by have := h.at'.lt hf; have := hk k hk2; omega, hr.lt hk2⟩⟩

theorem mget_keys {m : List (ByteArray × Cl)} (c : ByteArray) : c ∈ m.map (·.1) ↔ ∃ cl, mget m c = some cl := by
  constructor
  · intro h
    cases hc : mget m c with
    | some cl => exact ⟨cl, rfl⟩
    | none =>
      obtain ⟨p, hp, e⟩ := List.mem_map.1 h
      exact absurd e (mget_none_not hc p hp)
  · rintro ⟨cl, h⟩
    exact List.mem_map.2 ⟨_, mget_some_mem h, rfl⟩
theorem RegAt.keys {w : World} {R : Rg} (h : RegAt w R) (c : ByteArray) : c ∈ R.cs.map (·.1) ↔ R.get c ≠ [] := by
  rw [mget_keys]
  unfold Rg.get
  cases hc : mget R.cs c with
  | none => simp
  | some cl => simpa using h.live c cl hc
theorem nodup_sub_len {l ks : List ByteArray} (hn : l.Nodup) (hs : ∀ x ∈ l, x ∈ ks) : l.length ≤ ks.length := by
  induction l generalizing ks with
  | nil => simp
  | cons x l ih =>
    simp only [List.nodup_cons] at hn
    have hx : x ∈ ks := hs x (.head _)
    have h1 := ih (ks := ks.filter (fun y => decide (y ≠ x))) hn.2 (fun y hy => List.mem_filter.2 ⟨hs y (.tail _ hy), decide_eq_true (fun e => hn.1 (by rw [← e]; exact hy))⟩)
    have h2 : (ks.filter (fun y => decide (y ≠ x))).length < ks.length := List.length_filter_lt_length_iff_exists.2 ⟨x, hx, by simp⟩
    simp only [List.length_cons]
    omega

/-- Clients: sorted; just those that have topics. -/
theorem clients_to (w : World) (R : Rg) (h : RegAt w R) (ks : List ByteArray) (hks : ∀ c, R.get c ≠ [] → c ∈ ks) (hN : ks.length ≤ 65534) :
    Calls Tryz.prog 25 #[ptrV R.rb] w fun e w' => ∃ v l, e = .returned v ∧ RowS w' v l ∧ (∀ c, c ∈ l ↔ R.get c ≠ []) ∧ l.Nodup ∧ l.Pairwise (fun a b => Op.bytesLess a.toList b.toList = true) ∧ Fr (fun _ => False) w w' ∧ ∀ k, v.ownBlock = some k → w.heap.size ≤ k := by
  have hlen : R.cs.length ≤ 65534 := by
    have h1 := nodup_sub_len h.at'.keys (fun c hc => hks c ((h.keys c).1 hc))
    rw [List.length_map] at h1
    omega
  refine (clients_walk w R h.at' hlen).mono fun e w' ⟨v, l, he, hr, hp, hs, hf, hk⟩ => ⟨v, l, he, hr, fun c => ?_, hp.nodup_iff.2 h.at'.keys, hs, hf, hk⟩
  rw [hp.mem_iff]
  exact h.keys c

/-- Two sorted lists of one set are one. -/
theorem sortedS_eq {l s : List ByteArray} (hn : l.Nodup) (hn2 : s.Nodup) (hm : ∀ c, c ∈ l ↔ c ∈ s) (h1 : l.Pairwise (fun a b => Op.bytesLess a.toList b.toList = true)) (h2 : s.Pairwise (fun a b => Op.bytesLess a.toList b.toList = true)) : l = s := by
  refine List.Perm.eq_of_pairwise (le := fun a b => Op.bytesLess a.toList b.toList = true) (fun a b _ _ h3 h4 => ?_) h1 h2 ((List.perm_ext_iff_of_nodup hn hn2).2 hm)
  rw [bytesLess_eq] at h3 h4
  have h5 := of_decide_eq_true h3
  have h6 := of_decide_eq_true h4
  exact absurd (List.lt_trans h5 h6) (List.lt_irrefl _)
end Go.Proofs.YtfgnipcegnoagaaGreat
