/- Clients: the clients that have topics, sorted. -/
import Derived.Test.YtfgnipcegnoagaaGreatTops
import Derived.Test.YtfgnipcegnoagaaGreatIterS
import Derived.Sort.KeysCollected
import Derived.Laws.Cover1
namespace Go.Proofs.YtfgnipcegnoagaaGreat
open Go.RowKit Go.MapKept Go.Shelf Go.Sort

/-- A slice of strings, as it lies. -/
def RowS (w : World) (v : Value) (l : List ByteArray) : Prop :=
  (v = .slice none 0 0 ∧ l = []) ∨ ∃ g cap, v = .slice (some ⟨g, 0, none⟩) l.length cap ∧ l ≠ [] ∧ g < w.heap.size ∧ ∀ i t, l[i]? = some t → w.cell? ⟨g, i, none⟩ = some (.string t)
theorem RowS.kept {w w' : World} {v : Value} {l : List ByteArray} {fp : Nat → Prop} (h : RowS w v l) (hf : Fr fp w w') (hn : ∀ k, v.ownBlock = some k → ¬ fp k) : RowS w' v l := by
  rcases h with h | ⟨g, cap, hv, hne, hg, hc⟩
  · exact .inl h
  · subst hv
    have hng : ¬ fp g := hn g rfl
    exact .inr ⟨g, cap, rfl, hne, Nat.lt_of_lt_of_le hg hf.size, fun i t hi => (hf.cell (p := ⟨g, i, none⟩) hg hng).trans (hc i t hi)⟩

def bytesL (s : ByteArray) : List UInt8 := s.data.toList
theorem encStr_bytesL (s : ByteArray) : encStr (bytesL s) = Value.string s := by
  show Value.string ⟨s.data.toList.toArray⟩ = _
  simp

theorem sortS_walk (w : World) (base : Nat) (v : Value) (ss : List ByteArray) (hown : w.ownsRow base 9 1 v ss.length (ss.map Value.string)) (hlen : ss.length ≤ 65534) (hnd : ss.Nodup) (hnil : v = .slice none 0 0 ↔ ss = []) :
    Calls Tryz.prog 58 #[v] w fun e w' => e = .returned (.tuple #[]) ∧ ∃ l : List ByteArray, l.Perm ss ∧ l.Pairwise (fun a b => Op.bytesLess a.toList b.toList = true) ∧ RowS w' v l ∧ w.grownBy w' v.ownBlock := by
  rcases hown.2 with ⟨rfl, h0⟩ | ⟨g, cap, cur, rfl, hbase, hb, h1, h2, h3, h4⟩
  · have hs : ss = [] := hnil.1 rfl
    subst hs
    refine (Tryz.slices_Sort_string_none none 0 w).mono fun e w' ⟨he, hw⟩ => ⟨he, [], .refl _, .nil, .inl ⟨rfl, rfl⟩, ?_⟩
    rw [hw]
    exact ⟨rfl, rfl, rfl, Nat.le_refl _, fun _ _ _ => rfl⟩
  · have hne : ss ≠ [] := fun e => by have := hnil.2 e; cases this
    have e1 : (ss.map bytesL).map encStr = ss.map Value.string := by
      rw [List.map_map]
      exact List.map_congr_left fun s _ => encStr_bytesL s
    have hH : Holds encStr w g 0 (ss.map bytesL).toArray := holds_of_block hb (by rw [e1, List.length_map]; simpa using h4)
    have hg := (Array.getElem?_eq_some_iff.1 hb).1
    have hcon := Tryz.slices_Sort_string g 0 cap (ss.map bytesL) w hH hg (by simp; omega)
    rw [List.length_map] at hcon
    refine hcon.mono ?_
    rintro e w' ⟨he, n, os, rfl⟩
    have hp : ((ss.map bytesL).mergeSort leB).Perm (ss.map bytesL) := List.mergeSort_perm _ _
    have hback : ∀ b : List UInt8, bytesL ⟨b.toArray⟩ = b := fun b => rfl
    have hrow := ownsRow_sorted (base := base) (n := n) (os := os) (ts := (ss.map bytesL).mergeSort leB) (ss := ss.map bytesL) (by simp) hbase hb (by simpa using h1) h2 h3
    have hg2 : w.grownBy (grow (putRow encStr (Sort.ahead w n) g 0 ((ss.map bytesL).mergeSort leB).toArray) os) (some g) := grownBy_sorted _
    refine ⟨he, ((ss.map bytesL).mergeSort leB).map (fun b => ⟨b.toArray⟩), ?_, ?_, .inr ⟨g, cap, by simp, ?_, Nat.lt_of_lt_of_le hg hg2.size, fun i t hi => ?_⟩, hg2⟩
    · have := hp.map (fun b : List UInt8 => (⟨b.toArray⟩ : ByteArray))
      refine this.trans ?_
      rw [List.map_map]
      have e2 : ss.map ((fun b : List UInt8 => (⟨b.toArray⟩ : ByteArray)) ∘ bytesL) = ss := by
        conv => rhs; rw [← List.map_id ss]
        exact List.map_congr_left fun s _ => by simp [bytesL]
      rw [e2]
    · have tr : ∀ a b c : List UInt8, leB a b = true → leB b c = true → leB a c = true := fun a b c h1 h2 => by simp only [leB, decide_eq_true_eq] at *; exact List.le_trans h1 h2
      have tot : ∀ a b : List UInt8, (leB a b || leB b a) = true := fun a b => by simp only [leB, Bool.or_eq_true, decide_eq_true_eq]; exact List.le_total a b
      have hs := List.pairwise_mergeSort tr tot (ss.map bytesL)
      have hnb : ((ss.map bytesL).mergeSort leB).Nodup := hp.nodup_iff.2 (List.pairwise_map.2 (hnd.imp fun {a b} hne e => hne (ByteArray.ext (Array.toList_inj.1 e))))
      refine List.pairwise_map.2 ((hs.and hnb).imp fun {a b} ⟨h5, h6⟩ => ?_)
      rw [bytesLess_eq, ByteArray.toList_eq, ByteArray.toList_eq]
      simp only [leB, decide_eq_true_eq] at h5 ⊢
      show a < b
      exact Decidable.byContradiction fun h => h6 (List.le_antisymm h5 (List.not_lt.1 h))
    · intro e
      have := congrArg List.length e
      simp at this
      exact hne this
    · have hil : i < ((ss.map bytesL).mergeSort leB).length := by
        have := (List.getElem?_eq_some_iff.1 hi).1
        simpa using this
      have hc := hrow.cellAt i (by simpa using hil)
      rw [hc]
      rw [List.getElem?_map, List.getElem?_eq_getElem hil] at hi ⊢
      simp only [Option.map_some, Option.some.injEq] at hi ⊢
      rw [← hi]

/-- Clients: what comes back. -/
def ClientsEnd (w : World) (R : Rg) (e : Ending) (w' : World) : Prop :=
  ∃ (v : Value) (l : List ByteArray), e = .returned v ∧ RowS w' v l ∧ l.Perm (R.cs.map (·.1)) ∧ l.Pairwise (fun a b => Op.bytesLess a.toList b.toList = true) ∧ Fr (fun _ => False) w w' ∧ ∀ k, v.ownBlock = some k → w.heap.size ≤ k

theorem clients_nil (w : World) :
    Calls Tryz.prog 25 #[.pointer none] w fun e w' => e = .returned (.slice none 0 0) ∧ w = w' := by
  go_enter Tryz.func25, Tryz.ntmps25
  go_wp2
  go_ret
  exact ⟨rfl, rfl⟩

/-- slices.Sorted(maps.Keys(m)), the iterator made. -/
theorem sortedKeys (b Bm : Nat) (m : List (ByteArray × Nat)) (hN : m.length ≤ 65534) (w : World) (hBm : Bm < w.heap.size) (hm : w.cell? ⟨Bm, 0, none⟩ = some (.map (some b))) (hown : ClientsAt w b m) :
    Calls Tryz.prog 44 #[.func (.func 59) #[] #[.pointer (some ⟨Bm, 0, none⟩)]] w fun e w' => ∃ (v : Value) (l : List ByteArray), e = .returned v ∧ RowS w' v l ∧ l.Perm (m.map (·.1)) ∧ l.Pairwise (fun a b => Op.bytesLess a.toList b.toList = true) ∧ Fr (fun _ => False) w w' ∧ ∀ k, v.ownBlock = some k → w.heap.size ≤ k := by
  have hcol := collectKeys b Bm m hN w hBm hm hown
  have hnd := hown.nodup
  have hcol2 := hcol.mono (R' := fun e w2 => ∃ v, e = .returned v ∧ Calls Tryz.prog 58 #[v] w2 fun e w3 => e = .returned (.tuple #[]) ∧ ∃ (l : List ByteArray), RowS w3 v l ∧ l.Perm (m.map (·.1)) ∧ l.Pairwise (fun a b => Op.bytesLess a.toList b.toList = true) ∧ Fr (fun _ => False) w w3 ∧ ∀ k, v.ownBlock = some k → w.heap.size ≤ k) fun e w2 ⟨v, ss, he, hS, hrow, hnil, hb⟩ => by
    refine ⟨v, he, ?_⟩
    refine (sortS_walk w2 _ v ss hrow (by rw [hS.length_eq]; simpa using hN) (hS.nodup_iff.2 hnd) hnil).mono fun e w3 ⟨h1, l, h2, h3, h4, h5⟩ => ⟨h1, l, h4, h2.trans hS, h3, ?_, fun k hk => (hrow.lt k hk).1⟩
    refine (frF_of_below hb).trans (Fr.of_grown (fp := fun k => w.heap.size ≤ k) h5 (fun k e => (hrow.lt k e).1)) (fun k hk h => absurd h (by omega))
  clear hcol hm hown hnd
  go_enter Tryz.func44, Tryz.ntmps44
  go_wp2_with (first | (go_at_call 57; refine hcol2.mono ?_; rintro e w2 ⟨v, rfl, hsrt⟩) | (go_at_call 58; refine hsrt.mono ?_; rintro e w3 ⟨rfl, l, hend⟩))
  go_ret
  exact ⟨v, l, rfl, hend⟩

theorem clients_walk (w : World) (R : Rg) (h : R.At w) (hN : R.cs.length ≤ 65534) :
    Calls Tryz.prog 25 #[ptrV R.rb] w (ClientsEnd w R) := by
  have cr := rowC h.reg
  have hkeys := keys_walk (some R.mb) w
  have hA2 : ClientsAt (w.alloc (.cells #[.map (some R.mb)] 50)) R.mb (R.cs.map fun p => (p.1, p.2.cb)) := h.cls.of_block (alloc_old w _ h.cls.lt)
  have hs := sortedKeys R.mb w.heap.size (R.cs.map fun p => (p.1, p.2.cb)) (by simpa using hN) (w.alloc (.cells #[.map (some R.mb)] 50)) (by simp) (by simp) hA2
  have hk : (R.cs.map fun p => (p.1, p.2.cb)).map (·.1) = R.cs.map (·.1) := by simp [Function.comp_def]
  rw [hk] at hs
  have Hf : Hid (Fr (fun _ => False) w (w.alloc (.cells #[.map (some R.mb)] 50))) := Fr.alloc _ _ _
  have hsz : Hid (w.heap.size ≤ (w.alloc (.cells #[.map (some R.mb)] 50)).heap.size) := (Fr.alloc (fun _ => False) w _).size
  clear h hA2 hk
  unfold ptrV at *
  go_enter Tryz.func25, Tryz.ntmps25
  go_wp2_with (first | (go_at_call 45; refine hkeys.mono ?_; rintro e w2 ⟨rfl, rfl⟩) | (go_at_call 44; refine hs.mono ?_; rintro e w3 ⟨v, l, rfl, h1, h2, h3, h4, h5⟩))
  go_ret
  exact ⟨v, l, rfl, h1, h2, h3, Hf.out.trans h4 (fun _ _ h => h), fun k hk => Nat.le_trans hsz.out (h5 k hk)⟩

end Go.Proofs.YtfgnipcegnoagaaGreat
