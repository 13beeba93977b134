/- container/heap: down, as walked. -/
import Derived.Test.YtfgnipcegnoagaaGreatW3
import Derived.Deep.LoopGhost
import Derived.Lib.Hide
import Derived.Deep.CutBlock
namespace Go.Proofs.YtfgnipcegnoagaaGreat
open Go.RowKit Go.MapKept
open Go.ChangeMaps (setBlock heap_setBlock_same heap_setBlock_other)

/-- A heap of ids behind a pointer at a: a slice at a cell, its row in block g. -/
structure HeapAt (w : World) (a : Addr) (g cap : Nat) (xs : List Int) : Prop where
  cell : w.cell? a = some (.slice (some ⟨g, 0, none⟩) xs.length cap)
  row : IntRow w g cap xs

theorem less_at {w : World} {a : Addr} {g cap : Nat} {xs : List Int} (h : HeapAt w a g cap xs) (I J : Int) (i j : Nat) (hI : I = i) (hJ : J = j) (hi : i < xs.length) (hj : j < xs.length) :
    Calls Tryz.prog 127 #[.slice (some ⟨g, 0, none⟩) xs.length cap, .int .i64 I, .int .i64 J] w fun e w' => e = .returned (.bool (decide (gx xs i < gx xs j))) ∧ HeapAt w' a g cap xs ∧ Fr (fun _ => False) w w' := by
  subst hI hJ
  have e1 : gx xs i = xs[i] := gx_eq hi
  have e2 : gx xs j = xs[j] := gx_eq hj
  rw [e1, e2]
  exact (fless_walk g cap xs i j w h.row hi hj).mono fun e w' ⟨h1, k, h2⟩ => by
    subst h2
    exact ⟨h1, ⟨h.cell, h.row.of_block rfl⟩, Fr.drewN _ _ _⟩

theorem swap_at {w : World} {a : Addr} {g cap : Nat} {xs : List Int} (h : HeapAt w a g cap xs) (hne : a.block ≠ g) (I J : Int) (i j : Nat) (hI : I = i) (hJ : J = j) (hi : i < xs.length) (hj : j < xs.length) :
    Calls Tryz.prog 128 #[.slice (some ⟨g, 0, none⟩) xs.length cap, .int .i64 I, .int .i64 J] w fun e w' => e = .returned (.tuple #[]) ∧ HeapAt w' a g cap (swapI xs i j) ∧ Fr (fun k => k = g) w w' := by
  subst hI hJ
  exact (fswap_walk g cap xs i j w h.row hi hj).mono fun e w' ⟨h1, h2, v1, v2, h3⟩ => by
    refine ⟨h1, ⟨?_, h2⟩, ?_⟩
    · subst h3
      rw [swapI_length]
      show ((w.setCell _ _).setCell _ _).cell? a = _
      refine (World.cell?_of_block (Below.heap_setCell _ _ _ a.block hne)).trans ((World.cell?_of_block (Below.heap_setCell _ _ _ a.block hne)).trans h.cell)
    · subst h3
      exact ((Fr.setCell w ⟨g, i, none⟩ v1 (fp := fun k => k = g) rfl).trans (Fr.setCell _ ⟨g, j, none⟩ v2 (fp := fun k => k = g) rfl) (fun _ _ h => h)).trans (Fr.drewN (fun _ => False) _ 1) (fun _ _ h => h.elim)

theorem HeapAt.less {w : World} {a : Addr} {g cap : Nat} {xs : List Int} (h : HeapAt w a g cap xs) (m : Nat) : (method (m + 1) 72 (.pointer (some a)) "Less").run Tryz.prog w = .ok (127, .slice (some ⟨g, 0, none⟩) xs.length cap) w := meth_Less m a w _ h.cell
theorem HeapAt.swap {w : World} {a : Addr} {g cap : Nat} {xs : List Int} (h : HeapAt w a g cap xs) (m : Nat) : (method (m + 1) 72 (.pointer (some a)) "Swap").run Tryz.prog w = .ok (128, .slice (some ⟨g, 0, none⟩) xs.length cap) w := meth_Swap m a w _ h.cell
theorem HeapAt.len {w : World} {a : Addr} {g cap : Nat} {xs : List Int} (h : HeapAt w a g cap xs) (m : Nat) : (method (m + 1) 72 (.pointer (some a)) "Len").run Tryz.prog w = .ok (126, .slice (some ⟨g, 0, none⟩) xs.length cap) w := meth_Len m a w _ h.cell

set_option maxRecDepth 100000 in
set_option maxHeartbeats 2000000 in
theorem down_walk (w : World) (a : Addr) (g cap n : Nat) (N : Int) (hN : N = n) (xs : List Int) (h : HeapAt w a g cap xs) (hne : a.block ≠ g) (hn : n ≤ xs.length) (hbig : xs.length ≤ 1000000) (hinv : DownInv n xs 0) :
    Calls Tryz.prog 63 #[.iface 72 (.pointer (some a)), .int .i64 0, .int .i64 N] w fun e w' => (∃ v, e = .returned v) ∧ ∃ ys, HeapAt w' a g cap ys ∧ ys.length = xs.length ∧ ys.Perm xs ∧ IsHeap n ys ∧ (∀ k, n ≤ k → gx ys k = gx xs k) ∧ Fr (fun k => k = g) w w' := by
  subst hN
  go_enter Tryz.func63, Tryz.ntmps63
  go_wp2
  go_loopw [7] (fun s wr => ∃ (i : Nat) (ys : List Int), s = .int .i64 i ∧ i ≤ 1000000 ∧ HeapAt wr a g cap ys ∧ ys.length = xs.length ∧ ys.Perm xs ∧ DownInv n ys i ∧ (∀ k, n ≤ k → gx ys k = gx xs k) ∧ Fr (fun k => k = g) w wr) (fun s _ => n - (intOf s).toNat)
  case atStart => exact ⟨0, xs, rfl, by omega, h, rfl, List.Perm.refl _, hinv, fun _ _ => rfl, Fr.refl _ _⟩
  case round =>
    obtain ⟨i, ys, rfl, hib, hh, hlen0, hperm, hdn, hrest0, hfr⟩ := hrel
    have hlen := Lib.hid hlen0
    have hnn : n ≤ ys.length := by omega
    have hbb : ys.length ≤ 1000000 := by omega
    have hrest := Lib.hid hrest0
    clear hlen0 hrest0 hn hbig
    have mL := hh.less
    have nL := fun m (W : World) => nil_Less m a W
    have nS := fun m (W : World) => nil_Swap m a W
    by_cases hA : 2 * i + 1 < n
    · by_cases hB : 2 * i + 2 < n
      · by_cases hC : gx ys (2 * i + 2) < gx ys (2 * i + 1)
        · have hcd : decide (gx ys (2 * i + 2) < gx ys (2 * i + 1)) = true := decide_eq_true hC
          have hl := less_at hh ((2 : Int) * i + 1 + 1) ((2 : Int) * i + 1) (2 * i + 2) (2 * i + 1) (by omega) (by omega) (by omega) (by omega)
          rw [hcd] at hl
          have HC := Lib.hid hC
          clear hC hcd
          go_upto_region 8 with (go_at_call 127; refine hl.mono ?_; rintro e w1 ⟨rfl, hh1, fr1⟩; have mL1 := hh1.less)
          clear hl mL
          have hC := HC.out
          have hdn2 : ∀ k, k < n → k = 2 * i + 1 ∨ k = 2 * i + 2 → gx ys (2 * i + 2) ≤ gx ys k := fun k hk h => by rcases h with rfl | rfl <;> omega
          go_wp2_with (go_at_call 127; refine (less_at hh1 _ _ (2 * i + 2) i (by omega) (by omega) (by omega) (by omega)).mono ?_; rintro e w2 ⟨rfl, hh2, fr2⟩; have mS := hh2.swap)
          · have hdec : Hid (¬ gx ys (2 * i + 2) < gx ys i) := by have h : (!decide (gx ys (2 * i + 2) < gx ys i)) = true := (by assumption); simpa [Hid] using h
            go_wp2
            go_ret
            exact ⟨⟨_, rfl⟩, ys, hh2, hlen.out, hperm, down_stop2 hdn (by omega) hdn2 (Int.not_lt.2 hdec.out), hrest.out, (hfr.trans fr1 (fun _ _ h => h.elim)).trans fr2 (fun _ _ h => h.elim)⟩
          · have hdec : gx ys (2 * i + 2) < gx ys i := by have h : (!decide (gx ys (2 * i + 2) < gx ys i)) = false := (by assumption); simpa using h
            go_wp2_with (go_at_call 128; refine (swap_at hh2 hne _ _ i (2 * i + 2) (by omega) (by omega) (by omega) (by omega)).mono ?_; rintro e w3 ⟨rfl, hh3, fr3⟩)
            go_roundw
            case rel => exact ⟨2 * i + 2, swapI ys i (2 * i + 2), by go_num, by omega, hh3, (swapI_length _ _ _).trans hlen.out, (swapI_perm ys i (2 * i + 2) (by omega) (by omega)).trans hperm, down_step hdn hnn (by omega) (by omega) hdn2 hdec, fun k hk => by rw [swapI_get _ _ _ _ (by omega) (by omega), if_neg (by omega), if_neg (by omega)]; exact hrest.out k hk, ((hfr.trans fr1 (fun _ _ h => h.elim)).trans fr2 (fun _ _ h => h.elim)).trans fr3 (fun _ _ h => h)⟩
            case measure => simp [intOf]; omega
        · have hcd : decide (gx ys (2 * i + 2) < gx ys (2 * i + 1)) = false := decide_eq_false hC
          have hl := less_at hh ((2 : Int) * i + 1 + 1) ((2 : Int) * i + 1) (2 * i + 2) (2 * i + 1) (by omega) (by omega) (by omega) (by omega)
          rw [hcd] at hl
          have HC := Lib.hid hC
          clear hC hcd
          go_upto_region 8 with (go_at_call 127; refine hl.mono ?_; rintro e w1 ⟨rfl, hh1, fr1⟩; have mL1 := hh1.less)
          clear hl mL
          have hC := HC.out
          have hdn2 : ∀ k, k < n → k = 2 * i + 1 ∨ k = 2 * i + 2 → gx ys (2 * i + 1) ≤ gx ys k := fun k hk h => by rcases h with rfl | rfl <;> first | omega | exact Int.le_refl _
          go_wp2_with (go_at_call 127; refine (less_at hh1 _ _ (2 * i + 1) i (by omega) (by omega) (by omega) (by omega)).mono ?_; rintro e w2 ⟨rfl, hh2, fr2⟩; have mS := hh2.swap)
          · have hdec : Hid (¬ gx ys (2 * i + 1) < gx ys i) := by have h : (!decide (gx ys (2 * i + 1) < gx ys i)) = true := (by assumption); simpa [Hid] using h
            go_wp2
            go_ret
            exact ⟨⟨_, rfl⟩, ys, hh2, hlen.out, hperm, down_stop2 hdn (by omega) hdn2 (Int.not_lt.2 hdec.out), hrest.out, (hfr.trans fr1 (fun _ _ h => h.elim)).trans fr2 (fun _ _ h => h.elim)⟩
          · have hdec : gx ys (2 * i + 1) < gx ys i := by have h : (!decide (gx ys (2 * i + 1) < gx ys i)) = false := (by assumption); simpa using h
            go_wp2_with (go_at_call 128; refine (swap_at hh2 hne _ _ i (2 * i + 1) (by omega) (by omega) (by omega) (by omega)).mono ?_; rintro e w3 ⟨rfl, hh3, fr3⟩)
            go_roundw
            case rel => exact ⟨2 * i + 1, swapI ys i (2 * i + 1), by go_num, by omega, hh3, (swapI_length _ _ _).trans hlen.out, (swapI_perm ys i (2 * i + 1) (by omega) (by omega)).trans hperm, down_step hdn hnn (by omega) (by omega) hdn2 hdec, fun k hk => by rw [swapI_get _ _ _ _ (by omega) (by omega), if_neg (by omega), if_neg (by omega)]; exact hrest.out k hk, ((hfr.trans fr1 (fun _ _ h => h.elim)).trans fr2 (fun _ _ h => h.elim)).trans fr3 (fun _ _ h => h)⟩
            case measure => simp [intOf]; omega
      · have hx : ¬ (2 * i + 2 < n) := hB
        have hdn2 : ∀ k, k < n → k = 2 * i + 1 ∨ k = 2 * i + 2 → gx ys (2 * i + 1) ≤ gx ys k := fun k hk h => by rcases h with rfl | rfl <;> first | omega | exact Int.le_refl _
        go_wp2_with (go_at_call 127; refine (less_at hh _ _ (2 * i + 1) i (by omega) (by omega) (by omega) (by omega)).mono ?_; rintro e w2 ⟨rfl, hh2, fr2⟩; have mS := hh2.swap)
        · have hdec : Hid (¬ gx ys (2 * i + 1) < gx ys i) := by have h : (!decide (gx ys (2 * i + 1) < gx ys i)) = true := (by assumption); simpa [Hid] using h
          go_wp2
          go_ret
          exact ⟨⟨_, rfl⟩, ys, hh2, hlen.out, hperm, down_stop2 hdn (by omega) hdn2 (Int.not_lt.2 hdec.out), hrest.out, hfr.trans fr2 (fun _ _ h => h.elim)⟩
        · have hdec : gx ys (2 * i + 1) < gx ys i := by have h : (!decide (gx ys (2 * i + 1) < gx ys i)) = false := (by assumption); simpa using h
          go_wp2_with (go_at_call 128; refine (swap_at hh2 hne _ _ i (2 * i + 1) (by omega) (by omega) (by omega) (by omega)).mono ?_; rintro e w3 ⟨rfl, hh3, fr3⟩)
          go_roundw
          case rel => exact ⟨2 * i + 1, swapI ys i (2 * i + 1), by go_num, by omega, hh3, (swapI_length _ _ _).trans hlen.out, (swapI_perm ys i (2 * i + 1) (by omega) (by omega)).trans hperm, down_step hdn hnn (by omega) (by omega) hdn2 hdec, fun k hk => by rw [swapI_get _ _ _ _ (by omega) (by omega), if_neg (by omega), if_neg (by omega)]; exact hrest.out k hk, (hfr.trans fr2 (fun _ _ h => h.elim)).trans fr3 (fun _ _ h => h)⟩
          case measure => simp [intOf]; omega
    · have hge : (n : Int) ≤ 2 * (i : Int) + 1 := by omega
      go_wp2_with fail
      all_goals go_ret
      all_goals exact ⟨⟨_, rfl⟩, ys, hh, hlen.out, hperm, down_stop1 hdn (by omega), hrest.out, hfr⟩

end Go.Proofs.YtfgnipcegnoagaaGreat
