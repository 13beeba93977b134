/- container/heap: up, Pop, Push, as walked. -/
import Derived.Test.YtfgnipcegnoagaaGreatW4
namespace Go.Proofs.YtfgnipcegnoagaaGreat
open Go.RowKit Go.MapKept
open Go.ChangeMaps (setBlock heap_setBlock_same heap_setBlock_other)

set_option maxRecDepth 100000 in
set_option maxHeartbeats 2000000 in
theorem up_walk (w : World) (a : Addr) (g cap : Nat) (J : Int) (j0 : Nat) (xs : List Int) (h : HeapAt w a g cap xs) (hne : a.block ≠ g) (hJ : J = j0) (hj0 : j0 < xs.length) (hbig : xs.length ≤ 1000000) (hinv : UpInv xs.length xs j0) :
    Calls Tryz.prog 50 #[.iface 72 (.pointer (some a)), .int .i64 J] w fun e w' => e = .returned (.tuple #[]) ∧ ∃ ys, HeapAt w' a g cap ys ∧ ys.length = xs.length ∧ ys.Perm xs ∧ IsHeap ys.length ys ∧ Fr (fun k => k = g) w w' := by
  subst hJ
  go_enter Tryz.func50, Tryz.ntmps50
  go_wp2
  go_loopw [1] (fun s wr => ∃ (j : Nat) (ys : List Int), s = .int .i64 j ∧ j < xs.length ∧ HeapAt wr a g cap ys ∧ ys.length = xs.length ∧ ys.Perm xs ∧ UpInv xs.length ys j ∧ Fr (fun k => k = g) w wr) (fun s _ => (intOf s).toNat)
  case atStart => exact ⟨j0, xs, rfl, hj0, h, rfl, List.Perm.refl _, hinv, Fr.refl _ _⟩
  case round =>
    obtain ⟨j, ys, rfl, hj, hh, hlen0, hperm, hup, hfr⟩ := hrel
    rw [← hlen0] at hup hj
    have hlen := Lib.hid hlen0
    have hbb : ys.length ≤ 1000000 := by omega
    clear hlen0 hbig hj0 hinv
    have mL := hh.less
    have nL := fun m (W : World) => nil_Less m a W
    have nS := fun m (W : World) => nil_Swap m a W
    by_cases hA : j = 0
    · subst hA
      go_wp2_with fail
      go_end0
      exact ⟨rfl, ys, hh, hlen.out, hperm, up_stop0 hup, hfr⟩
    · obtain ⟨p, rfl⟩ : ∃ p, j = p + 1 := ⟨j - 1, by omega⟩
      have hq : ((p : Int) / 2 == (p : Int) + 1) = false := beq_eq_false_iff_ne.2 (by omega)
      go_wp2_with (go_at_call 127; refine (less_at hh _ _ (p + 1) (p / 2) (by omega) (by omega) (by omega) (by omega)).mono ?_; rintro e w2 ⟨rfl, hh2, fr2⟩; have mS := hh2.swap)
      · have hdec : Hid (¬ gx ys (p + 1) < gx ys (p / 2)) := by have h : (!decide (gx ys (p + 1) < gx ys (p / 2))) = true := (by assumption); simpa [Hid] using h
        go_wp2
        go_end0
        exact ⟨rfl, ys, hh2, hlen.out, hperm, up_stop hup (Int.not_lt.2 (by simpa using hdec.out)), hfr.trans fr2 (fun _ _ h => h.elim)⟩
      · have hdec : gx ys (p + 1) < gx ys (p / 2) := by have h : (!decide (gx ys (p + 1) < gx ys (p / 2))) = false := (by assumption); simpa using h
        go_wp2_with (go_at_call 128; refine (swap_at hh2 hne _ _ (p / 2) (p + 1) (by omega) (by omega) (by omega) (by omega)).mono ?_; rintro e w3 ⟨rfl, hh3, fr3⟩)
        go_roundw
        case rel =>
          have hstep := up_step hup (Nat.le_refl _) (by omega) hj (by simpa using hdec)
          rw [show (p + 1 - 1) / 2 = p / 2 from by simp] at hstep
          have hl := hlen.out
          rw [hl] at hstep
          exact ⟨p / 2, swapI ys (p / 2) (p + 1), by go_num, by omega, hh3, (swapI_length _ _ _).trans hlen.out, (swapI_perm ys (p / 2) (p + 1) (by omega) (by omega)).trans hperm, hstep, (hfr.trans fr2 (fun _ _ h => h.elim)).trans fr3 (fun _ _ h => h)⟩
        case measure => simp [intOf]; omega

set_option maxRecDepth 100000 in
/-- heap.Pop: the least id comes out; the rest is a heap. -/
theorem hpop_walk (w : World) (a : Addr) (g cap : Nat) (xs : List Int) (h : HeapAt w a g cap xs) (hne : a.block ≠ g) (hf : w.frozen? a = false) (hal : a.block < w.heap.size) (h0 : 0 < xs.length) (hbig : xs.length ≤ 1000000) (hh : IsHeap xs.length xs) :
    Calls Tryz.prog 51 #[.iface 72 (.pointer (some a))] w fun e w' => ∃ (x : Int) (ys : List Int) (W : World), e = .returned (.iface 3 (.int .i64 x)) ∧ IntRow W g cap ys ∧ (x :: ys).Perm xs ∧ IsHeap ys.length ys ∧ (∀ y ∈ xs, x ≤ y) ∧ Fr (fun k => k = g) w W ∧ w' = W.setCell a (.slice (some ⟨g, 0, none⟩) ys.length cap) := by
  obtain ⟨n, hn⟩ : ∃ n, xs.length = n + 1 := ⟨xs.length - 1, by omega⟩
  have mL := h.len
  have mS := h.swap
  have nL := fun m (W : World) => nil_Len m a W
  have nS := fun m (W : World) => nil_Swap m a W
  have nP := fun m (W : World) => nil_Pop m a W
  have mP := fun m (W : World) => meth_Pop m a W
  have Hn := Lib.hid hn
  have hn1 : n < xs.length := by omega
  have hb1 : n + 1 ≤ 1000000 := by omega
  have Hmin := Lib.hid (isHeap_min hh)
  have hfl := flen_walk (some ⟨g, 0, none⟩) xs.length cap w
  clear hn
  go_enter Tryz.func51, Tryz.ntmps51
  go_wp2_with (first | (go_at_call 126; refine hfl.mono ?_; rintro e w' ⟨rfl, rfl⟩) | (go_at_call 128; refine (swap_at h hne _ _ 0 n (by omega) (by have := Hn.out; omega) (by omega) hn1).mono ?_; rintro e w1 ⟨rfl, hh1, fr1⟩))
  have hn2 : n ≤ (swapI xs 0 n).length := by rw [swapI_length]; omega
  have hdi : DownInv n (swapI xs 0 n) 0 := by
    refine down_start fun k h1 h2 h3 => ?_
    rw [swapI_get _ _ _ _ h0 hn1, swapI_get _ _ _ _ h0 hn1, if_neg (by omega), if_neg (by omega), if_neg (by omega), if_neg (by omega)]
    exact hh k h1 (by omega)
  go_wp2_with (go_at_call 63; refine (down_walk w1 a g cap n _ (by have := Hn.out; omega) (swapI xs 0 n) hh1 hne hn2 (by rw [swapI_length]; have := Hn.out; omega) hdi).mono ?_; rintro e w2 ⟨⟨vv, rfl⟩, ys, hh2, hlen2, hperm2, hheap2, hrest2, fr2⟩)
  have hn3 : ys.length = n + 1 := by rw [hlen2, swapI_length]; exact Hn.out
  have hx : gx ys n = gx xs 0 := by
    rw [hrest2 n (Nat.le_refl _), swapI_get _ _ _ _ h0 hn1]
    by_cases e0 : n = 0
    · subst e0; simp
    · rw [if_neg e0, if_pos rfl]
  have hys := take_last hn3
  rw [hx] at hys
  have hzl : (ys.take n).length = n := by rw [List.length_take]; omega
  generalize ys.take n = zs at hys hzl
  subst hys
  have hfz : w2.frozen? a = false := (World.frozen?_of_block ((fr1.trans fr2 (fun _ _ h => h)).block a.block hal hne)).trans hf
  have hcell : w2.cell? a = some (.slice (some ⟨g, 0, none⟩) (zs.length + 1) cap) := by have := hh2.cell; rwa [List.length_append] at this
  have hpm : (gx xs 0 :: zs).Perm xs := ((List.perm_append_singleton (gx xs 0) zs).symm.trans hperm2).trans (swapI_perm xs 0 n h0 hn1)
  have hhz : IsHeap zs.length zs := fun k h1 h2 => by
    have := hheap2 k h1 (by omega)
    rwa [gx_append (by omega), gx_append (by omega)] at this
  have hmin : ∀ y ∈ xs, gx xs 0 ≤ y := fun y hy => by
    obtain ⟨k, hk, rfl⟩ := List.getElem_of_mem hy
    have := Hmin.out k hk
    rwa [gx_eq hk] at this
  have hmin := Lib.hid hmin
  have hpop := fpop_walk a g cap zs (gx xs 0) w2 hcell hfz hh2.row
  have hrow : IntRow w2 g cap zs := by
    obtain ⟨cur, q1, q2, q3, q4, q5⟩ := hh2.row
    refine ⟨cur, q1, q2, by simp at q3; omega, q4, ?_⟩
    have := congrArg (List.take zs.length) q5
    rw [List.take_take, List.map_append, List.take_append_of_le_length (by simp), List.take_of_length_le (l := zs.map _) (by simp)] at this
    rwa [Nat.min_eq_left (by simp)] at this
  have hfr := fr1.trans fr2 (fun _ _ h => h)
  clear hx hzl hn3 hlen2 hrest2 hcell hfz
  go_wp2_with (go_at_call 129; refine hpop.mono ?_; rintro e w3 ⟨rfl, rfl⟩)
  go_ret
  exact ⟨gx xs 0, zs, w2, rfl, hrow, hpm, hhz, hmin.out, hfr, rfl⟩

set_option maxRecDepth 100000 in
set_option maxHeartbeats 1000000 in
/-- heap.Push. -/
theorem hpush_walk (w : World) (a : Addr) (v : Value) (xs : List Int) (x : Int) (hc : w.cell? a = some v) (hf : w.frozen? a = false) (hal : a.block < w.heap.size) (h : BackAt w v xs) (hne : v.ownBlock ≠ some a.block) (hlen : xs.length ≤ 100000) (hh : IsHeap xs.length xs) :
    Calls Tryz.prog 37 #[.iface 72 (.pointer (some a)), .iface 3 (.int .i64 x)] w fun e w' => ∃ (g cap : Nat) (ys : List Int) (W1 : World), e = .returned (.tuple #[]) ∧ HeapAt w' a g cap ys ∧ ys.Perm (xs ++ [x]) ∧ IsHeap ys.length ys ∧ (v.ownBlock = some g ∨ w.heap.size ≤ g) ∧ Fr (fun k => v.ownBlock = some k) w W1 ∧ Fr (fun k => k = g) (W1.setCell a (.slice (some ⟨g, 0, none⟩) (xs.length + 1) cap)) w' := by
  have nL := fun m (W : World) => nil_Len m a W
  have nP := fun m (W : World) => nil_Push m a W
  have mP := fun m (W : World) => meth_Push m a W
  have hpush := fpush_walk a v xs x w hc hf hal h hne hlen
  have Hc := Lib.hid hc
  clear hc
  go_enter Tryz.func37, Tryz.ntmps37
  go_wp2_with (go_at_call 130; refine hpush.mono ?_; rintro e w' ⟨rfl, g, cap, w1, hrow, hg, hfr, rfl⟩)
  have hag : a.block ≠ g := by
    rcases hg with h1 | h1
    · intro e; subst e; exact hne h1
    · omega
  have hcw : w1.cell? a = some v := (hfr.cell hal hne).trans Hc.out
  obtain ⟨W, hW⟩ : ∃ W, W = w1.setCell a (.slice (some ⟨g, 0, none⟩) (xs.length + 1) cap) := ⟨_, rfl⟩
  have hcell : W.cell? a = some (.slice (some ⟨g, 0, none⟩) (xs.length + 1) cap) := by
    rw [hW]
    simp only [World.cell?] at hcw ⊢
    cases hb : w1.heap[a.block]? with
    | none => rw [hb] at hcw; cases hcw
    | some o =>
      rw [hb] at hcw
      cases o with
      | cells cs t f =>
        simp only at hcw
        obtain ⟨ab, ao, asp⟩ := a
        cases asp with
        | some _ => cases hcw
        | none =>
          simp only [Option.isSome_none, Bool.false_eq_true, if_false] at hcw
          have hlt := (Array.getElem?_eq_some_iff.1 hcw).1
          simp only [heap_setCell hb]
          simp [hlt]
      | _ => cases hcw
  have hrow2 : IntRow W g cap (xs ++ [x]) := by rw [hW]; exact hrow.of_block (Below.heap_setCell _ _ _ g (fun e => hag e.symm))
  have hH : HeapAt W a g cap (xs ++ [x]) := ⟨by rw [List.length_append]; exact hcell, hrow2⟩
  have mL := hH.len
  have hfl := flen_walk (some ⟨g, 0, none⟩) (xs ++ [x]).length cap W
  have hxl : (xs ++ [x]).length = xs.length + 1 := by simp
  have hup := up_walk W a g cap (((xs ++ [x]).length : Int) - 1) xs.length (xs ++ [x]) hH hag (by rw [hxl]; omega) (by omega) (by omega) (up_start hh)
  have hbl : (xs ++ [x]).length ≤ 100001 := by omega
  rw [← hW]
  have HW := Lib.hid hW
  have Hxl := Lib.hid hxl
  clear hW hcell hrow hxl hcw
  generalize hZ : xs ++ [x] = zs at *
  have HZ := Lib.hid hZ
  clear hZ
  go_simp
  go_wp2_with (first | (go_at_call 126; refine hfl.mono ?_; rintro e w' ⟨rfl, rfl⟩) | (go_at_call 50; refine hup.mono ?_; rintro e w3 ⟨rfl, ys, q1, q2, q3, q4, q5⟩))
  go_end0
  exact ⟨g, cap, ys, w1, rfl, q1, q3.trans (by rw [HZ.out]), q4, hg, hfr, by rw [← HW.out]; exact q5⟩

end Go.Proofs.YtfgnipcegnoagaaGreat
