/- The least free id, as walked. -/
import Derived.Test.YtfgnipcegnoagaaGreatW5
import Derived.Test.YtfgnipcegnoagaaGreatW2
namespace Go.Proofs.YtfgnipcegnoagaaGreat
open Go.RowKit Go.MapKept

theorem BackAt.kept {w w' : World} {v : Value} {xs : List Int} (h : BackAt w v xs) (hb : ∀ g, v.ownBlock = some g → w'.heap[g]? = w.heap[g]?) : BackAt w' v xs := by
  refine ⟨h.1, ?_⟩
  rcases h.2 with hn | ⟨g, cap, cur, rfl, h0, h1, h2⟩
  · exact .inl hn
  · exact .inr ⟨g, cap, cur, rfl, h0, (hb g rfl).trans h1, h2⟩
theorem BackAt.of_row {w : World} {g cap : Nat} {xs : List Int} (h : IntRow w g cap xs) : BackAt w (.slice (some ⟨g, 0, none⟩) xs.length cap) xs := by
  obtain ⟨cur, h1, h2, h3, h4, h5⟩ := h
  exact ⟨by simp, .inr ⟨g, cap, cur, rfl, Nat.zero_le _, h1, h3, h4, by simpa using h2, by simpa using h5⟩⟩
theorem BackAt.row {w : World} {v : Value} {xs : List Int} (h : BackAt w v xs) (hx : xs ≠ []) : ∃ g cap, v = .slice (some ⟨g, 0, none⟩) xs.length cap ∧ IntRow w g cap xs := by
  rcases h.2 with ⟨_, hn⟩ | ⟨g, cap, cur, rfl, h0, h1, h2, h3, h4, h5⟩
  · exact absurd (List.length_eq_zero_iff.1 hn) hx
  · exact ⟨g, cap, rfl, cur, h1, by simpa using h4, h2, h3, by simpa using h5⟩
theorem BackAt.len {w : World} {v : Value} {xs : List Int} (h : BackAt w v xs) : ∃ a c, v = .slice a xs.length c := by
  rcases h.2 with ⟨hv, hn⟩ | ⟨g, cap, cur, rfl, h0, h1, h2, h3, h4, h5⟩
  · exact ⟨none, 0, by rw [hn]; exact hv⟩
  · exact ⟨_, _, rfl⟩
theorem BackAt.lt {w : World} {v : Value} {xs : List Int} (h : BackAt w v xs) : ∀ g, v.ownBlock = some g → g < w.heap.size := fun g e => by
  rcases h.2 with ⟨hv, _⟩ | ⟨g', cap, cur, rfl, h0, h1, _⟩
  · subst hv; cases e
  · cases e; exact lt_of_heap h1

/-- What 'least' and the ids that are free hold of each other. -/
structure FreeInv (am : List (Int × Top)) (nx : Int) (back : List Int) : Prop where
  heap : IsHeap back.length back
  nodup : back.Nodup
  range : ∀ x ∈ back, 1 ≤ x ∧ x < nx
  low : 1 ≤ nx
  high : nx ≤ 65535
  all : ∀ i, 1 ≤ i → i < nx → mget am i = none → i ∈ back

def sliceLen (w : World) (a : Addr) : Nat := match w.cell? a with | some (.slice _ n _) => n | _ => 0
def intAt (w : World) (a : Addr) : Int := match w.cell? a with | some (.int _ n) => n | _ => 0

theorem length_range {l : List Int} {n : Nat} (hn : l.Nodup) (hr : ∀ x ∈ l, 1 ≤ x ∧ x < (n : Int) + 1) : l.length ≤ n := by
  induction n generalizing l with
  | zero =>
    cases l with
    | nil => simp
    | cons x l => have := hr x (.head _); omega
  | succ n ih =>
    have h1 := ih (l := l.filter (fun x => x ≠ ((n : Int) + 1))) (hn.filter _) (fun x hx => by
      simp only [List.mem_filter, decide_eq_true_eq] at hx
      have := hr x hx.1
      omega)
    have h2 : l.length ≤ (l.filter (fun x => x ≠ ((n : Int) + 1))).length + 1 := by
      clear ih h1 hr
      induction l with
      | nil => simp
      | cons y l ih2 =>
        simp only [List.nodup_cons] at hn
        simp only [List.filter_cons]
        by_cases hy : y = (n : Int) + 1
        · have : l.filter (fun x => x ≠ ((n : Int) + 1)) = l := List.filter_eq_self.2 (fun x hx => by
            simp only [decide_eq_true_eq]
            intro e
            exact hn.1 (by rw [hy, ← e]; exact hx))
          simp only [hy, ne_eq, not_true_eq_false, decide_false, Bool.false_eq_true, if_false]
          simp only [ne_eq] at this
          rw [this]; simp
        · simp only [hy, ne_eq, not_false_eq_true, decide_true, if_true, List.length_cons]
          have := ih2 hn.2
          simp only [ne_eq] at this
          omega
    omega
theorem FreeInv.len {am : List (Int × Top)} {nx : Int} {back : List Int} (h : FreeInv am nx back) : back.length ≤ 65534 :=
  length_range h.nodup (fun x hx => by have := h.range x hx; have := h.high; omega)

/-- What 'least' hands back, and what it leaves. -/
structure LeastPost (am : List (Int × Top)) (r : Int) (nx' : Int) (back' : List Int) : Prop where
  heap : IsHeap back'.length back'
  nodup : back'.Nodup
  range : ∀ x ∈ back', 1 ≤ x ∧ x < nx'
  low : 1 ≤ nx'
  high : nx' ≤ 65535
  all : ∀ i, 1 ≤ i → i < nx' → i ≠ r → mget am i = none → i ∈ back'
  notin : r ∉ back'
  some : r ≠ 0 → 1 ≤ r ∧ r ≤ 65534 ∧ r < nx' ∧ mget am r = none ∧ ∀ i, 1 ≤ i → i < r → (mget am i).isSome
  none : r = 0 → ∀ i, 1 ≤ i → i ≤ 65534 → (mget am i).isSome

def LeastEnd (w : World) (cb ib ab : Nat) (bv : Value) (nx : Int) (back : List Int) (am : List (Int × Top)) (e : Ending) (w' : World) : Prop :=
  ∃ (r nx' : Int) (bv' : Value) (back' : List Int), e = .returned (.int .i64 r) ∧ ClientB w' cb ib ab bv' nx' ∧ BackAt w' bv' back' ∧ bv'.ownBlock = bv.ownBlock ∧ LeastPost am r nx' back' ∧ (∀ x ∈ back', x ∈ back) ∧ nx ≤ nx' ∧ Fr (fun k => k = cb ∨ bv.ownBlock = some k) w w'

set_option maxRecDepth 100000 in
set_option maxHeartbeats 4000000 in
theorem least_walk (w : World) (cb ib ab : Nat) (bv : Value) (nx : Int) (back : List Int) (am : List (Int × Top)) (hc : ClientB w cb ib ab bv nx) (ha : AllAt w ab am) (hb : BackAt w bv back)
    (n1 : cb ≠ ab) (n2 : bv.ownBlock ≠ some cb) (n3 : bv.ownBlock ≠ some ab) (hinv : FreeInv am nx back) :
    Calls Tryz.prog 38 #[ptrV cb] w (LeastEnd w cb ib ab bv nx back am) := by
  have hcl := lt_of_heap hc
  have hal := ha.lt
  unfold ptrV
  go_enter Tryz.func38, Tryz.ntmps38
  go_wp2
  go_loopw [3] (fun _ wr => ∃ bv' back', ClientB wr cb ib ab bv' nx ∧ BackAt wr bv' back' ∧ bv'.ownBlock = bv.ownBlock ∧ FreeInv am nx back' ∧ (∀ x ∈ back', x ∈ back) ∧ Fr (fun k => k = cb ∨ bv.ownBlock = some k) w wr) (fun _ wr => sliceLen wr ⟨cb, 2, none⟩)
  case atStart => exact ⟨bv, back, hc, hb, rfl, hinv, fun _ h => h, Fr.refl _ _⟩
  case round =>
    obtain ⟨bv1, back1, hc1, hb1, ho0, hi1, hs1, hfr1⟩ := hrel
    have ho1 := Lib.hid ho0
    clear ho0 hc hb hinv
    have ha1 : AllAt wr ab am := ha.of_block (hfr1.block ab hal (fun h => by rcases h with h | h; exact n1 h.symm; exact n3 h))
    have cc := rowC hc1
    have cf := rowF hc1
    have hcl1 := lt_of_heap hc1
    by_cases hx : back1 = []
    · obtain ⟨a0, c0, hv0⟩ := hb1.len
      subst hx
      simp only [List.length_nil] at hv0
      subst hv0
      have hlow := hi1.low
      have hhigh := hi1.high
      have hall : Hid (∀ i, 1 ≤ i → i < nx → (mget am i).isSome = true) := fun i h1 h2 => by
        cases hm : mget am i with
        | some _ => rfl
        | none => exact absurd (hi1.all i h1 h2 hm) (by simp)
      obtain ⟨wo, hwo⟩ : ∃ wo : World, wo = wr := ⟨_, rfl⟩
      have hsl0 := hb1.kept (w' := wr) (fun _ _ => rfl)
      go_wp2_with fail
      go_loopw [5] (fun _ wx => ∃ nx', ClientB wx cb ib ab (.slice a0 0 c0) nx' ∧ BackAt wx (.slice a0 0 c0) [] ∧ nx ≤ nx' ∧ nx' ≤ 65535 ∧ (∀ i, 1 ≤ i → i < nx' → (mget am i).isSome = true) ∧ Fr (fun k => k = cb ∨ bv.ownBlock = some k) w wx) (fun _ wx => (65535 - intAt wx ⟨cb, 3, none⟩).toNat)
      case atStart => exact ⟨nx, hc1, hb1, Int.le_refl _, hhigh, hall.out, hfr1⟩
      case round =>
        obtain ⟨nx', hc2, hb2, hle, hhi2, hall2, hfr2⟩ := hrel
        have hall2 := Lib.hid hall2
        clear hc1 hb1 ha1 cc cf hfr1 hsl0 hwo
        have cc2 := rowC hc2
        have cf2 := rowF hc2
        have hcl2 := lt_of_heap hc2
        have hal2 : ab < wr.heap.size := Nat.lt_of_lt_of_le hal hfr2.size
        have ha2 : AllAt wr ab am := ha.of_block (hfr2.block ab hal (fun h => by rcases h with h | h; exact n1 h.symm; exact n3 h))
        by_cases hq : nx' ≤ 65534
        · go_upto_region 8 with fail
          have hset := heap_setCell hc2 3 (.int .i64 (nx' + 1))
          have hfr3 : Fr (fun k => k = cb ∨ bv.ownBlock = some k) w (wr.setCell ⟨cb, 3, none⟩ (.int .i64 (nx' + 1))) := hfr2.trans (Fr.setCell wr _ _ (fp := fun k => k = cb) rfl) (fun _ _ h => .inl h)
          have hc3 : ClientB (wr.setCell ⟨cb, 3, none⟩ (.int .i64 (nx' + 1))) cb ib ab (.slice a0 0 c0) (nx' + 1) := hset
          have hb3 : BackAt (wr.setCell ⟨cb, 3, none⟩ (.int .i64 (nx' + 1))) (.slice a0 0 c0) [] := hb2.kept (fun g e => Below.heap_setCell _ _ _ g (fun e2 => n2 (by rw [← ho1.out, e, e2])))
          have ha3 : AllAt (wr.setCell ⟨cb, 3, none⟩ (.int .i64 (nx' + 1))) ab am := ha2.of_block (Below.heap_setCell _ _ _ ab n1.symm)
          generalize wr.setCell ⟨cb, 3, none⟩ (.int .i64 (nx' + 1)) = W at *
          have hhas := has_walk W cb ib ab _ _ nx' am hc3 ha3
          cases hm : mget am nx' with
          | none =>
            rw [hm] at hhas
            have hm := Lib.hid hm
            simp only [Option.isSome_none] at hhas
            unfold ptrV at hhas
            clear cc2 cf2
            go_wp2_with (go_at_call 31; refine hhas.mono ?_; rintro e w' ⟨rfl, o, rfl⟩)
            go_ret
            refine ⟨nx', nx' + 1, _, [], rfl, (alloc_old W o (lt_of_heap hc3)).trans hc3, hb3.kept (fun g e => alloc_old W o (hb3.lt g e)), ho1.out, ?_, by simp, by omega, hfr3.trans (Fr.alloc (fun _ => False) _ _) (fun _ _ h => h.elim)⟩
            have hA : ∀ i, 1 ≤ i → i < nx' → mget am i = none → i ∈ ([] : List Int) := fun i h1 h2 h4 => by
              have := hall2.out i h1 h2
              rw [h4] at this; cases this
            exact ⟨fun k h1 h2 => by simp at h2, List.nodup_nil, by simp, by omega, by omega, fun i h1 h2 h3 h4 => hA i h1 (by omega) h4, by simp, fun _ => ⟨by omega, by omega, by omega, hm.out, fun i h1 h2 => hall2.out i h1 h2⟩, fun h => by omega⟩
          | some t =>
            rw [hm] at hhas
            have hm := Lib.hid hm
            simp only [Option.isSome_some] at hhas
            unfold ptrV at hhas
            clear cc2 cf2
            go_wp2_with (go_at_call 31; refine hhas.mono ?_; rintro e w' ⟨rfl, o, rfl⟩)
            go_roundw
            case rel =>
              refine ⟨nx' + 1, (alloc_old W o (lt_of_heap hc3)).trans hc3, hb3.kept (fun g e => alloc_old W o (hb3.lt g e)), by omega, by omega, fun i h1 h2 => ?_, hfr3.trans (Fr.alloc (fun _ => False) _ _) (fun _ _ h => h.elim)⟩
              by_cases hi : i = nx'
              · subst hi; rw [hm.out]; rfl
              · exact hall2.out i h1 (by omega)
            case measure =>
              have e1 : intAt (W.alloc o) ⟨cb, 3, none⟩ = nx' + 1 := by
                have := rowC ((alloc_old W o (lt_of_heap hc3)).trans hc3) 3
                simp [intAt, this]
              have e2 : intAt wr ⟨cb, 3, none⟩ = nx' := by
                have := rowC hc2 3
                simp [intAt, this]
              rw [e1, e2]; omega
        · go_wp2_with fail
          go_ret
          refine ⟨0, nx', _, [], rfl, hc2, hb2, ho1.out, ?_, by simp, hle, hfr2⟩
          have hA : ∀ i, 1 ≤ i → i < nx' → mget am i = none → i ∈ ([] : List Int) := fun i h1 h2 h4 => by
            have := hall2.out i h1 h2
            rw [h4] at this; cases this
          exact ⟨fun k h1 h2 => by simp at h2, List.nodup_nil, by simp, by omega, by omega, fun i h1 h2 h3 h4 => hA i h1 (by omega) h4, by simp, fun h => by omega, fun _ i h1 h2 => hall2.out i h1 (by omega)⟩
    · obtain ⟨g, cap, hv, hrow⟩ := hb1.row hx
      subst hv
      have hH : HeapAt wr ⟨cb, 2, none⟩ g cap back1 := ⟨by rw [cc]; rfl, hrow⟩
      have hgcb : (⟨cb, 2, none⟩ : Addr).block ≠ g := fun e => n2 (by rw [← ho1.out, ← e]; rfl)
      have hgab : g ≠ ab := fun e => n3 (by rw [← ho1.out, ← e]; rfl)
      have hal2 : ab < wr.heap.size := Nat.lt_of_lt_of_le hal hfr1.size
      have hlen := hi1.len
      have h0 : 0 < back1.length := by
        cases back1 with
        | nil => exact absurd rfl hx
        | cons _ _ => simp
      have hpop := hpop_walk wr ⟨cb, 2, none⟩ g cap back1 hH hgcb (cf 2) hcl1 h0 (by omega) hi1.heap
      have hta : ∀ x w, (Instr.typeAssert (.iface 3 (.int .i64 x)) 20 3 true).run Tryz.prog w = .ok (.tuple #[.int .i64 x, .bool true]) w := fun x w => by kernel_rfl
      have hgo : bv.ownBlock = some g := by rw [← ho1.out]; rfl
      have Hgo := Lib.hid hgo
      clear hgo
      go_wp2_with (go_at_call 51; refine hpop.mono ?_; rintro e w1 ⟨x, ys, W, rfl, hrow1, hperm, hheap1, hmin, hfr2, rfl⟩; have hcW : ClientB W cb ib ab (.slice (some ⟨g, 0, none⟩) back1.length cap) nx := (hfr2.block cb hcl1 hgcb).trans hc1; have hc2 : ClientB (W.setCell ⟨cb, 2, none⟩ (.slice (some ⟨g, 0, none⟩) ys.length cap)) cb ib ab (.slice (some ⟨g, 0, none⟩) ys.length cap) nx := heap_setCell hcW 2 _; have ha2 : AllAt (W.setCell ⟨cb, 2, none⟩ (.slice (some ⟨g, 0, none⟩) ys.length cap)) ab am := ha1.of_block ((Below.heap_setCell _ _ _ ab n1.symm).trans (hfr2.block ab hal2 hgab.symm)); have hb2 : BackAt (W.setCell ⟨cb, 2, none⟩ (.slice (some ⟨g, 0, none⟩) ys.length cap)) (.slice (some ⟨g, 0, none⟩) ys.length cap) ys := BackAt.of_row (hrow1.of_block (Below.heap_setCell _ _ _ g (fun e => hgcb e.symm))); have hfr3 : Fr (fun k => k = cb ∨ bv.ownBlock = some k) w (W.setCell ⟨cb, 2, none⟩ (.slice (some ⟨g, 0, none⟩) ys.length cap)) := (hfr1.trans hfr2 (fun k _ h => .inr (by rw [h]; exact Hgo.out))).trans (Fr.setCell W _ _ (fp := fun k => k = cb) rfl) (fun _ _ h => .inl h); generalize W.setCell ⟨cb, 2, none⟩ (.slice (some ⟨g, 0, none⟩) ys.length cap) = W2 at *)
      have hxm : x ∈ back1 := hperm.mem_iff.1 (.head _)
      have hys : ∀ y ∈ ys, y ∈ back1 := fun y hy => hperm.mem_iff.1 (.tail _ hy)
      have hnd := hperm.nodup_iff.2 hi1.nodup
      have hxr := hi1.range x hxm
      have hHi := hi1.high
      have hHl := hi1.low
      rw [List.nodup_cons] at hnd
      have hall : ∀ i, 1 ≤ i → i < nx → i ≠ x → mget am i = none → i ∈ ys := fun i h1 h2 h3 h4 => by
        have := hperm.mem_iff.2 (hi1.all i h1 h2 h4)
        cases this with
        | head => exact absurd rfl h3
        | tail _ h => exact h
      have hmin2 : ∀ i, 1 ≤ i → i < x → (mget am i).isSome = true := fun i h1 h2 => by
        cases hm : mget am i with
        | some _ => rfl
        | none => have := hmin i (hi1.all i h1 (by omega) hm); omega
      have hall := Lib.hid hall
      have hmin2 := Lib.hid hmin2
      have hnd := Lib.hid hnd
      have hys := Lib.hid hys
      have hhas := has_walk W2 cb ib ab _ _ x am hc2 ha2
      have hlt : sliceLen W2 ⟨cb, 2, none⟩ < sliceLen wr ⟨cb, 2, none⟩ := by
        have e1 : sliceLen W2 ⟨cb, 2, none⟩ = ys.length := by simp [sliceLen, rowC hc2]
        have e2 : sliceLen wr ⟨cb, 2, none⟩ = back1.length := by simp [sliceLen, cc]
        have := hperm.length_eq
        rw [e1, e2]
        simp only [List.length_cons] at this
        omega
      have Hlt := Lib.hid hlt
      clear cc cf hlt hmin hpop hperm
      cases hm : mget am x with
      | none =>
        rw [hm] at hhas
        have hm := Lib.hid hm
        simp only [Option.isSome_none] at hhas
        unfold ptrV at hhas
        go_wp2_with (go_at_call 31; refine hhas.mono ?_; rintro e w' ⟨rfl, o, rfl⟩)
        go_ret
        refine ⟨x, nx, _, ys, rfl, (alloc_old W2 o (lt_of_heap hc2)).trans hc2, hb2.kept (fun g e => alloc_old W2 o (hb2.lt g e)), ho1.out, ?_, fun y hy => hs1 y (hys.out y hy), Int.le_refl _, hfr3.trans (Fr.alloc (fun _ => False) _ _) (fun _ _ h => h.elim)⟩
        exact ⟨hheap1, hnd.out.2, fun y hy => hi1.range y (hys.out y hy), hHl, hHi, hall.out, hnd.out.1, fun _ => ⟨hxr.1, by omega, hxr.2, hm.out, hmin2.out⟩, fun h => by omega⟩
      | some t =>
        rw [hm] at hhas
        have hm := Lib.hid hm
        simp only [Option.isSome_some] at hhas
        unfold ptrV at hhas
        go_wp2_with (go_at_call 31; refine hhas.mono ?_; rintro e w' ⟨rfl, o, rfl⟩)
        go_roundw
        case rel =>
          refine ⟨_, ys, (alloc_old W2 o (lt_of_heap hc2)).trans hc2, hb2.kept (fun g e => alloc_old W2 o (hb2.lt g e)), ho1.out, ⟨hheap1, hnd.out.2, fun y hy => hi1.range y (hys.out y hy), hHl, hHi, fun i h1 h2 h3 => hall.out i h1 h2 (fun e => ?_) h3⟩, fun y hy => hs1 y (hys.out y hy), hfr3.trans (Fr.alloc (fun _ => False) _ _) (fun _ _ h => h.elim)⟩
          rw [e, hm.out] at h3; cases h3
        case measure =>
          have e1 : sliceLen (W2.alloc o) ⟨cb, 2, none⟩ = sliceLen W2 ⟨cb, 2, none⟩ := by
            simp [sliceLen, rowC hc2, rowC ((alloc_old W2 o (lt_of_heap hc2)).trans hc2)]
          rw [e1]; exact Hlt.out

end Go.Proofs.YtfgnipcegnoagaaGreat
