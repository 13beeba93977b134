/- Topics: a client's topics, by rising ids. -/
import Derived.Test.YtfgnipcegnoagaaGreatShelf
import Derived.Test.YtfgnipcegnoagaaGreatIter
import Derived.Test.YtfgnipcegnoagaaGreatW12
import Derived.Sort.OwnSorted
namespace Go.Proofs.YtfgnipcegnoagaaGreat
open Go.RowKit Go.MapKept Go.Shelf Go.Sort

instance : Inhabited Top := ⟨⟨0, ⟨#[]⟩, false⟩⟩

/-- A slice of topics, as it lies. -/
def RowT (w : World) (v : Value) (l : List Top) : Prop :=
  (v = .slice none 0 0 ∧ l = []) ∨ ∃ g cap, v = .slice (some ⟨g, 0, none⟩) l.length cap ∧ l ≠ [] ∧ g < w.heap.size ∧ ∀ i t, l[i]? = some t →
    w.cell? ⟨g, i * 3, none⟩ = some (.int .i64 t.id) ∧ w.cell? ⟨g, i * 3 + 1, none⟩ = some (.string t.name) ∧ w.cell? ⟨g, i * 3 + 2, none⟩ = some (.bool t.fixed)
theorem RowT.kept {w w' : World} {v : Value} {l : List Top} {fp : Nat → Prop} (h : RowT w v l) (hf : Fr fp w w') (hn : ∀ k, v.ownBlock = some k → ¬ fp k) : RowT w' v l := by
  rcases h with h | ⟨g, cap, hv, hne, hg, hc⟩
  · exact .inl h
  · subst hv
    have hng : ¬ fp g := hn g rfl
    refine .inr ⟨g, cap, rfl, hne, Nat.lt_of_lt_of_le hg hf.size, fun i t hi => ?_⟩
    obtain ⟨h1, h2, h3⟩ := hc i t hi
    exact ⟨(hf.cell (p := ⟨g, i * 3, none⟩) hg hng).trans h1, (hf.cell (p := ⟨g, i * 3 + 1, none⟩) hg hng).trans h2, (hf.cell (p := ⟨g, i * 3 + 2, none⟩) hg hng).trans h3⟩

theorem topCells_get (l : List Top) (j : Nat) : (topCells l)[j]? = (l[j / 3]?).bind fun t => t.cells[j % 3]? := by
  induction l generalizing j with
  | nil => simp [topCells]
  | cons t l ih =>
    have e : topCells (t :: l) = t.cells ++ topCells l := by simp [topCells]
    rw [e]
    by_cases h : j < 3
    · rw [List.getElem?_append_left (by simpa [Top.cells] using h), Nat.div_eq_of_lt h, Nat.mod_eq_of_lt h]
      rfl
    · have e3 : t.cells.length = 3 := rfl
      rw [List.getElem?_append_right (by rw [e3]; omega), e3, ih, show j / 3 = (j - 3) / 3 + 1 by omega, show (j - 3) % 3 = j % 3 by omega]
      rfl
theorem topCells_length (l : List Top) : (topCells l).length = l.length * 3 := by
  induction l with
  | nil => rfl
  | cons t l ih =>
    have e : topCells (t :: l) = t.cells ++ topCells l := by simp [topCells]
    rw [e, List.length_append, ih, List.length_cons]
    simp [Top.cells]; omega

theorem holdsK_of_block {w : World} {g : Nat} {cur : Array Value} {e : TypeId} {ss : List Top} (hb : w.heap[g]? = some (.cells cur e (0, 0))) (ht : cur.toList.take (ss.length * 3) = topCells ss) : HoldsK Top.cells 3 w g 0 ss.toArray := by
  intro j hj
  have hj' : j < ss.length * 3 := by simpa using hj
  refine ⟨?_, by simp [World.frozen?, hb]⟩
  have h1 : (cur.toList.take (ss.length * 3))[j]? = (topCells ss)[j]? := by rw [ht]
  rw [List.getElem?_take_of_lt hj', topCells_get] at h1
  rw [get_flatK _ _ _ _ (by simpa using hj')]
  have hd : j / 3 < ss.length := by omega
  have hm : j % 3 < 3 := Nat.mod_lt _ (by omega)
  rw [List.getElem?_eq_getElem hd] at h1
  have e3 : ∀ t : Top, t.cells.length = 3 := fun _ => rfl
  simp only [Option.bind_some] at h1
  have h2 : ss[j / 3].cells[j % 3]? = some (ss[j / 3].cells[j % 3]'(by rw [e3]; exact hm)) := List.getElem?_eq_getElem _
  rw [h2] at h1
  simp only [World.cell?, hb, Nat.zero_add]
  simp only [Option.isSome_none, Bool.false_eq_true, if_false]
  rw [← Array.getElem?_toList, h1]
  have hd2 : ss.toArray[j / 3]! = ss[j / 3] := by simp [hd]
  rw [hd2, getElem!_pos _ _ (by rw [e3]; exact hm)]
  rfl

theorem grownBy_sortedK {w : World} {g n : Nat} {os : Array Obj} (d : Array Value) : w.grownBy (grow (putRow id (Sort.ahead w n) g 0 d) os) (some g) := by
  refine ⟨rfl, rfl, rfl, by simp, fun k hk hne => ?_⟩
  rw [heap_grow_old _ _ (by simpa using hk)]
  have : g ≠ k := fun e => hne (by rw [e])
  simp [putRow, mapBlock, Sort.ahead, Array.getElem?_modify, this]

theorem ltId (x y : Top) : ltOf (fun x y : Top => Lib.compareInt x.id y.id) x y = decide (x.id < y.id) := by
  unfold ltOf Lib.compareInt
  by_cases h1 : x.id < y.id
  · simp [h1]
  · by_cases h2 : y.id < x.id <;> simp [h1, h2]
theorem swoId : SWO (ltOf fun x y : Top => Lib.compareInt x.id y.id) where
  irrefl x := by rw [ltId]; simp
  trans x y z h1 h2 := by rw [ltId] at *; simp at *; omega
  ntrans x y z h1 h2 := by rw [ltId] at *; simp at *; omega

set_option maxHeartbeats 1000000 in
theorem topicsCmp_walk (x y : Top) (W : World) : Calls Tryz.prog 42 #[.agg #[.int .i64 x.id, .string x.name, .bool x.fixed], .agg #[.int .i64 y.id, .string y.name, .bool y.fixed]] W fun e w' => e = .returned (.int .i64 (Lib.compareInt x.id y.id)) ∧ ∃ q os', w' = grow (W.drewN q) os' := by
  have hcon := fun W' => Tryz.cmp_Compare_int x.id y.id W'
  generalize Lib.compareInt x.id y.id = r at hcon ⊢
  go_enter Tryz.func42, Tryz.ntmps42
  go_wp2_with (go_at_call 43; refine (hcon _).mono ?_; rintro e w' ⟨rfl, rfl⟩)
  go_ret
  exact ⟨rfl, 0, _, by rw [alloc_eq_grow, alloc_eq_grow, grow_grow]; rfl⟩

theorem sortT_walk (w : World) (base : Nat) (v : Value) (ss : List Top) (hown : w.ownsRow base 44 3 v ss.length (topCells ss)) (hne : ss ≠ []) (hlen : ss.length ≤ 65534) (hnd : (ss.map (·.id)).Nodup) :
    Calls Tryz.prog 41 #[v, .func (.func 42) #[] #[]] w fun e w' => e = .returned (.tuple #[]) ∧ ∃ l : List Top, l.Perm ss ∧ l.Pairwise (fun a b => a.id < b.id) ∧ RowT w' v l ∧ w.grownBy w' v.ownBlock := by
  have hpos : 0 < ss.length := List.length_pos_iff.2 hne
  rcases hown.2 with ⟨_, h0⟩ | ⟨g, cap, cur, rfl, hbase, hb, h1, h2, h3, h4⟩
  · omega
  have hH := holdsK_of_block hb h4
  have hg := (Array.getElem?_eq_some_iff.1 hb).1
  have eg : ∀ args w, (callFunc 42 args).run Tryz.prog w = .ok (.enter 42 args) w := enters_of Tryz.func42 (by kernel_rfl) rfl
  have hcmp : CmpLays Tryz.prog 42 #[] Top.cells 3 (fun x y => Lib.compareInt x.id y.id) g 0 ss.toArray.size w := fun _ _ _ _ x y => topicsCmp_walk x y _
  have hcon := AnyQ.slices_SortFunc Tryz.sortT 3 Tryz.isAgg44 Tryz.sizeOf44 Top.cells (fun _ => rfl) (fun x v hv => by simp [Top.cells] at hv; rcases hv with rfl | rfl | rfl <;> rfl) (fun x y => Lib.compareInt x.id y.id) swoId 42 #[] g 0 cap ss.toArray w eg hcmp hH hg (by simp; omega)
  change Calls Tryz.prog 41 _ _ _ at hcon
  refine hcon.mono ?_
  rintro e w' ⟨he, d', n, os, hp, hs, rfl⟩
  have hsz : d'.size = ss.length := by simpa using hp.1
  have hperm : d'.toList.Perm ss := by
    have := hp.2.2
    have e1 : (d'.extract 0 ss.toArray.size) = d' := by rw [List.size_toArray, ← hsz]; exact Array.extract_size ..
    have e2 : (ss.toArray.extract 0 ss.toArray.size) = ss.toArray := Array.extract_size ..
    rw [e1, e2] at this
    exact this
  refine ⟨he, d'.toList, hperm, ?_, ?_, ?_⟩
  · have hnd' : (d'.toList.map (·.id)).Nodup := (hperm.map _).nodup_iff.2 hnd
    rw [List.pairwise_iff_getElem]
    intro i j hi hj hij
    have hi' : i < d'.size := by simpa using hi
    have hj' : j < d'.size := by simpa using hj
    have h5 := hs i j (Nat.zero_le _) hij (by simpa [← hsz] using hj')
    rw [ltId, getElem!_pos d' i hi', getElem!_pos d' j hj'] at h5
    have h6 : ¬ d'[j].id < d'[i].id := of_decide_eq_false h5
    have h7 := List.pairwise_iff_getElem.1 (List.pairwise_map.1 hnd') i j hi hj hij
    simp only [Array.getElem_toList] at h7
    simp only [Array.getElem_toList]
    omega
  · have hH2 : HoldsK Top.cells 3 (sortWorldK Top.cells 3 w g 0 n d' os) g 0 d' := holdsK_grow _ _ _ _ _ _ _ (by simpa [putRowK] using hg) (holdsK_putRowK _ _ _ _ _ _ _ (holdsK_ahead _ _ _ _ _ _ _ hH) (by simpa using hsz))
    have hg2 : w.grownBy (sortWorldK Top.cells 3 w g 0 n d' os) (some g) := grownBy_sortedK _
    refine .inr ⟨g, cap, by simp [hsz], fun e => ?_, Nat.lt_of_lt_of_le hg hg2.size, fun i t hi => ?_⟩
    · have := congrArg List.length e
      simp [hsz] at this
      exact hne this
    · have hi' : i < d'.size := by
        have := (List.getElem?_eq_some_iff.1 hi).1
        simpa using this
      have ht : d'[i]! = t := by
        rw [getElem!_pos d' i hi']
        have := (List.getElem?_eq_some_iff.1 hi).2
        simpa using this
      have c0 := (hH2.cell hi' (show 0 < 3 by omega)).1
      have c1 := (hH2.cell hi' (show 1 < 3 by omega)).1
      have c2 := (hH2.cell hi' (show 2 < 3 by omega)).1
      rw [ht, Nat.zero_add] at c0 c1 c2
      exact ⟨c0, c1, c2⟩
  · exact grownBy_sortedK _

theorem ids_le {cl : Cl} (h : cl.Ok) : cl.tops.length ≤ 65534 := by
  have h3 := length_range (l := cl.tops.map (·.id)) (n := 65534) h.idn (fun x hx => by
    obtain ⟨t, ht, rfl⟩ := List.mem_map.1 hx
    have := h.range t ht
    omega)
  simpa using h3

/-- Topics: what comes back; nothing that lay has turned. -/
def TopicsEnd (w : World) (R : Rg) (c : ByteArray) (e : Ending) (w' : World) : Prop :=
  ∃ (v : Value) (l : List Top), e = .returned v ∧ RowT w' v l ∧ l.Perm (R.get c) ∧ l.Pairwise (fun a b => a.id < b.id) ∧ Fr (fun _ => False) w w' ∧ ∀ k, v.ownBlock = some k → w.heap.size ≤ k

theorem topics_nil (w : World) (c : ByteArray) :
    Calls Tryz.prog 22 #[.pointer none, .string c] w fun e w' => e = .returned (.slice none 0 0) ∧ w = w' := by
  have hof := of_nil w c
  go_enter Tryz.func22, Tryz.ntmps22
  go_wp2_with (go_at_call 30; refine hof.mono ?_; rintro e w1 ⟨rfl, rfl⟩)
  go_ret
  exact ⟨rfl, rfl⟩

theorem frF_of_below {w w' : World} (h : Below w.heap.size w w') : Fr (fun _ => False) w w' := ⟨h.os, h.tape, h.output, h.size, fun k hk _ => h.block k hk⟩

theorem topics_walk (w : World) (R : Rg) (c : ByteArray) (h : R.At w) (ho : R.Ok) (hl : R.Live) :
    Calls Tryz.prog 22 #[ptrV R.rb, .string c] w (TopicsEnd w R c) := by
  cases hc : mget R.cs c with
  | none =>
    have hof := of_none w R.rb R.mb c _ (rowC h.reg 0) h.cls (h.cb_none hc)
    have hg : Hid (R.get c = []) := by show R.get c = []; simp [Rg.get, hc]
    clear h ho hl hc
    unfold ptrV at *
    go_enter Tryz.func22, Tryz.ntmps22
    go_wp2_with (go_at_call 30; refine hof.mono ?_; rintro e w1 ⟨rfl, rfl⟩)
    go_ret
    exact ⟨_, [], rfl, .inl ⟨rfl, rfl⟩, by rw [hg.out], .nil, Fr.refl _ _, fun k hk => by simp [Value.ownBlock] at hk⟩
  | some cl =>
    have hm := mget_some_mem hc
    have hof := of_some w R.rb R.mb cl.cb c _ (rowC h.reg 0) h.cls (h.cb hc)
    have hcl := h.each _ hm
    have hclo := ho.each _ hm
    have cc := rowC hcl.blk
    have hval := values_walk (some cl.ab) w
    have hlen : cl.all.length ≤ 65534 := by
      have := ids_le hclo
      simpa [Cl.all] using this
    have hAll2 : AllAt (w.alloc (.cells #[.map (some cl.ab)] 61)) cl.ab cl.all := hcl.all.of_block (alloc_old w _ hcl.all.lt)
    have hcol := collectValues cl.ab w.heap.size cl.all hlen (w.alloc (.cells #[.map (some cl.ab)] 61)) (by simp) (by simp) hAll2
    have hmap : cl.all.map (·.2) = cl.tops := by simp [Cl.all, Function.comp_def]
    rw [hmap] at hcol
    have hne := hl _ _ hc
    have hcol2 := hcol.mono (R' := fun e w2 => ∃ v, e = .returned v ∧ Calls Tryz.prog 41 #[v, .func (.func 42) #[] #[]] w2 fun e w3 => e = .returned (.tuple #[]) ∧ TopicsEnd w R c (.returned v) w3) fun e w2 ⟨v, ss, he, hS, hrow, hnil, hb⟩ => by
      refine ⟨v, he, ?_⟩
      have hsn : ss ≠ [] := fun e => hne (by have := hS; rw [e] at this; exact this.symm.eq_nil)
      refine (sortT_walk w2 _ v ss hrow hsn (by rw [hS.length_eq]; exact ids_le hclo) ((hS.map _).nodup_iff.2 hclo.idn)).mono fun e w3 ⟨h1, l, h2, h3, h4, h5⟩ => ⟨h1, v, l, rfl, h4, ?_, h3, ?_, ?_⟩
      · have : R.get c = cl.tops := by simp [Rg.get, hc]
        rw [this]; exact h2.trans hS
      · have f1 : Fr (fun _ => False) w w2 := (Fr.alloc _ _ _).trans (frF_of_below hb) (fun _ _ h => h)
        refine f1.trans (Fr.of_grown (fp := fun k => w.heap.size ≤ k) h5 (fun k e => ?_)) (fun k hk h => absurd h (by omega))
        have := (hrow.lt k e).1
        simp at this
        omega
      · intro k hk
        have := (hrow.lt k hk).1
        simp at this
        omega
    clear hcol h ho hl hc hclo hlen hAll2 hne hmap hcl
    unfold ptrV at *
    go_enter Tryz.func22, Tryz.ntmps22
    go_wp2_with (first | (go_at_call 30; refine hof.mono ?_; rintro e w1 ⟨rfl, rfl⟩) | (go_at_call 40; refine hval.mono ?_; rintro e w1 ⟨rfl, rfl⟩) | (go_at_call 39; refine hcol2.mono ?_; rintro e w2 ⟨v, rfl, hsrt⟩) | (go_at_call 41; refine hsrt.mono ?_; rintro e w3 ⟨rfl, hend⟩))
    go_ret
    exact hend

end Go.Proofs.YtfgnipcegnoagaaGreat
