/- Clear, over the registry as a datum. -/
import Derived.Test.YtfgnipcegnoagaaGreatClr
namespace Go.Proofs.YtfgnipcegnoagaaGreat
open Go.RowKit Go.MapKept

theorem clr_step {W w2 w4 w5 : World} {cl : Cl} {t : Top} {bv' : Value} {back' : List Int} (hat : cl.At W) (hok : cl.Ok) (hsep : cl.Sep) (ht : t ∈ cl.tops) (hf : t.fixed = false)
    (m2 : IdsAt w2 cl.ib (mdel cl.ids t.name)) (fr2 : Fr (fun k => k = cl.ib) W w2) (m4 : AllAt w4 cl.ab (mdel cl.all t.id)) (fr4 : Fr (fun k => k = cl.ab) w2 w4)
    (hb5 : ClientB w5 cl.cb cl.ib cl.ab bv' cl.nx) (hk5 : BackAt w5 bv' back') (hp5 : back'.Perm (cl.back ++ [t.id])) (hh5 : IsHeap back'.length back') (ho5 : ∀ k, bv'.ownBlock = some k → cl.bv.ownBlock = some k ∨ w4.heap.size ≤ k) (fr5 : Fr (fun k => k = cl.cb ∨ cl.bv.ownBlock = some k) w4 w5) :
    ({ cl with tops := rmT cl.tops t, bv := bv', back := back' } : Cl).At w5 ∧ ({ cl with tops := rmT cl.tops t, bv := bv', back := back' } : Cl).Ok ∧ ({ cl with tops := rmT cl.tops t, bv := bv', back := back' } : Cl).Sep ∧
      (∀ k, ({ cl with tops := rmT cl.tops t, bv := bv', back := back' } : Cl).fp k → cl.fp k ∨ W.heap.size ≤ k) ∧ Fr cl.fp W w5 := by
  have s2 := fr2.size
  have s4 := fr4.size
  have hib := hat.ids.lt
  have hab := hat.all.lt
  have hcb := lt_of_heap hat.blk
  have i4 : IdsAt w4 cl.ib (mdel cl.ids t.name) := m2.of_block (fr4.block _ (by omega) hsep.ia)
  have i5 : IdsAt w5 cl.ib (mdel cl.ids t.name) := i4.of_block (fr5.block _ (by omega) (fun h => by rcases h with h | h; exact hsep.ci h.symm; exact hsep.bi h))
  have a5 : AllAt w5 cl.ab (mdel cl.all t.id) := m4.of_block (fr5.block _ (by omega) (fun h => by rcases h with h | h; exact hsep.ca h.symm; exact hsep.ba h))
  rw [Cl.ids_rm hok ht] at i5
  rw [Cl.all_rm hok t] at a5
  refine ⟨⟨hb5, i5, a5, hk5⟩, hok.rm ht hf bv' hp5 hh5, ⟨hsep.ci, hsep.ca, hsep.ia, fun h => ?_, fun h => ?_, fun h => ?_⟩, fun k hk => ?_, ?_⟩
  · rcases ho5 _ h with h | h
    · exact hsep.bc h
    · simp only at h; omega
  · rcases ho5 _ h with h | h
    · exact hsep.bi h
    · simp only at h; omega
  · rcases ho5 _ h with h | h
    · exact hsep.ba h
    · simp only at h; omega
  · rcases hk with hk | hk | hk | hk
    · exact .inl (.inl hk)
    · exact .inl (.inr (.inl hk))
    · exact .inl (.inr (.inr (.inl hk)))
    · rcases ho5 _ hk with h | h
      · exact .inl (.inr (.inr (.inr h)))
      · exact .inr (by omega)
  · refine ((fr2.mono (fun k _ h => .inr (.inl h))).trans fr4 (fun k _ h => .inr (.inr (.inl h)))).trans fr5 (fun k _ h => ?_)
    rcases h with h | h
    · exact .inl h
    · exact .inr (.inr (.inr h))

/-- What is kept when the topics of 'gone' have been gone through. -/
def keepT (l gone : List Top) : List Top := l.filter (fun s => s.fixed || !gone.any (fun t => t.id == s.id))
theorem keepT_nil (l : List Top) : keepT l [] = l := by unfold keepT; exact List.filter_eq_self.2 (fun s _ => by simp)
theorem keepT_fixed {cl : Cl} (h : cl.Ok) (gone : List Top) {t : Top} (ht : t ∈ cl.tops) (hf : t.fixed = true) : keepT cl.tops (gone ++ [t]) = keepT cl.tops gone := by
  unfold keepT
  refine List.filter_congr fun s hs => ?_
  by_cases e : t.id = s.id
  · rw [← Cl.id_inj h ht hs e, hf]; simp
  · have e' : (t.id == s.id) = false := beq_eq_false_iff_ne.2 e
    simp [List.any_append, e']
theorem keepT_rm (l gone : List Top) {t : Top} (hl : ∀ s ∈ l, s.id = t.id → s.fixed = false) : keepT l (gone ++ [t]) = rmT (keepT l gone) t := by
  unfold keepT rmT
  rw [List.filter_filter]
  refine List.filter_congr fun s hs => ?_
  by_cases e : s.id = t.id
  · simp [e, hl s hs e]
  · have e' : (t.id == s.id) = false := beq_eq_false_iff_ne.2 (fun h => e h.symm)
    simp [List.any_append, e', e]
theorem keepT_all (l gone : List Top) (h : ∀ s ∈ l, s ∈ gone) : keepT l gone = l.filter (·.fixed) := by
  unfold keepT
  refine List.filter_congr fun s hs => ?_
  have : gone.any (fun t => t.id == s.id) = true := List.any_eq_true.2 ⟨s, h s hs, by simp⟩
  rw [this]; simp

theorem keepT_mem {l l0 : List Top} {i : Nat} {t : Top} (ht : t ∈ l0) (hi : l[i]? = some t) (hn : (l.map (·.id)).Nodup) : t ∈ keepT l0 (l.take i) := by
  refine List.mem_filter.2 ⟨ht, ?_⟩
  have : (l.take i).any (fun s => s.id == t.id) = false := by
    rw [List.any_eq_false]
    intro s hs e
    obtain ⟨j, hj⟩ := List.getElem?_of_mem hs
    rw [List.getElem?_take] at hj
    split at hj
    · rename_i hji
      obtain ⟨hjl, hj2⟩ := List.getElem?_eq_some_iff.1 hj
      obtain ⟨hil, hi2⟩ := List.getElem?_eq_some_iff.1 hi
      have := List.pairwise_iff_getElem.1 (List.pairwise_map.1 hn) j i hjl hil hji
      rw [hj2, hi2] at this
      exact this (by simpa using e)
    · cases hj
  rw [this]; simp
theorem wrap64_of {x : Int} (h1 : 0 ≤ x) (h2 : x ≤ 1000000) : wrap64 x = x := by unfold wrap64; omega

def Rg.delCl (R : Rg) (c : ByteArray) : Rg := { R with cs := mdel R.cs c }
theorem Rg.delCl_get {w : World} {R : Rg} (h : R.At w) (c c' : ByteArray) : (R.delCl c).get c' = if c = c' then [] else R.get c' := by
  unfold Rg.delCl Rg.get
  simp only [mget_mdel h.keys]
  by_cases e : c = c' <;> simp [e]
theorem Rg.delCl_at {w w' : World} {R : Rg} {c : ByteArray} {cl0 : Cl} (h : R.At w) (ho : R.Ok) (hc : mget R.cs c = some cl0) (hcls : ClientsAt w' R.mb (mdel (R.cs.map fun p => (p.1, p.2.cb)) c)) (hfr : ∀ k, R.fp k → k ≠ R.mb → ¬ cl0.fp k → w'.heap[k]? = w.heap[k]?) : (R.delCl c).At w' := by
  have hm := mget_some_mem hc
  refine ⟨(hfr _ (.inl rfl) ho.rm (ho.r _ hm)).trans h.reg, ?_, fun p hp => ?_⟩
  · show ClientsAt w' R.mb ((mdel R.cs c).map fun p => (p.1, p.2.cb))
    rw [mdel_map (fun cl : Cl => cl.cb)]
    exact hcls
  · obtain ⟨h1, h2⟩ := mem_mdel h.keys hp
    exact (h.each p h1).kept fun k hk => hfr k (.inr (.inr ⟨p, h1, hk⟩)) (fun e => ho.m p h1 (e ▸ hk)) (ho.apart p h1 _ hm h2 k hk)
theorem Rg.delCl_ok {R : Rg} (ho : R.Ok) (c : ByteArray) : (R.delCl c).Ok := by
  have hs : ∀ p ∈ mdel R.cs c, p ∈ R.cs := fun p hp => (keys_mdel_sub R.cs c).subset hp
  exact ⟨ho.rm, fun p hp => ho.r p (hs p hp), fun p hp => ho.m p (hs p hp), fun p hp => ho.sep p (hs p hp), fun p hp q hq => ho.apart p (hs p hp) q (hs q hq), fun p hp => ho.each p (hs p hp)⟩
theorem Rg.delCl_fp {R : Rg} {c : ByteArray} {k : Nat} (h : (R.delCl c).fp k) : R.fp k := by
  rcases h with h | h | ⟨p, hp, h⟩
  · exact .inl h
  · exact .inr (.inl h)
  · exact .inr (.inr ⟨p, (keys_mdel_sub R.cs c).subset hp, h⟩)
theorem Rg.delCl_live {w : World} {R : Rg} (h : R.At w) (hl : R.Live) (c : ByteArray) : (R.delCl c).Live := fun c' cl' hc => by
  have h1 : mget (mdel R.cs c) c' = some cl' := hc
  rw [mget_mdel h.keys] at h1
  split at h1
  · cases h1
  · exact hl c' cl' h1

/-- Between two rounds of Clear's loop. -/
def ClrInv (w1 : World) (cl : Cl) (l : List Top) (i : Nat) (wr : World) : Prop :=
  ∃ cl' : Cl, cl'.cb = cl.cb ∧ cl'.ib = cl.ib ∧ cl'.ab = cl.ab ∧ cl'.tops = keepT cl.tops (l.take i) ∧ cl'.At wr ∧ cl'.Ok ∧ cl'.Sep ∧ (∀ k, cl'.fp k → cl.fp k ∨ w1.heap.size ≤ k) ∧ Fr cl.fp w1 wr

/-- Clear: how many have gone, and what is left. -/
def ClearEnd (w : World) (R : Rg) (c : ByteArray) (e : Ending) (w' : World) : Prop :=
  ∃ R' : Rg, e = .returned (.int .i64 ((R.get c).filter (fun t => !t.fixed)).length) ∧ R'.At w' ∧ R'.Ok ∧ Step R R' w w' ∧ (∀ c', c' ≠ c → R'.get c' = R.get c') ∧ R'.Live ∧ R'.get c = (R.get c).filter (·.fixed)

theorem clear_nil (w : World) (c : ByteArray) :
    Calls Tryz.prog 11 #[.pointer none, .string c] w fun e w' => e = .returned (.int .i64 0) ∧ w = w' := by
  have hof := of_nil w c
  go_enter Tryz.func11, Tryz.ntmps11
  go_wp2_with (go_at_call 30; refine hof.mono ?_; rintro e w1 ⟨rfl, rfl⟩)
  go_ret
  exact ⟨rfl, rfl⟩

theorem clear_none (w : World) (R : Rg) (c : ByteArray) (h : R.At w) (ho : R.Ok) (hl : R.Live) (hc : mget R.cs c = none) :
    Calls Tryz.prog 11 #[ptrV R.rb, .string c] w (ClearEnd w R c) := by
  have hof := of_none w R.rb R.mb c _ (rowC h.reg 0) h.cls (h.cb_none hc)
  have hg : Hid (R.get c = []) := by show R.get c = []; simp [Rg.get, hc]
  have Hh := Lib.hid h
  have Ho := Lib.hid ho
  have Hl := Lib.hid hl
  clear h ho hl hc
  unfold ptrV at *
  go_enter Tryz.func11, Tryz.ntmps11
  go_wp2_with (go_at_call 30; refine hof.mono ?_; rintro e w1 ⟨rfl, rfl⟩)
  go_ret
  exact ⟨R, by rw [hg.out]; rfl, Hh.out, Ho.out, Step.refl _ _, fun _ _ => rfl, Hl.out, by rw [hg.out]; rfl⟩

set_option maxRecDepth 100000 in
set_option maxHeartbeats 4000000 in
theorem clear_some (w : World) (R : Rg) (c : ByteArray) (cl : Cl) (h : R.At w) (ho : R.Ok) (hl : R.Live) (hc : mget R.cs c = some cl) :
    Calls Tryz.prog 11 #[ptrV R.rb, .string c] w (ClearEnd w R c) := by
  have hm := mget_some_mem hc
  have hof := of_some w R.rb R.mb cl.cb c _ (rowC h.reg 0) h.cls (h.cb hc)
  have htop := topics_walk w R c h ho hl
  have hcl := h.each _ hm
  have hclo := ho.each _ hm
  have hcls := ho.sep _ hm
  have hgc : R.get c = cl.tops := by simp [Rg.get, hc]
  have hlen := ids_le hclo
  have htop2 := htop.mono (R' := fun e w1 => ∃ (l : List Top) (g cap : Nat), e = .returned (.slice (some ⟨g, 0, none⟩) l.length cap) ∧ l.Perm cl.tops ∧ RowT w1 (.slice (some ⟨g, 0, none⟩) l.length cap) l ∧ Fr (fun _ => False) w w1 ∧ w.heap.size ≤ g ∧ g < w1.heap.size) fun e w1 ⟨v, l, he, hr, hp, hso, hfr, hfresh⟩ => by
    rw [hgc] at hp
    rcases hr with ⟨rfl, rfl⟩ | ⟨g, cap, rfl, hne, hg, hcells⟩
    · exact absurd hp.symm.eq_nil (hl _ _ hc)
    · exact ⟨l, g, cap, he, hp, .inr ⟨g, cap, rfl, hne, hg, hcells⟩, hfr, hfresh g rfl, hg⟩
  have Hh := Lib.hid h
  have Ho := Lib.hid ho
  have Hl := Lib.hid hl
  have Hc := Lib.hid hc
  have Hcl := Lib.hid hcl
  have Hclo := Lib.hid hclo
  have Hcls := Lib.hid hcls
  have Hgc := Lib.hid hgc
  clear h ho hl hc hcl hclo hcls hgc htop
  unfold ptrV at *
  go_enter Tryz.func11, Tryz.ntmps11
  go_wp2_with (first | (go_at_call 30; refine hof.mono ?_; rintro e w1 ⟨rfl, rfl⟩) | (go_at_call 22; refine htop2.mono ?_; rintro e w1 ⟨l, g, cap, rfl, hp, hrow, hfr, hg1, hg2⟩))
  have Hp := Lib.hid hp
  have hlen2 : l.length ≤ 65534 := by rw [hp.length_eq]; exact hlen
  have Hrow := Lib.hid hrow
  have Hfr := Lib.hid hfr
  have Hlen := Lib.hid hlen
  clear hof htop2 hp hrow hfr hlen
  go_loopw [5, 18] (fun n s wr => ∃ (i : Nat), s = .int .i64 i ∧ i ≤ l.length ∧ n = .int .i64 (((l.take i).filter (fun t => !t.fixed)).length : Nat) ∧ ClrInv w1 cl l i wr) (fun _ s _ => l.length - (intOf s).toNat)
  case atStart =>
    have hcl1 : cl.At w1 := Hcl.out.kept fun k hk => Hfr.out.block k (Hcl.out.lt hk) (fun h => h)
    exact ⟨0, rfl, Nat.zero_le _, rfl, cl, rfl, rfl, rfl, by rw [List.take_zero, keepT_nil], hcl1, Hclo.out, Hcls.out, fun k hk => .inl hk, Fr.refl _ _⟩
  case round =>
    obtain ⟨i, rfl, hi, rfl, hinv⟩ := hrel
    obtain ⟨cl', e1, e2, e3, e4, hat, hok, hsep, hfp, hfr⟩ := hinv
    have hrw : RowT wr (.slice (some ⟨g, 0, none⟩) l.length cap) l := Hrow.out.kept hfr (fun k hk h => by
      have h2 : g = k := by simpa [Value.ownBlock] using hk
      have := Hcl.out.lt h
      omega)
    have hcc := rowC hat.blk
    rw [e1] at hcc
    by_cases hlt : i < l.length
    · have ht : l[i]? = some l[i] := List.getElem?_eq_getElem hlt
      generalize l[i] = t at ht
      obtain ⟨c1, c2, c3⟩ : wr.cell? ⟨g, i * 3, none⟩ = some (.int .i64 t.id) ∧ wr.cell? ⟨g, i * 3 + 1, none⟩ = some (.string t.name) ∧ wr.cell? ⟨g, i * 3 + 2, none⟩ = some (.bool t.fixed) := by
        rcases hrw with ⟨h, _⟩ | ⟨g', cap', h, _, _, h2⟩
        · cases h
        · cases h
          exact h2 i t ht
      have Hrw := Lib.hid hrw
      have Hht := Lib.hid ht
      clear hrw ht
      have hlt2 : (i : Int) < (l.length : Int) := by omega
      cases hf : t.fixed with
      | true =>
        rw [hf] at c3
        go_wp2_with fail
        go_roundw
        case rel =>
          have hA : Fr (fun _ => False) wr (wr.alloc (.cells #[.int .i64 t.id, .string t.name, .bool true] 44)) := Fr.alloc _ _ _
          have htk : l.take (i + 1) = l.take i ++ [t] := by rw [List.take_add_one, Hht.out]; rfl
          have htm : t ∈ cl.tops := Hp.out.mem_iff.1 (List.mem_of_getElem? Hht.out)
          refine ⟨i + 1, rfl, by omega, by rw [htk]; simp [hf], cl', e1, e2, e3, by rw [htk, keepT_fixed Hclo.out _ htm hf]; exact e4, hat.kept fun k hk => hA.block k (hat.lt hk) (fun h => h), hok, hsep, hfp, hfr.trans hA (fun _ _ h => h.elim)⟩
        case measure =>
          simp only [intOf]
          omega
      | false =>
        rw [hf] at c3
        go_upto_region 9 with fail
        have hA : Fr (fun _ => False) wr (wr.alloc (.cells #[.int .i64 t.id, .string t.name, .bool false] 44)) := Fr.alloc _ _ _
        have hT := alloc_new wr (.cells #[.int .i64 t.id, .string t.name, .bool false] 44)
        have hn8 : ∀ k, cl'.fp k → k ≠ wr.heap.size := fun k hk e => by have := hat.lt hk; omega
        have hsz := hA.size
        generalize wr.alloc (.cells #[.int .i64 t.id, .string t.name, .bool false] 44) = W at *
        have hat2 : cl'.At W := hat.kept fun k hk => hA.block k (hat.lt hk) (fun h => h)
        have hfrW : Fr cl.fp w1 W := hfr.trans hA (fun _ _ h => h.elim)
        have htm : t ∈ cl'.tops := by
          rw [e4]
          exact keepT_mem (Hp.out.mem_iff.1 (List.mem_of_getElem? Hht.out)) Hht.out ((Hp.out.map (·.id)).nodup_iff.2 Hclo.out.idn)
        generalize wr.heap.size = b8 at *
        clear hat hfr c1 c2 c3 hcc
        have hbW : ClientB W cl.cb cl.ib cl.ab cl'.bv cl'.nx := by rw [← e1, ← e2, ← e3]; exact hat2.blk
        have hiW : IdsAt W cl.ib cl'.ids := by rw [← e2]; exact hat2.ids
        have haW : AllAt W cl.ab cl'.all := by rw [← e3]; exact hat2.all
        have n1 : cl.cb ≠ cl.ib := by rw [← e1, ← e2]; exact hsep.ci
        have n2 : cl.cb ≠ cl.ab := by rw [← e1, ← e3]; exact hsep.ca
        have n3 : cl.ib ≠ cl.ab := by rw [← e2, ← e3]; exact hsep.ia
        have n4 : b8 ≠ cl.ib := by rw [← e2]; exact (hn8 _ (.inr (.inl rfl))).symm
        have n5 : b8 ≠ cl.ab := by rw [← e3]; exact (hn8 _ (.inr (.inr (.inl rfl)))).symm
        have Hat2 := Lib.hid hat2
        have He : Hid (cl'.cb = cl.cb ∧ cl'.ib = cl.ib ∧ cl'.ab = cl.ab) := ⟨e1, e2, e3⟩
        have l1 := lt_of_heap hbW
        have l2 := hiW.lt
        have l3 := haW.lt
        have l4 := lt_of_heap hT
        clear hat2 e1 e2 e3 hn8
        refine wp_region_tail 6 (by kernel_rfl) (by kernel_rfl) ?_
        intro w2 g1 g2 g3 g4
        have c0 := rowC (w := w2) (by rw [g1]; exact hbW)
        have t0 := rowC (w := w2) (by rw [g1]; exact hT)
        simp only [List.take_succ_cons, List.take_zero, List.drop_succ_cons, List.drop_zero]
        repeat still_step
        refine wpStill_nil ?_
        go_wp2_with (at_delete; refine wpList_deleteM _ rfl _ _ _ _ rfl keyC Tryz.underlying60 cl.ib cl'.ids rfl (hiW.of_block (by rw [g1])) t.name rfl ?_; intro w3 m3 r3 s3)
        have hb3 : ClientB w3 cl.cb cl.ib cl.ab cl'.bv cl'.nx := (r3.block cl.cb (by rw [g1]; exact l1) (fun e => n1 (Option.some.inj e))).trans (by rw [g1]; exact hbW)
        have ha3 : AllAt w3 cl.ab cl'.all := haW.of_block ((r3.block cl.ab (by rw [g1]; exact l3) (fun e => n3 (Option.some.inj e).symm)).trans (by rw [g1]))
        have hT3 : w3.heap[b8]? = some (.cells #[.int .i64 t.id, .string t.name, .bool false] 44 (0, 0)) := (r3.block b8 (by rw [g1]; exact l4) (fun e => n4 (Option.some.inj e))).trans (by rw [g1]; exact hT)
        have fr3 : Fr (fun k => k = cl.ib) W w3 := (Fr.of_heap (fp := fun k => k = cl.ib) g1 g2 g3 g4).trans (Fr.of_grown r3 (fp := fun k => k = cl.ib) (fun k e => (Option.some.inj e).symm)) (fun k _ h => h)
        have s3' := fr3.size
        clear r3 s3 c0 t0 g1 g2 g3 g4 w2
        refine wp_region_tail 6 (by kernel_rfl) (by kernel_rfl) ?_
        intro w4 g1 g2 g3 g4
        have c0 := rowC (w := w4) (by rw [g1]; exact hb3)
        have t0 := rowC (w := w4) (by rw [g1]; exact hT3)
        simp only [List.take_succ_cons, List.take_zero, List.drop_succ_cons, List.drop_zero]
        repeat still_step
        refine wpStill_nil ?_
        go_wp2_with (at_delete; refine wpList_deleteM _ rfl _ _ _ _ rfl keyI Tryz.underlying61 cl.ab cl'.all rfl (ha3.of_block (by rw [g1])) t.id rfl ?_; intro w5 m5 r5 s5)
        have hb5 : ClientB w5 cl.cb cl.ib cl.ab cl'.bv cl'.nx := (r5.block cl.cb (by rw [g1]; omega) (fun e => n2 (Option.some.inj e))).trans (by rw [g1]; exact hb3)
        have hT5 : w5.heap[b8]? = some (.cells #[.int .i64 t.id, .string t.name, .bool false] 44 (0, 0)) := (r5.block b8 (by rw [g1]; omega) (fun e => n5 (Option.some.inj e))).trans (by rw [g1]; exact hT3)
        have fr5 : Fr (fun k => k = cl.ab) w3 w5 := (Fr.of_heap (fp := fun k => k = cl.ab) g1 g2 g3 g4).trans (Fr.of_grown r5 (fp := fun k => k = cl.ab) (fun k e => (Option.some.inj e).symm)) (fun k _ h => h)
        have s5' := fr5.size
        clear r5 s5 c0 t0 g1 g2 g3 g4 w4
        have hk5 : BackAt w5 cl'.bv cl'.back := Hat2.out.back.kept fun k e => ((fr5.block k (by have := Hat2.out.back.lt k e; omega) (fun h => by rw [h] at e; exact hsep.ba (by rw [He.out.2.2]; exact e))).trans (fr3.block k (by have := Hat2.out.back.lt k e; omega) (fun h => by rw [h] at e; exact hsep.bi (by rw [He.out.2.1]; exact e))))
        have hpush := fun W (g1 : W.heap = w5.heap) => push_cl W { cl' with cb := cl.cb, ib := cl.ib, ab := cl.ab } t.id (by show W.heap[cl.cb]? = _; rw [g1]; exact hb5) (hk5.kept fun k e => by rw [g1]) (by have := hsep.bc; rw [He.out.1] at this; exact this) hok.inv.heap (Nat.le_trans hok.inv.len (by omega))
        refine wp_region_tail 7 (by kernel_rfl) (by kernel_rfl) ?_
        intro w6 g1 g2 g3 g4
        have c0 := rowC (w := w6) (by rw [g1]; exact hb5)
        have t0 := rowC (w := w6) (by rw [g1]; exact hT5)
        simp only [List.take_succ_cons, List.take_zero, List.drop_succ_cons, List.drop_zero]
        repeat still_step
        refine wpStill_nil ?_
        have hpush6 := hpush w6 g1
        go_wp2_with (go_at_call 37; refine hpush6.mono ?_; rintro e w7 ⟨bv', back', rfl, hb7, hk7, hp7, hh7, ho7, fr7⟩)
        go_roundw
        case rel =>
          have hu : Fr (fun k => k = cl.cb ∨ cl'.bv.ownBlock = some k) w5 w7 := (Fr.of_heap g1 g2 g3 g4).trans fr7 (fun k _ h => h)
          obtain ⟨q1, q2, q3, q4, q5⟩ := clr_step (cl := cl') (t := t) (bv' := bv') (back' := back') Hat2.out hok hsep htm hf (by rw [He.out.2.1]; exact m3) (by rw [He.out.2.1]; exact fr3) (by rw [He.out.2.2]; exact m5) (by rw [He.out.2.2]; exact fr5) (by rw [He.out.1, He.out.2.1, He.out.2.2]; exact hb7) hk7 hp7 hh7 (fun k h => by rcases ho7 k h with h2 | h2; exact .inl h2; exact .inr (by rw [← g1]; exact h2)) (by rw [He.out.1]; exact hu)
          have htk : l.take (i + 1) = l.take i ++ [t] := by rw [List.take_add_one, Hht.out]; rfl
          have hcnt : ((l.take i).filter (fun t => !t.fixed)).length ≤ 65534 := by
            have h1 := List.length_filter_le (fun t : Top => !t.fixed) (l.take i)
            have h2 : (l.take i).length ≤ l.length := by rw [List.length_take]; exact Nat.min_le_right ..
            omega
          refine ⟨i + 1, rfl, by omega, ?_, { cl' with tops := rmT cl'.tops t, bv := bv', back := back' }, He.out.1, He.out.2.1, He.out.2.2, ?_, q1, q2, q3, fun k hk => ?_, hfrW.trans q5 (fun k hk h => ?_)⟩
          · rw [htk, List.filter_append, List.length_append, wrap64_of (by omega) (by omega)]
            simp [hf]
          · rw [htk, keepT_rm _ _ (fun s hs e => by rw [Cl.id_inj Hclo.out hs (Hp.out.mem_iff.1 (List.mem_of_getElem? Hht.out)) e]; exact hf)]
            show rmT cl'.tops t = _
            rw [e4]
          · rcases q4 k hk with h | h
            · exact hfp k h
            · exact .inr (by have := hfrW.size; omega)
          · rcases hfp k h with h | h
            · exact h
            · omega
        case measure =>
          simp only [intOf]
          omega
    · have hie : i = l.length := by omega
      subst hie
      have hAll : ∀ s ∈ cl.tops, s ∈ l.take l.length := fun s hs => by rw [List.take_length]; exact Hp.out.mem_iff.2 hs
      rw [keepT_all _ _ hAll] at e4
      have hcnt : ((l.take l.length).filter (fun t => !t.fixed)).length = ((R.get c).filter (fun t => !t.fixed)).length := by
        rw [List.take_length, Hgc.out]
        exact (Hp.out.filter _).length_eq
      rw [hcnt]
      have hlenm := hat.all.len Tryz.underlying61 3
      rw [e3] at hlenm
      have hall : cl'.all.length = cl'.tops.length := by simp [Cl.all]
      rw [hall] at hlenm
      have HfrA : Hid (Fr cl.fp w wr) := (Hfr.out.mono (fun _ _ h => h.elim)).trans hfr (fun k _ h => h)
      have Hfp : Hid (∀ k, cl'.fp k → cl.fp k ∨ w.heap.size ≤ k) := fun k hk => by
        rcases hfp k hk with h | h
        · exact .inl h
        · exact .inr (Nat.le_trans Hfr.out.size h)
      have He4 := Lib.hid e4
      have Hat := Lib.hid hat
      have Hok := Lib.hid hok
      have Hsep := Lib.hid hsep
      have He1 := Lib.hid e1
      clear hfr hfp e4 hat hok hsep hrw hAll hcnt
      by_cases hz : cl'.tops.length = 0
      · have hdec : decide ((cl'.tops.length : Int) = 0) = true := decide_eq_true (by omega)
        have hreg : wr.heap[R.rb]? = some (.cells #[.map (some R.mb)] 52 (0, 0)) := (HfrA.out.block R.rb (lt_of_heap Hh.out.reg) (Ho.out.r _ hm)).trans Hh.out.reg
        have hclsr : ClientsAt wr R.mb (R.cs.map fun p => (p.1, p.2.cb)) := Hh.out.cls.of_block (HfrA.out.block R.mb Hh.out.cls.lt (Ho.out.m _ hm))
        have cr := rowC hreg
        have Hz := Lib.hid hz
        have Hrm := Lib.hid Ho.out.rm
        have Hreg := Lib.hid hreg
        have hz00 : cl'.tops = [] := List.length_eq_zero_iff.1 hz
        clear hz hreg
        go_wp2_with (at_delete; refine wpList_deleteM _ rfl _ _ _ _ rfl keyC Tryz.underlying50 R.mb _ rfl hclsr c rfl ?_; intro w3 m3 r3 s3)
        go_ret
        have hfr3 : Fr (fun k => cl.fp k ∨ k = R.mb) w w3 := (HfrA.out.mono (fun k _ h => .inl h)).trans (Fr.of_grown r3 (fp := fun k => k = R.mb) (fun k e => (Option.some.inj e).symm)) (fun k _ h => .inr h)
        have hz0 : cl'.tops = [] := List.length_eq_zero_iff.1 Hz.out
        refine ⟨R.delCl c, rfl, Rg.delCl_at Hh.out Ho.out Hc.out m3 (fun k h1 h2 h3 => hfr3.block k (Hh.out.lt h1) (fun h => h.elim h3 h2)), Rg.delCl_ok Ho.out c, ⟨rfl, hfr3.mono (fun k _ h => ?_), fun k h => .inl (Rg.delCl_fp h)⟩, fun c' hne => ?_, Rg.delCl_live Hh.out Hl.out c, ?_⟩
        · rcases h with h | h
          · exact .inr (.inr ⟨_, hm, h⟩)
          · exact .inr (.inl h)
        · rw [Rg.delCl_get Hh.out, if_neg (fun e => hne e.symm)]
        · rw [Rg.delCl_get Hh.out, if_pos rfl, Hgc.out, ← He4.out, hz0]
      · have hne0 : cl'.tops ≠ [] := fun e => hz (by rw [e]; rfl)
        have Hne0 := Lib.hid hne0
        go_wp2_with fail
        go_ret
        refine ⟨R.setCl c cl', rfl, Rg.setCl_at Hh.out Ho.out Hc.out He1.out Hat.out (fun k h1 h2 => HfrA.out.block k (Hh.out.lt h1) h2), Rg.setCl_ok Hh.out Ho.out Hc.out Hok.out Hsep.out Hfp.out, ⟨rfl, HfrA.out.mono (fun k _ h => .inr (.inr ⟨_, hm, h⟩)), fun k hk => ?_⟩, fun c' hne => ?_, live_of (Rg.setCl_keep _ _ _) (Rg.setCl_self _ _ _) Hne0.out Hl.out, ?_⟩
        · rcases Rg.setCl_fp Hh.out hk with h | h
          · exact .inl h
          · rcases Hfp.out k h with h | h
            · exact .inl (.inr (.inr ⟨_, hm, h⟩))
            · exact .inr h
        · rw [Rg.setCl_get, if_neg (fun e => hne e.symm)]
        · rw [Rg.setCl_get, if_pos rfl, Hgc.out, ← He4.out]

theorem clear_walk (w : World) (R : Rg) (c : ByteArray) (h : R.At w) (ho : R.Ok) (hl : R.Live) :
    Calls Tryz.prog 11 #[ptrV R.rb, .string c] w (ClearEnd w R c) := by
  cases hc : mget R.cs c with
  | none => exact clear_none w R c h ho hl hc
  | some cl => exact clear_some w R c cl h ho hl hc

end Go.Proofs.YtfgnipcegnoagaaGreat
