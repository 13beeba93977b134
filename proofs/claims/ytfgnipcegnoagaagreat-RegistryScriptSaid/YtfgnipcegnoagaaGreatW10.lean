/- need and Register, over the registry as a datum. -/
import Derived.Test.YtfgnipcegnoagaaGreatReg
namespace Go.Proofs.YtfgnipcegnoagaaGreat
open Go.RowKit Go.MapKept

def NeedEnd (w : World) (R : Rg) (c : ByteArray) (e : Ending) (w' : World) : Prop :=
  ∃ R' cl, e = .returned (ptrV cl.cb) ∧ R'.At w' ∧ R'.Ok ∧ mget R'.cs c = some cl ∧ (∀ c', R'.get c' = R.get c') ∧ Step R R' w w' ∧ ∀ c', c' ≠ c → mget R'.cs c' = mget R.cs c'

theorem need_walk (w : World) (R : Rg) (c : ByteArray) (h : R.At w) (ho : R.Ok) :
    Calls Tryz.prog 32 #[ptrV R.rb, .string c] w (NeedEnd w R c) := by
  cases hc : mget R.cs c with
  | some cl =>
    exact (need_some w R.rb R.mb cl.cb c _ h.reg h.cls (h.cb hc)).mono fun e w' ⟨h1, h2⟩ => by
      subst h2
      exact ⟨R, cl, h1, h, ho, hc, fun _ => rfl, Step.refl _ _, fun _ _ => rfl⟩
  | none =>
    refine (need_none w R.rb R.mb c _ h.reg h.cls (h.cb_none hc)).mono fun e w' ⟨h1, h2, h3, h4, h5, h6, h7⟩ => ?_
    have hat : (newCl w.heap.size).At w' := ⟨h2, h3, h4, ⟨by simp [newCl], .inl ⟨rfl, rfl⟩⟩⟩
    refine ⟨R.setCl c (newCl w.heap.size), newCl w.heap.size, h1, h.addCl ho hat h5 h6, ho.addCl h (newCl_ok _) (newCl_sep _) (newCl_fp _), ?_, fun c' => ?_, ⟨rfl, h6.mono fun k _ e => .inr (.inl e), fun k hk => ?_⟩, Rg.setCl_keep _ _ _⟩
    · simp [Rg.setCl, mget_mput]
    · rw [Rg.setCl_get]
      split
      · rename_i e; subst e; simp [Rg.get, hc, newCl]
      · rfl
    · rcases hk with hk | hk | ⟨p, hp, hk⟩
      · exact .inl (.inl hk)
      · exact .inl (.inr (.inl hk))
      · rcases mem_mput h.keys hp with rfl | ⟨q1, q2⟩
        · exact .inr (newCl_fp _ _ hk)
        · exact .inl (.inr (.inr ⟨p, q1, hk⟩))

/-- Register: what comes back, and what it leaves. -/
def RegEnd (w : World) (R : Rg) (c n : ByteArray) (e : Ending) (w' : World) : Prop :=
  ∃ (R' : Rg) (id : Int) (fresh : Bool) (er : Int), e = .returned (.tuple #[.int .i64 id, .bool fresh, .int .i64 er]) ∧ R'.At w' ∧ R'.Ok ∧ Step R R' w w' ∧ (∀ c', c' ≠ c → R'.get c' = R.get c') ∧ (R.Live → R'.Live) ∧
    ((nameOk n = false ∧ id = 0 ∧ fresh = false ∧ er = 10 ∧ R'.get c = R.get c) ∨
     (nameOk n = true ∧ fresh = false ∧ er = 0 ∧ R'.get c = R.get c ∧ ∃ t ∈ R.get c, t.name = n ∧ t.id = id) ∨
     (nameOk n = true ∧ id = 0 ∧ fresh = false ∧ er = 12 ∧ R'.get c = R.get c ∧ (∀ t ∈ R.get c, t.name ≠ n) ∧ ∀ i, 1 ≤ i → i ≤ 65534 → ∃ t ∈ R.get c, t.id = i) ∨
     (nameOk n = true ∧ fresh = true ∧ er = 0 ∧ (∀ t ∈ R.get c, t.name ≠ n) ∧ 1 ≤ id ∧ id ≤ 65534 ∧ (∀ t ∈ R.get c, t.id ≠ id) ∧ (∀ i, 1 ≤ i → i < id → ∃ t ∈ R.get c, t.id = i) ∧ R'.get c = R.get c ++ [⟨id, n, false⟩]))

theorem register_bad (w : World) (R : Rg) (c n : ByteArray) (hn : n.size ≤ 9223372036854775807) (h : R.At w) (ho : R.Ok) (hb : nameOk n = false) :
    Calls Tryz.prog 13 #[ptrV R.rb, .string c, .string n] w (RegEnd w R c n) := by
  have htn := topicName_walk n w hn
  rw [hb] at htn
  have Hb := Lib.hid hb
  have Hh := Lib.hid h
  have Ho := Lib.hid ho
  clear hb h ho
  unfold ptrV
  go_enter Tryz.func13, Tryz.ntmps13
  go_wp2_with (go_at_call 29; refine htn.mono ?_; rintro e w1 ⟨rfl, fr⟩)
  go_ret3
  exact ⟨R, 0, false, 10, rfl, Hh.out.still fr, Ho.out, Step.still fr, fun _ _ => rfl, fun h => h, .inl ⟨Hb.out, rfl, rfl, rfl, rfl⟩⟩

theorem register_nil (w : World) (c n : ByteArray) :
    Calls Tryz.prog 13 #[.pointer none, .string c, .string n] w fun e w' => e = .returned (.tuple #[.int .i64 0, .bool false, .int .i64 1]) ∧ w = w' := by
  go_enter Tryz.func13, Tryz.ntmps13
  go_wp2
  go_ret3
  exact ⟨rfl, rfl⟩

set_option maxRecDepth 100000 in
set_option maxHeartbeats 2000000 in
theorem register_good (w : World) (R : Rg) (c n : ByteArray) (hn : n.size ≤ 9223372036854775807) (h : R.At w) (ho : R.Ok) (hb : nameOk n = true) :
    Calls Tryz.prog 13 #[ptrV R.rb, .string c, .string n] w (RegEnd w R c n) := by
  have htn := topicName_walk n w hn
  rw [hb] at htn
  have Hb := Lib.hid hb
  have Hh := Lib.hid h
  have Ho := Lib.hid ho
  have hnd := fun W hW => need_walk W R c hW ho
  have hnd := Lib.hid hnd
  clear hb h ho
  unfold ptrV at *
  go_enter Tryz.func13, Tryz.ntmps13
  go_upto_region 6 with (first | (go_at_call 29; refine htn.mono ?_; rintro e w1 ⟨rfl, fr⟩) | (go_at_call 32; refine (hnd.out _ (Hh.out.still fr)).mono ?_; rintro e w2 ⟨R2, cl, rfl, ha2, ho2, hc2, hg2, st2, hk2⟩))
  have st := (Step.still fr).trans st2
  have hm := mget_some_mem hc2
  have hcl : cl.At w2 := ha2.each _ hm
  have hclo : cl.Ok := ho2.each _ hm
  have hcls : cl.Sep := ho2.sep _ hm
  have hgc : R2.get c = cl.tops := by simp [Rg.get, hc2]
  have hgR : R.get c = cl.tops := (hg2 c).symm.trans hgc
  have cc := rowC hcl.blk
  have hl : ∀ x, mget cl.ids n = x → (Instr.lookup 60 (.map (some cl.ib)) (.string n) true).run Tryz.prog w2 = .ok (match x with | some i => .tuple #[.int .i64 i, .bool true] | none => .tuple #[.int .i64 0, .bool false]) w2 := fun x hx => by
    subst hx
    cases hx : mget cl.ids n with
    | some i => exact hcl.ids.lookup_some keyC Tryz.underlying60 hx true
    | none => exact hcl.ids.lookup_none keyC Tryz.underlying60 hx (Tryz.zeroValue3 w2) true
  have Hk2 := Lib.hid hk2
  clear hk2
  have hfin0 : ∀ c', c' ≠ c → R2.get c' = R.get c' := fun c' _ => hg2 c'
  have Hg := Lib.hid hg2
  have HgR := Lib.hid hgR
  have Hgc := Lib.hid hgc
  have Hc2 := Lib.hid hc2
  have Hfin0 := Lib.hid hfin0
  clear hnd hg2 hgR hgc hc2 hfin0 st2 htn
  cases hx : mget cl.ids n with
  | some i =>
    have hl1 := hl _ hx
    dsimp only at hl1
    have Hx := Lib.hid (ids_some hx)
    clear hl hx
    unfold ptrV
    go_wp2_with fail
    go_ret3
    exact ⟨R2, i, false, 0, rfl, ha2, ho2, st, Hfin0.out, live_of Hk2.out Hc2.out (by obtain ⟨t, ht, _⟩ := Hx.out; exact List.ne_nil_of_mem ht), .inr (.inl ⟨Hb.out, rfl, rfl, Hg.out c, by rw [HgR.out]; exact Hx.out⟩)⟩
  | none =>
    have hl1 := hl _ hx
    dsimp only at hl1
    have Hx := Lib.hid (ids_none.1 hx)
    clear hl hx
    have hle := least_walk w2 cl.cb cl.ib cl.ab cl.bv cl.nx cl.back cl.all hcl.blk hcl.all hcl.back hcls.ca hcls.bc hcls.ba hclo.inv
    unfold ptrV at *
    go_upto_region 10 with (go_at_call 38; refine hle.mono ?_; rintro e w3 ⟨r, nx3, bv3, back3, rfl, hb3, hk3, hbv3, hp3, hsub3, hnx3, fr3⟩)
    have hat3 : ({ cl with bv := bv3, nx := nx3, back := back3 } : Cl).At w3 := ⟨hb3, hcl.ids.of_block (fr3.block _ hcl.ids.lt (fun h => by rcases h with h | h; exact hcls.ci h.symm; exact hcls.bi h)), hcl.all.of_block (fr3.block _ hcl.all.lt (fun h => by rcases h with h | h; exact hcls.ca h.symm; exact hcls.ba h)), hk3⟩
    have hsep3 : ({ cl with bv := bv3, nx := nx3, back := back3 } : Cl).Sep := ⟨hcls.ci, hcls.ca, hcls.ia, by show bv3.ownBlock ≠ _; rw [hbv3]; exact hcls.bc, by show bv3.ownBlock ≠ _; rw [hbv3]; exact hcls.bi, by show bv3.ownBlock ≠ _; rw [hbv3]; exact hcls.ba⟩
    have hfp3 : ∀ k, ({ cl with bv := bv3, nx := nx3, back := back3 } : Cl).fp k → cl.fp k ∨ w2.heap.size ≤ k := fun k hk => by
      left
      rcases hk with hk | hk | hk | hk
      · exact .inl hk
      · exact .inr (.inl hk)
      · exact .inr (.inr (.inl hk))
      · exact .inr (.inr (.inr (by rw [← hbv3]; exact hk)))
    have hfrc : Fr cl.fp w2 w3 := fr3.mono fun k _ h => by rcases h with h | h; exact .inl h; exact .inr (.inr (.inr h))
    have Hbv3 := Lib.hid hbv3
    have Hsub3 := Lib.hid hsub3
    have Hat3 := Lib.hid hat3
    clear hbv3 hsub3 hat3 hk3 hle
    by_cases hr : r = 0
    · subst hr
      have hok3 := hclo.least0 hp3 Hsub3.out hnx3 bv3
      go_wp2_with fail
      go_ret3
      refine ⟨R2.setCl c { cl with bv := bv3, nx := nx3, back := back3 }, 0, false, 12, rfl, Rg.setCl_at ha2 ho2 Hc2.out rfl Hat3.out (fun k hk hn => hfrc.block k (ha2.lt hk) hn), Rg.setCl_ok ha2 ho2 Hc2.out hok3 hsep3 hfp3, st.trans ⟨rfl, hfrc.mono fun k _ h => .inr (.inr ⟨_, hm, h⟩), fun k hk => ?_⟩, fun c' hne => ?_, live_of (fun c' h => (Rg.setCl_keep R2 c _ c' h).trans (Hk2.out c' h)) (Rg.setCl_self _ _ _) ?_, .inr (.inr (.inl ⟨Hb.out, rfl, rfl, rfl, ?_, ?_, ?_⟩))⟩
      · rcases Rg.setCl_fp ha2 hk with h | h
        · exact .inl h
        · rcases hfp3 k h with h | h
          · exact .inl (.inr (.inr ⟨_, hm, h⟩))
          · exact .inr h
      · rw [Rg.setCl_get, if_neg (fun e => hne e.symm)]; exact Hg.out c'
      · have := hp3.none rfl 1 (by omega) (by omega)
        cases hq : mget cl.all 1 with
        | none => rw [hq] at this; cases this
        | some t => exact List.ne_nil_of_mem (all_some hq).1
      · rw [Rg.setCl_get, if_pos rfl]; exact HgR.out.symm
      · rw [HgR.out]; exact Hx.out
      · intro i h1 h2
        rw [HgR.out]
        have := hp3.none rfl i h1 h2
        cases hq : mget cl.all i with
        | none => rw [hq] at this; cases this
        | some t => exact ⟨t, all_some hq⟩
    · have hr0 : (r == 0) = false := beq_eq_false_iff_ne.2 hr
      have hok3 := hclo.leastReg hp3 hr Hsub3.out hnx3 bv3 Hx.out Hb.out
      obtain ⟨r1, r2, r3, r4, r5⟩ := hp3.some hr
      have r4' := all_none.1 r4
      have hput := put_walk w3 cl.cb cl.ib cl.ab bv3 nx3 ⟨r, n, false⟩ cl.ids cl.all hb3 Hat3.out.ids Hat3.out.all hcls.ia hcls.ci hcls.ca
      rw [ids_put Hx.out r false, all_put r4' false] at hput
      unfold ptrV Top.val at hput
      have R4 := Lib.hid r4'
      have R5 := Lib.hid r5
      clear r4 r5 r4' hr
      go_wp2_with (go_at_call 33; refine hput.mono ?_; rintro e w4 ⟨rfl, hb4, hi4, ha4, fr4⟩)
      go_ret3
      have hat4 : ({ cl with bv := bv3, nx := nx3, back := back3, tops := cl.tops ++ [⟨r, n, false⟩] } : Cl).At w4 := ⟨hb4, hi4, ha4, Hat3.out.back.kept fun g e => fr4.block g (Hat3.out.back.lt g e) (fun h => by rcases h with h | h; exact hsep3.bi (by rw [← h]; exact e); exact hsep3.ba (by rw [← h]; exact e))⟩
      have hfr4 : Fr cl.fp w2 w4 := hfrc.trans fr4 (fun k _ h => by rcases h with h | h; exact .inr (.inl h); exact .inr (.inr (.inl h)))
      refine ⟨R2.setCl c { cl with bv := bv3, nx := nx3, back := back3, tops := cl.tops ++ [⟨r, n, false⟩] }, r, true, 0, rfl, Rg.setCl_at ha2 ho2 Hc2.out rfl hat4 (fun k hk hn => hfr4.block k (ha2.lt hk) hn), Rg.setCl_ok ha2 ho2 Hc2.out hok3 ⟨hsep3.ci, hsep3.ca, hsep3.ia, hsep3.bc, hsep3.bi, hsep3.ba⟩ hfp3, st.trans ⟨rfl, hfr4.mono fun k _ h => .inr (.inr ⟨_, hm, h⟩), fun k hk => ?_⟩, fun c' hne => ?_, live_of (fun c' h => (Rg.setCl_keep R2 c _ c' h).trans (Hk2.out c' h)) (Rg.setCl_self _ _ _) (by simp), .inr (.inr (.inr ⟨Hb.out, rfl, rfl, ?_, r1, r2, ?_, ?_, ?_⟩))⟩
      · rcases Rg.setCl_fp ha2 hk with h | h
        · exact .inl h
        · rcases hfp3 k h with h | h
          · exact .inl (.inr (.inr ⟨_, hm, h⟩))
          · exact .inr h
      · rw [Rg.setCl_get, if_neg (fun e => hne e.symm)]; exact Hg.out c'
      · rw [HgR.out]; exact Hx.out
      · rw [HgR.out]; exact R4.out
      · intro i h1 h2
        rw [HgR.out]
        have := R5.out i h1 h2
        cases hq : mget cl.all i with
        | none => rw [hq] at this; cases this
        | some t => exact ⟨t, all_some hq⟩
      · rw [Rg.setCl_get, if_pos rfl, HgR.out]

theorem register_walk (w : World) (R : Rg) (c n : ByteArray) (hn : n.size ≤ 9223372036854775807) (h : R.At w) (ho : R.Ok) :
    Calls Tryz.prog 13 #[ptrV R.rb, .string c, .string n] w (RegEnd w R c n) := by
  cases hb : nameOk n
  · exact register_bad w R c n hn h ho hb
  · exact register_good w R c n hn h ho hb

end Go.Proofs.YtfgnipcegnoagaaGreat
