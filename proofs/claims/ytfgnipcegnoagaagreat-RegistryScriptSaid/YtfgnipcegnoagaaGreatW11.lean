/- Predefine, over the registry as a datum. -/
import Derived.Test.YtfgnipcegnoagaaGreatW10
import Derived.Deep.RegionWith
import Derived.Shelf.SlicesE.Kit
namespace Go.Proofs.YtfgnipcegnoagaaGreat
open Go.RowKit Go.MapKept

def PreEnd (w : World) (R : Rg) (c n : ByteArray) (id : Int) (e : Ending) (w' : World) : Prop :=
  ∃ (R' : Rg) (er : Int), e = .returned (.int .i64 er) ∧ R'.At w' ∧ R'.Ok ∧ Step R R' w w' ∧ (∀ c', c' ≠ c → R'.get c' = R.get c') ∧ (R.Live → R'.Live) ∧
    ((nameOk n = false ∧ er = 10 ∧ R'.get c = R.get c) ∨
     (nameOk n = true ∧ (id < 1 ∨ 65534 < id) ∧ er = 2 ∧ R'.get c = R.get c) ∨
     (nameOk n = true ∧ 1 ≤ id ∧ id ≤ 65534 ∧ (⟨id, n, true⟩ : Top) ∈ R.get c ∧ er = 0 ∧ R'.get c = R.get c) ∨
     (nameOk n = true ∧ 1 ≤ id ∧ id ≤ 65534 ∧ (⟨id, n, true⟩ : Top) ∉ R.get c ∧ (∃ t ∈ R.get c, t.id = id ∨ t.name = n) ∧ er = 16 ∧ R'.get c = R.get c) ∨
     (nameOk n = true ∧ 1 ≤ id ∧ id ≤ 65534 ∧ (∀ t ∈ R.get c, t.id ≠ id ∧ t.name ≠ n) ∧ er = 0 ∧ R'.get c = R.get c ++ [⟨id, n, true⟩]))

theorem predefine_nil (w : World) (c n : ByteArray) (id : Int) :
    Calls Tryz.prog 9 #[.pointer none, .string c, .string n, .int .i64 id] w fun e w' => e = .returned (.int .i64 1) ∧ w = w' := by
  go_enter Tryz.func9, Tryz.ntmps9
  go_wp2
  go_ret
  exact ⟨rfl, rfl⟩

theorem predefine_bad (w : World) (R : Rg) (c n : ByteArray) (id : Int) (hn : n.size ≤ 9223372036854775807) (h : R.At w) (ho : R.Ok) (hb : nameOk n = false) :
    Calls Tryz.prog 9 #[ptrV R.rb, .string c, .string n, .int .i64 id] w (PreEnd w R c n id) := by
  have htn := topicName_walk n w hn
  rw [hb] at htn
  have Hb := Lib.hid hb
  have Hh := Lib.hid h
  have Ho := Lib.hid ho
  clear hb h ho
  unfold ptrV
  go_enter Tryz.func9, Tryz.ntmps9
  go_wp2_with (go_at_call 29; refine htn.mono ?_; rintro e w1 ⟨rfl, fr⟩)
  go_ret
  exact ⟨R, 10, rfl, Hh.out.still fr, Ho.out, Step.still fr, fun _ _ => rfl, fun h => h, .inl ⟨Hb.out, rfl, rfl⟩⟩

theorem predefine_arg (w : World) (R : Rg) (c n : ByteArray) (id : Int) (hn : n.size ≤ 9223372036854775807) (h : R.At w) (ho : R.Ok) (hb : nameOk n = true) (hid : id < 1 ∨ 65534 < id) :
    Calls Tryz.prog 9 #[ptrV R.rb, .string c, .string n, .int .i64 id] w (PreEnd w R c n id) := by
  have htn := topicName_walk n w hn
  rw [hb] at htn
  have Hb := Lib.hid hb
  have Hh := Lib.hid h
  have Ho := Lib.hid ho
  have Hid := Lib.hid hid
  clear hb h ho
  unfold ptrV
  rcases hid with hid | hid
  all_goals
    go_enter Tryz.func9, Tryz.ntmps9
    go_wp2_with (go_at_call 29; refine htn.mono ?_; rintro e w1 ⟨rfl, fr⟩)
    go_ret
    exact ⟨R, 2, rfl, Hh.out.still fr, Ho.out, Step.still fr, fun _ _ => rfl, fun h => h, .inr (.inl ⟨Hb.out, Hid.out, rfl, rfl⟩)⟩

theorem run_equal_top (a b : Int) (x y : ByteArray) (p q : Bool) (w : World) :
    (Op.equalIn 10000 44 (.agg #[.int .i64 a, .string x, .bool p]) (.agg #[.int .i64 b, .string y, .bool q])).run Tryz.prog w = .ok (a == b && (x.toList == y.toList && p == q)) w := by
  have u3 := Tryz.underlying3
  have a3 := Tryz.isAgg3
  have z3 := Tryz.sizeOf3
  have u9 := Tryz.underlying9
  have a9 := Tryz.isAgg9
  have z9 := Tryz.sizeOf9
  have u4 := Tryz.underlying4
  have a4 := Tryz.isAgg4
  have z4 := Tryz.sizeOf4
  have hS : Tryz.prog.underlying 44 = some (.struct (Tryz.prog.fieldsOf 44)) := by kernel_rfl
  have hp : Tryz.prog.stoodInHeld 44 = false := by kernel_rfl
  rw [show (10000 : Nat) = 9999 + 1 from rfl, run_equalIn_agg w 9999 44 _ _ hS hp]
  simp only [Program.fieldsOf, Tryz.underlying44]
  go_simp
  cases h1 : a == b <;> cases h2 : x.toList == y.toList <;> cases p <;> cases q <;> simp_all
theorem run_eq_top (a b : Int) (x y : ByteArray) (p q : Bool) (w : World) :
    (binOp .eql 44 (.agg #[.int .i64 a, .string x, .bool p]) (.agg #[.int .i64 b, .string y, .bool q])).run Tryz.prog w = .ok (.bool (a == b && (x.toList == y.toList && p == q))) w := by
  rw [run_eql_struct, run_equal_top]; rfl
theorem run_neq_top (a b : Int) (x y : ByteArray) (p q : Bool) (w : World) :
    (binOp .neq 44 (.agg #[.int .i64 a, .string x, .bool p]) (.agg #[.int .i64 b, .string y, .bool q])).run Tryz.prog w = .ok (.bool (!(a == b && (x.toList == y.toList && p == q)))) w := by
  rw [run_neq_struct, run_equal_top]; rfl

theorem top_eq {t : Top} {id : Int} {n : ByteArray} : (t.id == id && (t.name.toList == n.toList && t.fixed == true)) = true ↔ t = ⟨id, n, true⟩ := by
  rcases t with ⟨i1, n1, f1⟩
  simp only [Bool.and_eq_true, beq_iff_eq, Top.mk.injEq]
  constructor
  · rintro ⟨h1, h2, h3⟩
    rw [ByteArray.toList_eq, ByteArray.toList_eq] at h2
    exact ⟨h1, ByteArray.ext (Array.toList_inj.1 h2), h3⟩
  · rintro ⟨rfl, rfl, rfl⟩
    exact ⟨rfl, rfl, rfl⟩

theorem Cl.id_inj {cl : Cl} (h : cl.Ok) {t s : Top} (ht : t ∈ cl.tops) (hs : s ∈ cl.tops) (e : t.id = s.id) : t = s := by
  have h1 := mget_of_mem (m := cl.all) (k := t.id) (v := t) (by simpa [Cl.all, Function.comp_def] using h.idn) (List.mem_map.2 ⟨t, ht, rfl⟩)
  have h2 := mget_of_mem (m := cl.all) (k := s.id) (v := s) (by simpa [Cl.all, Function.comp_def] using h.idn) (List.mem_map.2 ⟨s, hs, rfl⟩)
  rw [e, h2] at h1
  exact (Option.some.inj h1).symm

/-- Behind 'need': the topic is put. -/
theorem pre_put (w w1 w2 : World) (R R2 : Rg) (c n : ByteArray) (id : Int) (cl : Cl) (ha2 : R2.At w2) (ho2 : R2.Ok) (hc2 : mget R2.cs c = some cl) (hg2 : ∀ c', R2.get c' = R.get c') (st : Step R R2 w w2) (hk2 : ∀ c', c' ≠ c → mget R2.cs c' = mget R.cs c')
    (hb : nameOk n = true) (h1 : 1 ≤ id) (h2 : id ≤ 65534) (hfree : ∀ t ∈ R.get c, t.id ≠ id ∧ t.name ≠ n) :
    Calls Tryz.prog 33 #[ptrV cl.cb, .agg #[.int .i64 id, .string n, .bool true]] w2 fun e w4 => e = .returned (.tuple #[]) ∧ PreEnd w R c n id (.returned (.int .i64 0)) w4 := by
  have hm := mget_some_mem hc2
  have hcl : cl.At w2 := ha2.each _ hm
  have hclo : cl.Ok := ho2.each _ hm
  have hcls : cl.Sep := ho2.sep _ hm
  have hgc : R2.get c = cl.tops := by simp [Rg.get, hc2]
  have hgR : R.get c = cl.tops := (hg2 c).symm.trans hgc
  rw [hgR] at hfree
  have hput := put_walk w2 cl.cb cl.ib cl.ab cl.bv cl.nx ⟨id, n, true⟩ cl.ids cl.all hcl.blk hcl.ids hcl.all hcls.ia hcls.ci hcls.ca
  rw [ids_put (fun t ht => (hfree t ht).2) id true, all_put (fun t ht => (hfree t ht).1) true] at hput
  refine hput.mono fun e w4 ⟨he, hb4, hi4, ha4, fr4⟩ => ⟨he, ?_⟩
  have hat4 : ({ cl with tops := cl.tops ++ [⟨id, n, true⟩] } : Cl).At w4 := ⟨hb4, hi4, ha4, hcl.back.kept fun g e => fr4.block g (hcl.back.lt g e) (fun h => by rcases h with h | h; exact hcls.bi (by rw [← h]; exact e); exact hcls.ba (by rw [← h]; exact e))⟩
  have hfr4 : Fr cl.fp w2 w4 := fr4.mono fun k _ h => by rcases h with h | h; exact .inr (.inl h); exact .inr (.inr (.inl h))
  have hfp4 : ∀ k, ({ cl with tops := cl.tops ++ [⟨id, n, true⟩] } : Cl).fp k → cl.fp k ∨ w2.heap.size ≤ k := fun k hk => .inl hk
  refine ⟨R2.setCl c { cl with tops := cl.tops ++ [⟨id, n, true⟩] }, 0, rfl, Rg.setCl_at ha2 ho2 hc2 rfl hat4 (fun k hk hn => hfr4.block k (ha2.lt hk) hn), Rg.setCl_ok ha2 ho2 hc2 (hclo.pre h1 h2 (fun t ht => (hfree t ht).2) (fun t ht => (hfree t ht).1) hb) ⟨hcls.ci, hcls.ca, hcls.ia, hcls.bc, hcls.bi, hcls.ba⟩ hfp4, st.trans ⟨rfl, hfr4.mono fun k _ h => .inr (.inr ⟨_, hm, h⟩), fun k hk => ?_⟩, fun c' hne => ?_, live_of (fun c' h => (Rg.setCl_keep R2 c _ c' h).trans (hk2 c' h)) (Rg.setCl_self _ _ _) (by simp), .inr (.inr (.inr (.inr ⟨hb, h1, h2, ?_, rfl, ?_⟩)))⟩
  · rcases Rg.setCl_fp ha2 hk with h | h
    · exact .inl h
    · exact .inl (.inr (.inr ⟨_, hm, h⟩))
  · rw [Rg.setCl_get, if_neg (fun e => hne e.symm)]; exact hg2 c'
  · rw [hgR]; exact hfree
  · rw [Rg.setCl_get, if_pos rfl, hgR]

/-- 'need', and what 'put' then does: in whatever world, a topic lying in a block of its own. -/
def NeedPut (w : World) (R : Rg) (c n : ByteArray) (id : Int) (b : Nat) (e : Ending) (w2 : World) : Prop :=
  ∃ cb, e = .returned (ptrV cb) ∧ w2.heap[b]? = some (.cells #[.int .i64 id, .string n, .bool true] 44 (0, 0)) ∧
    Calls Tryz.prog 33 #[ptrV cb, .agg #[.int .i64 id, .string n, .bool true]] w2 fun e w4 => e = .returned (.tuple #[]) ∧ PreEnd w R c n id (.returned (.int .i64 0)) w4
theorem need_put (w V : World) (R : Rg) (c n : ByteArray) (id : Int) (b : Nat) (h : R.At V) (ho : R.Ok) (st : Step R R w V) (hV : V.heap[b]? = some (.cells #[.int .i64 id, .string n, .bool true] 44 (0, 0))) (hnb : ¬ R.fp b)
    (hb : nameOk n = true) (h1 : 1 ≤ id) (h2 : id ≤ 65534) (hfree : ∀ t ∈ R.get c, t.id ≠ id ∧ t.name ≠ n) :
    Calls Tryz.prog 32 #[ptrV R.rb, .string c] V (NeedPut w R c n id b) := by
  refine (need_walk V R c h ho).mono fun e w2 ⟨R2, cl, he, ha2, ho2, hc2, hg2, st2, hk2⟩ => ⟨cl.cb, he, ?_, ?_⟩
  · exact (st2.fr.block b (lt_of_heap hV) hnb).trans hV
  · exact pre_put w V w2 R R2 c n id cl ha2 ho2 hc2 hg2 (st.trans st2) hk2 hb h1 h2 hfree

set_option maxRecDepth 100000 in
set_option maxHeartbeats 4000000 in
theorem predefine_none (w : World) (R : Rg) (c n : ByteArray) (id : Int) (hn : n.size ≤ 9223372036854775807) (h : R.At w) (ho : R.Ok) (hb : nameOk n = true) (h1 : 1 ≤ id) (h2 : id ≤ 65534) (hc : mget R.cs c = none) :
    Calls Tryz.prog 9 #[ptrV R.rb, .string c, .string n, .int .i64 id] w (PreEnd w R c n id) := by
  have htn := topicName_walk n w hn
  rw [hb] at htn
  have hfree : Hid (∀ t ∈ R.get c, t.id ≠ id ∧ t.name ≠ n) := by intro t ht; simp [Rg.get, hc] at ht
  have hof : ∀ W, R.At W → Calls Tryz.prog 30 #[ptrV R.rb, .string c] W fun e w' => e = .returned (.pointer none) ∧ W = w' := fun W hW => of_none W R.rb R.mb c _ (rowC hW.reg 0) hW.cls (hW.cb_none hc)
  have hof := Lib.hid hof
  have Hh := Lib.hid h
  have hnp : ∀ V b, R.At V → Step R R w V → V.heap[b]? = some (.cells #[.int .i64 id, .string n, .bool true] 44 (0, 0)) → ¬ R.fp b → Calls Tryz.prog 32 #[ptrV R.rb, .string c] V (NeedPut w R c n id b) := fun V b h3 h4 h5 h6 => need_put w V R c n id b h3 ho h4 h5 h6 hb h1 h2 hfree
  have Hnp := Lib.hid hnp
  clear hb h ho hc hnp hfree
  unfold ptrV at *
  go_enter Tryz.func9, Tryz.ntmps9
  go_upto_region 16 with (first | (go_at_call 29; refine htn.mono ?_; rintro e w1 ⟨rfl, fr⟩) | (go_at_call 30; refine (hof.out _ ((Hh.out.still fr).still (Fr.alloc _ _ _))).mono ?_; rintro e w2 ⟨rfl, rfl⟩))
  have hA : R.At (w1.alloc (.cells #[.int .i64 id, .string n, .bool true] 44)) := (Hh.out.still fr).still (Fr.alloc _ _ _)
  have hS : Step R R w (w1.alloc (.cells #[.int .i64 id, .string n, .bool true] 44)) := Step.still (fr.trans (Fr.alloc _ _ _) (fun _ _ h => h))
  have hB := alloc_new w1 (.cells #[.int .i64 id, .string n, .bool true] 44)
  have hN : ¬ R.fp w1.heap.size := fun hk => absurd ((Hh.out.still fr).lt hk) (Nat.lt_irrefl _)
  generalize w1.alloc (.cells #[.int .i64 id, .string n, .bool true] 44) = W at *
  generalize w1.heap.size = b at *
  have hnp := Hnp.out W.drew b (hA.kept fun _ _ => rfl) (hS.trans (Step.still (Fr.of_heap rfl rfl rfl rfl))) hB hN
  have cc := rowC hB
  clear Hnp hA hS hB hN htn hof
  go_region_with (first | (go_at_call 32; refine hnp.mono ?_; rintro e w2 ⟨cb, rfl, hb2, hput⟩; have cc2 := rowC hb2; unfold ptrV) | (go_at_call 33; refine hput.mono ?_; rintro e w4 ⟨rfl, he⟩))
  all_goals
    go_wp2_with fail
    go_ret
    exact he

set_option maxRecDepth 100000 in
set_option maxHeartbeats 4000000 in
theorem predefine_some (w : World) (R : Rg) (c n : ByteArray) (id : Int) (cl : Cl) (hn : n.size ≤ 9223372036854775807) (h : R.At w) (ho : R.Ok) (hb : nameOk n = true) (h1 : 1 ≤ id) (h2 : id ≤ 65534) (hc : mget R.cs c = some cl) :
    Calls Tryz.prog 9 #[ptrV R.rb, .string c, .string n, .int .i64 id] w (PreEnd w R c n id) := by
  have htn := topicName_walk n w hn
  rw [hb] at htn
  have hm := mget_some_mem hc
  have hof : ∀ W, R.At W → Calls Tryz.prog 30 #[ptrV R.rb, .string c] W fun e w' => e = .returned (ptrV cl.cb) ∧ W = w' := fun W hW => of_some W R.rb R.mb cl.cb c _ (rowC hW.reg 0) hW.cls (hW.cb hc)
  have hof := Lib.hid hof
  have Hh := Lib.hid h
  have Ho := Lib.hid ho
  have Hb := Lib.hid hb
  have H1 := Lib.hid h1
  have H2 := Lib.hid h2
  have HgR : Hid (R.get c = cl.tops) := by show R.get c = cl.tops; simp [Rg.get, hc]
  have hnp : ∀ V b, R.At V → Step R R w V → V.heap[b]? = some (.cells #[.int .i64 id, .string n, .bool true] 44 (0, 0)) → ¬ R.fp b → (∀ t ∈ R.get c, t.id ≠ id ∧ t.name ≠ n) → Calls Tryz.prog 32 #[ptrV R.rb, .string c] V (NeedPut w R c n id b) := fun V b h3 h4 h5 h6 hfree => need_put w V R c n id b h3 ho h4 h5 h6 hb h1 h2 hfree
  have Hnp := Lib.hid hnp
  have hfp : Hid (∀ k, cl.fp k → R.fp k) := fun k hk => .inr (.inr ⟨_, hm, hk⟩)
  clear hb h ho hc hnp
  unfold ptrV at *
  go_enter Tryz.func9, Tryz.ntmps9
  go_upto_region 10 with (first | (go_at_call 29; refine htn.mono ?_; rintro e w1 ⟨rfl, fr⟩) | (go_at_call 30; refine (hof.out _ ((Hh.out.still fr).still (Fr.alloc _ _ _))).mono ?_; rintro e w2 ⟨rfl, rfl⟩))
  have hA : R.At (w1.alloc (.cells #[.int .i64 id, .string n, .bool true] 44)) := (Hh.out.still fr).still (Fr.alloc _ _ _)
  have hS : Step R R w (w1.alloc (.cells #[.int .i64 id, .string n, .bool true] 44)) := Step.still (fr.trans (Fr.alloc _ _ _) (fun _ _ h => h))
  have hB := alloc_new w1 (.cells #[.int .i64 id, .string n, .bool true] 44)
  have hN : ¬ R.fp w1.heap.size := fun hk => absurd ((Hh.out.still fr).lt hk) (Nat.lt_irrefl _)
  generalize w1.alloc (.cells #[.int .i64 id, .string n, .bool true] 44) = W at *
  generalize w1.heap.size = b at *
  clear htn hof Hh fr
  have hcl : cl.At W := hA.each _ hm
  have cc := rowC hcl.blk
  cases hx : mget cl.all id with
  | some t =>
    have hl := hcl.all.lookup_some keyI Tryz.underlying61 hx true
    have Hx := Lib.hid (all_some hx)
    have Hxs := Lib.hid hx
    clear hx
    simp only [if_true, Top.val] at hl
    go_upto_region 11 with fail
    have hA2 : R.At (W.alloc (.cells #[.int .i64 t.id, .string t.name, .bool t.fixed] 44)) := hA.still (Fr.alloc _ _ _)
    have hS2 : Step R R w (W.alloc (.cells #[.int .i64 t.id, .string t.name, .bool t.fixed] 44)) := hS.trans (Step.still (Fr.alloc _ _ _))
    have hB2 := (alloc_old W (.cells #[.int .i64 t.id, .string t.name, .bool t.fixed] 44) (lt_of_heap hB)).trans hB
    have hB3 := alloc_new W (.cells #[.int .i64 t.id, .string t.name, .bool t.fixed] 44)
    generalize W.alloc (.cells #[.int .i64 t.id, .string t.name, .bool t.fixed] 44) = W2 at *
    generalize W.heap.size = b2 at *
    clear hl cc hA hS hB hcl
    have hcl : cl.At W2 := hA2.each _ hm
    have cc := rowC hcl.blk
    have cc2 := rowC hB2
    have cc3 := rowC hB3
    have hee := run_eq_top t.id id t.name n t.fixed true
    by_cases hq : t = ⟨id, n, true⟩
    · have hqt := top_eq.2 hq
      simp only [hqt] at hee
      go_wp2_with fail
      go_ret
      exact ⟨R, 0, rfl, hA2, Ho.out, hS2, fun _ _ => rfl, fun h => h, .inr (.inr (.inl ⟨Hb.out, H1.out, H2.out, by rw [HgR.out, ← hq]; exact Hx.out.1, rfl, rfl⟩))⟩
    · have hqt := Bool.eq_false_iff.2 (fun h => hq (top_eq.1 h))
      simp only [hqt] at hee
      have Hq := Lib.hid hq
      have hin : (⟨id, n, true⟩ : Top) ∉ R.get c := fun h3 => Hq.out (by
        rw [HgR.out] at h3
        exact Cl.id_inj (Ho.out.each _ hm) Hx.out.1 h3 Hx.out.2)
      have hend : ∀ V, Fr (fun _ => False) W2 V → PreEnd w R c n id (.returned (.int .i64 16)) V := fun V hV => ⟨R, 16, rfl, hA2.still hV, Ho.out, hS2.trans (Step.still hV), fun _ _ => rfl, fun h => h, .inr (.inr (.inr (.inl ⟨Hb.out, H1.out, H2.out, hin, ⟨t, by rw [HgR.out]; exact Hx.out.1, .inl Hx.out.2⟩, rfl, rfl⟩)))⟩
      have hend := Lib.hid hend
      clear hq
      go_upto_region 13 with fail
      cases hy : mget cl.ids n with
      | some i =>
        have hl := hcl.ids.lookup_some keyC Tryz.underlying60 hy true
        simp only [if_true] at hl
        clear hy
        go_wp2_with fail
        go_ret
        exact hend.out _ (Fr.refl _ _)
      | none =>
        have hl := hcl.ids.lookup_none keyC Tryz.underlying60 hy (Tryz.zeroValue3 W2) true
        simp only [if_true] at hl
        clear hy
        have hh := has_walk W2 cl.cb cl.ib cl.ab cl.bv cl.nx id cl.all hcl.blk hcl.all
        rw [Hxs.out] at hh
        unfold ptrV at hh
        go_wp2_with (go_at_call 31; refine hh.mono ?_; rintro e w4 ⟨rfl, o, rfl⟩)
        go_ret
        exact hend.out _ (Fr.alloc _ _ _)
  | none =>
    have hl := hcl.all.lookup_none keyI Tryz.underlying61 hx (Tryz.zeroValue44 W) true
    have Hx := Lib.hid (all_none.1 hx)
    have Hxs := Lib.hid hx
    clear hx
    simp only [if_true] at hl
    go_upto_region 13 with fail
    have hA2 : R.At (W.alloc (.cells #[.int .i64 0, .string { data := #[] }, .bool false] 44)) := hA.still (Fr.alloc _ _ _)
    have hS2 : Step R R w (W.alloc (.cells #[.int .i64 0, .string { data := #[] }, .bool false] 44)) := hS.trans (Step.still (Fr.alloc _ _ _))
    have hB2 := (alloc_old W (.cells #[.int .i64 0, .string { data := #[] }, .bool false] 44) (lt_of_heap hB)).trans hB
    generalize W.alloc (.cells #[.int .i64 0, .string { data := #[] }, .bool false] 44) = W2 at *
    generalize W.heap.size = b2 at *
    clear hl cc hA hS hB hcl
    have hcl : cl.At W2 := hA2.each _ hm
    have cc := rowC hcl.blk
    cases hy : mget cl.ids n with
    | some i =>
      have hl := hcl.ids.lookup_some keyC Tryz.underlying60 hy true
      have Hy := Lib.hid (ids_some hy)
      simp only [if_true] at hl
      clear hy
      have hin : (⟨id, n, true⟩ : Top) ∉ R.get c := fun h3 => Hx.out _ (by rw [HgR.out] at h3; exact h3) rfl
      have hend : PreEnd w R c n id (.returned (.int .i64 16)) W2 := by
        obtain ⟨t, y1, y2, y3⟩ := Hy.out
        exact ⟨R, 16, rfl, hA2, Ho.out, hS2, fun _ _ => rfl, fun h => h, .inr (.inr (.inr (.inl ⟨Hb.out, H1.out, H2.out, hin, ⟨t, by rw [HgR.out]; exact y1, .inr y2⟩, rfl, rfl⟩)))⟩
      have hend := Lib.hid hend
      clear hin
      go_wp2_with fail
      go_ret
      exact hend.out
    | none =>
      have hl := hcl.ids.lookup_none keyC Tryz.underlying60 hy (Tryz.zeroValue3 W2) true
      have Hy := Lib.hid (ids_none.1 hy)
      simp only [if_true] at hl
      clear hy
      have Hfree : Hid (∀ t ∈ R.get c, t.id ≠ id ∧ t.name ≠ n) := fun t ht => by
        have ht2 : t ∈ cl.tops := by rw [← HgR.out]; exact ht
        exact ⟨Hx.out t ht2, Hy.out t ht2⟩
      have hh := has_walk W2 cl.cb cl.ib cl.ab cl.bv cl.nx id cl.all hcl.blk hcl.all
      rw [Hxs.out] at hh
      unfold ptrV at hh
      go_upto_region 16 with (go_at_call 31; refine hh.mono ?_; rintro e w4 ⟨rfl, o, rfl⟩)
      have hA3 : R.At (W2.alloc o) := hA2.still (Fr.alloc _ _ _)
      have hS3 : Step R R w (W2.alloc o) := hS2.trans (Step.still (Fr.alloc _ _ _))
      have hB3 := (alloc_old W2 o (lt_of_heap hB2)).trans hB2
      generalize W2.alloc o = W3 at *
      clear hh hl cc hA2 hS2 hB2 hcl
      have hnp := Hnp.out W3.drew b (hA3.kept fun _ _ => rfl) (hS3.trans (Step.still (Fr.of_heap rfl rfl rfl rfl))) hB3 hN Hfree.out
      have cc := rowC hB3
      clear Hnp hA3 hS3 hB3
      go_region_with (first | (go_at_call 32; refine hnp.mono ?_; rintro e w5 ⟨cb, rfl, hb2, hput⟩; have cc2 := rowC hb2; unfold ptrV) | (go_at_call 33; refine hput.mono ?_; rintro e w6 ⟨rfl, he⟩))
      all_goals
        go_wp2_with fail
        go_ret
        exact he

theorem predefine_walk (w : World) (R : Rg) (c n : ByteArray) (id : Int) (hn : n.size ≤ 9223372036854775807) (h : R.At w) (ho : R.Ok) :
    Calls Tryz.prog 9 #[ptrV R.rb, .string c, .string n, .int .i64 id] w (PreEnd w R c n id) := by
  cases hb : nameOk n with
  | false => exact predefine_bad w R c n id hn h ho hb
  | true =>
    by_cases hid : id < 1 ∨ 65534 < id
    · exact predefine_arg w R c n id hn h ho hb hid
    · have h1 : 1 ≤ id := by omega
      have h2 : id ≤ 65534 := by omega
      cases hc : mget R.cs c with
      | none => exact predefine_none w R c n id hn h ho hb h1 h2 hc
      | some cl => exact predefine_some w R c n id cl hn h ho hb h1 h2 hc

end Go.Proofs.YtfgnipcegnoagaaGreat
