/- The reference registry: Clear, Clients, Register. -/
import Derived.Test.YtfgnipcegnoagaaGreatRr6
import Derived.Test.YtfgnipcegnoagaaGreatMapsQ
namespace Go.Proofs.YtfgnipcegnoagaaGreat
open Go.RowKit Go.MapKept

/-- Behind a call on the reference registry: client c's topics are l. -/
structure NxtR (w w' : World) (S S' : Rr) (c : ByteArray) (l : List Top) : Prop where
  at' : S'.At w'
  ob : S'.ob = S.ob
  fr : Fr (fun k => k = S.ob) w w'
  fp : ∀ k, S'.fp k → S.fp k ∨ w.heap.size ≤ k
  get : ∀ y, S'.get y = upd S.get c l y
  len : S'.es.length ≤ S.es.length + 1
  ls : ∀ e ∈ S'.es, e ∈ S.es ∨ e.l = l
theorem NxtR.same {w w' : World} {S : Rr} (h : S.At w) (hf : Fr (fun _ => False) w w') (c : ByteArray) : NxtR w w' S S c (S.get c) :=
  ⟨h.still hf, rfl, hf.mono (fun _ _ h => h.elim), fun _ h => .inl h, fun y => by unfold upd; split <;> simp_all, by omega, fun _ h => .inl h⟩
theorem rset_to {w w1 : World} {S : Rr} {c : ByteArray} {lv : Value} {l : List Top} (h : RrOk w S) (hf : Fr (fun _ => False) w w1) (hl : RowT w1 lv l) (hk : ∀ k, lv.ownBlock = some k → w.heap.size ≤ k) :
    Calls Tryz.prog 35 #[ptrV S.ob, .string c, lv] w1 fun e w' => e = .returned (.tuple #[]) ∧ ∃ S', NxtR w w' S S' c l :=
  (rset_walk w1 S c lv l (h.at'.still hf) hl (fun e => by have := hk _ e; have := lt_of_heap h.at'.reg; omega) (by have := h.n; omega)).mono fun e w' ⟨he, S', h1, h2, h3, h4, h5, h6, h7⟩ =>
    ⟨he, S', h2, h1, (hf.mono (fun _ _ h => h.elim)).trans h3 (fun _ _ h => h), fun k hk2 => by
      rcases h4 k hk2 with h | h | h
      · exact .inl h
      · exact .inr (hk k h)
      · have := hf.size; exact .inr (by omega), h5, h6, h7⟩

theorem rowT_of_own0 {w : World} {base : Nat} {v : Value} {l : List Top} (h : w.ownsRow base 44 3 v l.length (topCells l)) (hn : l = [] → v = .slice none 0 0) : RowT w v l := by
  by_cases e : l = []
  · exact .inl ⟨hn e, e⟩
  · exact rowT_of_own h e
theorem take_succ_get {α : Type} {l : List α} {i : Nat} {x : α} (hx : l[i]? = some x) : l.take (i + 1) = l.take i ++ [x] := by rw [List.take_add_one, hx]; rfl

def ClrEnd (w : World) (S : Rr) (c : ByteArray) (e : Ending) (w' : World) : Prop :=
  e = .returned (.int .i64 ((((S.get c).filter (fun t => !t.fixed)).length : Nat))) ∧ ∃ S', NxtR w w' S S' c ((S.get c).filter (·.fixed))

theorem filter_split (l : List Top) : ((l.filter (fun t => !t.fixed)).length : Int) = (l.length : Int) - ((l.filter (·.fixed)).length : Int) := by
  induction l with
  | nil => rfl
  | cons t l ih =>
    simp only [List.filter_cons, List.length_cons]
    cases t.fixed <;> simp <;> omega

set_option maxRecDepth 100000 in
set_option maxHeartbeats 2000000 in
theorem rclear_walk (w : World) (S : Rr) (c : ByteArray) (h : RrOk w S) : Calls Tryz.prog 12 #[ptrV S.ob, .string c] w (ClrEnd w S c) := by
  obtain ⟨i0, hi, hz0, hz1, hz2⟩ := info_parts Tryz.infoTopic
  have ht := h.topics c
  have hl := h.len c
  have hset := fun (w1 : World) (lv : Value) (l : List Top) (hf : Fr (fun _ => False) w w1) (hr : RowT w1 lv l) (hk : ∀ k, lv.ownBlock = some k → w.heap.size ≤ k) => rset_to (c := c) h hf hr hk
  have hsame := fun (w1 : World) (hf : Fr (fun _ => False) w w1) => NxtR.same h.at' hf c
  have Hset := Lib.hid hset
  have Hsame := Lib.hid hsame
  obtain ⟨l, hgl⟩ : ∃ l, l = S.get c := ⟨_, rfl⟩
  have Hgl := Lib.hid hgl
  rw [← hgl] at ht hl
  have hsplit := filter_split l
  have Hsplit := Lib.hid hsplit
  have hfl := List.length_filter_le (fun t : Top => t.fixed) l
  clear h hset hsame hgl hsplit
  unfold ptrV at *
  go_enter Tryz.func12, Tryz.ntmps12
  go_wp2_with fail
  refine ht.mono ?_
  rintro e w1 ⟨v, rfl, hr, hf, _⟩
  obtain ⟨p, cap, rfl⟩ := hr.shape
  have Hr := Lib.hid hr
  have Hf := Lib.hid hf
  clear ht hr hf
  go_wp2_with fail
  go_loopg [6, 7] l.length (fun gk o s wr => ∃ i : Nat, s = .int .i64 i ∧ i ≤ l.length ∧ gk = l.length - i ∧ wr.ownsRow w1.heap.size 44 3 o ((l.take i).filter (·.fixed)).length (topCells ((l.take i).filter (·.fixed))) ∧ ((l.take i).filter (·.fixed) = [] → o = .slice none 0 0) ∧ Fr (fun _ => False) w1 wr)
  case atStart => exact ⟨0, rfl, Nat.zero_le _, rfl, World.ownsRow_nil _ _ _ _, fun _ => rfl, Fr.refl _ _⟩
  case round =>
    obtain ⟨i, rfl, hil, hgk, hrow, hnil, hf⟩ := hrel
    have Hgk := Lib.hid hgk
    have Hnil := Lib.hid hnil
    clear hgk hnil
    by_cases hlt : i < l.length
    · have hlt2 : (i : Int) < (l.length : Int) := by omega
      have hx : l[i]? = some l[i] := List.getElem?_eq_getElem hlt
      generalize l[i] = x at hx
      obtain ⟨g, rfl, x1, x2, x3⟩ := (Hr.out.kept hf (fun _ _ h => h)).at hx
      have hgl := (Hr.out.kept hf (fun _ _ h => h)).lt rfl
      have htk := take_succ_get hx
      have Htk := Lib.hid htk
      have hol : ((l.take i).filter (·.fixed)).length ≤ 900 := by
        have h1 := List.length_filter_le (fun t : Top => t.fixed) (l.take i)
        have h2 : (l.take i).length ≤ l.length := by rw [List.length_take]; exact Nat.min_le_right ..
        omega
      clear hx htk
      cases hfx : x.fixed with
      | false =>
        have Hfx := Lib.hid hfx
        rw [hfx] at x3
        clear hfx
        go_wp2_with fail
        go_roundg (l.length - (i + 1))
        case measure => have := Hgk.out; omega
        case rel =>
          have e : (l.take (i + 1)).filter (·.fixed) = (l.take i).filter (·.fixed) := by rw [Htk.out, List.filter_append]; simp [Hfx.out]
          exact ⟨i + 1, rfl, by omega, rfl, by rw [e]; exact hrow, by rw [e]; exact Hnil.out, hf⟩
      | true =>
        have Hfx := Lib.hid hfx
        rw [hfx] at x3
        clear hfx
        generalize hout : (l.take i).filter (·.fixed) = out at *
        have Hout := Lib.hid hout
        clear hout
        go_wp2_with (at_builtin; refine wpList_append_own _ rfl _ _ 45 rfl w1.heap.size 44 i0 (.agg #[.int .i64 0, .string ⟨#[]⟩, .bool false]) 3 32 Tryz.underlying45 hi hz0 hz1 hz2 rfl (by decide) _ _ _ rfl (hrow.alloc _) ⟨wr.heap.size, 0, none⟩ 1 1 [.int .i64 x.id, .string x.name, .bool true] rfl rfl (cell_three_new _ _ _ _ _) (by simp [Value.oneCell']) (by unfold maxLen; omega) (by omega) (by have := hf.size; simp; omega) ?_; intro v1 w2 hown1 hgrow1 hnil1)
        have hf1 : Fr (fun _ => False) w1 w2 := (hf.trans (Fr.alloc (fun _ => False) wr (.cells #[.int .i64 x.id, .string x.name, .bool true] 44)) (fun _ _ h => h)).own (hrow.alloc _) hgrow1
        go_roundg (l.length - (i + 1))
        case measure => have := Hgk.out; omega
        case rel =>
          have e : (l.take (i + 1)).filter (·.fixed) = out ++ [x] := by rw [Htk.out, List.filter_append, Hout.out]; simp [Hfx.out]
          refine ⟨i + 1, rfl, by omega, rfl, ?_, fun e2 => ?_, hf1⟩
          · rw [e, topCells_snoc]
            have e0 : (out ++ [x]).length = out.length + 1 := by simp
            rw [e0]
            have : x.cells = [.int .i64 x.id, .string x.name, .bool true] := by unfold Top.cells; rw [Hfx.out]
            rw [this]; exact hown1
          · rw [e] at e2; simp at e2
    · have hlt2 : ¬ (i : Int) < (l.length : Int) := by omega
      have hil2 : i = l.length := by omega
      subst hil2
      rw [List.take_length] at hrow Hnil
      have hf2 : Fr (fun _ => False) w wr := Hf.out.trans hf (fun _ _ h => h)
      have hrt := rowT_of_own0 hrow Hnil.out
      have hfre : ∀ k, u6.ownBlock = some k → w.heap.size ≤ k := fun k hk => by
        have h1 := (hrow.lt k hk).1
        have h2 := Hf.out.size
        omega
      have hcall := Hset.out wr u6 _ hf2 hrt hfre
      have hsm := Hsame.out wr hf2
      obtain ⟨po, co, rfl⟩ := ownS_shape hrow
      have hres : Hid ((((l.filter (fun t => !t.fixed)).length : Nat) : Int) = (l.length : Int) - ((l.filter (·.fixed)).length : Int)) := Hsplit.out
      have hall : (l.filter (·.fixed)).length = l.length → l.filter (·.fixed) = l := fun e => (List.filter_sublist).eq_of_length e
      have Hall := Lib.hid hall
      have hfin : ∀ w', (∃ S', NxtR w w' S S' c (l.filter (·.fixed))) → ClrEnd w S c (.returned (.int .i64 ((l.length : Int) - ((l.filter (·.fixed)).length : Int)))) w' := fun w' hS => by
        unfold ClrEnd
        rw [← Hgl.out]
        exact ⟨by rw [hres.out], hS⟩
      have Hfin := Lib.hid hfin
      have Hsm := Lib.hid hsm
      clear hrow hf hf2 hrt hfre hres hall hfin hsm
      by_cases he : (l.filter (·.fixed)).length = l.length
      · have hb1 : ((((l.filter (·.fixed)).length : Nat) : Int) != (l.length : Int)) = false := by rw [bne_eq_false_iff_eq]; omega
        have heq := Hall.out he
        have Heq := Lib.hid heq
        clear he heq hcall
        generalize l.filter (·.fixed) = out at *
        go_wp2_with fail
        go_ret
        refine Hfin.out _ ⟨S, ?_⟩
        rw [Heq.out, Hgl.out]; exact Hsm.out
      · have hb1 : ((((l.filter (·.fixed)).length : Nat) : Int) != (l.length : Int)) = true := by rw [bne_iff_ne]; omega
        clear he
        generalize l.filter (·.fixed) = out at *
        go_wp2_with fail
        refine hcall.mono ?_
        rintro e w3 ⟨rfl, hS3⟩
        have HS3 := Lib.hid hS3
        clear hS3 hcall
        go_wp2_with fail
        go_ret
        exact Hfin.out _ HS3.out
end Go.Proofs.YtfgnipcegnoagaaGreat
