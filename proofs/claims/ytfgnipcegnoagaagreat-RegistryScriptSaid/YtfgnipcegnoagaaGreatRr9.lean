/- The reference registry: Predefine, Clients. -/
import Derived.Test.YtfgnipcegnoagaaGreatRr8
namespace Go.Proofs.YtfgnipcegnoagaaGreat
open Go.RowKit Go.MapKept

/-- What Predefine answers, over topics by rising ids. -/
def rpreF (l : List Top) (n : ByteArray) (id : Int) : Int × List Top :=
  if nameOk n = true then
    if id < 1 ∨ 65534 < id then (2, l)
    else if (⟨id, n, true⟩ : Top) ∈ l then (0, l)
    else if l.any (fun t => t.id == id || decide (t.name = n)) then (16, l)
    else (0, ins l ⟨id, n, true⟩)
  else (10, l)
def RPreEnd (w : World) (S : Rr) (c n : ByteArray) (id : Int) (e : Ending) (w' : World) : Prop :=
  e = .returned (.int .i64 (rpreF (S.get c) n id).1) ∧ ∃ S', NxtR w w' S S' c (rpreF (S.get c) n id).2

set_option maxRecDepth 100000 in
set_option maxHeartbeats 2000000 in
theorem rpredefine_walk (w : World) (S : Rr) (c n : ByteArray) (id : Int) (h : RrOk w S) (hn : n.size ≤ 9223372036854775807) :
    Calls Tryz.prog 10 #[ptrV S.ob, .string c, .string n, .int .i64 id] w (RPreEnd w S c n id) := by
  have hn4 := name4_walk n w hn
  have ht := h.topics c
  have hl := h.len c
  have hset := fun (w1 : World) (lv : Value) (l : List Top) (hf : Fr (fun _ => False) w w1) (hr : RowT w1 lv l) (hk : ∀ k, lv.ownBlock = some k → w.heap.size ≤ k) => rset_to (c := c) h hf hr hk
  have hsame := fun (w1 : World) (hf : Fr (fun _ => False) w w1) => NxtR.same h.at' hf c
  have Hset := Lib.hid hset
  have Hsame := Lib.hid hsame
  have hend : ∀ (a : Int) w', (∃ S', NxtR w w' S S' c (rpreF (S.get c) n id).2) → (rpreF (S.get c) n id).1 = a → RPreEnd w S c n id (.returned (.int .i64 a)) w' := fun _ _ h h1 => ⟨by rw [h1], h⟩
  have Hend := Lib.hid hend
  obtain ⟨l, hgl⟩ : ∃ l, l = S.get c := ⟨_, rfl⟩
  have Hgl := Lib.hid hgl
  rw [← hgl] at ht hl
  clear h hset hsame hgl hend
  cases hok : nameOk n with
  | false =>
    have e : rpreF (S.get c) n id = (10, S.get c) := by unfold rpreF; rw [if_neg (by rw [hok]; simp)]
    have He := Lib.hid e
    rw [hok] at hn4
    clear hok ht e
    unfold ptrV at *
    go_enter Tryz.func10, Tryz.ntmps10
    go_wp2_with (go_at_call 34; refine hn4.mono ?_; rintro e w' ⟨rfl, rfl⟩)
    go_ret
    exact Hend.out _ _ ⟨S, by rw [He.out]; exact Hsame.out _ (Fr.refl _ _)⟩ (by rw [He.out])
  | true =>
    have Hok := Lib.hid hok
    rw [hok] at hn4
    clear hok
    by_cases hid : id < 1 ∨ 65534 < id
    · have e : rpreF (S.get c) n id = (2, S.get c) := by unfold rpreF; rw [if_pos Hok.out, if_pos hid]
      have He := Lib.hid e
      clear ht e
      unfold ptrV at *
      by_cases h1 : id < 1
      · clear hid
        go_enter Tryz.func10, Tryz.ntmps10
        go_wp2_with (go_at_call 34; refine hn4.mono ?_; rintro e w' ⟨rfl, rfl⟩)
        go_ret
        exact Hend.out _ _ ⟨S, by rw [He.out]; exact Hsame.out _ (Fr.refl _ _)⟩ (by rw [He.out])
      · have h2 : 65534 < id := by omega
        clear hid
        go_enter Tryz.func10, Tryz.ntmps10
        go_wp2_with (go_at_call 34; refine hn4.mono ?_; rintro e w' ⟨rfl, rfl⟩)
        go_ret
        exact Hend.out _ _ ⟨S, by rw [He.out]; exact Hsame.out _ (Fr.refl _ _)⟩ (by rw [He.out])
    · have h1 : ¬ id < 1 := by omega
      have h2 : ¬ 65534 < id := by omega
      have Hid' := Lib.hid hid
      clear hid
      unfold ptrV at *
      go_enter Tryz.func10, Tryz.ntmps10
      go_upto_region 5 with (go_at_call 34; refine hn4.mono ?_; rintro e w' ⟨rfl, rfl⟩)
      go_wp2_with fail
      refine ht.mono ?_
      rintro e w1 ⟨v, rfl, hr, hf, _⟩
      obtain ⟨p, cap, rfl⟩ := hr.shape
      go_upto_region 7 with fail
      have hb := alloc_new w1 (.cells #[.int .i64 id, .string n, .bool true] 44)
      have hfa := Fr.alloc (fun _ => False) w1 (.cells #[.int .i64 id, .string n, .bool true] 44)
      generalize w1.alloc (.cells #[.int .i64 id, .string n, .bool true] 44) = W2 at *
      generalize w1.heap.size = B at *
      have Hr := Lib.hid (hr.kept hfa (fun _ _ h => h))
      have Hf := Lib.hid (hf.trans hfa (fun _ _ h => h))
      have Hb := Lib.hid hb
      clear ht hr hf hn4 hb hfa
      go_wp2_with fail
      go_loopg [11] l.length (fun gk s wr => ∃ i : Nat, s = .int .i64 i ∧ i ≤ l.length ∧ gk = l.length - i ∧ (∀ k y, k < i → l[k]? = some y → y ≠ ⟨id, n, true⟩) ∧ Fr (fun _ => False) W2 wr)
      case atStart => exact ⟨0, rfl, Nat.zero_le _, rfl, fun k y h => absurd h (by omega), Fr.refl _ _⟩
      case round =>
        obtain ⟨i, rfl, hil, hgk, hpre, hf2⟩ := hrel
        have Hgk := Lib.hid hgk
        have Hpre := Lib.hid hpre
        clear hgk hpre
        by_cases hlt : i < l.length
        · have hlt2 : (i : Int) < (l.length : Int) := by omega
          have hx : l[i]? = some l[i] := List.getElem?_eq_getElem hlt
          generalize l[i] = x at hx
          obtain ⟨g, rfl, x1, x2, x3⟩ := (Hr.out.kept hf2 (fun _ _ h => h)).at hx
          have c10 := rowC ((hf2.block _ (lt_of_heap Hb.out) (fun h => h)).trans Hb.out)
          have heq := run_eq_top x.id id x.name n x.fixed true
          have hfq : ∀ nq, Fr (fun _ => False) W2 (wr.drewN nq) := fun nq => hf2.trans (Fr.drewN (fun _ => False) _ _) (fun _ _ h => h)
          have Hfq := Lib.hid hfq
          have Hx := Lib.hid hx
          clear hfq hx
          rw [show (x.id == id && (x.name.toList == n.toList && x.fixed == true)) = decide (x = ⟨id, n, true⟩) from Bool.eq_iff_iff.2 (by rw [top_eq, decide_eq_true_iff])] at heq
          by_cases hc : x = ⟨id, n, true⟩
          · rw [decide_eq_true hc] at heq
            have hin : (⟨id, n, true⟩ : Top) ∈ l := by rw [← hc]; exact List.mem_of_getElem? Hx.out
            have e : rpreF (S.get c) n id = (0, S.get c) := by unfold rpreF; rw [if_pos Hok.out, if_neg Hid'.out, ← Hgl.out, if_pos hin]
            have He := Lib.hid e
            clear hc hin e
            go_upto_region 10 with fail
            go_quiet (fail)
            go_wp2_with fail
            go_ret
            exact Hend.out _ _ ⟨S, by rw [He.out]; exact Hsame.out _ (Hf.out.trans (Hfq.out _) (fun _ _ h => h))⟩ (by rw [He.out])
          · rw [decide_eq_false hc] at heq
            have hpre2 : ∀ k y, k < i + 1 → l[k]? = some y → y ≠ ⟨id, n, true⟩ := fun k e hk he => by
              by_cases hki : k = i
              · subst hki
                rw [Hx.out] at he
                cases he
                exact hc
              · exact Hpre.out k e (by omega) he
            have Hpre2 := Lib.hid hpre2
            clear hc hpre2
            go_upto_region 10 with fail
            go_quiet (fail)
            go_wp2_with fail
            go_roundg (l.length - (i + 1))
            case measure => have := Hgk.out; omega
            case rel => exact ⟨i + 1, rfl, by omega, rfl, Hpre2.out, Hfq.out _⟩
        · have hlt2 : ¬ (i : Int) < (l.length : Int) := by omega
          have hnin : (⟨id, n, true⟩ : Top) ∉ l := fun hin => by
            obtain ⟨k, hk⟩ := List.getElem?_of_mem hin
            exact Hpre.out k _ (by have := (List.getElem?_eq_some_iff.1 hk).1; omega) hk rfl
          have Hnin := Lib.hid hnin
          have Hf2 := Lib.hid hf2
          have Hr2 := Lib.hid (Hr.out.kept hf2 (fun _ _ h => h))
          have c10 := rowC ((hf2.block _ (lt_of_heap Hb.out) (fun h => h)).trans Hb.out)
          clear hnin hf2
          go_wp2_with fail
          go_loop [12] (fun s => ∃ j : Nat, s = .int .i64 j ∧ j ≤ l.length ∧ ∀ k y, k < j → l[k]? = some y → (y.id == id || decide (y.name = n)) = false) (fun s => l.length - (intOf s).toNat)
          case atStart => exact ⟨0, rfl, Nat.zero_le _, fun k e h => absurd h (by omega)⟩
          case round =>
            obtain ⟨j, rfl, hjl, hpre⟩ := hrel
            have Hpre := Lib.hid hpre
            clear hpre
            by_cases hlt : j < l.length
            · have hlt2 : (j : Int) < (l.length : Int) := by omega
              have hx : l[j]? = some l[j] := List.getElem?_eq_getElem hlt
              generalize l[j] = x at hx
              obtain ⟨g, rfl, x1, x2, x3⟩ := Hr2.out.at hx
              have hmb := beq_toList x.name n
              have Hx := Lib.hid hx
              clear hx
              have hfound : (x.id == id || decide (x.name = n)) = true → rpreF (S.get c) n id = (16, S.get c) := fun hb => by
                unfold rpreF
                rw [if_pos Hok.out, if_neg Hid'.out, ← Hgl.out, if_neg Hnin.out, if_pos (List.any_eq_true.2 ⟨x, List.mem_of_getElem? Hx.out, hb⟩)]
              have Hfound := Lib.hid hfound
              clear hfound
              have hq : (x.id == id) = true ∨ (x.id == id) = false := by cases (x.id == id) <;> simp
              rcases hq with hq | hq
              · have He := Lib.hid (Hfound.out (by rw [hq]; rfl))
                go_wp2_with fail
                go_ret
                exact Hend.out _ _ ⟨S, by rw [He.out]; exact Hsame.out _ (Hf.out.trans Hf2.out (fun _ _ h => h))⟩ (by rw [He.out])
              · by_cases hc : x.name = n
                · rw [decide_eq_true hc] at hmb
                  have He := Lib.hid (Hfound.out (by rw [hq, decide_eq_true hc]; rfl))
                  clear hc
                  go_wp2_with fail
                  go_ret
                  exact Hend.out _ _ ⟨S, by rw [He.out]; exact Hsame.out _ (Hf.out.trans Hf2.out (fun _ _ h => h))⟩ (by rw [He.out])
                · rw [decide_eq_false hc] at hmb
                  have hpre2 : ∀ k y, k < j + 1 → l[k]? = some y → (y.id == id || decide (y.name = n)) = false := fun k e hk he => by
                    by_cases hki : k = j
                    · subst hki
                      rw [Hx.out] at he
                      cases he
                      rw [hq, decide_eq_false hc]; rfl
                    · exact Hpre.out k e (by omega) he
                  have Hpre2 := Lib.hid hpre2
                  clear hc hpre2
                  go_wp2_with fail
                  go_round
                  case rel => exact ⟨j + 1, rfl, by omega, Hpre2.out⟩
                  case measure =>
                    simp only [intOf]
                    omega
            · have hlt2 : ¬ (j : Int) < (l.length : Int) := by omega
              have hnany : ¬ l.any (fun t => t.id == id || decide (t.name = n)) = true := fun ha => by
                obtain ⟨y, hy, hb⟩ := List.any_eq_true.1 ha
                obtain ⟨k, hk⟩ := List.getElem?_of_mem hy
                have := Hpre.out k y (by have := (List.getElem?_eq_some_iff.1 hk).1; omega) hk
                rw [hb] at this
                cases this
              have e : rpreF (S.get c) n id = (0, ins l ⟨id, n, true⟩) := by unfold rpreF; rw [if_pos Hok.out, if_neg Hid'.out, ← Hgl.out, if_neg Hnin.out, if_neg hnany]
              have He := Lib.hid e
              have hput : Calls Tryz.prog 36 #[.slice p l.length cap, .agg #[.int .i64 id, .string n, .bool true]] wr (PutEnd wr (ins l ⟨id, n, true⟩)) := rput_walk wr _ l ⟨id, n, true⟩ Hr2.out (by omega)
              clear hnany e
              generalize ins l ⟨id, n, true⟩ = l2 at *
              go_wp2_with fail
              refine hput.mono ?_
              rintro e w2 ⟨v2, rfl, hr2, hf2, hk2⟩
              have hcall := Hset.out w2 v2 _ ((Hf.out.trans Hf2.out (fun _ _ h => h)).trans hf2 (fun _ _ h => h)) hr2 (fun k hk => by have := hk2 k hk; have := Hf.out.size; have := Hf2.out.size; omega)
              clear hput hr2 hf2 hk2
              go_wp2_with fail
              refine hcall.mono ?_
              rintro e w3 ⟨rfl, hS3⟩
              have HS3 := Lib.hid hS3
              clear hS3 hcall
              go_wp2_with fail
              go_ret
              exact Hend.out _ _ (by rw [He.out]; exact HS3.out) (by rw [He.out])

theorem cell_one_new (w : World) (x : Value) (t : TypeId) : ∀ j u, [x][j]? = some u → (w.alloc (.cells #[x] t)).cell? ((⟨w.heap.size, 0, none⟩ : Addr).add j) = some u := by
  intro j u hj
  have h := rowC (alloc_new w (.cells #[x] t)) j
  rw [addr_add, h]
  exact (List.getElem?_toArray ..).trans hj
theorem rowS_of_own {w : World} {base : Nat} {v : Value} {l : List ByteArray} (h : w.ownsRow base 9 1 v l.length (l.map Value.string)) (hn : l = [] → v = .slice none 0 0) : RowS w v l := by
  by_cases e : l = []
  · exact .inl ⟨hn e, e⟩
  · have hpos := List.length_pos_iff.2 e
    rcases h.2 with ⟨_, h0⟩ | ⟨g, cap, cur, rfl, hbase, hb, h1, h2, h3, h4⟩
    · omega
    · refine .inr ⟨g, cap, rfl, e, (Array.getElem?_eq_some_iff.1 hb).1, fun i t hi => ?_⟩
      have hil := (List.getElem?_eq_some_iff.1 hi).1
      rw [h.cellAt i (by omega), List.getElem?_map, hi]
      rfl

def RCliEnd (w : World) (S : Rr) (e : Ending) (w' : World) : Prop := ∃ v, e = .returned v ∧ RowS w' v (S.es.map (·.c)) ∧ Fr (fun _ => False) w w'
set_option maxRecDepth 100000 in
set_option maxHeartbeats 2000000 in
theorem rclients_walk (w : World) (S : Rr) (h : RrOk w S) : Calls Tryz.prog 26 #[ptrV S.ob] w (RCliEnd w S) := by
  obtain ⟨i0, hi, hz0, hz1, hz2⟩ := info_parts Tryz.infoString
  obtain ⟨p, cap, hv⟩ := h.at'.row.shape
  have hreg := h.at'.reg
  have hob := lt_of_heap hreg
  have hrow := h.at'.row
  have hN := h.n
  rw [hv] at hreg hrow
  have Hreg := Lib.hid hreg
  have HrowS := Lib.hid hrow
  clear h hv hreg hrow
  unfold ptrV
  go_enter Tryz.func26, Tryz.ntmps26
  go_wp2_with fail
  go_loopg [3, 4] S.es.length (fun gk o s wr => ∃ i : Nat, s = .int .i64 i ∧ i ≤ S.es.length ∧ gk = S.es.length - i ∧ wr.ownsRow w.heap.size 9 1 o ((S.es.take i).map (·.c)).length (((S.es.take i).map (·.c)).map Value.string) ∧ ((S.es.take i).map (·.c) = [] → o = .slice none 0 0) ∧ Fr (fun _ => False) w wr)
  case atStart => exact ⟨0, rfl, Nat.zero_le _, rfl, World.ownsRow_nil _ _ _ _, fun _ => rfl, Fr.refl _ _⟩
  case round =>
    obtain ⟨i, rfl, hil, hgk, hrow, hnil, hf⟩ := hrel
    have Hgk := Lib.hid hgk
    have Hnil := Lib.hid hnil
    clear hgk hnil
    have c0 := rowC ((hf.block _ hob (fun h => h)).trans Hreg.out)
    by_cases hlt : i < S.es.length
    · have hlt2 : (i : Int) < (S.es.length : Int) := by omega
      have hx : S.es[i]? = some S.es[i] := List.getElem?_eq_getElem hlt
      generalize S.es[i] = x at hx
      obtain ⟨g, rfl, x1, x2⟩ := (HrowS.out.kept hf (fun _ _ h => h)).at hx
      have htk := take_succ_get hx
      have Htk := Lib.hid htk
      have hol : ((S.es.take i).map (·.c)).length ≤ 900 := by
        rw [List.length_map, List.length_take]
        omega
      clear hx htk x2
      generalize hout : (S.es.take i).map (·.c) = out at *
      have Hout := Lib.hid hout
      clear hout
      go_wp2_with (at_builtin; refine wpList_append_own _ rfl _ _ 48 rfl w.heap.size 9 i0 (.string ⟨#[]⟩) 1 16 Tryz.underlying48 hi hz0 hz1 hz2 rfl (by decide) _ _ _ rfl (hrow.alloc _) ⟨wr.heap.size, 0, none⟩ 1 1 [.string x.c] rfl rfl (cell_one_new _ _ _) (by simp [Value.oneCell']) (by unfold maxLen; omega) (by omega) (by have := hf.size; simp; omega) ?_; intro v1 w2 hown1 hgrow1 hnil1)
      have hf1 : Fr (fun _ => False) w w2 := (hf.trans (Fr.alloc (fun _ => False) wr (.cells #[.string x.c] 9)) (fun _ _ h => h)).own (hrow.alloc _) hgrow1
      go_roundg (S.es.length - (i + 1))
      case measure => have := Hgk.out; omega
      case rel =>
        have e : (S.es.take (i + 1)).map (·.c) = out ++ [x.c] := by rw [Htk.out, List.map_append, Hout.out]; rfl
        refine ⟨i + 1, rfl, by omega, rfl, ?_, fun e2 => ?_, hf1⟩
        · rw [e, List.map_append]
          have e0 : (out ++ [x.c]).length = out.length + 1 := by simp
          rw [e0]
          exact hown1
        · rw [e] at e2; simp at e2
    · have hlt2 : ¬ (i : Int) < (S.es.length : Int) := by omega
      have hil2 : i = S.es.length := by omega
      subst hil2
      rw [List.take_length] at hrow Hnil
      have hrs := rowS_of_own hrow Hnil.out
      have Hrs := Lib.hid hrs
      have Hf := Lib.hid hf
      clear hrow hrs hf
      go_wp2_with fail
      go_ret
      exact ⟨_, rfl, Hrs.out, Hf.out⟩
end Go.Proofs.YtfgnipcegnoagaaGreat
