/- The reference registry: Name, ID, Fixed, Clear, Clients. -/
import Derived.Test.YtfgnipcegnoagaaGreatRr5
namespace Go.Proofs.YtfgnipcegnoagaaGreat
open Go.RowKit Go.MapKept

theorem find_first {α : Type} {p : α → Bool} {l : List α} {i : Nat} {x : α} (hx : l[i]? = some x) (hp : p x = true) (hpre : ∀ k y, k < i → l[k]? = some y → p y = false) : l.find? p = some x := by
  induction l generalizing i with
  | nil => simp at hx
  | cons y l ih =>
    cases i with
    | zero =>
      simp at hx
      subst hx
      simp [hp]
    | succ i =>
      have h0 := hpre 0 y (by omega) rfl
      rw [List.find?_cons, h0]
      exact ih (by simpa using hx) (fun k z hk hz => hpre (k + 1) z (by omega) (by simpa using hz))
theorem find_no {α : Type} {p : α → Bool} {l : List α} (hpre : ∀ k y, k < l.length → l[k]? = some y → p y = false) : l.find? p = none :=
  List.find?_eq_none.2 fun y hy => by
    obtain ⟨k, hk⟩ := List.getElem?_of_mem hy
    rw [hpre k y (List.getElem?_eq_some_iff.1 hk).1 hk]
    simp

structure RrOk (w : World) (S : Rr) : Prop where
  at' : S.At w
  n : S.es.length ≤ 900
  l : ∀ e ∈ S.es, e.l.length ≤ 900
theorem RrOk.still {w w' : World} {S : Rr} (h : RrOk w S) (hf : Fr (fun _ => False) w w') : RrOk w' S := ⟨h.at'.still hf, h.n, h.l⟩
theorem RrOk.len {w : World} {S : Rr} (h : RrOk w S) (c : ByteArray) : (S.get c).length ≤ 900 := by
  unfold Rr.get entGet
  split
  · rename_i e he
    exact h.l e (List.mem_of_find?_eq_some he)
  · exact Nat.zero_le _
theorem RrOk.topics {w : World} {S : Rr} (h : RrOk w S) (c : ByteArray) : Calls Tryz.prog 23 #[ptrV S.ob, .string c] w (PutEnd w (S.get c)) :=
  rtopics_walk w S c h.at' (by have := h.n; omega) (fun e he => by have := h.l e he; omega)

set_option maxRecDepth 100000 in
theorem rname_walk (w : World) (S : Rr) (c : ByteArray) (id : Int) (h : RrOk w S) :
    Calls Tryz.prog 16 #[ptrV S.ob, .string c, .int .i64 id] w fun e w' => e = nameRes (S.get c) id ∧ Fr (fun _ => False) w w' := by
  have ht := h.topics c
  have hl := h.len c
  generalize S.get c = l at *
  clear h
  unfold ptrV at *
  go_enter Tryz.func16, Tryz.ntmps16
  go_wp2_with fail
  refine ht.mono ?_
  rintro e w1 ⟨v, rfl, hr, hf, _⟩
  obtain ⟨p, cap, rfl⟩ := hr.shape
  have Hr := Lib.hid hr
  have Hf := Lib.hid hf
  clear ht hr hf
  go_wp2_with fail
  go_loop [9] (fun s => ∃ i : Nat, s = .int .i64 i ∧ i ≤ l.length ∧ ∀ k y, k < i → l[k]? = some y → (y.id == id) = false) (fun s => l.length - (intOf s).toNat)
  case atStart => exact ⟨0, rfl, Nat.zero_le _, fun k e h => absurd h (by omega)⟩
  case round =>
    obtain ⟨i, rfl, hil, hpre⟩ := hrel
    have Hpre := Lib.hid hpre
    clear hpre
    by_cases hlt : i < l.length
    · have hlt2 : (i : Int) < (l.length : Int) := by omega
      have hx : l[i]? = some l[i] := List.getElem?_eq_getElem hlt
      generalize l[i] = x at hx
      obtain ⟨g, rfl, x1, x2, x3⟩ := Hr.out.at hx
      have Hx := Lib.hid hx
      clear hx
      have hq : (x.id == id) = true ∨ (x.id == id) = false := by cases (x.id == id) <;> simp
      rcases hq with hq | hq
      · have hfd := Lib.hid (find_first (p := fun t => t.id == id) Hx.out hq Hpre.out)
        go_wp2_with fail
        go_ret2
        exact ⟨by unfold nameRes byId; rw [hfd.out]; rfl, Hf.out⟩
      · have Hp := Lib.hid hq
        go_wp2_with fail
        go_round
        case rel => exact ⟨i + 1, rfl, by omega, fun k e hk he => by
          by_cases hki : k = i
          · subst hki
            rw [Hx.out] at he
            cases he
            exact Hp.out
          · exact Hpre.out k e (by omega) he⟩
        case measure =>
          simp only [intOf]
          omega
    · have hlt2 : ¬ (i : Int) < (l.length : Int) := by omega
      have hno := Lib.hid (find_no (l := l) fun k y hk hy => Hpre.out k y (by omega) hy)
      go_wp2
      go_ret2
      exact ⟨by unfold nameRes byId; rw [hno.out]; rfl, Hf.out⟩

set_option maxRecDepth 100000 in
theorem rid_walk (w : World) (S : Rr) (c : ByteArray) (n : ByteArray) (h : RrOk w S) :
    Calls Tryz.prog 18 #[ptrV S.ob, .string c, .string n] w fun e w' => e = idRes (S.get c) n ∧ Fr (fun _ => False) w w' := by
  have ht := h.topics c
  have hl := h.len c
  generalize S.get c = l at *
  clear h
  unfold ptrV at *
  go_enter Tryz.func18, Tryz.ntmps18
  go_wp2_with fail
  refine ht.mono ?_
  rintro e w1 ⟨v, rfl, hr, hf, _⟩
  obtain ⟨p, cap, rfl⟩ := hr.shape
  have Hr := Lib.hid hr
  have Hf := Lib.hid hf
  clear ht hr hf
  go_wp2_with fail
  go_loop [9] (fun s => ∃ i : Nat, s = .int .i64 i ∧ i ≤ l.length ∧ ∀ k y, k < i → l[k]? = some y → decide (y.name = n) = false) (fun s => l.length - (intOf s).toNat)
  case atStart => exact ⟨0, rfl, Nat.zero_le _, fun k e h => absurd h (by omega)⟩
  case round =>
    obtain ⟨i, rfl, hil, hpre⟩ := hrel
    have Hpre := Lib.hid hpre
    clear hpre
    by_cases hlt : i < l.length
    · have hlt2 : (i : Int) < (l.length : Int) := by omega
      have hx : l[i]? = some l[i] := List.getElem?_eq_getElem hlt
      generalize l[i] = x at hx
      obtain ⟨g, rfl, x1, x2, x3⟩ := Hr.out.at hx
      have Hx := Lib.hid hx
      clear hx
      have hmb := beq_toList x.name n
      by_cases hc : x.name = n
      · rw [decide_eq_true hc] at hmb
        have hfd := Lib.hid (find_first (p := fun t => decide (t.name = n)) Hx.out (decide_eq_true hc) Hpre.out)
        clear hc
        go_wp2_with fail
        go_ret2
        exact ⟨by unfold idRes byName; rw [hfd.out]; rfl, Hf.out⟩
      · rw [decide_eq_false hc] at hmb
        have Hp := Lib.hid (decide_eq_false hc)
        clear hc
        go_wp2_with fail
        go_round
        case rel => exact ⟨i + 1, rfl, by omega, fun k e hk he => by
          by_cases hki : k = i
          · subst hki
            rw [Hx.out] at he
            cases he
            exact Hp.out
          · exact Hpre.out k e (by omega) he⟩
        case measure =>
          simp only [intOf]
          omega
    · have hlt2 : ¬ (i : Int) < (l.length : Int) := by omega
      have hno := Lib.hid (find_no (l := l) fun k y hk hy => Hpre.out k y (by omega) hy)
      go_wp2
      go_ret2
      exact ⟨by unfold idRes byName; rw [hno.out]; rfl, Hf.out⟩

def fixRes (l : List Top) (id : Int) : Ending := .returned (.bool (match byId l id with | some t => t.fixed | none => false))

set_option maxRecDepth 100000 in
theorem rfixed_walk (w : World) (S : Rr) (c : ByteArray) (id : Int) (h : RrOk w S) :
    Calls Tryz.prog 20 #[ptrV S.ob, .string c, .int .i64 id] w fun e w' => e = fixRes (S.get c) id ∧ Fr (fun _ => False) w w' := by
  have ht := h.topics c
  have hl := h.len c
  generalize S.get c = l at *
  clear h
  unfold ptrV at *
  go_enter Tryz.func20, Tryz.ntmps20
  go_wp2_with fail
  refine ht.mono ?_
  rintro e w1 ⟨v, rfl, hr, hf, _⟩
  obtain ⟨p, cap, rfl⟩ := hr.shape
  have Hr := Lib.hid hr
  have Hf := Lib.hid hf
  clear ht hr hf
  go_wp2_with fail
  go_loop [8] (fun s => ∃ i : Nat, s = .int .i64 i ∧ i ≤ l.length ∧ ∀ k y, k < i → l[k]? = some y → (y.id == id) = false) (fun s => l.length - (intOf s).toNat)
  case atStart => exact ⟨0, rfl, Nat.zero_le _, fun k e h => absurd h (by omega)⟩
  case round =>
    obtain ⟨i, rfl, hil, hpre⟩ := hrel
    have Hpre := Lib.hid hpre
    clear hpre
    by_cases hlt : i < l.length
    · have hlt2 : (i : Int) < (l.length : Int) := by omega
      have hx : l[i]? = some l[i] := List.getElem?_eq_getElem hlt
      generalize l[i] = x at hx
      obtain ⟨g, rfl, x1, x2, x3⟩ := Hr.out.at hx
      have Hx := Lib.hid hx
      clear hx
      have hq : (x.id == id) = true ∨ (x.id == id) = false := by cases (x.id == id) <;> simp
      rcases hq with hq | hq
      · have hfd := Lib.hid (find_first (p := fun t => t.id == id) Hx.out hq Hpre.out)
        go_wp2_with fail
        go_ret
        exact ⟨by unfold fixRes byId; rw [hfd.out]; rfl, Hf.out⟩
      · have Hp := Lib.hid hq
        go_wp2_with fail
        go_round
        case rel => exact ⟨i + 1, rfl, by omega, fun k e hk he => by
          by_cases hki : k = i
          · subst hki
            rw [Hx.out] at he
            cases he
            exact Hp.out
          · exact Hpre.out k e (by omega) he⟩
        case measure =>
          simp only [intOf]
          omega
    · have hlt2 : ¬ (i : Int) < (l.length : Int) := by omega
      have hno := Lib.hid (find_no (l := l) fun k y hk hy => Hpre.out k y (by omega) hy)
      go_wp2
      go_ret
      exact ⟨by unfold fixRes byId; rw [hno.out]; rfl, Hf.out⟩
end Go.Proofs.YtfgnipcegnoagaaGreat
