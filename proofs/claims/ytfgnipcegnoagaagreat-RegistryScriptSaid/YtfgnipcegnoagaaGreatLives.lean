/- The chapter's example. -/
import Derived.Test.YtfgnipcegnoagaaGreatSame
namespace Go.Proofs.YtfgnipcegnoagaaGreat
open Go.RowKit Go.MapKept

/-- A registry in a world, as it is carried from call to call. -/
structure RegAt (w : World) (R : Rg) : Prop where
  at' : R.At w
  ok : R.Ok
  live : R.Live

/-- From w to w', R' behind R. (What lay outside R has not turned.) -/
structure Nxt (w w' : World) (R R' : Rg) (c : ByteArray) (l : List Top) : Prop extends RegAt w' R' where
  step : Step R R' w w'
  others : ∀ c', c' ≠ c → R'.get c' = R.get c'
  self : R'.get c = l

theorem reg_to (w : World) (R : Rg) (c n : ByteArray) (l : List Top) (o : RegOut) (h : RegAt w R) (hg : R.get c = l) (hn : n.size ≤ 9223372036854775807) (ho : regF l n = o) :
    Calls Tryz.prog 13 #[ptrV R.rb, .string c, .string n] w fun e w' => e = .returned (.tuple #[.int .i64 o.id, .bool o.fresh, .int .i64 o.er]) ∧ ∃ R', Nxt w w' R R' c o.tops :=
  (register_f w R c n hn h.at' h.ok h.live).mono fun _ _ ⟨he, R', hx⟩ => by
    rw [hg, ho] at he hx
    exact ⟨he, R', ⟨hx.at', hx.ok, hx.live⟩, hx.step, hx.others, hx.self⟩
theorem pre_to (w : World) (R : Rg) (c n : ByteArray) (id : Int) (l : List Top) (o : Int × List Top) (h : RegAt w R) (hg : R.get c = l) (hn : n.size ≤ 9223372036854775807) (ho : preF l n id = o) :
    Calls Tryz.prog 9 #[ptrV R.rb, .string c, .string n, .int .i64 id] w fun e w' => e = .returned (.int .i64 o.1) ∧ ∃ R', Nxt w w' R R' c o.2 :=
  (predefine_f w R c n id hn h.at' h.ok h.live).mono fun _ _ ⟨he, R', hx⟩ => by
    rw [hg, ho] at he hx
    exact ⟨he, R', ⟨hx.at', hx.ok, hx.live⟩, hx.step, hx.others, hx.self⟩
theorem clear_to (w : World) (R : Rg) (c : ByteArray) (l : List Top) (o : Int × List Top) (h : RegAt w R) (hg : R.get c = l) (ho : clearF l = o) :
    Calls Tryz.prog 11 #[ptrV R.rb, .string c] w fun e w' => e = .returned (.int .i64 o.1) ∧ ∃ R', Nxt w w' R R' c o.2 :=
  (clear_f w R c h.at' h.ok h.live).mono fun _ _ ⟨he, R', hx⟩ => by
    rw [hg, ho] at he hx
    exact ⟨he, R', ⟨hx.at', hx.ok, hx.live⟩, hx.step, hx.others, hx.self⟩
theorem RegAt.still {w w' : World} {R : Rg} (h : RegAt w R) (hf : Fr (fun _ => False) w w') : RegAt w' R := ⟨h.at'.still hf, h.ok, h.live⟩
theorem new_to (w : World) : Calls Tryz.prog 6 #[] w fun e w' => ∃ R, e = .returned (ptrV R.rb) ∧ RegAt w' R ∧ (∀ c, R.get c = []) ∧ Fr (fun _ => False) w w' ∧ ∀ k, R.fp k → w.heap.size ≤ k :=
  (new_rg w).mono fun _ _ ⟨R, h1, h2, h3, h4, h5, h6, h7⟩ => ⟨R, h1, ⟨h2, h3, h4⟩, fun c => by simp [Rg.get, h5, mget], h6, h7⟩

/-- What is behind a chain of calls on registries that were made on the way: nothing of before has turned. -/
theorem Step.fresh {w0 w w' : World} {R R' : Rg} (h0 : Fr (fun _ => False) w0 w) (hR : ∀ k, R.fp k → w0.heap.size ≤ k) (h : Step R R' w w') : Fr (fun _ => False) w0 w' ∧ ∀ k, R'.fp k → w0.heap.size ≤ k :=
  ⟨h0.trans (h.fr.mono (fun k _ hk => hR k hk)) (fun k hk h => absurd h (by omega)), fun k hk => by
    rcases h.fp k hk with h1 | h1
    · exact hR k h1
    · exact Nat.le_trans h0.size h1⟩

set_option maxRecDepth 100000 in
theorem lives_walk (w : World) : Calls Tryz.prog 4 #[] w fun e w' => e = .returned (.bool true) ∧ Fr (fun _ => False) w w' := by
  have hnew := new_to w
  obtain ⟨l1, l2, f1, f2, f3⟩ : ∃ l1 l2 : List Top, preF [] ⟨#[97]⟩ 1 = (0, l1) ∧ regF l1 ⟨#[98]⟩ = ⟨2, true, 0, l2⟩ ∧ regF l2 ⟨#[98]⟩ = ⟨2, false, 0, l2⟩ :=
    ⟨[⟨1, ⟨#[97]⟩, true⟩], [⟨1, ⟨#[97]⟩, true⟩, ⟨2, ⟨#[98]⟩, false⟩], by kernel_rfl, by kernel_rfl, by kernel_rfl⟩
  have s1 : ByteArray.size ⟨#[97]⟩ ≤ 9223372036854775807 := by simp [ByteArray.size]
  have s2 : ByteArray.size ⟨#[98]⟩ ≤ 9223372036854775807 := by simp [ByteArray.size]
  have c1 := fun w R (h : RegAt w R) hg => pre_to w R ⟨#[99]⟩ ⟨#[97]⟩ 1 _ _ h hg s1 f1
  have c2 := fun w R (h : RegAt w R) hg => reg_to w R ⟨#[99]⟩ ⟨#[98]⟩ _ _ h hg s2 f2
  have c3 := fun w R (h : RegAt w R) hg => reg_to w R ⟨#[99]⟩ ⟨#[98]⟩ _ _ h hg s2 f3
  have C1 := Lib.hid c1
  have C2 := Lib.hid c2
  have C3 := Lib.hid c3
  clear f1 f2 f3 s1 s2 c1 c2 c3
  go_enter Tryz.func4, Tryz.ntmps4
  go_wp2_with (go_at_call 6; refine hnew.mono ?_; rintro e w1 ⟨R, rfl, hR, hR0, fr1, fp1⟩)
  have D1 := C1.out w1 R hR (hR0 _)
  refine D1.mono ?_
  rintro e w2 ⟨rfl, R2, n2⟩
  have N2 := Lib.hid n2
  clear n2 D1 hnew C1
  go_wp2_with fail
  have e2 := N2.out.step.rb
  have D2 := C2.out w2 R2 N2.out.toRegAt N2.out.self
  rw [e2] at D2
  refine D2.mono ?_
  rintro e w3 ⟨rfl, R3, n3⟩
  have N3 := Lib.hid n3
  have e3 := n3.step.rb.trans e2
  have E2 := Lib.hid e2
  clear n3 D2 C2 e2
  go_wp2_with fail
  have D3 := C3.out w3 R3 N3.out.toRegAt N3.out.self
  rw [e3] at D3
  refine D3.mono ?_
  rintro e w4 ⟨rfl, R4, n4⟩
  have N4 := Lib.hid n4
  clear n4 D3 C3 e3
  go_wp2_with fail
  go_ret
  refine ⟨rfl, ?_⟩
  obtain ⟨q1, q2⟩ := Step.fresh fr1 fp1 N2.out.step
  obtain ⟨q3, q4⟩ := Step.fresh q1 q2 N3.out.step
  exact (Step.fresh q3 q4 N4.out.step).1
end Go.Proofs.YtfgnipcegnoagaaGreat
