/- RegistryNames, call by call. -/
import Derived.Test.YtfgnipcegnoagaaLaw
namespace Go.Proofs.Ytfgnipcegnoagaa
open Go.RowKit Go.MapKept

def gg (lb lc : List Top) : ByteArray → List Top := fun x => if x = ⟨#[98]⟩ then lb else if x = ⟨#[99]⟩ then lc else []
/-- Two clients: b and c. -/
structure Two (w0 w : World) (rb : Nat) (R : Rg) (lb lc : List Top) : Prop where
  reg : RegAt w R
  rb : R.rb = rb
  get : ∀ x, R.get x = gg lb lc x
  fr : Fr (fun _ => False) w0 w
  fp : ∀ k, R.fp k → w0.heap.size ≤ k
theorem gg_b (lb lc : List Top) : gg lb lc ⟨#[98]⟩ = lb := if_pos rfl
theorem ne_cb : (⟨#[99]⟩ : ByteArray) ≠ ⟨#[98]⟩ := by decide
theorem gg_c (lb lc : List Top) : gg lb lc ⟨#[99]⟩ = lc := by unfold gg; rw [if_neg ne_cb, if_pos rfl]
theorem gg_d (lb lc : List Top) : gg lb lc ⟨#[100]⟩ = [] := by unfold gg; rw [if_neg (by decide), if_neg (by decide)]
theorem gg_upd_c (lb lc l : List Top) : ∀ x, upd (gg lb lc) ⟨#[99]⟩ l x = gg lb l x := fun x => by
  unfold upd gg
  by_cases h : x = ⟨#[99]⟩
  · subst h; rw [if_pos rfl, if_neg ne_cb, if_pos rfl]
  · rw [if_neg h, if_neg h, if_neg h]
theorem gg_upd_b (lb lc l : List Top) : ∀ x, upd (gg lb lc) ⟨#[98]⟩ l x = gg l lc x := fun x => by
  unfold upd gg
  by_cases h : x = ⟨#[98]⟩
  · rw [if_pos h, if_pos h]
  · rw [if_neg h, if_neg h, if_neg h]
variable {w0 w : World} {rb : Nat} {R : Rg} {lb lc : List Top}
theorem Two.nxt_c {w' : World} {R' : Rg} {l : List Top} (h : Two w0 w rb R lb lc) (n : Nxt w w' R R' ⟨#[99]⟩ l) : Two w0 w' rb R' lb l ∧ Step R R' w w' :=
  have q := Step.fresh h.fr h.fp n.step
  ⟨⟨n.toRegAt, n.step.rb.trans h.rb, fun x => (n.get_upd h.get x).trans (gg_upd_c _ _ _ x), q.1, q.2⟩, n.step⟩
theorem Two.nxt_b {w' : World} {R' : Rg} {l : List Top} (h : Two w0 w rb R lb lc) (n : Nxt w w' R R' ⟨#[98]⟩ l) : Two w0 w' rb R' l lc ∧ Step R R' w w' :=
  have q := Step.fresh h.fr h.fp n.step
  ⟨⟨n.toRegAt, n.step.rb.trans h.rb, fun x => (n.get_upd h.get x).trans (gg_upd_b _ _ _ x), q.1, q.2⟩, n.step⟩
theorem Two.still {w' : World} (h : Two w0 w rb R lb lc) (hf : Fr (fun _ => False) w w') : Two w0 w' rb R lb lc :=
  ⟨h.reg.still hf, h.rb, h.get, h.fr.trans hf (fun _ _ h => h), h.fp⟩
theorem two_new (w0 w : World) (hf : Fr (fun _ => False) w0 w) : Calls Try.prog 9 #[] w fun e w' => ∃ R rb, e = .returned (ptrV rb) ∧ Two w0 w' rb R [] [] :=
  (new_to w).mono fun _ _ ⟨R, he, h, hg, h2, h3⟩ => ⟨R, R.rb, he, h, rfl, fun x => by rw [hg]; unfold gg; simp, hf.trans h2 (fun _ _ h => h), fun k hk => Nat.le_trans hf.size (h3 k hk)⟩
theorem two_reg_c (h : Two w0 w rb R lb lc) (n : ByteArray) {o : RegOut} (hn : n.size ≤ 9223372036854775807) (ho : regF lc n = o) :
    Calls Try.prog 12 #[ptrV rb, .string ⟨#[99]⟩, .string n] w fun e w' => e = .returned (.tuple #[.int .i64 o.id, .bool o.fresh, .int .i64 o.er]) ∧ ∃ R', Two w0 w' rb R' lb o.tops ∧ Step R R' w w' := by
  rw [← h.rb]
  exact (reg_to w R ⟨#[99]⟩ n _ _ h.reg ((h.get _).trans (gg_c _ _)) hn ho).mono fun _ _ ⟨he, R', hx⟩ => ⟨he, R', h.rb ▸ h.nxt_c hx⟩
theorem two_reg_b (h : Two w0 w rb R lb lc) (n : ByteArray) {o : RegOut} (hn : n.size ≤ 9223372036854775807) (ho : regF lb n = o) :
    Calls Try.prog 12 #[ptrV rb, .string ⟨#[98]⟩, .string n] w fun e w' => e = .returned (.tuple #[.int .i64 o.id, .bool o.fresh, .int .i64 o.er]) ∧ ∃ R', Two w0 w' rb R' o.tops lc ∧ Step R R' w w' := by
  rw [← h.rb]
  exact (reg_to w R ⟨#[98]⟩ n _ _ h.reg ((h.get _).trans (gg_b _ _)) hn ho).mono fun _ _ ⟨he, R', hx⟩ => ⟨he, R', h.rb ▸ h.nxt_b hx⟩
theorem two_pre_c (h : Two w0 w rb R lb lc) (n : ByteArray) (id : Int) {o : Int × List Top} (hn : n.size ≤ 9223372036854775807) (ho : preF lc n id = o) :
    Calls Try.prog 10 #[ptrV rb, .string ⟨#[99]⟩, .string n, .int .i64 id] w fun e w' => e = .returned (.int .i64 o.1) ∧ ∃ R', Two w0 w' rb R' lb o.2 ∧ Step R R' w w' := by
  rw [← h.rb]
  exact (pre_to w R ⟨#[99]⟩ n id _ _ h.reg ((h.get _).trans (gg_c _ _)) hn ho).mono fun _ _ ⟨he, R', hx⟩ => ⟨he, R', h.rb ▸ h.nxt_c hx⟩
theorem two_clear_c (h : Two w0 w rb R lb lc) {o : Int × List Top} (ho : clearF lc = o) :
    Calls Try.prog 14 #[ptrV rb, .string ⟨#[99]⟩] w fun e w' => e = .returned (.int .i64 o.1) ∧ ∃ R', Two w0 w' rb R' lb o.2 ∧ Step R R' w w' := by
  rw [← h.rb]
  exact (clear_to w R ⟨#[99]⟩ _ _ h.reg ((h.get _).trans (gg_c _ _)) ho).mono fun _ _ ⟨he, R', hx⟩ => ⟨he, R', h.rb ▸ h.nxt_c hx⟩
theorem two_clear_b (h : Two w0 w rb R lb lc) {o : Int × List Top} (ho : clearF lb = o) :
    Calls Try.prog 14 #[ptrV rb, .string ⟨#[98]⟩] w fun e w' => e = .returned (.int .i64 o.1) ∧ ∃ R', Two w0 w' rb R' o.2 lc ∧ Step R R' w w' := by
  rw [← h.rb]
  exact (clear_to w R ⟨#[98]⟩ _ _ h.reg ((h.get _).trans (gg_b _ _)) ho).mono fun _ _ ⟨he, R', hx⟩ => ⟨he, R', h.rb ▸ h.nxt_b hx⟩
theorem two_name_c (h : Two w0 w rb R lb lc) (id : Int) {o : Ending} (ho : nameRes lc id = o) : Calls Try.prog 19 #[ptrV rb, .string ⟨#[99]⟩, .int .i64 id] w fun e w' => e = o ∧ Two w0 w' rb R lb lc := by
  rw [← h.rb]
  exact (name_rg w R ⟨#[99]⟩ id h.reg.at').mono fun _ _ ⟨he, hf⟩ => ⟨by rw [he, h.get, gg_c, ho], h.rb ▸ h.still hf⟩
theorem two_name_b (h : Two w0 w rb R lb lc) (id : Int) {o : Ending} (ho : nameRes lb id = o) : Calls Try.prog 19 #[ptrV rb, .string ⟨#[98]⟩, .int .i64 id] w fun e w' => e = o ∧ Two w0 w' rb R lb lc := by
  rw [← h.rb]
  exact (name_rg w R ⟨#[98]⟩ id h.reg.at').mono fun _ _ ⟨he, hf⟩ => ⟨by rw [he, h.get, gg_b, ho], h.rb ▸ h.still hf⟩
theorem two_id_c (h : Two w0 w rb R lb lc) (n : ByteArray) {o : Ending} (ho : idRes lc n = o) : Calls Try.prog 20 #[ptrV rb, .string ⟨#[99]⟩, .string n] w fun e w' => e = o ∧ w = w' := by
  rw [← h.rb]
  exact (id_rg w R ⟨#[99]⟩ n h.reg.at').mono fun _ _ ⟨he, hf⟩ => ⟨by rw [he, h.get, gg_c, ho], hf⟩
theorem two_id_d (h : Two w0 w rb R lb lc) (n : ByteArray) {o : Ending} (ho : idRes [] n = o) : Calls Try.prog 20 #[ptrV rb, .string ⟨#[100]⟩, .string n] w fun e w' => e = o ∧ w = w' := by
  rw [← h.rb]
  exact (id_rg w R ⟨#[100]⟩ n h.reg.at').mono fun _ _ ⟨he, hf⟩ => ⟨by rw [he, h.get, gg_d, ho], hf⟩
theorem two_len_c (h : Two w0 w rb R lb lc) : Calls Try.prog 13 #[ptrV rb, .string ⟨#[99]⟩] w fun e w' => e = .returned (.int .i64 lc.length) ∧ w = w' := by
  rw [← h.rb]
  exact (len_rg w R ⟨#[99]⟩ h.reg.at').mono fun _ _ ⟨he, hf⟩ => ⟨by rw [he, h.get, gg_c], hf⟩
theorem two_fixed_c (h : Two w0 w rb R lb lc) (id : Int) {b : Bool} (ho : (match byId lc id with | some t => t.fixed | none => false) = b) : Calls Try.prog 21 #[ptrV rb, .string ⟨#[99]⟩, .int .i64 id] w fun e w' => e = .returned (.bool b) ∧ w = w' := by
  rw [← h.rb]
  exact (fixed_rg w R ⟨#[99]⟩ id h.reg.at').mono fun _ _ ⟨he, hf⟩ => ⟨by rw [he, h.get, gg_c]; exact congrArg (fun b => Ending.returned (.bool b)) ho, hf⟩
theorem two_topics_c (h : Two w0 w rb R lb lc) {l : List Top} (ho : srtT lc = l) : Calls Try.prog 16 #[ptrV rb, .string ⟨#[99]⟩] w fun e w' => ∃ v, e = .returned v ∧ Two w0 w' rb R lb lc ∧ RowF w' R v l := by
  rw [← h.rb]
  exact (topics_to w R ⟨#[99]⟩ h.reg).mono fun _ _ ⟨v, he, hr, hf, hk⟩ => ⟨v, he, h.rb ▸ h.still hf, by rw [h.get, gg_c, ho] at hr; exact RowF.made h.reg hr hk⟩
theorem two_clients (h : Two w0 w rb R lb lc) (ks : List ByteArray) (hn : ks.Nodup) (hs : ks.Pairwise (fun a b => Op.bytesLess a.toList b.toList = true)) (hk : ∀ x, x ∈ ks ↔ gg lb lc x ≠ []) (hl : ks.length ≤ 65534) :
    Calls Try.prog 22 #[ptrV rb] w fun e w' => ∃ v, e = .returned v ∧ Two w0 w' rb R lb lc ∧ RowFS w' R v ks ∧ Fr (fun _ => False) w w' := by
  rw [← h.rb]
  exact (clients_to w R h.reg ks (fun c hc => (hk c).2 (by rw [← h.get]; exact hc)) hl).mono fun _ _ ⟨v, l, he, hr, hm, hnd, hso, hf, hfr⟩ => by
    have e : l = ks := sortedS_eq hnd hn (fun c => by rw [hm, hk, h.get]) hso hs
    subst e
    exact ⟨v, he, h.rb ▸ h.still hf, RowFS.made h.reg hr hfr, hf⟩
theorem two_clients_bc (h : Two w0 w rb R lb lc) (hb : lb ≠ []) (hc : lc ≠ []) :
    Calls Try.prog 22 #[ptrV rb] w fun e w' => ∃ v, e = .returned v ∧ Two w0 w' rb R lb lc ∧ RowFS w' R v [⟨#[98]⟩, ⟨#[99]⟩] ∧ Fr (fun _ => False) w w' :=
  two_clients h _ (by decide) (by simp only [List.pairwise_cons]; decide +kernel) (fun x => by
    unfold gg
    by_cases h1 : x = ⟨#[98]⟩
    · simp [h1, hb]
    · by_cases h2 : x = ⟨#[99]⟩
      · simp [h2, hc, ne_cb]
      · simp [h1, h2]) (by decide)
theorem two_clients_c (h : Two w0 w rb R [] lc) (hc : lc ≠ []) :
    Calls Try.prog 22 #[ptrV rb] w fun e w' => ∃ v, e = .returned v ∧ Two w0 w' rb R [] lc ∧ RowFS w' R v [⟨#[99]⟩] ∧ Fr (fun _ => False) w w' :=
  two_clients h _ (by decide) (by simp) (fun x => by
    unfold gg
    by_cases h2 : x = ⟨#[99]⟩
    · simp [h2, hc, ne_cb]
    · by_cases h1 : x = ⟨#[98]⟩
      · simp [h1, ne_cb.symm]
      · simp [h1, h2]) (by decide)

theorem sameT_true {w : World} {v1 v2 : Value} {l : List Top} (h1 : RowT w v1 l) (h2 : RowT w v2 l) (hn : l.length ≤ 1000000) : Calls Try.prog 18 #[v1, v2] w fun e w' => e = .returned (.bool true) ∧ Fr (fun _ => False) w w' :=
  (sameT_walk w v1 v2 l l h1 h2 hn).mono fun _ _ ⟨he, hf⟩ => ⟨by rw [he, decide_eq_true rfl], hf⟩
theorem sameS_true {w : World} {v1 v2 : Value} {l : List ByteArray} (h1 : RowS w v1 l) (h2 : RowS w v2 l) (hn : l.length ≤ 1000000) : Calls Try.prog 23 #[v1, v2] w fun e w' => e = .returned (.bool true) ∧ Fr (fun _ => False) w w' :=
  (sameS_walk w v1 v2 l l h1 h2 hn).mono fun _ _ ⟨he, hf⟩ => ⟨by rw [he, decide_eq_true rfl], hf⟩
theorem rowT_two (w : World) (a b : Top) : RowT (w.alloc (.cells #[.int .i64 a.id, .string a.name, .bool a.fixed, .int .i64 b.id, .string b.name, .bool b.fixed] 41)) (.slice (some ⟨w.heap.size, 0, none⟩) 2 2) [a, b] := by
  have hc := rowC (alloc_new w (.cells #[.int .i64 a.id, .string a.name, .bool a.fixed, .int .i64 b.id, .string b.name, .bool b.fixed] 41))
  refine .inr ⟨_, 2, rfl, by simp, lt_of_heap (alloc_new w _), fun i t hi => ?_⟩
  match i, hi with
  | 0, hi => cases hi; exact ⟨hc 0, hc 1, hc 2⟩
  | 1, hi => cases hi; exact ⟨hc 3, hc 4, hc 5⟩
  | i + 2, hi => cases hi
theorem rowS_two (w : World) (a b : ByteArray) : RowS (w.alloc (.cells #[.string a, .string b] 9)) (.slice (some ⟨w.heap.size, 0, none⟩) 2 2) [a, b] := by
  have hc := rowC (alloc_new w (.cells #[.string a, .string b] 9))
  refine .inr ⟨_, 2, rfl, by simp, lt_of_heap (alloc_new w _), fun i t hi => ?_⟩
  match i, hi with
  | 0, hi => cases hi; exact hc 0
  | 1, hi => cases hi; exact hc 1
  | i + 2, hi => cases hi
theorem rowS_one (w : World) (a : ByteArray) : RowS (w.alloc (.cells #[.string a] 9)) (.slice (some ⟨w.heap.size, 0, none⟩) 1 1) [a] := by
  have hc := rowC (alloc_new w (.cells #[.string a] 9))
  refine .inr ⟨_, 1, rfl, by simp, lt_of_heap (alloc_new w _), fun i t hi => ?_⟩
  match i, hi with
  | 0, hi => cases hi; exact hc 0
  | i + 1, hi => cases hi


set_option maxRecDepth 100000 in
set_option maxHeartbeats 8000000 in
theorem names_walk (w : World) : Calls Try.prog 6 #[] w fun e w' => e = .returned (.bool true) ∧ Fr (fun _ => False) w w' := by
  obtain ⟨c1, c2, b1, c3, s2, f1, f2, f3, f4, f5, f6, f7, f8, f9, f10, f11, f12, f13, f14, f15, f16, n1, n2, n3, n4, n5, n6, n7⟩ : ∃ c1 c2 b1 c3 s2 : List Top, (preF ([] : List Top) ⟨#[97]⟩ 2 = (0, c1)) ∧ (regF c1 ⟨#[120, 47, 121]⟩ = ⟨1, true, 0, c2⟩) ∧ (regF ([] : List Top) ⟨#[122]⟩ = ⟨1, true, 0, b1⟩) ∧ (preF c2 ⟨#[97]⟩ 2 = (0, c2)) ∧ (preF c2 ⟨#[97]⟩ 3 = (16, c2)) ∧ (preF c2 ⟨#[113]⟩ 1 = (16, c2)) ∧ (preF c2 ⟨#[113]⟩ 65535 = (2, c2)) ∧ (regF c2 ⟨#[97, 43]⟩ = ⟨0, false, 10, c2⟩) ∧ (nameRes c2 1 = .returned (.tuple #[.string ⟨#[120, 47, 121]⟩, .int .i64 0])) ∧ (nameRes b1 2 = .returned (.tuple #[.string ⟨#[]⟩, .int .i64 11])) ∧ (idRes c2 ⟨#[97]⟩ = .returned (.tuple #[.int .i64 2, .int .i64 0])) ∧ (idRes ([] : List Top) ⟨#[97]⟩ = .returned (.tuple #[.int .i64 0, .int .i64 11])) ∧ (srtT c2 = s2) ∧ (clearF c2 = (1, c1)) ∧ (clearF b1 = (1, ([] : List Top))) ∧ (regF c1 ⟨#[119]⟩ = ⟨1, true, 0, c3⟩) ∧ b1 ≠ [] ∧ c2 ≠ [] ∧ c3 ≠ [] ∧ s2 = [⟨1, ⟨#[120, 47, 121]⟩, false⟩, ⟨2, ⟨#[97]⟩, true⟩] ∧ c3.length = 2 ∧ (match byId c3 2 with | some t => t.fixed | none => false) = true ∧ (match byId c3 1 with | some t => t.fixed | none => false) = false :=
    ⟨[⟨2, ⟨#[97]⟩, true⟩], [⟨2, ⟨#[97]⟩, true⟩, ⟨1, ⟨#[120, 47, 121]⟩, false⟩], [⟨1, ⟨#[122]⟩, false⟩], [⟨2, ⟨#[97]⟩, true⟩, ⟨1, ⟨#[119]⟩, false⟩], [⟨1, ⟨#[120, 47, 121]⟩, false⟩, ⟨2, ⟨#[97]⟩, true⟩], by kernel_rfl, by kernel_rfl, by kernel_rfl, by kernel_rfl, by kernel_rfl, by kernel_rfl, by kernel_rfl, by kernel_rfl, by kernel_rfl, by kernel_rfl, by kernel_rfl, by kernel_rfl, (srtT_eq (List.Perm.swap _ _ _) (by simp)).symm, by kernel_rfl, by kernel_rfl, by kernel_rfl, by simp, by simp, by simp, rfl, rfl, by kernel_rfl, by kernel_rfl⟩
  have F1 := Lib.hid f1
  have F2 := Lib.hid f2
  have F3 := Lib.hid f3
  have F4 := Lib.hid f4
  have F5 := Lib.hid f5
  have F6 := Lib.hid f6
  have F7 := Lib.hid f7
  have F8 := Lib.hid f8
  have F9 := Lib.hid f9
  have F10 := Lib.hid f10
  have F11 := Lib.hid f11
  have F12 := Lib.hid f12
  have F13 := Lib.hid f13
  have F14 := Lib.hid f14
  have F15 := Lib.hid f15
  have F16 := Lib.hid f16
  have N1 := Lib.hid n1
  have N2 := Lib.hid n2
  have N3 := Lib.hid n3
  have N4 := Lib.hid n4
  have N5 := Lib.hid n5
  have N6 := Lib.hid n6
  have N7 := Lib.hid n7
  clear f1 f2 f3 f4 f5 f6 f7 f8 f9 f10 f11 f12 f13 f14 f15 f16 n1 n2 n3 n4 n5 n6 n7
  have hlv := lives_walk w
  go_enter Try.func6, Try.ntmps6
  go_wp2_with (go_at_call 7; refine hlv.mono ?_; rintro e w0 ⟨rfl, fr0⟩)
  refine (two_new w w0 fr0).mono ?_
  rintro e w1 ⟨R1, rb, rfl, h1⟩
  clear hlv fr0
  go_wp2_with fail
  have D := two_pre_c h1 ⟨#[97]⟩ 2 (by simp [ByteArray.size]) F1.out
  refine D.mono ?_
  clear D
  rintro e w2 ⟨rfl, R2, h2, st2⟩
  clear st2 h1
  go_wp2_with fail
  have D := two_reg_c h2 ⟨#[120, 47, 121]⟩ (by simp [ByteArray.size]) F2.out
  refine D.mono ?_
  clear D
  rintro e w3 ⟨rfl, R3, h3, st3⟩
  clear st3 h2
  go_wp2_with fail
  have D := two_reg_b h3 ⟨#[122]⟩ (by simp [ByteArray.size]) F3.out
  refine D.mono ?_
  clear D
  rintro e w4 ⟨rfl, R4, h4, st4⟩
  clear st4 h3
  go_wp2_with fail
  have D := two_pre_c h4 ⟨#[97]⟩ 2 (by simp [ByteArray.size]) F4.out
  refine D.mono ?_
  clear D
  rintro e w5 ⟨rfl, R5, h5, st5⟩
  clear st5 h4
  go_wp2_with fail
  have D := two_pre_c h5 ⟨#[97]⟩ 3 (by simp [ByteArray.size]) F5.out
  refine D.mono ?_
  clear D
  rintro e w6 ⟨rfl, R6, h6, st6⟩
  clear st6 h5
  go_wp2_with fail
  have D := two_pre_c h6 ⟨#[113]⟩ 1 (by simp [ByteArray.size]) F6.out
  refine D.mono ?_
  clear D
  rintro e w7 ⟨rfl, R7, h7, st7⟩
  clear st7 h6
  go_wp2_with fail
  have D := two_pre_c h7 ⟨#[113]⟩ 65535 (by simp [ByteArray.size]) F7.out
  refine D.mono ?_
  clear D
  rintro e w8 ⟨rfl, R8, h8, st8⟩
  clear st8 h7
  go_wp2_with fail
  have D := two_reg_c h8 ⟨#[97, 43]⟩ (by simp [ByteArray.size]) F8.out
  refine D.mono ?_
  clear D
  rintro e w9 ⟨rfl, R9, h9, st9⟩
  clear st9 h8
  go_wp2_with fail
  have D := two_name_c h9 1 F9.out
  refine D.mono ?_
  clear D
  rintro e w10 ⟨rfl, h10⟩
  clear h9
  go_wp2_with fail
  obtain ⟨R10, hR10⟩ : ∃ R, R = R9 := ⟨_, rfl⟩
  rw [← hR10] at h10
  clear hR10
  have D := two_name_b h10 2 F10.out
  refine D.mono ?_
  clear D
  rintro e w11 ⟨rfl, h11⟩
  clear h10
  go_wp2_with fail
  obtain ⟨R11, hR11⟩ : ∃ R, R = R10 := ⟨_, rfl⟩
  rw [← hR11] at h11
  clear hR11
  have D := two_id_c h11 ⟨#[97]⟩ F11.out
  refine D.mono ?_
  clear D
  rintro e w' ⟨rfl, rfl⟩
  go_wp2_with fail
  have D := two_id_d h11 ⟨#[97]⟩ F12.out
  refine D.mono ?_
  clear D
  rintro e w' ⟨rfl, rfl⟩
  go_wp2_with fail
  have D := two_topics_c h11 F13.out
  refine D.mono ?_
  clear D
  rintro e w12 ⟨vt, rfl, h12, rt0⟩
  have rt := Lib.hid rt0
  clear h11 rt0
  go_wp2_with fail
  obtain ⟨R12, hR12⟩ : ∃ R, R = R11 := ⟨_, rfl⟩
  rw [← hR12] at h12 rt
  clear hR12
  have D := two_clients_bc h12 N1.out N2.out
  refine D.mono ?_
  clear D
  rintro e w13 ⟨vs, rfl, h13, rs0, fs0⟩
  have rs := Lib.hid rs0
  replace rt := Lib.hid (rt.out.still fs0)
  clear h12 rs0 fs0
  go_wp2_with fail
  obtain ⟨R13, hR13⟩ : ∃ R, R = R12 := ⟨_, rfl⟩
  rw [← hR13] at h13 rt rs
  clear hR13
  have D := two_clear_c h13 F14.out
  refine D.mono ?_
  clear D
  rintro e w14 ⟨rfl, R14, h14, st14⟩
  replace rt := Lib.hid (rt.out.step st14)
  replace rs := Lib.hid (rs.out.step st14)
  clear st14 h13
  go_wp2_with fail
  have D := two_clear_b h14 F15.out
  refine D.mono ?_
  clear D
  rintro e w15 ⟨rfl, R15, h15, st15⟩
  replace rt := Lib.hid (rt.out.step st15)
  replace rs := Lib.hid (rs.out.step st15)
  clear st15 h14
  go_wp2_with fail
  have D := two_reg_c h15 ⟨#[119]⟩ (by simp [ByteArray.size]) F16.out
  refine D.mono ?_
  clear D
  rintro e w16 ⟨rfl, R16, h16, st16⟩
  replace rt := Lib.hid (rt.out.step st16)
  replace rs := Lib.hid (rs.out.step st16)
  clear st16 h15
  go_wp2_with fail
  go_wp2_with (first | (go_at_call 12; refine (register_nil _ _ _).mono ?_; rintro e w' ⟨rfl, rfl⟩) | (go_at_call 19; refine (name_nil _ _ _).mono ?_; rintro e w' ⟨rfl, rfl⟩) | (go_at_call 20; refine (id_nil _ _ _).mono ?_; rintro e w' ⟨rfl, rfl⟩))
  have fa : Fr (fun _ => False) w16 (w16.alloc (.cells #[.int .i64 1, .string ⟨#[120, 47, 121]⟩, .bool false, .int .i64 2, .string ⟨#[97]⟩, .bool true] 41)) := Fr.alloc _ _ _
  have D := sameT_true (rt.out.still fa).1 (by rw [N4.out]; exact rowT_two w16 ⟨1, ⟨#[120, 47, 121]⟩, false⟩ ⟨2, ⟨#[97]⟩, true⟩) (by rw [N4.out]; simp)
  refine D.mono ?_
  clear D
  rintro e w17 ⟨rfl, fb⟩
  have h17 := (h16.still fa).still fb
  replace rs := Lib.hid ((rs.out.still fa).still fb)
  clear fa fb h16 rt
  go_wp2_with fail
  have fa : Fr (fun _ => False) w17 (w17.alloc (.cells #[.string ⟨#[98]⟩, .string ⟨#[99]⟩] 9)) := Fr.alloc _ _ _
  have D := sameS_true (rs.out.still fa).1 (rowS_two w17 ⟨#[98]⟩ ⟨#[99]⟩) (by simp)
  refine D.mono ?_
  clear D
  rintro e w18 ⟨rfl, fb⟩
  have h18 := (h17.still fa).still fb
  clear fa fb h17 rs
  go_wp2_with fail
  have D := two_clients_c h18 N3.out
  refine D.mono ?_
  clear D
  rintro e w19 ⟨vc, rfl, h19, rs0, fs0⟩
  have rs := Lib.hid rs0
  clear h18 rs0 fs0
  go_wp2_with fail
  have fa : Fr (fun _ => False) w19 (w19.alloc (.cells #[.string ⟨#[99]⟩] 9)) := Fr.alloc _ _ _
  have D := sameS_true (rs.out.still fa).1 (rowS_one w19 ⟨#[99]⟩) (by simp)
  refine D.mono ?_
  clear D
  rintro e w20 ⟨rfl, fb⟩
  have h20 := (h19.still fa).still fb
  clear fa fb h19 rs
  have d1 := two_len_c h20
  rw [N5.out] at d1
  have d2 := two_fixed_c h20 2 N6.out
  have d3 := two_fixed_c h20 1 N7.out
  go_wp2_with (first | (go_at_call 13; refine d1.mono ?_; clear d1; rintro e w' ⟨rfl, rfl⟩))
  refine d2.mono ?_
  clear d2
  rintro e w' ⟨rfl, rfl⟩
  go_wp2_with fail
  refine d3.mono ?_
  clear d3
  rintro e w' ⟨rfl, rfl⟩
  go_wp2_with (first | (go_at_call 10; refine (predefine_nil _ _ _ _).mono ?_; rintro e w' ⟨rfl, rfl⟩) | (go_at_call 14; refine (clear_nil _ _).mono ?_; rintro e w' ⟨rfl, rfl⟩) | (go_at_call 16; refine (topics_nil _ _).mono ?_; rintro e w' ⟨rfl, rfl⟩) | (go_at_call 22; refine (clients_nil _).mono ?_; rintro e w' ⟨rfl, rfl⟩) | (go_at_call 13; refine (len_nil _ _).mono ?_; rintro e w' ⟨rfl, rfl⟩) | (go_at_call 21; refine (fixed_nil _ _ _).mono ?_; rintro e w' ⟨rfl, rfl⟩))
  go_ret
  exact ⟨rfl, h20.fr⟩
end Go.Proofs.Ytfgnipcegnoagaa
