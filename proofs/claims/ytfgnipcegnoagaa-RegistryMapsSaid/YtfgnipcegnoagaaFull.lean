/- RegistryFull, walked. -/
import Derived.Test.YtfgnipcegnoagaaFullP
import Derived.Deep.RegionWith
import Derived.Laws.BytesArg
namespace Go.Proofs.Ytfgnipcegnoagaa
open Go.RowKit Go.MapKept

/-- A registry of which the clients c and d are looked at. -/
structure One (w0 w : World) (rb : Nat) (R : Rg) (l ld : List Top) : Prop where
  reg : RegAt w R
  rb : R.rb = rb
  c : R.get ⟨#[99]⟩ = l
  d : R.get ⟨#[100]⟩ = ld
  fr : Fr (fun _ => False) w0 w
  fp : ∀ k, R.fp k → w0.heap.size ≤ k
theorem ne_dc : (⟨#[100]⟩ : ByteArray) ≠ ⟨#[99]⟩ := by decide
variable {w0 w : World} {rb : Nat} {R : Rg} {l ld : List Top}
theorem One.nxt_c {w' : World} {R' : Rg} {l' : List Top} (h : One w0 w rb R l ld) (n : Nxt w w' R R' ⟨#[99]⟩ l') : One w0 w' rb R' l' ld :=
  have q := Step.fresh h.fr h.fp n.step
  ⟨n.toRegAt, n.step.rb.trans h.rb, n.self, (n.others _ ne_dc).trans h.d, q.1, q.2⟩
theorem One.nxt_d {w' : World} {R' : Rg} {l' : List Top} (h : One w0 w rb R l ld) (n : Nxt w w' R R' ⟨#[100]⟩ l') : One w0 w' rb R' l l' :=
  have q := Step.fresh h.fr h.fp n.step
  ⟨n.toRegAt, n.step.rb.trans h.rb, (n.others _ ne_dc.symm).trans h.c, n.self, q.1, q.2⟩
theorem One.still {w' : World} (h : One w0 w rb R l ld) (hf : Fr (fun _ => False) w w') : One w0 w' rb R l ld := ⟨h.reg.still hf, h.rb, h.c, h.d, h.fr.trans hf (fun _ _ h => h), h.fp⟩
theorem one_new (w0 w : World) (hf : Fr (fun _ => False) w0 w) : Calls Try.prog 9 #[] w fun e w' => ∃ R rb, e = .returned (ptrV rb) ∧ One w0 w' rb R [] [] :=
  (new_to w).mono fun _ _ ⟨R, he, h, hg, h2, h3⟩ => ⟨R, R.rb, he, h, rfl, hg _, hg _, hf.trans h2 (fun _ _ h => h), fun k hk => Nat.le_trans hf.size (h3 k hk)⟩
theorem one_reg (h : One w0 w rb R l ld) (n : ByteArray) {o : RegOut} (hn : n.size ≤ 9223372036854775807) (ho : regF l n = o) :
    Calls Try.prog 12 #[ptrV rb, .string ⟨#[99]⟩, .string n] w fun e w' => e = .returned (.tuple #[.int .i64 o.id, .bool o.fresh, .int .i64 o.er]) ∧ ∃ R', One w0 w' rb R' o.tops ld := by
  rw [← h.rb]
  exact (reg_to w R ⟨#[99]⟩ n _ _ h.reg h.c hn ho).mono fun _ _ ⟨he, R', hx⟩ => ⟨he, R', h.rb ▸ h.nxt_c hx⟩
theorem one_reg_d (h : One w0 w rb R l ld) (n : ByteArray) {o : RegOut} (hn : n.size ≤ 9223372036854775807) (ho : regF ld n = o) :
    Calls Try.prog 12 #[ptrV rb, .string ⟨#[100]⟩, .string n] w fun e w' => e = .returned (.tuple #[.int .i64 o.id, .bool o.fresh, .int .i64 o.er]) ∧ ∃ R', One w0 w' rb R' l o.tops := by
  rw [← h.rb]
  exact (reg_to w R ⟨#[100]⟩ n _ _ h.reg h.d hn ho).mono fun _ _ ⟨he, R', hx⟩ => ⟨he, R', h.rb ▸ h.nxt_d hx⟩
theorem one_pre (h : One w0 w rb R l ld) (n : ByteArray) (id : Int) {o : Int × List Top} (hn : n.size ≤ 9223372036854775807) (ho : preF l n id = o) :
    Calls Try.prog 10 #[ptrV rb, .string ⟨#[99]⟩, .string n, .int .i64 id] w fun e w' => e = .returned (.int .i64 o.1) ∧ ∃ R', One w0 w' rb R' o.2 ld := by
  rw [← h.rb]
  exact (pre_to w R ⟨#[99]⟩ n id _ _ h.reg h.c hn ho).mono fun _ _ ⟨he, R', hx⟩ => ⟨he, R', h.rb ▸ h.nxt_c hx⟩
theorem one_clear (h : One w0 w rb R l ld) {o : Int × List Top} (ho : clearF l = o) :
    Calls Try.prog 14 #[ptrV rb, .string ⟨#[99]⟩] w fun e w' => e = .returned (.int .i64 o.1) ∧ ∃ R', One w0 w' rb R' o.2 ld := by
  rw [← h.rb]
  exact (clear_to w R ⟨#[99]⟩ _ _ h.reg h.c ho).mono fun _ _ ⟨he, R', hx⟩ => ⟨he, R', h.rb ▸ h.nxt_c hx⟩
theorem one_len (h : One w0 w rb R l ld) : Calls Try.prog 13 #[ptrV rb, .string ⟨#[99]⟩] w fun e w' => e = .returned (.int .i64 l.length) ∧ w = w' := by
  rw [← h.rb]
  exact (len_rg w R ⟨#[99]⟩ h.reg.at').mono fun _ _ ⟨he, hf⟩ => ⟨by rw [he, h.c], hf⟩

theorem conv_one (W : World) (b : Nat) (x : Int) (h : W.cell? ⟨b, 0, none⟩ = some (.int .u8 x)) :
    (convert 66 9 (.slice (some ⟨b, 0, none⟩) 1 1)).run Try.prog W = .ok (.string ⟨#[UInt8.ofNat x.toNat]⟩) W := by
  have := run_convert_bytes_arg (P := Try.prog) W 66 5 Try.underlying66 Try.underlying5 b 0 1 1 [x] rfl (fun i hi => by
    obtain rfl : i = 0 := by omega
    exact h) 9 Try.underlying9
  rw [this]
  try rfl
theorem conv_new (W : World) (x : Int) :
    (convert 66 9 (.slice (some ⟨W.heap.size, 0, none⟩) 1 1)).run Try.prog (W.alloc (.cells #[.int .u8 x] 5)) = .ok (.string ⟨#[UInt8.ofNat x.toNat]⟩) (W.alloc (.cells #[.int .u8 x] 5)) :=
  conv_one _ _ x (rowC (alloc_new W _) 0)
theorem ltr_of (n : Nat) : UInt8.ofNat (97 + (n : Int) % 26).toNat = ltr n := by
  unfold ltr
  have : (97 + (n : Int) % 26).toNat = 97 + n % 26 := by omega
  rw [this]
  try rfl

theorem wrapi (x : Int) (h : -9223372036854775808 ≤ x ∧ x ≤ 9223372036854775807) : IntKind.i64.wrap x = x := by rw [IntKind.wrap_i64]; omega
theorem wrapu (x : Int) (h : 0 ≤ x ∧ x ≤ 255) : IntKind.u8.wrap x = x := by rw [IntKind.wrap_u8]; omega
theorem stringOp_add (a b : ByteArray) (h : a.size + b.size ≤ 9223372036854775807) : Op.stringOp .add a b = pure (.string (a ++ b)) := by
  have hm : IntKind.i64.max = 9223372036854775807 := rfl
  have : ¬ (((a.size + b.size : Nat) : Int) > IntKind.i64.max) := by rw [hm]; omega
  simp only [Op.stringOp, if_neg this]
/-- The byte's block was laid ahead of the call. -/
theorem call_behind {w W2 : World} {x : Int} (f : Fr (fun _ => False) (w.drew.alloc (.cells #[.int .u8 x] 5)) W2) : W2.cell? ⟨w.heap.size, 0, none⟩ = some (.int .u8 x) :=
  (f.cell (p := ⟨w.heap.size, 0, none⟩) (lt_of_heap (alloc_new w.drew _)) (fun h => h)).trans (rowC (alloc_new w.drew _) 0)

theorem fr_a {w w2 : World} {o : Obj} (f : Fr (fun _ => False) w.drew w2) : Fr (fun _ => False) w (w2.alloc o) :=
  have h1 : Fr (fun _ => False) w w.drew := Fr.of_heap rfl rfl rfl rfl
  (h1.trans f (fun _ _ h => h)).trans (Fr.alloc (fun _ => False) w2 o) (fun _ _ h => h)
theorem fr_b {w w2 : World} {o : Obj} (f : Fr (fun _ => False) (w.alloc o).drew w2) : Fr (fun _ => False) w w2 :=
  have h1 : Fr (fun _ => False) (w.alloc o) (w.alloc o).drew := Fr.of_heap rfl rfl rfl rfl
  ((Fr.alloc (fun _ => False) w o).trans h1 (fun _ _ h => h)).trans f (fun _ _ h => h)
theorem nmB_size (n : Nat) : (nmB n).size ≤ n + 1 := by
  have := nm_len n
  show (nm n).toArray.size ≤ _
  simpa using this
theorem pre_add (j : Nat) (h : j ≤ 1000000) : Op.stringOp .add ⟨#[112, 47]⟩ (nmB j) = pure (.string (preN j)) := by
  rw [stringOp_add _ _ (by have := nmB_size j; show 2 + (nmB j).size ≤ _; omega)]
  rfl
theorem preN_size (j : Nat) (h : j ≤ 1000000) : (preN j).size ≤ 9223372036854775807 := by
  have := nm_len j
  show ([112, 47] ++ nm j).toArray.size ≤ _
  simp
  omega
theorem call_behind2 {w W2 : World} {x : Int} (f : Fr (fun _ => False) (w.alloc (.cells #[.int .u8 x] 5)).drew W2) : W2.cell? ⟨w.heap.size, 0, none⟩ = some (.int .u8 x) :=
  (f.cell (p := ⟨w.heap.size, 0, none⟩) (lt_of_heap (alloc_new w _)) (fun h => h)).trans (rowC (alloc_new w _) 0)

set_option maxRecDepth 100000 in
set_option maxHeartbeats 4000000 in
theorem lawname_walk (n : Nat) : n ≤ 1000000 → ∀ w : World, Calls Try.prog 11 #[.int .i64 n] w fun e w' => e = .returned (.string (nmB n)) ∧ Fr (fun _ => False) w w' := by
  induction n using Nat.strongRecOn with
  | ind n ih =>
    intro hn w
    have hcv := fun W => conv_new W (97 + (n : Int) % 26)
    rw [ltr_of] at hcv
    have hm26 : n % 26 < 26 := Nat.mod_lt _ (by omega)
    by_cases h : n < 26
    · have h1 : (n : Int) < 26 := by omega
      have hfin : Hid (nmB n = ⟨#[ltr n]⟩) := by
        show nmB n = _
        unfold nmB
        rw [nm_lt h]
      go_enter Try.func11, Try.ntmps11
      go_wp2_with fail
      go_ret
      exact ⟨by rw [hfin.out]; rfl, Fr.alloc _ _ _⟩
    · have h1 : ¬ (n : Int) < 26 := by omega
      have hrec := ih (n / 26) (by omega) (by omega)
      rw [show ((n / 26 : Nat) : Int) = (n : Int) / 26 by omega] at hrec
      have hw : IntKind.i64.wrap ((n : Int) / 26) = (n : Int) / 26 := wrapi _ (by omega)
      have hx : IntKind.u8.wrap (IntKind.i64.wrap (97 + (n : Int).tmod 26)) = 97 + (n : Int) % 26 := by
        rw [Int.tmod_eq_emod_of_nonneg (by omega), wrapi _ (by omega), wrapu _ (by omega)]
      have hcu := fun W => conv_new W (IntKind.u8.wrap (IntKind.i64.wrap (97 + (n : Int).tmod 26)))
      have hl : UInt8.ofNat (IntKind.u8.wrap (IntKind.i64.wrap (97 + (n : Int).tmod 26))).toNat = ltr n := by rw [hx, ltr_of]
      rw [hl] at hcu
      have hc1 := fun W b h => conv_one W b (IntKind.u8.wrap (IntKind.i64.wrap (97 + (n : Int).tmod 26))) h
      rw [hl] at hc1
      have Hc1 := Lib.hid hc1
      have hfin : Hid (nmB n = nmB (n / 26) ++ ⟨#[ltr n]⟩) := by
        show nmB n = _
        unfold nmB
        rw [nm_ge h]
        apply ByteArray.ext
        simp
      generalize hX : IntKind.u8.wrap (IntKind.i64.wrap (97 + (n : Int).tmod 26)) = X at *
      have HX := Lib.hid hX
      have hsz : (nmB (n / 26)).size ≤ 1000001 := by
        have := nm_len (n / 26)
        show (nm (n / 26)).toArray.size ≤ _
        simp
        omega
      have hso : Op.stringOp .add (nmB (n / 26)) ⟨#[ltr n]⟩ = pure (.string (nmB (n / 26) ++ ⟨#[ltr n]⟩)) := stringOp_add _ _ (by show (nmB (n / 26)).size + 1 ≤ _; omega)
      have hadd : ∀ W, (binOp .add 9 (.string (nmB (n / 26))) (.string ⟨#[ltr n]⟩)).run Try.prog W = .ok (.string (nmB (n / 26) ++ ⟨#[ltr n]⟩)) W := fun W => by
        rw [binOp_string_add, hso]; rfl
      have hcd := Hc1.out ((w.alloc (.cells #[.int .u8 X] 5)).drew) w.heap.size (rowC (w := (w.alloc (.cells #[.int .u8 X] 5)).drew) (alloc_new w _) 0)
      clear hsz
      clear ih hcv hx hl hc1
      go_enter Try.func11, Try.ntmps11
      go_upto_region 3 with fail
      go_region_with (go_at_call 11; refine (hrec _).mono ?_; rintro e w2 ⟨rfl, f2⟩; first | (have k3 := Hc1.out w2 w.heap.size (call_behind f2)) | (have k3 := Hc1.out w2 w.heap.size (call_behind2 f2)) | skip)
      all_goals
        go_wp2_with fail
        go_ret
        refine ⟨by rw [hfin.out]; rfl, ?_⟩
        first | exact fr_a f2 | exact fr_b f2

set_option maxRecDepth 100000 in
set_option maxHeartbeats 8000000 in
theorem full_walk (w : World) (m : Int) : Calls Try.prog 3 #[.int .i64 m] w fun e w' => e = .returned (.bool true) ∧ Fr (fun _ => False) w w' := by
  have hlv := lives_walk w
  have hpk := fun W => pick_walk m 21 W (by omega) (by omega)
  go_enter Try.func3, Try.ntmps3
  go_wp2_with (first | (go_at_call 7; refine hlv.mono ?_; rintro e w0 ⟨rfl, fr0⟩) | (go_at_call 8; refine (hpk _).mono ?_; rintro e w' ⟨rfl, rfl⟩))
  obtain ⟨n, hn, hn20⟩ : ∃ n : Nat, m % 21 = n ∧ n ≤ 20 := ⟨(m % 21).toNat, by omega, by omega⟩
  rw [hn]
  refine (one_new w w0 fr0).mono ?_
  rintro e w1 ⟨R1, rb, rfl, h1⟩
  clear hlv hpk fr0 hn
  have H1 := Lib.hid h1
  clear h1
  go_wp2_with fail
  go_loopw [4] (fun s wr => ∃ (j : Nat) (R : Rg), s = .int .i64 j ∧ j ≤ n ∧ One w wr rb R (preL j) []) (fun s _ => n - (intOf s).toNat)
  case atStart => exact ⟨0, R1, rfl, Nat.zero_le _, H1.out⟩
  case round =>
    clear H1 R1
    obtain ⟨j, R, rfl, hj, hR⟩ := hrel
    have HR := Lib.hid hR
    clear hR
    by_cases hlt : j < n
    · have hlt2 : (j : Int) < (n : Int) := by omega
      have hnmw := lawname_walk j (by omega) wr
      have hpa := pre_add j (by omega)
      go_wp2_with (go_at_call 11; refine hnmw.mono ?_; rintro e w2 ⟨rfl, f2⟩)
      have D := one_pre (HR.out.still f2) (preN j) (65534 - (j : Int)) (preN_size j (by omega)) (preF_step (by omega))
      refine D.mono ?_
      clear D
      rintro e w3 ⟨rfl, R3, h3⟩
      have H3 := Lib.hid h3
      clear h3 f2
      go_wp2_with fail
      go_roundw
      case rel => exact ⟨j + 1, R3, rfl, by omega, H3.out⟩
      case measure =>
        simp only [intOf]
        omega
    · have hlt2 : ¬ (j : Int) < (n : Int) := by omega
      have hjn : j = n := by omega
      subst hjn
      have HR0 : Hid (One w wr rb R (preL j ++ regL 0) []) := by
        show One w wr rb R (preL j ++ regL 0) []
        have : regL 0 = [] := rfl
        rw [this, List.append_nil]
        exact HR.out
      clear HR hj hlt
      go_wp2_with fail
      go_loopw [5] (fun s wr2 => ∃ (k : Nat) (R : Rg), s = .int .i64 ((k : Int) + 1) ∧ k ≤ 65534 - j ∧ One w wr2 rb R (preL j ++ regL k) []) (fun s _ => 65535 - (intOf s).toNat)
      case atStart => exact ⟨0, R, rfl, Nat.zero_le _, HR0.out⟩
      case round =>
        clear HR0 R
        obtain ⟨k, R, rfl, hk, hR⟩ := hrel
        have HR := Lib.hid hR
        clear hR
        by_cases hlt : k < 65534 - j
        · have hle : (k : Int) + 1 ≤ 65534 - (j : Int) := by omega
          have hnmw := lawname_walk (k + 1) (by omega) wr
          rw [show ((k + 1 : Nat) : Int) = (k : Int) + 1 by omega] at hnmw
          go_wp2_with (go_at_call 11; refine hnmw.mono ?_; rintro e w2 ⟨rfl, f2⟩)
          have D := one_reg (HR.out.still f2) (nmB (k + 1)) (Nat.le_trans (nmB_size _) (by omega)) (regF_step (n := j) (k := k) hn20 (by omega))
          refine D.mono ?_
          clear D
          rintro e w3 ⟨rfl, R3, h3⟩
          have H3 := Lib.hid h3
          clear h3 f2
          go_wp2_with fail
          go_roundw
          case rel => exact ⟨k + 1, R3, by simp, by omega, H3.out⟩
          case measure =>
            simp only [intOf]
            omega
        · have hle : ¬ (k : Int) + 1 ≤ 65534 - (j : Int) := by omega
          have hkn : k = 65534 - j := by omega
          subst hkn
          have hnm7 := lawname_walk 7 (by omega)
          go_wp2_with fail
          -- one more is rejected
          have D := one_reg HR.out moreB (by decide) (regF_full hn20)
          refine D.mono ?_
          clear D
          rintro e w2 ⟨rfl, R2, h2⟩
          have H2 := Lib.hid h2
          clear h2
          go_wp2_with fail
          have D := one_reg_d H2.out moreB (by decide) (regF_after (n := 0) (by omega))
          refine D.mono ?_
          clear D
          rintro e w3 ⟨rfl, R3, h3⟩
          have H3 := Lib.hid h3
          clear h3
          go_wp2_with (go_at_call 11; refine (hnm7 _).mono ?_; rintro e w4 ⟨rfl, f4⟩)
          have hr : regF (preL j ++ regL (65534 - j)) (nmB 7) = ⟨7, false, 0, preL j ++ regL (65534 - j)⟩ := by
            obtain ⟨cl, hcl, e⟩ := R3.tops_ok H3.out.reg.ok ⟨#[99]⟩
            have h7 := regF_found hcl (t := ⟨7, nmB 7, false⟩) (by rw [e, H3.out.c]; exact List.mem_append.2 (.inr (mem_regL.2 ⟨6, by omega, rfl⟩)))
            rw [e, H3.out.c] at h7
            exact h7
          have D := one_reg (H3.out.still f4) (nmB 7) (Nat.le_trans (nmB_size _) (by omega)) hr
          refine D.mono ?_
          clear D hr
          rintro e w5 ⟨rfl, R5, h5⟩
          have H5 := Lib.hid h5
          have hlen := one_len h5
          have hll : ((preL j ++ regL (65534 - j)).length : Int) = 65534 := by
            have : (preL j ++ regL (65534 - j)).length = j + (65534 - j) := by simp [preL, regL]
            omega
          simp only at hlen
          rw [hll] at hlen
          clear h5 hll
          have hcast : ((65534 - j : Nat) : Int) = 65534 - (j : Int) := by omega
          go_wp2_with (go_at_call 13; refine hlen.mono ?_; clear hlen; rintro e w' ⟨rfl, rfl⟩)
          have D := one_clear H5.out (clearF_full j (65534 - j))
          rw [hcast] at D
          refine D.mono ?_
          clear D
          rintro e w6 ⟨rfl, R6, h6⟩
          have H6 := Lib.hid h6
          clear h6
          go_wp2_with fail
          have D := one_reg H6.out moreB (by decide) (regF_after hn20)
          refine D.mono ?_
          clear D
          rintro e w7 ⟨rfl, R7, h7⟩
          have H7 := Lib.hid h7
          have hlen := one_len h7
          have hll : ((preL j ++ [(⟨1, moreB, false⟩ : Top)]).length : Int) = (j : Int) + 1 := by
            have : (preL j ++ [(⟨1, moreB, false⟩ : Top)]).length = j + 1 := by simp [preL]
            omega
          simp only at hlen
          rw [hll] at hlen
          clear h7 hll
          go_wp2_with (go_at_call 13; refine hlen.mono ?_; clear hlen; rintro e w' ⟨rfl, rfl⟩)
          go_ret
          exact ⟨rfl, H7.out.fr⟩
end Go.Proofs.Ytfgnipcegnoagaa
