/- RegistryFull, plainly: the law's names; what a registry answers to them. -/
import Derived.Test.YtfgnipcegnoagaaGreatLaw
namespace Go.Proofs.YtfgnipcegnoagaaGreat
open Go.RowKit Go.MapKept

def ltr (n : Nat) : UInt8 := (97 + n % 26).toUInt8
/-- The law's name of a number. -/
def nm (n : Nat) : List UInt8 := if n < 26 then [ltr n] else nm (n / 26) ++ [ltr n]
termination_by n
decreasing_by omega
def nmB (n : Nat) : ByteArray := ⟨(nm n).toArray⟩
theorem nm_lt {n : Nat} (h : n < 26) : nm n = [ltr n] := by rw [nm, if_pos h]
theorem nm_ge {n : Nat} (h : ¬ n < 26) : nm n = nm (n / 26) ++ [ltr n] := by rw [nm, if_neg h]
theorem ltr_nat (n : Nat) : (ltr n).toNat = 97 + n % 26 := by
  unfold ltr
  have : n % 26 < 26 := Nat.mod_lt _ (by omega)
  rw [Nat.toUInt8, UInt8.toNat_ofNat']
  omega
theorem nm_bytes (n : Nat) : ∀ b ∈ nm n, 97 ≤ b.toNat ∧ b.toNat ≤ 122 := by
  induction n using Nat.strongRecOn with
  | ind n ih =>
    have h26 : n % 26 < 26 := Nat.mod_lt _ (by omega)
    intro b hb
    by_cases h : n < 26
    · rw [nm_lt h] at hb
      simp only [List.mem_singleton] at hb
      rw [hb, ltr_nat]; omega
    · rw [nm_ge h, List.mem_append, List.mem_singleton] at hb
      rcases hb with hb | hb
      · exact ih (n / 26) (by omega) b hb
      · rw [hb, ltr_nat]; omega
def nval (l : List UInt8) : Nat := l.foldl (fun a b => 26 * a + (b.toNat - 97)) 0
theorem nval_nm (n : Nat) : nval (nm n) = n := by
  induction n using Nat.strongRecOn with
  | ind n ih =>
    by_cases h : n < 26
    · rw [nm_lt h]
      simp only [nval, List.foldl_cons, List.foldl_nil, ltr_nat]
      omega
    · rw [nm_ge h]
      have := ih (n / 26) (by omega)
      unfold nval at this ⊢
      rw [List.foldl_append, this]
      simp only [List.foldl_cons, List.foldl_nil, ltr_nat]
      omega
theorem nm_inj {a b : Nat} (h : nm a = nm b) : a = b := by rw [← nval_nm a, h, nval_nm]
theorem nm_len (n : Nat) : (nm n).length ≤ n + 1 := by
  induction n using Nat.strongRecOn with
  | ind n ih =>
    by_cases h : n < 26
    · rw [nm_lt h]; simp
    · rw [nm_ge h, List.length_append]
      have := ih (n / 26) (by omega)
      simp only [List.length_cons, List.length_nil]
      omega
theorem nm_ne (n : Nat) : nm n ≠ [] := by
  by_cases h : n < 26
  · rw [nm_lt h]; simp
  · rw [nm_ge h]; simp

theorem decode_low (s : ByteArray) (p : Nat) (h : (s.get! p).toNat < 128) : Utf8.decode s p = ((s.get! p).toNat, 1) := by
  unfold Utf8.decode
  dsimp only
  rw [if_pos (show (s.get! (p + 0)).toNat < 128 from h)]
  rfl
theorem badFrom_low {s : ByteArray} (h : ∀ k, k < s.size → 1 ≤ (s.get! k).toNat ∧ (s.get! k).toNat < 128) : ∀ n k, badFrom s n k = none
  | 0, _ => rfl
  | n + 1, k => by
    unfold badFrom
    by_cases hk : k < s.size
    · obtain ⟨h1, h2⟩ := h k hk
      have hb : badB s k = false := by
        unfold badB
        rw [decode_low s k h2]
        have e1 : ((s.get! k).toNat == 0) = false := beq_eq_false_iff_ne.2 (by omega)
        have e2 : ((s.get! k).toNat == 65533) = false := beq_eq_false_iff_ne.2 (by omega)
        simp [e1, e2]
      rw [if_pos hk, hb]
      simp only [Bool.false_eq_true, if_false]
      exact badFrom_low h n _
    · rw [if_neg hk]
theorem nameOk_ascii {l : List UInt8} (hne : l ≠ []) (hlen : l.length ≤ 65535) (hb : ∀ b ∈ l, 1 ≤ b.toNat ∧ b.toNat < 128 ∧ b ≠ 43 ∧ b ≠ 35) : nameOk ⟨l.toArray⟩ = true := by
  have hsz : ByteArray.size ⟨l.toArray⟩ = l.length := by simp [ByteArray.size]
  have hg : ∀ k, k < ByteArray.size ⟨l.toArray⟩ → 1 ≤ (ByteArray.get! ⟨l.toArray⟩ k).toNat ∧ (ByteArray.get! ⟨l.toArray⟩ k).toNat < 128 := fun k hk => by
    rw [get_bang hk]
    have hm : (⟨l.toArray⟩ : ByteArray)[k] ∈ l := by
      rw [hsz] at hk
      show l.toArray[k] ∈ l
      simp
    exact ⟨(hb _ hm).1, (hb _ hm).2.1⟩
  unfold nameOk usOk badIn
  rw [badFrom_low hg, hsz]
  have h1 : 0 < l.length := List.length_pos_iff.2 hne
  have hw : wildB ⟨l.toArray⟩ = false := by
    unfold wildB Lib.containsAny
    rw [Lib.indexAny_none (s := l) (chars := wilds) (fun j b _ hj => by
      have := hb b (List.mem_of_getElem? hj)
      simp [wilds, this.2.2.1, this.2.2.2])]
    decide
  simp [h1, hlen, hw]

theorem mkB_inj {a b : List UInt8} (h : (⟨a.toArray⟩ : ByteArray) = ⟨b.toArray⟩) : a = b := by
  have := congrArg (fun s : ByteArray => s.data.toList) h
  simpa using this
def preN (i : Nat) : ByteArray := ⟨([112, 47] ++ nm i).toArray⟩
def preL (j : Nat) : List Top := (List.range j).map fun (i : Nat) => ⟨65534 - (i : Int), preN i, true⟩
def regL (k : Nat) : List Top := (List.range k).map fun (i : Nat) => ⟨(i : Int) + 1, nmB (i + 1), false⟩
theorem preL_succ (j : Nat) : preL (j + 1) = preL j ++ [⟨65534 - (j : Int), preN j, true⟩] := by simp [preL, List.range_succ]
theorem regL_succ (k : Nat) : regL (k + 1) = regL k ++ [⟨(k : Int) + 1, nmB (k + 1), false⟩] := by simp [regL, List.range_succ]
theorem mem_preL {j : Nat} {t : Top} : t ∈ preL j ↔ ∃ i, i < j ∧ t = ⟨65534 - (i : Int), preN i, true⟩ := by
  simp only [preL, List.mem_map, List.mem_range]
  exact ⟨fun ⟨i, h1, h2⟩ => ⟨i, h1, h2.symm⟩, fun ⟨i, h1, h2⟩ => ⟨i, h1, h2.symm⟩⟩
theorem mem_regL {k : Nat} {t : Top} : t ∈ regL k ↔ ∃ i, i < k ∧ t = ⟨(i : Int) + 1, nmB (i + 1), false⟩ := by
  simp only [regL, List.mem_map, List.mem_range]
  exact ⟨fun ⟨i, h1, h2⟩ => ⟨i, h1, h2.symm⟩, fun ⟨i, h1, h2⟩ => ⟨i, h1, h2.symm⟩⟩
theorem nmB_ok {n : Nat} (h : n ≤ 65534) : nameOk (nmB n) = true :=
  nameOk_ascii (nm_ne n) (by have := nm_len n; omega) fun b hb => by
    obtain ⟨h1, h2⟩ := nm_bytes n b hb
    exact ⟨by omega, by omega, fun e => by rw [e] at h1; exact absurd h1 (by decide), fun e => by rw [e] at h1; exact absurd h1 (by decide)⟩
theorem preN_ok {n : Nat} (h : n ≤ 30) : nameOk (preN n) = true :=
  nameOk_ascii (by simp) (by have := nm_len n; simp; omega) fun b hb => by
    rcases List.mem_append.1 hb with hb | hb
    · simp only [List.mem_cons, List.not_mem_nil, or_false] at hb
      rcases hb with rfl | rfl <;> decide
    · obtain ⟨h1, h2⟩ := nm_bytes n b hb
      exact ⟨by omega, by omega, fun e => by rw [e] at h1; exact absurd h1 (by decide), fun e => by rw [e] at h1; exact absurd h1 (by decide)⟩
theorem preN_inj {a b : Nat} (h : preN a = preN b) : a = b := nm_inj (List.append_cancel_left (mkB_inj h))
theorem nmB_inj {a b : Nat} (h : nmB a = nmB b) : a = b := nm_inj (mkB_inj h)
/-- A text without '/' is no predefined one's. -/
theorem preN_ne {l : List UInt8} (h : ∀ b ∈ l, b ≠ 47) (i : Nat) : preN i ≠ ⟨l.toArray⟩ := fun e => by
  have h1 := mkB_inj e
  have : (47 : UInt8) ∈ l := by rw [← h1]; simp
  exact h 47 this rfl
theorem nm_no47 (n : Nat) : ∀ b ∈ nm n, b ≠ 47 := fun b hb e => by
  have := (nm_bytes n b hb).1
  rw [e] at this
  exact absurd this (by decide)
def moreB : ByteArray := ⟨#[109, 111, 114, 101]⟩
theorem more_ne {n : Nat} (h : n ≤ 65534) : nmB n ≠ moreB := fun e => by
  have h1 : nm n = [109, 111, 114, 101] := mkB_inj (b := [109, 111, 114, 101]) e
  have h2 := nval_nm n
  rw [h1] at h2
  have h3 : nval [109, 111, 114, 101] = 220822 := by decide
  omega

theorem preF_step {j : Nat} (h : j ≤ 20) : preF (preL j) (preN j) (65534 - (j : Int)) = (0, preL (j + 1)) := by
  have hne : ∀ t ∈ preL j, t.id ≠ 65534 - (j : Int) ∧ t.name ≠ preN j := fun t ht => by
    obtain ⟨i, hi, rfl⟩ := mem_preL.1 ht
    exact ⟨by show 65534 - (i : Int) ≠ _; omega, fun e => by have := preN_inj e; omega⟩
  unfold preF
  rw [if_pos (preN_ok (by omega)), if_neg (by omega), if_neg (fun hm => (hne _ hm).1 rfl), if_neg, preL_succ]
  rw [List.any_eq_true]
  rintro ⟨t, ht, e⟩
  have := hne t ht
  simp [this.1, this.2] at e

theorem regF_new {l : List Top} {n : ByteArray} {r : Int} (hok : nameOk n = true) (hn : ∀ t ∈ l, t.name ≠ n) (h1 : 1 ≤ r) (h2 : r ≤ 65534) (h3 : ∀ t ∈ l, t.id ≠ r) (h4 : ∀ i, 1 ≤ i → i < r → ∃ t ∈ l, t.id = i) : regF l n = ⟨r, true, 0, l ++ [⟨r, n, false⟩]⟩ := by
  unfold regF
  have : byName l n = none := List.find?_eq_none.2 fun t ht => by simpa using hn t ht
  rw [if_pos hok, this, lf_unique h1 h2 h3 h4]
  show (if r = 65535 then _ else _) = _
  rw [if_neg (by omega)]
theorem full_names {n k : Nat} {x : ByteArray} (hp : ∀ i, preN i ≠ x) (hr : ∀ i, i < k → nmB (i + 1) ≠ x) : ∀ t ∈ preL n ++ regL k, t.name ≠ x := fun t ht => by
  rcases List.mem_append.1 ht with ht | ht
  · obtain ⟨i, _, rfl⟩ := mem_preL.1 ht; exact hp i
  · obtain ⟨i, hi, rfl⟩ := mem_regL.1 ht; exact hr i hi
theorem regF_step {n k : Nat} (hn : n ≤ 20) (hk : k + 1 ≤ 65534 - n) : regF (preL n ++ regL k) (nmB (k + 1)) = ⟨(k : Int) + 1, true, 0, preL n ++ regL (k + 1)⟩ := by
  rw [regF_new (r := (k : Int) + 1) (nmB_ok (by omega)) (full_names (preN_ne (nm_no47 _)) (fun i hi e => by have := nmB_inj e; omega)) (by omega) (by omega) (fun t ht => ?_) (fun i h1 h2 => ?_), regL_succ, List.append_assoc]
  · rcases List.mem_append.1 ht with ht | ht
    · obtain ⟨i, hi, rfl⟩ := mem_preL.1 ht
      show 65534 - (i : Int) ≠ _
      omega
    · obtain ⟨i, hi, rfl⟩ := mem_regL.1 ht
      show (i : Int) + 1 ≠ _
      omega
  · refine ⟨⟨((i.toNat - 1 : Nat) : Int) + 1, nmB (i.toNat - 1 + 1), false⟩, List.mem_append.2 (.inr (mem_regL.2 ⟨i.toNat - 1, by omega, rfl⟩)), ?_⟩
    show ((i.toNat - 1 : Nat) : Int) + 1 = i
    omega
theorem regF_full {n : Nat} (hn : n ≤ 20) : regF (preL n ++ regL (65534 - n)) moreB = ⟨0, false, 12, preL n ++ regL (65534 - n)⟩ := by
  have h1 := full_names (n := n) (k := 65534 - n) (x := moreB) (preN_ne (l := [109, 111, 114, 101]) (by decide)) (fun i hi => more_ne (by omega))
  have h2 : lf 65534 1 (preL n ++ regL (65534 - n)) = 65535 := lf_full fun i h1 h2 => by
    by_cases hi : i ≤ 65534 - (n : Int)
    · refine ⟨⟨((i.toNat - 1 : Nat) : Int) + 1, nmB (i.toNat - 1 + 1), false⟩, List.mem_append.2 (.inr (mem_regL.2 ⟨i.toNat - 1, by omega, rfl⟩)), ?_⟩
      show ((i.toNat - 1 : Nat) : Int) + 1 = i
      omega
    · refine ⟨⟨65534 - (((65534 - i).toNat : Nat) : Int), preN (65534 - i).toNat, true⟩, List.mem_append.2 (.inl (mem_preL.2 ⟨(65534 - i).toNat, by omega, rfl⟩)), ?_⟩
      show 65534 - (((65534 - i).toNat : Nat) : Int) = i
      omega
  unfold regF
  have : byName (preL n ++ regL (65534 - n)) moreB = none := List.find?_eq_none.2 fun t ht => by simpa using h1 t ht
  have hm : nameOk moreB = true := nameOk_ascii (l := [109, 111, 114, 101]) (by simp) (by simp) (by decide)
  rw [if_pos hm, this, h2]
  rfl
theorem regF_found {cl : Cl} (h : cl.Ok) {t : Top} (ht : t ∈ cl.tops) : regF cl.tops t.name = ⟨t.id, false, 0, cl.tops⟩ := by
  unfold regF
  rw [if_pos (h.good t ht), byName_some h ht]
theorem clearF_full (n k : Nat) : clearF (preL n ++ regL k) = ((k : Int), preL n) := by
  have e1 : (preL n).filter (fun t => !t.fixed) = [] := List.filter_eq_nil_iff.2 fun t ht => by obtain ⟨i, _, rfl⟩ := mem_preL.1 ht; simp
  have e2 : (regL k).filter (fun t => !t.fixed) = regL k := List.filter_eq_self.2 fun t ht => by obtain ⟨i, _, rfl⟩ := mem_regL.1 ht; rfl
  have e3 : (preL n).filter (·.fixed) = preL n := List.filter_eq_self.2 fun t ht => by obtain ⟨i, _, rfl⟩ := mem_preL.1 ht; rfl
  have e4 : (regL k).filter (·.fixed) = [] := List.filter_eq_nil_iff.2 fun t ht => by obtain ⟨i, _, rfl⟩ := mem_regL.1 ht; simp
  unfold clearF
  rw [List.filter_append, List.filter_append, e1, e2, e3, e4]
  simp [regL]
theorem regF_after {n : Nat} (hn : n ≤ 20) : regF (preL n) moreB = ⟨1, true, 0, preL n ++ [⟨1, moreB, false⟩]⟩ :=
  regF_new (nameOk_ascii (l := [109, 111, 114, 101]) (by simp) (by simp) (by decide)) (fun t ht => by
    obtain ⟨i, _, rfl⟩ := mem_preL.1 ht
    exact preN_ne (l := [109, 111, 114, 101]) (by decide) i) (by omega) (by omega) (fun t ht => by
    obtain ⟨i, hi, rfl⟩ := mem_preL.1 ht
    show 65534 - (i : Int) ≠ 1
    omega) (fun i h1 h2 => by omega)
end Go.Proofs.YtfgnipcegnoagaaGreat
