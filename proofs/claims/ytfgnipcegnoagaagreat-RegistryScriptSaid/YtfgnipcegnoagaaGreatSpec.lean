/- What a registry answers, as functions of a client's topics; and that it does. -/
import Derived.Test.YtfgnipcegnoagaaGreatW13
import Derived.Test.YtfgnipcegnoagaaGreatCli
namespace Go.Proofs.YtfgnipcegnoagaaGreat
open Go.RowKit Go.MapKept

deriving instance DecidableEq for Top

/-- The least free id from i on (65535: none). -/
def lf : Nat → Int → List Top → Int
  | 0, i, _ => i
  | n + 1, i, l => if l.any (fun t => t.id == i) then lf n (i + 1) l else i
theorem lf_spec : ∀ (n : Nat) (i : Int) (l : List Top), i ≤ lf n i l ∧ lf n i l ≤ i + n ∧ (∀ k, i ≤ k → k < lf n i l → ∃ t ∈ l, t.id = k) ∧ (lf n i l < i + n → ∀ t ∈ l, t.id ≠ lf n i l)
  | 0, i, l => ⟨Int.le_refl _, by simp [lf], fun k h1 h2 => by simp only [lf] at h2; omega, fun h => by simp [lf] at h⟩
  | n + 1, i, l => by
    unfold lf
    by_cases h : l.any (fun t => t.id == i) = true
    · rw [if_pos h]
      obtain ⟨h1, h2, h3, h4⟩ := lf_spec n (i + 1) l
      refine ⟨by omega, by omega, fun k hk1 hk2 => ?_, fun h5 => h4 (by omega)⟩
      by_cases e : k = i
      · obtain ⟨t, ht, e2⟩ := List.any_eq_true.1 h
        exact ⟨t, ht, by rw [e]; simpa using e2⟩
      · exact h3 k (by omega) hk2
    · rw [if_neg h]
      refine ⟨Int.le_refl _, by omega, fun k hk1 hk2 => by omega, fun _ t ht e => h (List.any_eq_true.2 ⟨t, ht, by simp [e]⟩)⟩
theorem lf_unique {l : List Top} {r : Int} (h1 : 1 ≤ r) (h2 : r ≤ 65534) (h3 : ∀ t ∈ l, t.id ≠ r) (h4 : ∀ i, 1 ≤ i → i < r → ∃ t ∈ l, t.id = i) : lf 65534 1 l = r := by
  obtain ⟨q1, q2, q3, q4⟩ := lf_spec 65534 1 l
  rcases Int.lt_trichotomy (lf 65534 1 l) r with h | h | h
  · obtain ⟨t, ht, e⟩ := h4 _ q1 h
    exact absurd e (q4 (by omega) t ht)
  · exact h
  · obtain ⟨t, ht, e⟩ := q3 r h1 h
    exact absurd e (h3 t ht)
theorem lf_full {l : List Top} (h : ∀ i, 1 ≤ i → i ≤ 65534 → ∃ t ∈ l, t.id = i) : lf 65534 1 l = 65535 := by
  obtain ⟨q1, q2, q3, q4⟩ := lf_spec 65534 1 l
  by_cases e : lf 65534 1 l = 65535
  · exact e
  · obtain ⟨t, ht, e2⟩ := h _ q1 (by omega)
    exact absurd e2 (q4 (by omega) t ht)

structure RegOut where
  id : Int
  fresh : Bool
  er : Int
  tops : List Top
def regF (l : List Top) (n : ByteArray) : RegOut :=
  if nameOk n = true then
    match byName l n with
    | some t => ⟨t.id, false, 0, l⟩
    | none => if lf 65534 1 l = 65535 then ⟨0, false, 12, l⟩ else ⟨lf 65534 1 l, true, 0, l ++ [⟨lf 65534 1 l, n, false⟩]⟩
  else ⟨0, false, 10, l⟩
def preF (l : List Top) (n : ByteArray) (id : Int) : Int × List Top :=
  if nameOk n = true then
    if id < 1 ∨ 65534 < id then (2, l)
    else if (⟨id, n, true⟩ : Top) ∈ l then (0, l)
    else if l.any (fun t => t.id == id || decide (t.name = n)) then (16, l)
    else (0, l ++ [⟨id, n, true⟩])
  else (10, l)
def clearF (l : List Top) : Int × List Top := ((l.filter (fun t => !t.fixed)).length, l.filter (·.fixed))

theorem byName_some {cl : Cl} (h : cl.Ok) {t : Top} (ht : t ∈ cl.tops) : byName cl.tops t.name = some t := by
  unfold byName
  cases hf : cl.tops.find? (fun s => decide (s.name = t.name)) with
  | none => exact absurd (List.find?_eq_none.1 hf t ht) (by simp)
  | some s =>
    have h1 := List.find?_some hf
    have h2 := List.mem_of_find?_eq_some hf
    rw [Cl.name_inj h h2 ht (of_decide_eq_true h1)]
theorem Rg.tops_ok {R : Rg} (ho : R.Ok) (c : ByteArray) : ∃ cl : Cl, cl.Ok ∧ cl.tops = R.get c := by
  unfold Rg.get
  cases hc : mget R.cs c with
  | none => exact ⟨newCl 0, newCl_ok 0, rfl⟩
  | some cl => exact ⟨cl, ho.each _ (mget_some_mem hc), rfl⟩

/-- The registry behind a call: client c's topics are l. -/
structure Next (w w' : World) (R R' : Rg) (c : ByteArray) (l : List Top) : Prop where
  at' : R'.At w'
  ok : R'.Ok
  live : R'.Live
  step : Step R R' w w'
  others : ∀ c', c' ≠ c → R'.get c' = R.get c'
  self : R'.get c = l

theorem register_f (w : World) (R : Rg) (c n : ByteArray) (hn : n.size ≤ 9223372036854775807) (h : R.At w) (ho : R.Ok) (hl : R.Live) :
    Calls Tryz.prog 13 #[ptrV R.rb, .string c, .string n] w fun e w' => e = .returned (.tuple #[.int .i64 (regF (R.get c) n).id, .bool (regF (R.get c) n).fresh, .int .i64 (regF (R.get c) n).er]) ∧ ∃ R', Next w w' R R' c (regF (R.get c) n).tops := by
  obtain ⟨cl, hcl, hg⟩ := R.tops_ok ho c
  refine (register_walk w R c n hn h ho).mono fun e w' ⟨R', id, fresh, er, he, hat, hok, hst, hoth, hlive, hd⟩ => ?_
  have key : ∀ o : RegOut, regF (R.get c) n = o → o.id = id → o.fresh = fresh → o.er = er → o.tops = R'.get c → e = .returned (.tuple #[.int .i64 (regF (R.get c) n).id, .bool (regF (R.get c) n).fresh, .int .i64 (regF (R.get c) n).er]) ∧ ∃ R', Next w w' R R' c (regF (R.get c) n).tops := by
    intro o h1 h2 h3 h4 h5
    rw [h1, h2, h3, h4, he]
    exact ⟨rfl, R', hat, hok, hlive hl, hst, hoth, by rw [h5]⟩
  rcases hd with ⟨d1, rfl, rfl, rfl, d2⟩ | ⟨d1, rfl, rfl, d2, t, ht, d3, d4⟩ | ⟨d1, rfl, rfl, rfl, d2, d3, d4⟩ | ⟨d1, rfl, rfl, d2, d3, d4, d5, d6, d7⟩
  · exact key ⟨0, false, 10, R.get c⟩ (by unfold regF; rw [if_neg (by rw [d1]; simp)]) rfl rfl rfl d2.symm
  · refine key ⟨t.id, false, 0, R.get c⟩ ?_ d4 rfl rfl d2.symm
    unfold regF
    rw [if_pos d1, ← d3, ← hg, byName_some hcl (by rw [hg]; exact ht)]
  · refine key ⟨0, false, 12, R.get c⟩ ?_ rfl rfl rfl d2.symm
    unfold regF
    have : byName (R.get c) n = none := List.find?_eq_none.2 fun t ht => by simpa using d3 t ht
    rw [if_pos d1, this, lf_full d4]
    rfl
  · refine key ⟨id, true, 0, R.get c ++ [⟨id, n, false⟩]⟩ ?_ rfl rfl rfl d7.symm
    unfold regF
    have : byName (R.get c) n = none := List.find?_eq_none.2 fun t ht => by simpa using d2 t ht
    rw [if_pos d1, this, lf_unique d3 d4 d5 d6]
    show (if id = 65535 then _ else _) = _
    rw [if_neg (by omega)]

theorem predefine_f (w : World) (R : Rg) (c n : ByteArray) (id : Int) (hn : n.size ≤ 9223372036854775807) (h : R.At w) (ho : R.Ok) (hl : R.Live) :
    Calls Tryz.prog 9 #[ptrV R.rb, .string c, .string n, .int .i64 id] w fun e w' => e = .returned (.int .i64 (preF (R.get c) n id).1) ∧ ∃ R', Next w w' R R' c (preF (R.get c) n id).2 := by
  refine (predefine_walk w R c n id hn h ho).mono fun e w' ⟨R', er, he, hat, hok, hst, hoth, hlive, hd⟩ => ?_
  have key : ∀ o : Int × List Top, preF (R.get c) n id = o → o.1 = er → o.2 = R'.get c → e = .returned (.int .i64 (preF (R.get c) n id).1) ∧ ∃ R', Next w w' R R' c (preF (R.get c) n id).2 := by
    intro o h1 h4 h5
    rw [h1, h4, he]
    exact ⟨rfl, R', hat, hok, hlive hl, hst, hoth, by rw [h5]⟩
  rcases hd with ⟨d1, rfl, d2⟩ | ⟨d1, d2, rfl, d3⟩ | ⟨d1, d2, d3, d4, rfl, d5⟩ | ⟨d1, d2, d3, d4, ⟨t, ht, d5⟩, rfl, d6⟩ | ⟨d1, d2, d3, d4, rfl, d5⟩
  · exact key (10, R.get c) (by unfold preF; rw [if_neg (by rw [d1]; simp)]) rfl d2.symm
  · exact key (2, R.get c) (by unfold preF; rw [if_pos d1, if_pos d2]) rfl d3.symm
  · exact key (0, R.get c) (by unfold preF; rw [if_pos d1, if_neg (by omega), if_pos d4]) rfl d5.symm
  · refine key (16, R.get c) ?_ rfl d6.symm
    unfold preF
    rw [if_pos d1, if_neg (by omega), if_neg d4, if_pos (List.any_eq_true.2 ⟨t, ht, by simpa using d5⟩)]
  · refine key (0, R.get c ++ [⟨id, n, true⟩]) ?_ rfl d5.symm
    unfold preF
    rw [if_pos d1, if_neg (by omega), if_neg (fun hm => (d4 _ hm).1 rfl), if_neg]
    rw [List.any_eq_true]
    rintro ⟨t, ht, e⟩
    have := d4 t ht
    simp [this.1, this.2] at e

theorem clear_f (w : World) (R : Rg) (c : ByteArray) (h : R.At w) (ho : R.Ok) (hl : R.Live) :
    Calls Tryz.prog 11 #[ptrV R.rb, .string c] w fun e w' => e = .returned (.int .i64 (clearF (R.get c)).1) ∧ ∃ R', Next w w' R R' c (clearF (R.get c)).2 :=
  (clear_walk w R c h ho hl).mono fun _ _ ⟨R', he, hat, hok, hst, hoth, hlive, hd⟩ => ⟨he, R', hat, hok, hlive, hst, hoth, hd⟩

end Go.Proofs.YtfgnipcegnoagaaGreat
