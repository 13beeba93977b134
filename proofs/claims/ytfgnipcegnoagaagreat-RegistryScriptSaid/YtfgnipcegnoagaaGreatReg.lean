/- What a registry is: in memory (Cl, Rg), and as its topics. -/
import Derived.Test.YtfgnipcegnoagaaGreatW8
import Derived.Test.YtfgnipcegnoagaaGreatW9
namespace Go.Proofs.YtfgnipcegnoagaaGreat
open Go.RowKit Go.MapKept

section plain
variable {κ ν μ : Type} [DecidableEq κ]
theorem mget_map (f : ν → μ) (m : List (κ × ν)) (k : κ) : mget (m.map (fun p => (p.1, f p.2))) k = (mget m k).map f := by
  induction m with
  | nil => rfl
  | cons p m ih =>
    simp only [List.map_cons, mget]
    split
    · rfl
    · exact ih
theorem mput_same {m : List (κ × ν)} {k : κ} {v v0 : ν} (h : mget m k = some v0) (f : ν → μ) (hf : f v = f v0) : (mput m k v).map (fun p => (p.1, f p.2)) = m.map (fun p => (p.1, f p.2)) := by
  induction m with
  | nil => simp [mget] at h
  | cons p m ih =>
    simp only [mget] at h
    simp only [mput]
    split
    · rename_i e
      subst e
      simp only [if_true, Option.some.injEq] at h
      simp [hf, h]
    · rename_i e
      simp only [e, if_false] at h
      simp [ih h]
theorem mem_mput {m : List (κ × ν)} {k : κ} {v : ν} (hn : (m.map (·.1)).Nodup) {p : κ × ν} (h : p ∈ mput m k v) : p = (k, v) ∨ (p ∈ m ∧ p.1 ≠ k) := by
  induction m with
  | nil => simp [mput] at h; exact .inl h
  | cons q m ih =>
    simp only [List.map_cons, List.nodup_cons] at hn
    simp only [mput] at h
    split at h
    · rename_i e
      cases h with
      | head => exact .inl rfl
      | tail _ h =>
        refine .inr ⟨.tail _ h, fun e2 => hn.1 ?_⟩
        rw [e, ← e2]
        exact List.mem_map.2 ⟨p, h, rfl⟩
    · rename_i e
      cases h with
      | head => exact .inr ⟨.head _, e⟩
      | tail _ h =>
        rcases ih hn.2 h with h | ⟨h1, h2⟩
        · exact .inl h
        · exact .inr ⟨.tail _ h1, h2⟩
theorem mem_mput_self (m : List (κ × ν)) (k : κ) (v : ν) : (k, v) ∈ mput m k v := by
  apply mget_some_mem
  rw [mget_mput]; simp
theorem mem_mput_other {m : List (κ × ν)} {k : κ} {v : ν} {p : κ × ν} (h : p ∈ m) (hne : p.1 ≠ k) : p ∈ mput m k v := by
  induction m with
  | nil => cases h
  | cons q m ih =>
    simp only [mput]
    split
    · rename_i e
      cases h with
      | head => exact absurd e hne
      | tail _ h => exact .tail _ h
    · cases h with
      | head => exact .head _
      | tail _ h => exact .tail _ (ih h)
theorem mem_mdel {m : List (κ × ν)} {k : κ} (hn : (m.map (·.1)).Nodup) {p : κ × ν} (h : p ∈ mdel m k) : p ∈ m ∧ p.1 ≠ k := by
  induction m with
  | nil => cases h
  | cons q m ih =>
    simp only [List.map_cons, List.nodup_cons] at hn
    simp only [mdel] at h
    split at h
    · rename_i e
      refine ⟨.tail _ h, fun e2 => hn.1 ?_⟩
      rw [e, ← e2]
      exact List.mem_map.2 ⟨p, h, rfl⟩
    · rename_i e
      cases h with
      | head => exact ⟨.head _, e⟩
      | tail _ h => exact ⟨.tail _ (ih hn.2 h).1, (ih hn.2 h).2⟩
theorem mdel_map (f : ν → μ) (m : List (κ × ν)) (k : κ) : (mdel m k).map (fun p => (p.1, f p.2)) = mdel (m.map (fun p => (p.1, f p.2))) k := by
  induction m with
  | nil => rfl
  | cons p m ih =>
    simp only [mdel, List.map_cons]
    split
    · rfl
    · simp [ih]
theorem mput_map (f : ν → μ) (m : List (κ × ν)) (k : κ) (v : ν) : (mput m k v).map (fun p => (p.1, f p.2)) = mput (m.map (fun p => (p.1, f p.2))) k (f v) := by
  induction m with
  | nil => rfl
  | cons p m ih =>
    simp only [mput, List.map_cons]
    split
    · rfl
    · simp [ih]
end plain

/-- A client in memory. -/
structure Cl where
  cb : Nat
  ib : Nat
  ab : Nat
  bv : Value
  nx : Int
  tops : List Top
  back : List Int

def Cl.ids (c : Cl) : List (ByteArray × Int) := c.tops.map fun t => (t.name, t.id)
def Cl.all (c : Cl) : List (Int × Top) := c.tops.map fun t => (t.id, t)

structure Cl.At (w : World) (c : Cl) : Prop where
  blk : ClientB w c.cb c.ib c.ab c.bv c.nx
  ids : IdsAt w c.ib c.ids
  all : AllAt w c.ab c.all
  back : BackAt w c.bv c.back

/-- The blocks that are a client's. -/
def Cl.fp (c : Cl) (k : Nat) : Prop := k = c.cb ∨ k = c.ib ∨ k = c.ab ∨ c.bv.ownBlock = some k
structure Cl.Sep (c : Cl) : Prop where
  ci : c.cb ≠ c.ib
  ca : c.cb ≠ c.ab
  ia : c.ib ≠ c.ab
  bc : c.bv.ownBlock ≠ some c.cb
  bi : c.bv.ownBlock ≠ some c.ib
  ba : c.bv.ownBlock ≠ some c.ab

structure Cl.Ok (c : Cl) : Prop where
  names : (c.tops.map (·.name)).Nodup
  idn : (c.tops.map (·.id)).Nodup
  range : ∀ t ∈ c.tops, 1 ≤ t.id ∧ t.id ≤ 65534
  good : ∀ t ∈ c.tops, nameOk t.name = true
  inv : FreeInv c.all c.nx c.back
  own : ∀ t ∈ c.tops, t.fixed = false → t.id ∉ c.back ∧ t.id < c.nx

theorem Cl.At.lt {w : World} {c : Cl} (h : c.At w) {k : Nat} (hk : c.fp k) : k < w.heap.size := by
  rcases hk with rfl | rfl | rfl | hk
  · exact lt_of_heap h.blk
  · exact h.ids.lt
  · exact h.all.lt
  · exact h.back.lt k hk
theorem Cl.At.kept {w w' : World} {c : Cl} (h : c.At w) (hb : ∀ k, c.fp k → w'.heap[k]? = w.heap[k]?) : c.At w' :=
  ⟨(hb _ (.inl rfl)).trans h.blk, h.ids.of_block (hb _ (.inr (.inl rfl))), h.all.of_block (hb _ (.inr (.inr (.inl rfl)))), h.back.kept fun g e => hb g (.inr (.inr (.inr e)))⟩

theorem all_none {c : Cl} {i : Int} : mget c.all i = none ↔ ∀ t ∈ c.tops, t.id ≠ i := by
  constructor
  · intro h t ht
    exact mget_none_not h (t.id, t) (List.mem_map.2 ⟨t, ht, rfl⟩)
  · intro h
    refine mget_none fun p hp => ?_
    obtain ⟨t, ht, rfl⟩ := List.mem_map.1 hp
    exact h t ht
theorem ids_none {c : Cl} {n : ByteArray} : mget c.ids n = none ↔ ∀ t ∈ c.tops, t.name ≠ n := by
  constructor
  · intro h t ht
    exact mget_none_not h (t.name, t.id) (List.mem_map.2 ⟨t, ht, rfl⟩)
  · intro h
    refine mget_none fun p hp => ?_
    obtain ⟨t, ht, rfl⟩ := List.mem_map.1 hp
    exact h t ht
theorem ids_some {c : Cl} {n : ByteArray} {i : Int} (h : mget c.ids n = some i) : ∃ t ∈ c.tops, t.name = n ∧ t.id = i := by
  obtain ⟨t, ht, e⟩ := List.mem_map.1 (mget_some_mem h)
  cases e
  exact ⟨t, ht, rfl, rfl⟩
theorem all_some {c : Cl} {i : Int} {t : Top} (h : mget c.all i = some t) : t ∈ c.tops ∧ t.id = i := by
  obtain ⟨t', ht, e⟩ := List.mem_map.1 (mget_some_mem h)
  cases e
  exact ⟨ht, rfl⟩

/-- A registry in memory. -/
structure Rg where
  rb : Nat
  mb : Nat
  cs : List (ByteArray × Cl)

structure Rg.At (w : World) (R : Rg) : Prop where
  reg : w.heap[R.rb]? = some (.cells #[.map (some R.mb)] 52 (0, 0))
  cls : ClientsAt w R.mb (R.cs.map fun p => (p.1, p.2.cb))
  each : ∀ p ∈ R.cs, p.2.At w
def Rg.fp (R : Rg) (k : Nat) : Prop := k = R.rb ∨ k = R.mb ∨ ∃ p ∈ R.cs, p.2.fp k
structure Rg.Ok (R : Rg) : Prop where
  rm : R.rb ≠ R.mb
  r : ∀ p ∈ R.cs, ¬ p.2.fp R.rb
  m : ∀ p ∈ R.cs, ¬ p.2.fp R.mb
  sep : ∀ p ∈ R.cs, p.2.Sep
  apart : ∀ p ∈ R.cs, ∀ q ∈ R.cs, p.1 ≠ q.1 → ∀ k, p.2.fp k → ¬ q.2.fp k
  each : ∀ p ∈ R.cs, p.2.Ok
def Rg.get (R : Rg) (c : ByteArray) : List Top := match mget R.cs c with | some cl => cl.tops | none => []

theorem Rg.At.keys {w : World} {R : Rg} (h : R.At w) : (R.cs.map (·.1)).Nodup := by
  have := h.cls.nodup
  rwa [List.map_map] at this
theorem Rg.At.lt {w : World} {R : Rg} (h : R.At w) {k : Nat} (hk : R.fp k) : k < w.heap.size := by
  rcases hk with rfl | rfl | ⟨p, hp, hk⟩
  · exact lt_of_heap h.reg
  · exact h.cls.lt
  · exact (h.each p hp).lt hk
theorem Rg.At.kept {w w' : World} {R : Rg} (h : R.At w) (hb : ∀ k, R.fp k → w'.heap[k]? = w.heap[k]?) : R.At w' :=
  ⟨(hb _ (.inl rfl)).trans h.reg, h.cls.of_block (hb _ (.inr (.inl rfl))), fun p hp => (h.each p hp).kept fun k hk => hb k (.inr (.inr ⟨p, hp, hk⟩))⟩
theorem Rg.At.cb {w : World} {R : Rg} (_h : R.At w) {c : ByteArray} {cl : Cl} (hc : mget R.cs c = some cl) : mget (R.cs.map fun p => (p.1, p.2.cb)) c = some cl.cb := by
  rw [mget_map (fun cl : Cl => cl.cb), hc]; rfl
theorem Rg.At.cb_none {w : World} {R : Rg} (_h : R.At w) {c : ByteArray} (hc : mget R.cs c = none) : mget (R.cs.map fun p => (p.1, p.2.cb)) c = none := by
  rw [mget_map (fun cl : Cl => cl.cb), hc]; rfl

/-- One client of a registry is another; its blocks are the same. -/
def Rg.setCl (R : Rg) (c : ByteArray) (cl : Cl) : Rg := { R with cs := mput R.cs c cl }
theorem Rg.setCl_get (R : Rg) (c : ByteArray) (cl : Cl) (c' : ByteArray) : (R.setCl c cl).get c' = if c = c' then cl.tops else R.get c' := by
  unfold Rg.setCl Rg.get
  simp only [mget_mput]
  by_cases h : c = c' <;> simp [h]
theorem Rg.setCl_at {w w' : World} {R : Rg} {c : ByteArray} {cl0 cl : Cl} (h : R.At w) (ho : R.Ok) (hc : mget R.cs c = some cl0) (hcb : cl.cb = cl0.cb) (hat : cl.At w') (hfr : ∀ k, R.fp k → ¬ cl0.fp k → w'.heap[k]? = w.heap[k]?) : (R.setCl c cl).At w' := by
  have hm := mget_some_mem hc
  refine ⟨(hfr _ (.inl rfl) (ho.r _ hm)).trans h.reg, ?_, fun p hp => ?_⟩
  · show ClientsAt w' R.mb ((mput R.cs c cl).map fun p => (p.1, p.2.cb))
    rw [mput_same hc (fun cl : Cl => cl.cb) hcb]
    exact h.cls.of_block (hfr _ (.inr (.inl rfl)) (ho.m _ hm))
  · rcases mem_mput h.keys hp with rfl | ⟨h1, h2⟩
    · exact hat
    · exact (h.each p h1).kept fun k hk => hfr k (.inr (.inr ⟨p, h1, hk⟩)) (ho.apart p h1 _ hm h2 k hk)
theorem Rg.setCl_fp {w : World} {R : Rg} {c : ByteArray} {cl : Cl} (h : R.At w) {k : Nat} (hk : (R.setCl c cl).fp k) : R.fp k ∨ cl.fp k := by
  rcases hk with hk | hk | ⟨p, hp, hk⟩
  · exact .inl (.inl hk)
  · exact .inl (.inr (.inl hk))
  · rcases mem_mput h.keys hp with rfl | ⟨h1, h2⟩
    · exact .inr hk
    · exact .inl (.inr (.inr ⟨p, h1, hk⟩))
/-- The new client's blocks are the old one's or were not there before. -/
theorem Rg.setCl_ok {w : World} {R : Rg} {c : ByteArray} {cl0 cl : Cl} (h : R.At w) (ho : R.Ok) (hc : mget R.cs c = some cl0) (hok : cl.Ok) (hsep : cl.Sep) (hfp : ∀ k, cl.fp k → cl0.fp k ∨ w.heap.size ≤ k) : (R.setCl c cl).Ok := by
  have hm := mget_some_mem hc
  have key : ∀ p ∈ R.cs, p.1 ≠ c → ∀ k, p.2.fp k → ¬ cl.fp k := fun p hp hne k hk hk2 => by
    rcases hfp k hk2 with h3 | h3
    · exact ho.apart p hp _ hm hne k hk h3
    · have := (h.each p hp).lt hk; omega
  refine ⟨ho.rm, fun p hp => ?_, fun p hp => ?_, fun p hp => ?_, fun p hp q hq hne => ?_, fun p hp => ?_⟩
  · rcases mem_mput h.keys hp with rfl | ⟨h1, h2⟩
    · intro hk
      rcases hfp _ hk with h3 | h3
      · exact ho.r _ hm h3
      · have := lt_of_heap h.reg; simp only [Rg.setCl] at h3; omega
    · exact ho.r p h1
  · rcases mem_mput h.keys hp with rfl | ⟨h1, h2⟩
    · intro hk
      rcases hfp _ hk with h3 | h3
      · exact ho.m _ hm h3
      · have := h.cls.lt; simp only [Rg.setCl] at h3; omega
    · exact ho.m p h1
  · rcases mem_mput h.keys hp with rfl | ⟨h1, h2⟩
    · exact hsep
    · exact ho.sep p h1
  · rcases mem_mput h.keys hp with rfl | ⟨h1, h2⟩
    · rcases mem_mput h.keys hq with rfl | ⟨h3, h4⟩
      · exact absurd rfl hne
      · exact fun k hk hk2 => key q h3 h4 k hk2 hk
    · rcases mem_mput h.keys hq with rfl | ⟨h3, h4⟩
      · exact key p h1 h2
      · exact ho.apart p h1 q h3 hne
  · rcases mem_mput h.keys hp with rfl | ⟨h1, h2⟩
    · exact hok
    · exact ho.each p h1

/-- From R in w to R' in w': what turned. -/
structure Step (R R' : Rg) (w w' : World) : Prop where
  rb : R'.rb = R.rb
  fr : Fr R.fp w w'
  fp : ∀ k, R'.fp k → R.fp k ∨ w.heap.size ≤ k
theorem Step.refl (R : Rg) (w : World) : Step R R w w := ⟨rfl, Fr.refl _ _, fun _ h => .inl h⟩
theorem Step.trans {R R1 R2 : Rg} {w w1 w2 : World} (h : Step R R1 w w1) (h2 : Step R1 R2 w1 w2) : Step R R2 w w2 :=
  ⟨h2.rb.trans h.rb, h.fr.trans h2.fr (fun k hk h1 => by rcases h.fp k h1 with h3 | h3; exact h3; omega), fun k hk => by
    rcases h2.fp k hk with h3 | h3
    · exact h.fp k h3
    · have := h.fr.size; exact .inr (by omega)⟩
/-- Nothing of a registry turns where nothing that was there turns. -/
theorem Rg.At.still {w w' : World} {R : Rg} (h : R.At w) (hf : Fr (fun _ => False) w w') : R.At w' := h.kept fun k hk => hf.block k (h.lt hk) (fun h => h)
theorem Step.still {R : Rg} {w w' : World} (hf : Fr (fun _ => False) w w') : Step R R w w' := ⟨rfl, hf.mono fun _ _ h => h.elim, fun _ h => .inl h⟩

theorem Rg.At.addCl {w w' : World} {R : Rg} {c : ByteArray} {cl : Cl} (h : R.At w) (ho : R.Ok) (hat : cl.At w') (hcls : ClientsAt w' R.mb (mput (R.cs.map fun p => (p.1, p.2.cb)) c cl.cb)) (hfr : Fr (fun k => k = R.mb) w w') : (R.setCl c cl).At w' := by
  refine ⟨(hfr.block _ (lt_of_heap h.reg) ho.rm).trans h.reg, ?_, fun p hp => ?_⟩
  · show ClientsAt w' R.mb ((mput R.cs c cl).map fun p => (p.1, p.2.cb))
    rw [mput_map (fun cl : Cl => cl.cb)]
    exact hcls
  · rcases mem_mput h.keys hp with rfl | ⟨h1, h2⟩
    · exact hat
    · exact (h.each p h1).kept fun k hk => hfr.block k ((h.each p h1).lt hk) (fun e => ho.m p h1 (e ▸ hk))
theorem Rg.Ok.addCl {w : World} {R : Rg} {c : ByteArray} {cl : Cl} (h : R.At w) (ho : R.Ok) (hok : cl.Ok) (hsep : cl.Sep) (hfp : ∀ k, cl.fp k → w.heap.size ≤ k) : (R.setCl c cl).Ok := by
  have key : ∀ p ∈ R.cs, ∀ k, p.2.fp k → ¬ cl.fp k := fun p hp k hk hk2 => by
    have h3 := hfp k hk2
    have := (h.each p hp).lt hk; omega
  refine ⟨ho.rm, fun p hp => ?_, fun p hp => ?_, fun p hp => ?_, fun p hp q hq hne => ?_, fun p hp => ?_⟩
  · rcases mem_mput h.keys hp with rfl | ⟨h1, h2⟩
    · intro hk
      have h3 := hfp _ hk
      have := lt_of_heap h.reg; simp only [Rg.setCl] at h3; omega
    · exact ho.r p h1
  · rcases mem_mput h.keys hp with rfl | ⟨h1, h2⟩
    · intro hk
      have h3 := hfp _ hk
      have := h.cls.lt; simp only [Rg.setCl] at h3; omega
    · exact ho.m p h1
  · rcases mem_mput h.keys hp with rfl | ⟨h1, h2⟩
    · exact hsep
    · exact ho.sep p h1
  · rcases mem_mput h.keys hp with rfl | ⟨h1, h2⟩
    · rcases mem_mput h.keys hq with rfl | ⟨h3, h4⟩
      · exact absurd rfl hne
      · exact fun k hk hk2 => key q h3 k hk2 hk
    · rcases mem_mput h.keys hq with rfl | ⟨h3, h4⟩
      · exact key p h1
      · exact ho.apart p h1 q h3 hne
  · rcases mem_mput h.keys hp with rfl | ⟨h1, h2⟩
    · exact hok
    · exact ho.each p h1

/-- A client without topics, newly made. -/
def newCl (n : Nat) : Cl := ⟨n + 2, n, n + 1, .slice none 0 0, 1, [], []⟩
theorem newCl_ok (n : Nat) : (newCl n).Ok := by
  refine ⟨by simp [newCl], by simp [newCl], by simp [newCl], by simp [newCl], ⟨fun k h1 h2 => ?_, by simp [newCl], by simp [newCl], by simp [newCl], by simp [newCl], fun i h1 h2 => ?_⟩, by simp [newCl]⟩
  · simp [newCl] at h2
  · simp [newCl] at h2; omega
theorem newCl_sep (n : Nat) : (newCl n).Sep := by
  refine ⟨?_, ?_, ?_, ?_, ?_, ?_⟩ <;> simp [newCl, Value.ownBlock]
theorem newCl_fp (n k : Nat) (h : (newCl n).fp k) : n ≤ k := by
  rcases h with h | h | h | h <;> simp [newCl, Value.ownBlock] at h <;> omega

theorem Cl.Ok.least0 {cl : Cl} (h : cl.Ok) {nx3 : Int} {back3 : List Int} (hp : LeastPost cl.all 0 nx3 back3) (hsub : ∀ x ∈ back3, x ∈ cl.back) (hnx : cl.nx ≤ nx3) (bv3 : Value) : ({ cl with bv := bv3, nx := nx3, back := back3 } : Cl).Ok :=
  ⟨h.names, h.idn, h.range, h.good, ⟨hp.heap, hp.nodup, hp.range, hp.low, hp.high, fun i h1 h2 h3 => hp.all i h1 h2 (by omega) h3⟩, fun t ht hf => ⟨fun hm => (h.own t ht hf).1 (hsub _ hm), by have := (h.own t ht hf).2; show t.id < nx3; omega⟩⟩
theorem Cl.Ok.leastReg {cl : Cl} (h : cl.Ok) {r nx3 : Int} {back3 : List Int} {n : ByteArray} (hp : LeastPost cl.all r nx3 back3) (hr : r ≠ 0) (hsub : ∀ x ∈ back3, x ∈ cl.back) (hnx : cl.nx ≤ nx3) (bv3 : Value) (hn : ∀ t ∈ cl.tops, t.name ≠ n) (hb : nameOk n = true) :
    ({ cl with bv := bv3, nx := nx3, back := back3, tops := cl.tops ++ [⟨r, n, false⟩] } : Cl).Ok := by
  obtain ⟨r1, r2, r3, r4, r5⟩ := hp.some hr
  rw [all_none] at r4
  refine ⟨?_, ?_, ?_, ?_, ⟨hp.heap, hp.nodup, hp.range, hp.low, hp.high, fun i h1 h2 h3 => ?_⟩, ?_⟩
  · simp only [List.map_append, List.map_cons, List.map_nil]
    refine List.nodup_append.2 ⟨h.names, by simp, ?_⟩
    intro a ha b hb e
    simp at hb
    obtain ⟨t, ht, rfl⟩ := List.mem_map.1 ha
    exact hn t ht (e.trans hb)
  · simp only [List.map_append, List.map_cons, List.map_nil]
    refine List.nodup_append.2 ⟨h.idn, by simp, ?_⟩
    intro a ha b hb e
    simp at hb
    obtain ⟨t, ht, rfl⟩ := List.mem_map.1 ha
    exact r4 t ht (e.trans hb)
  · intro t ht
    rcases List.mem_append.1 ht with ht | ht
    · exact h.range t ht
    · simp at ht; subst ht; exact ⟨r1, r2⟩
  · intro t ht
    rcases List.mem_append.1 ht with ht | ht
    · exact h.good t ht
    · simp at ht; subst ht; exact hb
  · rw [all_none] at h3
    have hne : i ≠ r := fun e => h3 ⟨r, n, false⟩ (by simp) e.symm
    exact hp.all i h1 h2 hne (all_none.2 fun t ht => h3 t (List.mem_append_left _ ht))
  · intro t ht hf
    rcases List.mem_append.1 ht with ht | ht
    · exact ⟨fun hm => (h.own t ht hf).1 (hsub _ hm), by have := (h.own t ht hf).2; show t.id < nx3; omega⟩
    · simp at ht; subst ht; exact ⟨hp.notin, r3⟩
theorem ids_put {cl : Cl} {n : ByteArray} (hn : ∀ t ∈ cl.tops, t.name ≠ n) (r : Int) (f : Bool) : mput cl.ids n r = ({ cl with tops := cl.tops ++ [⟨r, n, f⟩] } : Cl).ids := by
  rw [mput_length_new (ids_none.2 hn)]
  simp [Cl.ids]
theorem all_put {cl : Cl} {n : ByteArray} {r : Int} (hn : ∀ t ∈ cl.tops, t.id ≠ r) (f : Bool) : mput cl.all r ⟨r, n, f⟩ = ({ cl with tops := cl.tops ++ [⟨r, n, f⟩] } : Cl).all := by
  rw [mput_length_new (all_none.2 hn)]
  simp [Cl.all]

theorem Cl.Ok.pre {cl : Cl} (h : cl.Ok) {id : Int} {n : ByteArray} (h1 : 1 ≤ id) (h2 : id ≤ 65534) (hn : ∀ t ∈ cl.tops, t.name ≠ n) (hi : ∀ t ∈ cl.tops, t.id ≠ id) (hb : nameOk n = true) :
    ({ cl with tops := cl.tops ++ [⟨id, n, true⟩] } : Cl).Ok := by
  refine ⟨?_, ?_, ?_, ?_, ⟨h.inv.heap, h.inv.nodup, h.inv.range, h.inv.low, h.inv.high, fun i q1 q2 q3 => ?_⟩, ?_⟩
  · simp only [List.map_append, List.map_cons, List.map_nil]
    refine List.nodup_append.2 ⟨h.names, by simp, ?_⟩
    intro a ha b hb e
    simp at hb
    obtain ⟨t, ht, rfl⟩ := List.mem_map.1 ha
    exact hn t ht (e.trans hb)
  · simp only [List.map_append, List.map_cons, List.map_nil]
    refine List.nodup_append.2 ⟨h.idn, by simp, ?_⟩
    intro a ha b hb e
    simp at hb
    obtain ⟨t, ht, rfl⟩ := List.mem_map.1 ha
    exact hi t ht (e.trans hb)
  · intro t ht
    rcases List.mem_append.1 ht with ht | ht
    · exact h.range t ht
    · simp at ht; subst ht; exact ⟨h1, h2⟩
  · intro t ht
    rcases List.mem_append.1 ht with ht | ht
    · exact h.good t ht
    · simp at ht; subst ht; exact hb
  · rw [all_none] at q3
    exact h.inv.all i q1 q2 (all_none.2 fun t ht => q3 t (List.mem_append_left _ ht))
  · intro t ht hf
    rcases List.mem_append.1 ht with ht | ht
    · exact h.own t ht hf
    · simp at ht; subst ht; cases hf

/-- Each client that is there has a topic. -/
def Rg.Live (R : Rg) : Prop := ∀ c cl, mget R.cs c = some cl → cl.tops ≠ []
theorem live_of {R R' : Rg} {c : ByteArray} {cl : Cl} (hk : ∀ c', c' ≠ c → mget R'.cs c' = mget R.cs c') (hc : mget R'.cs c = some cl) (hne : cl.tops ≠ []) (h : R.Live) : R'.Live := fun c' cl' h' => by
  by_cases e : c' = c
  · subst e
    rw [hc] at h'
    cases h'
    exact hne
  · exact h c' cl' (by rw [← hk c' e]; exact h')
theorem Rg.setCl_keep (R : Rg) (c : ByteArray) (cl : Cl) : ∀ c', c' ≠ c → mget (R.setCl c cl).cs c' = mget R.cs c' := fun c' h => by
  simp [Rg.setCl, mget_mput, Ne.symm h]
theorem Rg.setCl_self (R : Rg) (c : ByteArray) (cl : Cl) : mget (R.setCl c cl).cs c = some cl := by simp [Rg.setCl, mget_mput]

end Go.Proofs.YtfgnipcegnoagaaGreat
