/- Base lemmas of this seat: a map's block as the list of its entries; what the map operations of the model do to it. No program in sight. -/
import Derived.WalkKit
import Derived.WalkSpells
import Derived.WalkLawsBesides
import Derived.Maps.RangeWalk
import Derived.StillTailTactics
import Derived.Deep.QuietTactic
import Derived.BigQuiet
import Derived.Lib.Hide
import Derived.Deep.LoopGhost
import Derived.Deep.CutBlock
import Derived.Deep.DeepFit
import Derived.Deep.DeepCutAuto
namespace Go.Proofs.YtfgnipcegnoagaaGreat
open Go.RowKit Go.MapKept
open Go.ChangeMaps (setBlock heap_setBlock_same heap_setBlock_other)

section maps
variable {κ ν : Type} [DecidableEq κ]

def mget : List (κ × ν) → κ → Option ν
  | [], _ => none
  | p :: m, k => if p.1 = k then some p.2 else mget m k
def mput : List (κ × ν) → κ → ν → List (κ × ν)
  | [], k, v => [(k, v)]
  | p :: m, k, v => if p.1 = k then (k, v) :: m else p :: mput m k v
def mdel : List (κ × ν) → κ → List (κ × ν)
  | [], _ => []
  | p :: m, k => if p.1 = k then m else p :: mdel m k

theorem mget_none {m : List (κ × ν)} {k : κ} (h : ∀ p ∈ m, p.1 ≠ k) : mget m k = none := by
  induction m with
  | nil => rfl
  | cons p m ih => simp [mget, h p (.head _), ih fun q hq => h q (.tail _ hq)]
theorem mget_some_mem {m : List (κ × ν)} {k : κ} {v : ν} (h : mget m k = some v) : (k, v) ∈ m := by
  induction m with
  | nil => simp [mget] at h
  | cons p m ih =>
    simp only [mget] at h
    split at h
    · rename_i e; cases h; subst e; exact .head _
    · exact .tail _ (ih h)
theorem mget_none_not {m : List (κ × ν)} {k : κ} (h : mget m k = none) : ∀ p ∈ m, p.1 ≠ k := by
  induction m with
  | nil => simp
  | cons p m ih =>
    simp only [mget] at h
    split at h
    · cases h
    · rename_i e
      intro q hq
      cases hq with
      | head => exact e
      | tail _ hq => exact ih h q hq
theorem mget_of_mem {m : List (κ × ν)} {k : κ} {v : ν} (hn : (m.map (·.1)).Nodup) (h : (k, v) ∈ m) : mget m k = some v := by
  induction m with
  | nil => cases h
  | cons p m ih =>
    simp only [List.map_cons, List.nodup_cons, List.mem_map] at hn
    cases h with
    | head => simp [mget]
    | tail _ h =>
      have : p.1 ≠ k := fun e => hn.1 ⟨(k, v), h, e.symm⟩
      simp [mget, this, ih hn.2 h]
theorem mget_mput (m : List (κ × ν)) (k k' : κ) (v : ν) : mget (mput m k v) k' = if k = k' then some v else mget m k' := by
  induction m with
  | nil => simp [mput, mget]
  | cons p m ih =>
    simp only [mput]
    by_cases e : p.1 = k
    · subst e
      simp only [if_true, mget]
      split <;> rfl
    · simp only [e, if_false, mget, ih]
      by_cases e1 : p.1 = k'
      · have : k ≠ k' := fun e2 => e (e1.trans e2.symm)
        simp [e1, this]
      · simp [e1]
theorem mget_mdel {m : List (κ × ν)} (hn : (m.map (·.1)).Nodup) (k k' : κ) : mget (mdel m k) k' = if k = k' then none else mget m k' := by
  induction m with
  | nil => simp [mdel, mget]
  | cons p m ih =>
    simp only [List.map_cons, List.nodup_cons, List.mem_map] at hn
    simp only [mdel]
    by_cases e : p.1 = k
    · subst e
      simp only [if_true, mget]
      split
      · rename_i e2
        subst e2
        exact mget_none fun q hq e3 => hn.1 ⟨q, hq, e3⟩
      · rfl
    · simp only [e, if_false, mget, ih hn.2]
      by_cases e1 : p.1 = k'
      · have : k ≠ k' := fun e2 => e (e1.trans e2.symm)
        simp [e1, this]
      · simp [e1]
theorem keys_mput (m : List (κ × ν)) (k : κ) (v : ν) : (mput m k v).map (·.1) = if k ∈ m.map (·.1) then m.map (·.1) else m.map (·.1) ++ [k] := by
  induction m with
  | nil => simp [mput]
  | cons p m ih =>
    simp only [mput]
    by_cases e : p.1 = k
    · subst e; simp
    · have e' : ¬ k = p.1 := fun h => e h.symm
      simp only [e, if_false, List.map_cons, ih, List.mem_cons, e', false_or]
      split <;> simp_all
theorem keys_mdel_sub (m : List (κ × ν)) (k : κ) : (mdel m k).Sublist m := by
  induction m with
  | nil => exact List.Sublist.refl _
  | cons p m ih =>
    simp only [mdel]
    split
    · exact List.sublist_cons_self _ _
    · exact ih.cons_cons _
theorem nodup_mput {m : List (κ × ν)} (h : (m.map (·.1)).Nodup) (k : κ) (v : ν) : ((mput m k v).map (·.1)).Nodup := by
  rw [keys_mput]
  split
  · exact h
  · rename_i hk
    refine List.nodup_append.2 ⟨h, by simp, ?_⟩
    intro a ha b hb
    simp at hb
    subst hb
    exact fun e => hk (e ▸ ha)
theorem nodup_mdel {m : List (κ × ν)} (h : (m.map (·.1)).Nodup) (k : κ) : ((mdel m k).map (·.1)).Nodup := ((keys_mdel_sub m k).map _).nodup h
theorem mdel_length {m : List (κ × ν)} {k : κ} (h : (mget m k).isSome) : (mdel m k).length + 1 = m.length := by
  induction m with
  | nil => simp [mget] at h
  | cons p m ih =>
    simp only [mget] at h
    simp only [mdel]
    split
    · rfl
    · rename_i e
      simp only [e, if_false] at h
      simp [ih h]
theorem mput_length_new {m : List (κ × ν)} {k : κ} (h : mget m k = none) (v : ν) : mput m k v = m ++ [(k, v)] := by
  induction m with
  | nil => rfl
  | cons p m ih =>
    simp only [mget] at h
    split at h
    · cases h
    · rename_i e
      simp [mput, e, ih h]
theorem mdel_absent {m : List (κ × ν)} {k : κ} (h : ∀ p ∈ m, p.1 ≠ k) : mdel m k = m := by
  induction m with
  | nil => rfl
  | cons p m ih => simp [mdel, h p (.head _), ih fun q hq => h q (.tail _ hq)]
theorem mdel_at {m : List (κ × ν)} {k : κ} {v : ν} (hn : (m.map (·.1)).Nodup) : ∀ {j : Nat}, m[j]? = some (k, v) → mdel m k = m.eraseIdx j := by
  induction m with
  | nil => intro j h; simp at h
  | cons p m ih =>
    intro j h
    simp only [List.map_cons, List.nodup_cons, List.mem_map] at hn
    cases j with
    | zero => simp at h; subst h; simp [mdel]
    | succ j =>
      have hm : (k, v) ∈ m := List.mem_of_getElem? (by simpa using h)
      have : p.1 ≠ k := fun e => hn.1 ⟨(k, v), hm, e.symm⟩
      simp [mdel, this, ih hn.2 (by simpa using h)]
theorem mput_at {m : List (κ × ν)} {k : κ} {v : ν} (u : ν) (hn : (m.map (·.1)).Nodup) : ∀ {j : Nat}, m[j]? = some (k, v) → mput m k u = m.set j (k, u) := by
  induction m with
  | nil => intro j h; simp at h
  | cons p m ih =>
    intro j h
    simp only [List.map_cons, List.nodup_cons, List.mem_map] at hn
    cases j with
    | zero => simp at h; subst h; simp [mput]
    | succ j =>
      have hm : (k, v) ∈ m := List.mem_of_getElem? (by simpa using h)
      have : p.1 ≠ k := fun e => hn.1 ⟨(k, v), hm, e.symm⟩
      simp [mput, this, ih hn.2 (by simpa using h)]

/-- How the keys of one kind stand as values. -/
structure KeyEnc (P : Program) (t : TypeId) (enc : κ → Value) : Prop where
  desc : ∃ d, P.underlying t = some d ∧ ∀ x, IsKey d (enc x)
  inj : ∀ x y, enc x = enc y → x = y

omit [DecidableEq κ] in
theorem keyEnc_string {P : Program} {t : TypeId} (h : P.underlying t = some .string) : KeyEnc P t Value.string := ⟨⟨_, h, fun _ => trivial⟩, fun _ _ e => by cases e; rfl⟩
theorem keyEnc_int {P : Program} {t : TypeId} {q : IntKind} (h : P.underlying t = some (.int q)) : KeyEnc P t (Value.int q) := ⟨⟨_, h, fun _ => rfl⟩, fun _ _ e => by cases e; rfl⟩

/-- Block b of w is a map that holds just the entries m, in the order in which they came. -/
def MapAt (w : World) (b : Nat) (enc : κ → Value) (encV : ν → Value) (m : List (κ × ν)) : Prop :=
  ∃ es clock, w.heap[b]? = some (.map es clock) ∧ Stamped es clock ∧ es.toList.map (fun e => (e.key, e.val)) = m.map (fun p => (enc p.1, encV p.2))

variable {P : Program} {w : World} {b : Nat} {enc : κ → Value} {encV : ν → Value} {m : List (κ × ν)} {tm tk te : TypeId}

omit [DecidableEq κ] in
theorem MapAt.of_block {w' : World} (h : MapAt w b enc encV m) (hb : w'.heap[b]? = w.heap[b]?) : MapAt w' b enc encV m := by
  obtain ⟨es, clock, h1, h2, h3⟩ := h
  exact ⟨es, clock, hb.trans h1, h2, h3⟩
omit [DecidableEq κ] in
theorem MapAt.lt (h : MapAt w b enc encV m) : b < w.heap.size := by
  obtain ⟨es, clock, h1, _⟩ := h
  exact (Array.getElem?_eq_some_iff.1 h1).1
omit [DecidableEq κ] in
theorem MapAt.made (w : World) (enc : κ → Value) (encV : ν → Value) : MapAt (w.alloc (.map #[] 0)) w.heap.size enc encV [] :=
  ⟨#[], 0, (MapKept.heap_alloc w _).1, stamped_empty 0, rfl⟩
omit [DecidableEq κ] in
theorem MapAt.nodup (h : MapAt w b enc encV m) : (m.map (·.1)).Nodup := by
  obtain ⟨es, clock, h1, h2, h3⟩ := h
  have e : es.toList.map (·.key) = (m.map (·.1)).map enc := by
    have := congrArg (List.map Prod.fst) h3
    simpa [List.map_map, Function.comp_def] using this
  have hk := h2.2.2
  rw [e] at hk
  exact List.Pairwise.of_map enc (fun a b h e => h (e ▸ rfl)) hk
omit [DecidableEq κ] in
theorem MapAt.lookat (h : MapAt w b enc encV m) (K : KeyEnc P tk enc) (k : κ) : ∃ es clock d, w.heap[b]? = some (.map es clock) ∧ Stamped es clock ∧ P.underlying tk = some d ∧ IsKey d (enc k) ∧ es.toList.map (fun e => (e.key, e.val)) = m.map (fun p => (enc p.1, encV p.2)) ∧
    ((Instr.findNow d (enc k) es.toList 0 = some none ∧ (∀ x ∈ es.toList, x.key ≠ enc k) ∧ ∀ p ∈ m, p.1 ≠ k) ∨ ∃ j v, Instr.findNow d (enc k) es.toList 0 = some (some (j, encV v)) ∧ (∃ e, es.toList[j]? = some e ∧ e.key = enc k ∧ e.val = encV v) ∧ m[j]? = some (k, v)) := by
  obtain ⟨es, clock, h1, h2, h3⟩ := h
  obtain ⟨d, hd, hk⟩ := K.desc
  have hks : ∀ x ∈ es.toList, IsKey d x.key := fun x hx => by
    have : (x.key, x.val) ∈ m.map (fun p => (enc p.1, encV p.2)) := h3 ▸ List.mem_map.2 ⟨x, hx, rfl⟩
    obtain ⟨p, _, e⟩ := List.mem_map.1 this
    simp only [Prod.mk.injEq] at e
    rw [← e.1]; exact hk _
  refine ⟨es, clock, d, h1, h2, hd, hk k, h3, ?_⟩
  rcases findNow_spec (hk k) es.toList 0 hks with ⟨f1, f2⟩ | ⟨j, e, f1, f2, f3⟩
  · refine .inl ⟨f1, f2, fun p hp e => ?_⟩
    have : (enc p.1, encV p.2) ∈ es.toList.map (fun e => (e.key, e.val)) := h3 ▸ List.mem_map.2 ⟨p, hp, rfl⟩
    obtain ⟨x, hx, e'⟩ := List.mem_map.1 this
    simp only [Prod.mk.injEq] at e'
    exact f2 x hx (by rw [e'.1, e])
  · have : (m.map (fun p => (enc p.1, encV p.2)))[j]? = some (e.key, e.val) := by rw [← h3, List.getElem?_map, f2]; rfl
    rw [List.getElem?_map] at this
    cases hm : m[j]? with
    | none => rw [hm] at this; cases this
    | some p =>
      rw [hm] at this
      simp only [Option.map_some, Option.some.injEq, Prod.mk.injEq] at this
      obtain ⟨e1, e2⟩ := this
      have e3 := K.inj _ _ (e1.trans f3)

      exact .inr ⟨j, p.2, by rw [f1, e2, Nat.zero_add], ⟨e, f2, f3, e2.symm⟩, by rw [hm, ← e3]⟩

theorem MapAt.lookup_some (h : MapAt w b enc encV m) (K : KeyEnc P tk enc) (ht : P.underlying tm = some (.map tk te)) {k : κ} {v : ν} (hk : mget m k = some v) (c : Bool) :
    (Instr.lookup tm (.map (some b)) (enc k) c).run P w = .ok (if c then .tuple #[encV v, .bool true] else encV v) w := by
  have hn := h.nodup
  obtain ⟨es, clock, d, h1, h2, hd, hkk, h3, h4⟩ := h.lookat K k
  rcases h4 with ⟨_, _, h5⟩ | ⟨j, v', h5, _, h6⟩
  · rw [mget_none h5] at hk; cases hk
  · have := mget_of_mem hn (List.mem_of_getElem? h6)
    rw [hk] at this; cases this
    simp [Instr.lookup, run_underlying ht, MapKept.run_getObj_map h1, run_checkKey hd hkk, run_findKey hd h5, Result.andThen]
theorem MapAt.lookup_none (h : MapAt w b enc encV m) (K : KeyEnc P tk enc) (ht : P.underlying tm = some (.map tk te)) {k : κ} (hk : mget m k = none) {z : Value} (hz : (zeroValue te).run P w = .ok z w) (c : Bool) :
    (Instr.lookup tm (.map (some b)) (enc k) c).run P w = .ok (if c then .tuple #[z, .bool false] else z) w := by
  have hn := h.nodup
  obtain ⟨es, clock, d, h1, h2, hd, hkk, h3, h4⟩ := h.lookat K k
  rcases h4 with ⟨h5, _, _⟩ | ⟨j, v', h5, _, h6⟩
  · simp [Instr.lookup, run_underlying ht, MapKept.run_getObj_map h1, run_checkKey hd hkk, run_findKey hd h5, Result.andThen, hz]
  · have := mget_of_mem hn (List.mem_of_getElem? h6)
    rw [hk] at this; cases this
theorem MapAt.update (h : MapAt w b enc encV m) (K : KeyEnc P tk enc) (ht : P.underlying tm = some (.map tk te)) (k : κ) (v : ν) :
    ∃ o, (Instr.mapUpdate tm (.map (some b)) (enc k) (encV v)).run P w = .ok () (setBlock w b o) ∧ MapAt (setBlock w b o) b enc encV (mput m k v) := by
  have hn := h.nodup
  obtain ⟨es, clock, d, h1, h2, hd, hkk, h3, h4⟩ := h.lookat K k
  rcases h4 with ⟨h5, h6, h7⟩ | ⟨j, v', h5, ⟨e, f2, f3, f4⟩, h6⟩
  · refine ⟨.map (es.push { key := enc k, val := encV v, born := clock }) (clock + 1), ?_, _, _, heap_setBlock_same h1 _, stamped_push h2 h6, ?_⟩
    · simp [Instr.mapUpdate, run_underlying ht, MapKept.run_getObj_map h1, run_checkKey hd hkk, run_findKey hd h5, MapKept.run_setObj_map _ h1, Result.andThen, setBlock]
    · rw [mput_length_new (mget_none h7)]; simp [h3]
  · have hj : es[j]? = some e := by simpa using f2
    have hkey : ∀ e', es[j]? = some e' → ({ e' with key := enc k, val := encV v } : MapEntry).key = e'.key := fun e' he' => by rw [hj] at he'; cases he'; exact f3.symm
    refine ⟨.map (es.modify j fun e => { e with key := enc k, val := encV v }) clock, ?_, _, _, heap_setBlock_same h1 _, stamped_modify h2 _ _ (fun _ _ => rfl) (fun e' _ he' => hkey e' he'), ?_⟩
    · simp [Instr.mapUpdate, run_underlying ht, MapKept.run_getObj_map h1, run_checkKey hd hkk, run_findKey hd h5, hj, f3, run_keyThatStays hkk, MapKept.run_setObj_map _ h1, Result.andThen, setBlock]
    · rw [mput_at v hn h6]
      apply List.ext_getElem?
      intro i
      have h3i := congrArg (fun l => l[i]?) h3
      simp only [List.getElem?_map, List.getElem?_set, Array.getElem?_toList, Array.getElem?_modify] at h3i ⊢
      by_cases hij : j = i
      · subst hij
        have hjm : j < m.length := (List.getElem?_eq_some_iff.1 h6).1
        simp [hj, hjm]
      · simp only [hij, if_false]
        exact h3i
theorem MapAt.delete (h : MapAt w b enc encV m) (K : KeyEnc P tk enc) (ht : P.underlying tm = some (.map tk te)) (k : κ) (ty : TypeId) :
    ∃ o, (Builtin.delete_ #[tm, tk] ty #[.map (some b), enc k]).run P w = .ok (.tuple #[]) (setBlock w b o) ∧ MapAt (setBlock w b o) b enc encV (mdel m k) := by
  have hn := h.nodup
  obtain ⟨es, clock, d, h1, h2, hd, hkk, h3, h4⟩ := h.lookat K k
  rcases h4 with ⟨h5, h6, h7⟩ | ⟨j, v', h5, ⟨e, f2, f3, f4⟩, h6⟩
  · refine ⟨.map es clock, ?_, _, _, heap_setBlock_same h1 _, h2, ?_⟩
    · simp [Builtin.delete_, run_underlying ht, MapKept.run_getObj_map h1, run_checkKey hd hkk, run_findKey hd h5, MapKept.run_setObj_map _ h1, Result.andThen, setBlock]
    · rw [mdel_absent h7]; exact h3
  · have hjs : j < es.size := by simpa using (List.getElem?_eq_some_iff.1 f2).1
    have hsub : (es.eraseIdxIfInBounds j).toList = es.toList.eraseIdx j := by
      unfold Array.eraseIdxIfInBounds
      rw [dif_pos hjs]
      simp
    refine ⟨.map (es.eraseIdxIfInBounds j) clock, ?_, _, _, heap_setBlock_same h1 _, stamped_erase h2 j, ?_⟩
    · simp [Builtin.delete_, run_underlying ht, MapKept.run_getObj_map h1, run_checkKey hd hkk, run_findKey hd h5, MapKept.run_setObj_map _ h1, Result.andThen, setBlock]
    · rw [mdel_at hn h6, hsub, Go.ChangeMaps.map_eraseIdx, h3, Go.ChangeMaps.map_eraseIdx]
omit [DecidableEq κ] in
theorem MapAt.len (h : MapAt w b enc encV m) (ht : P.underlying tm = some (.map tk te)) (ty : TypeId) : (Builtin.len_ #[tm] ty #[.map (some b)]).run P w = .ok (.int .i64 m.length) w := by
  obtain ⟨es, clock, h1, h2, h3⟩ := h
  have : es.size = m.length := by simpa using congrArg List.length h3
  simp [Builtin.len_, run_underlying ht, MapKept.run_getObj_map h1, Result.andThen, this, goInt]
theorem setBlock_grown (w : World) (b : Nat) (o : Obj) : w.grownBy (setBlock w b o) (some b) :=
  ⟨rfl, rfl, rfl, by simp [setBlock], fun i _ hi => by
    have : i ≠ b := fun e => hi (by rw [e])
    simp [setBlock, Ne.symm this]⟩

theorem wpList_updateM {P : Program} (w : World) {ops : Array Oper} {rest : List Oper} {o : Oper} {a : Act} {Q : Exit → Act → World → Prop} (hg : o.guard = none) (mo x v : Operand) (t : TypeId) (hop : o.op = Op.mapUpdate t mo x v)
    (K : KeyEnc P tk enc) (ht : P.underlying t = some (.map tk te)) (b : Nat) (mm : List (κ × ν)) (hm : a.eval mo = .map (some b)) (hM : MapAt w b enc encV mm) (k : κ) (u : ν) (hx : a.eval x = enc k) (hv : a.eval v = encV u)
    (hK : ∀ w', MapAt w' b enc encV (mput mm k u) → w.grownBy w' (some b) → w'.heap.size = w.heap.size → wpList P ops Q rest (a.put o.dst undef) w') :
    wpList P ops Q (o :: rest) a w := by
  refine wpList_plain hg fun K' hK' => ?_
  obtain ⟨ob, hrun, h2⟩ := hM.update K ht k u
  unfold Oper.wp
  simp [execOp, hop, hm, hx, hv, hrun, Result.andThen]
  exact hK' _ _ (hK _ h2 (setBlock_grown w b ob) (by simp [setBlock]))
theorem wpList_deleteM {P : Program} (w : World) {ops : Array Oper} {rest : List Oper} {o : Oper} {a : Act} {Q : Exit → Act → World → Prop} (hg : o.guard = none) (mo x : Operand) (t tk : TypeId) (hop : o.op = Op.call { callee := Callee.builtin Builtin.delete, args := #[mo, x], argTypes := #[t, tk] })
    (K : KeyEnc P tk enc) (ht : P.underlying t = some (.map tk te)) (b : Nat) (mm : List (κ × ν)) (hm : a.eval mo = .map (some b)) (hM : MapAt w b enc encV mm) (k : κ) (hx : a.eval x = enc k)
    (hK : ∀ w', MapAt w' b enc encV (mdel mm k) → w.grownBy w' (some b) → w'.heap.size = w.heap.size → wpList P ops Q rest (a.put o.dst (.tuple #[])) w') :
    wpList P ops Q (o :: rest) a w := by
  refine wpList_plain hg fun K' hK' => ?_
  obtain ⟨ob, hrun, h2⟩ := hM.delete K ht k o.type
  unfold Oper.wp
  simp [execOp, hop, resolve, invoke, builtin, hm, hx, hrun, Result.andThen]
  exact hK' _ _ (hK _ h2 (setBlock_grown w b ob) (by simp [setBlock]))
end maps

/-- From w to w' nothing that was there has turned but the blocks in fp. -/
structure Fr (fp : Nat → Prop) (w w' : World) : Prop where
  os : w'.os = w.os
  tape : w'.tape = w.tape
  output : w'.output = w.output
  size : w.heap.size ≤ w'.heap.size
  block : ∀ k, k < w.heap.size → ¬ fp k → w'.heap[k]? = w.heap[k]?

theorem Fr.refl (fp : Nat → Prop) (w : World) : Fr fp w w := ⟨rfl, rfl, rfl, Nat.le_refl _, fun _ _ _ => rfl⟩
theorem Fr.trans {fp fp' : Nat → Prop} {a b c : World} (h : Fr fp a b) (h' : Fr fp' b c) (hs : ∀ k, k < a.heap.size → fp' k → fp k) : Fr fp a c :=
  ⟨h'.os.trans h.os, h'.tape.trans h.tape, h'.output.trans h.output, Nat.le_trans h.size h'.size, fun k hk hn => (h'.block k (Nat.lt_of_lt_of_le hk h.size) fun h1 => hn (hs k hk h1)).trans (h.block k hk hn)⟩
theorem Fr.mono {fp fp' : Nat → Prop} {a b : World} (h : Fr fp a b) (hs : ∀ k, k < a.heap.size → fp k → fp' k) : Fr fp' a b :=
  ⟨h.os, h.tape, h.output, h.size, fun k hk hn => h.block k hk fun h1 => hn (hs k hk h1)⟩
theorem Fr.of_grown {a b : World} {row : Option Nat} (h : a.grownBy b row) {fp : Nat → Prop} (hs : ∀ k, row = some k → fp k) : Fr fp a b :=
  ⟨h.os, h.tape, h.output, h.size, fun k hk hn => h.block k hk fun e => hn (hs k e.symm)⟩
theorem Fr.alloc (fp : Nat → Prop) (w : World) (o : Obj) : Fr fp w (w.alloc o) := Fr.of_grown (World.grownBy_alloc w o none) (fun _ e => by cases e)
theorem Fr.drewN (fp : Nat → Prop) (w : World) (n : Nat) : Fr fp w (w.drewN n) := ⟨rfl, rfl, rfl, Nat.le_refl _, fun _ _ _ => rfl⟩
theorem Fr.setCell (w : World) (a : Addr) (v : Value) {fp : Nat → Prop} (h : fp a.block) : Fr fp w (w.setCell a v) :=
  ⟨rfl, rfl, rfl, by simp [World.setCell], fun k _ hn => Below.heap_setCell w a v k fun e => hn (e ▸ h)⟩
theorem Fr.below {B : Nat} {w w' : World} (h : Fr (fun k => B ≤ k) w w') (hB : B ≤ w.heap.size) : Below B w w' :=
  ⟨h.os, h.tape, h.output, h.size, fun k hk => h.block k (Nat.lt_of_lt_of_le hk hB) (by omega)⟩
theorem Fr.cell {fp : Nat → Prop} {w w' : World} (h : Fr fp w w') {p : Addr} (hp : p.block < w.heap.size) (hn : ¬ fp p.block) : w'.cell? p = w.cell? p := World.cell?_of_block (w := w) (h.block p.block hp hn)

/-- A region that draws its order: all but the last operations read or compute; the tail comes last. In some world that differs from w in the count of draws alone. -/
theorem wp_region_tail {P : Program} {id : Nat} {Q : Exit → Act → World → Prop} {a : Act} {w : World} {l : List Oper} (n : Nat) (hm : P.follows .mixedOrders = true) (hB : Region.lexTailB .any l.toArray n = true)
    (h : ∀ w1 : World, w1.heap = w.heap → w1.tape = w.tape → w1.os = w.os → w1.output = w.output → wpStill P l.toArray w1 (fun a' => wpList P l.toArray Q (l.drop n) a' w1) (l.take n) a) : (Code.region id l.toArray true).wp P Q a w :=
  wp_region_still_tail n hm hB (h _ rfl rfl rfl rfl)
theorem cell?_heap {w w1 : World} (h : w1.heap = w.heap) (a : Addr) : w1.cell? a = w.cell? a := by simp [World.cell?, h]
theorem frozen?_heap {w w1 : World} (h : w1.heap = w.heap) (a : Addr) : w1.frozen? a = w.frozen? a := by simp [World.frozen?, h]
theorem Fr.of_heap {fp : Nat → Prop} {w w1 : World} (h : w1.heap = w.heap) (ht : w1.tape = w.tape) (ho : w1.os = w.os) (hp : w1.output = w.output) : Fr fp w w1 := ⟨ho, ht, hp, by rw [h]; exact Nat.le_refl _, fun k _ _ => by rw [h]⟩

theorem rowC {w : World} {b : Nat} {cs : Array Value} {t : TypeId} (h : w.heap[b]? = some (.cells cs t (0, 0))) (i : Nat) : w.cell? ⟨b, i, none⟩ = cs[i]? := by simp [World.cell?, h]
theorem rowF {w : World} {b : Nat} {cs : Array Value} {t : TypeId} (h : w.heap[b]? = some (.cells cs t (0, 0))) (i : Nat) : w.frozen? ⟨b, i, none⟩ = false := by simp [World.frozen?, h]
theorem lt_of_heap {w : World} {b : Nat} {o : Obj} (h : w.heap[b]? = some o) : b < w.heap.size := (Array.getElem?_eq_some_iff.1 h).1
theorem alloc_new (w : World) (o : Obj) : (w.alloc o).heap[w.heap.size]? = some o := (MapKept.heap_alloc w o).1
theorem alloc_old (w : World) (o : Obj) {k : Nat} (h : k < w.heap.size) : (w.alloc o).heap[k]? = w.heap[k]? := (MapKept.heap_alloc w o).2 k h

theorem cell_old {w : World} (o : Obj) {a : Addr} (h : a.block < w.heap.size) : (w.alloc o).cell? a = w.cell? a := World.cell?_of_block (alloc_old w o h)
theorem frozen_old {w : World} (o : Obj) {a : Addr} (h : a.block < w.heap.size) : (w.alloc o).frozen? a = w.frozen? a := World.frozen?_of_block (alloc_old w o h)

theorem alloc_at (w : World) (o : Obj) {k : Nat} (h : k = w.heap.size) : (w.alloc o).heap[k]? = some o := by subst h; exact alloc_new w o

theorem ret_int {k : IntKind} {a b : Int} (h : a = b) : Ending.returned (.int k a) = .returned (.int k b) := by rw [h]
theorem ret_bool {a b : Bool} (h : a = b) : Ending.returned (.bool a) = .returned (.bool b) := by rw [h]

end Go.Proofs.YtfgnipcegnoagaaGreat
