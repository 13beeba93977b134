/- Name, ID, Fixed, Len, New at the level of registries. -/
import Derived.Test.YtfgnipcegnoagaaGreatW11
namespace Go.Proofs.YtfgnipcegnoagaaGreat
open Go.RowKit Go.MapKept

def byId (l : List Top) (id : Int) : Option Top := l.find? (fun t => t.id == id)
def byName (l : List Top) (n : ByteArray) : Option Top := l.find? (fun t => decide (t.name = n))
theorem Cl.all_byId (c : Cl) (id : Int) : mget c.all id = byId c.tops id := by
  unfold Cl.all byId
  induction c.tops with
  | nil => rfl
  | cons t l ih =>
    simp only [List.map_cons, mget, List.find?_cons]
    by_cases h : t.id = id
    · simp [h]
    · simp only [h, if_false, beq_eq_false_iff_ne.2 h]
      exact ih
theorem Cl.ids_byName (c : Cl) (n : ByteArray) : mget c.ids n = (byName c.tops n).map (·.id) := by
  unfold Cl.ids byName
  induction c.tops with
  | nil => rfl
  | cons t l ih =>
    simp only [List.map_cons, mget, List.find?_cons]
    by_cases h : t.name = n
    · simp [h]
    · simp only [h, if_false, decide_false]
      exact ih

def nameRes (l : List Top) (id : Int) : Ending := .returned (match byId l id with | some t => .tuple #[.string t.name, .int .i64 0] | none => .tuple #[.string ⟨#[]⟩, .int .i64 11])
def idRes (l : List Top) (n : ByteArray) : Ending := .returned (match byName l n with | some t => .tuple #[.int .i64 t.id, .int .i64 0] | none => .tuple #[.int .i64 0, .int .i64 11])

theorem name_rg (w : World) (R : Rg) (c : ByteArray) (id : Int) (h : R.At w) :
    Calls Tryz.prog 15 #[ptrV R.rb, .string c, .int .i64 id] w fun e w' => e = nameRes (R.get c) id ∧ Fr (fun _ => False) w w' := by
  cases hc : mget R.cs c with
  | none =>
    refine (name_none w R.rb R.mb c id _ h.reg h.cls (h.cb_none hc)).mono fun e w' ⟨h1, h2⟩ => ?_
    subst h2
    exact ⟨by rw [h1]; simp [nameRes, Rg.get, hc, byId], Fr.refl _ _⟩
  | some cl =>
    have hcl := h.each _ (mget_some_mem hc)
    refine (name_some w R.rb R.mb cl.cb cl.ib cl.ab cl.bv cl.nx c id _ _ h.reg h.cls (h.cb hc) hcl.blk hcl.all).mono fun e w' ⟨h1, h2⟩ => ⟨?_, h2⟩
    rw [h1, Cl.all_byId]
    simp only [nameRes, Rg.get, hc]
    cases byId cl.tops id <;> rfl

theorem id_rg (w : World) (R : Rg) (c n : ByteArray) (h : R.At w) :
    Calls Tryz.prog 17 #[ptrV R.rb, .string c, .string n] w fun e w' => e = idRes (R.get c) n ∧ w = w' := by
  cases hc : mget R.cs c with
  | none =>
    refine (id_none w R.rb R.mb c n _ h.reg h.cls (h.cb_none hc)).mono fun e w' ⟨h1, h2⟩ => ⟨?_, h2⟩
    rw [h1]; simp [idRes, Rg.get, hc, byName]
  | some cl =>
    have hcl := h.each _ (mget_some_mem hc)
    refine (id_some w R.rb R.mb cl.cb cl.ib cl.ab cl.bv cl.nx c n _ _ h.reg h.cls (h.cb hc) hcl.blk hcl.ids).mono fun e w' ⟨h1, h2⟩ => ⟨?_, h2⟩
    rw [h1, Cl.ids_byName]
    simp only [idRes, Rg.get, hc]
    cases byName cl.tops n <;> rfl

theorem fixed_rg (w : World) (R : Rg) (c : ByteArray) (id : Int) (h : R.At w) :
    Calls Tryz.prog 19 #[ptrV R.rb, .string c, .int .i64 id] w fun e w' => e = .returned (.bool (match byId (R.get c) id with | some t => t.fixed | none => false)) ∧ w = w' := by
  cases hc : mget R.cs c with
  | none =>
    refine (fixed_none w R.rb R.mb c id _ h.reg h.cls (h.cb_none hc)).mono fun e w' ⟨h1, h2⟩ => ⟨?_, h2⟩
    rw [h1]; simp [Rg.get, hc, byId]
  | some cl =>
    have hcl := h.each _ (mget_some_mem hc)
    refine (fixed_some w R.rb R.mb cl.cb cl.ib cl.ab cl.bv cl.nx c id _ _ h.reg h.cls (h.cb hc) hcl.blk hcl.all).mono fun e w' ⟨h1, h2⟩ => ⟨?_, h2⟩
    rw [h1, Cl.all_byId]
    simp only [Rg.get, hc]
    cases byId cl.tops id <;> rfl

theorem len_rg (w : World) (R : Rg) (c : ByteArray) (h : R.At w) :
    Calls Tryz.prog 27 #[ptrV R.rb, .string c] w fun e w' => e = .returned (.int .i64 (R.get c).length) ∧ w = w' := by
  cases hc : mget R.cs c with
  | none =>
    refine (len_none w R.rb R.mb c _ h.reg h.cls (h.cb_none hc)).mono fun e w' ⟨h1, h2⟩ => ⟨?_, h2⟩
    rw [h1]; simp [Rg.get, hc]
  | some cl =>
    have hcl := h.each _ (mget_some_mem hc)
    refine (len_some w R.rb R.mb cl.cb cl.ib cl.ab cl.bv cl.nx c _ _ h.reg h.cls (h.cb hc) hcl.blk hcl.all).mono fun e w' ⟨h1, h2⟩ => ⟨?_, h2⟩
    rw [h1]
    simp only [Rg.get, hc, Cl.all, List.length_map]

/-- A registry newly made. -/
def NewEnd (w : World) (e : Ending) (w' : World) : Prop :=
  ∃ R : Rg, e = .returned (ptrV R.rb) ∧ R.At w' ∧ R.Ok ∧ R.Live ∧ R.cs = [] ∧ Fr (fun _ => False) w w' ∧ ∀ k, R.fp k → w.heap.size ≤ k

theorem new_rg (w : World) : Calls Tryz.prog 6 #[] w (NewEnd w) := by
  refine (new_walk w).mono fun e w' ⟨h1, h2⟩ => ?_
  subst h2
  have hs : (w.alloc (.map #[] 0)).heap.size = w.heap.size + 1 := by
    show (w.heap.push (Obj.map #[] 0)).size = _
    exact Array.size_push ..
  have hm := MapAt.made w Value.string ptrV
  have f1 : Fr (fun _ => False) w (w.alloc (.map #[] 0)) := Fr.alloc _ _ _
  have f2 : Fr (fun _ => False) (w.alloc (.map #[] 0)) ((w.alloc (.map #[] 0)).alloc (.cells #[.map (some w.heap.size)] 52)) := Fr.alloc _ _ _
  refine ⟨⟨w.heap.size + 1, w.heap.size, []⟩, h1, ⟨alloc_at _ _ hs.symm, ?_, fun p hp => by cases hp⟩, ⟨by simp, by simp, by simp, by simp, by simp, by simp⟩, by simp [Rg.Live, mget], rfl, f1.trans f2 (fun _ _ h => h), fun k hk => ?_⟩
  · exact hm.of_block (f2.block _ hm.lt (fun h => h))
  · rcases hk with hk | hk | ⟨p, hp, _⟩
    · simp only at hk; omega
    · simp only at hk; omega
    · cases hp

end Go.Proofs.YtfgnipcegnoagaaGreat
