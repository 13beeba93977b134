/- Clear: what is taken away, plainly; the push of an id that is free again. -/
import Derived.Test.YtfgnipcegnoagaaGreatTops
namespace Go.Proofs.YtfgnipcegnoagaaGreat
open Go.RowKit Go.MapKept

theorem mdel_filter {κ ν : Type} [DecidableEq κ] {m : List (κ × ν)} (hn : (m.map (·.1)).Nodup) (k : κ) : mdel m k = m.filter (fun p => decide (p.1 ≠ k)) := by
  induction m with
  | nil => rfl
  | cons p m ih =>
    simp only [List.map_cons, List.nodup_cons] at hn
    simp only [mdel, List.filter_cons]
    by_cases h : p.1 = k
    · simp only [h, if_true, ne_eq, not_true_eq_false, decide_false, Bool.false_eq_true, if_false]
      refine (List.filter_eq_self.2 fun q hq => ?_).symm
      simp only [decide_not, Bool.not_eq_true', decide_eq_false_iff_not]
      intro e
      exact hn.1 (List.mem_map.2 ⟨q, hq, by rw [e, h]⟩)
    · simp only [h, if_false, ne_eq, not_false_eq_true, decide_true, if_true]
      rw [ih hn.2]

theorem Cl.name_inj {cl : Cl} (h : cl.Ok) {t s : Top} (ht : t ∈ cl.tops) (hs : s ∈ cl.tops) (e : t.name = s.name) : t = s := by
  have hids : (cl.ids.map (·.1)).Nodup := by simpa [Cl.ids, Function.comp_def] using h.names
  have h1 := mget_of_mem hids (k := t.name) (v := t.id) (List.mem_map.2 ⟨t, ht, rfl⟩)
  have h2 := mget_of_mem hids (k := s.name) (v := s.id) (List.mem_map.2 ⟨s, hs, rfl⟩)
  rw [e, h2] at h1
  exact Cl.id_inj h ht hs (Option.some.inj h1).symm

def rmT (l : List Top) (t : Top) : List Top := l.filter (fun s => decide (s.id ≠ t.id))
theorem Cl.all_rm {cl : Cl} (h : cl.Ok) (t : Top) : mdel cl.all t.id = (rmT cl.tops t).map (fun t => (t.id, t)) := by
  rw [mdel_filter (by simpa [Cl.all, Function.comp_def] using h.idn)]
  unfold Cl.all rmT
  rw [List.filter_map]
  rfl
theorem Cl.ids_rm {cl : Cl} (h : cl.Ok) {t : Top} (ht : t ∈ cl.tops) : mdel cl.ids t.name = (rmT cl.tops t).map (fun t => (t.name, t.id)) := by
  rw [mdel_filter (by simpa [Cl.ids, Function.comp_def] using h.names)]
  unfold Cl.ids rmT
  rw [List.filter_map]
  congr 1
  refine List.filter_congr fun s hs => ?_
  simp only [Function.comp_def, ne_eq, decide_not, Bool.not_eq_eq_eq_not, Bool.not_not]
  by_cases e : s.id = t.id
  · rw [Cl.id_inj h hs ht e]; simp
  · have : s.name ≠ t.name := fun e2 => e (by rw [Cl.name_inj h hs ht e2])
    simp [e, this]

theorem Cl.Ok.rm {cl : Cl} (h : cl.Ok) {t : Top} (ht : t ∈ cl.tops) (hf : t.fixed = false) (bv' : Value) {back' : List Int} (hp : back'.Perm (cl.back ++ [t.id])) (hh : IsHeap back'.length back') :
    ({ cl with tops := rmT cl.tops t, bv := bv', back := back' } : Cl).Ok := by
  have hsub : ∀ s ∈ rmT cl.tops t, s ∈ cl.tops := fun s hs => (List.mem_filter.1 hs).1
  have hne : ∀ s ∈ rmT cl.tops t, s.id ≠ t.id := fun s hs => of_decide_eq_true (List.mem_filter.1 hs).2
  have hsl : (rmT cl.tops t).Sublist cl.tops := List.filter_sublist
  obtain ⟨o1, o2⟩ := h.own t ht hf
  have hr := h.range t ht
  refine ⟨(hsl.map _).nodup h.names, (hsl.map _).nodup h.idn, fun s hs => h.range s (hsub s hs), fun s hs => h.good s (hsub s hs), ⟨hh, ?_, ?_, h.inv.low, h.inv.high, ?_⟩, fun s hs hfs => ?_⟩
  · rw [hp.nodup_iff, List.nodup_append]
    exact ⟨h.inv.nodup, by simp, fun a ha b hb e => by simp at hb; subst hb; subst e; exact o1 ha⟩
  · intro x hx
    have hx' := hp.mem_iff.1 hx
    rcases List.mem_append.1 hx' with h1 | h1
    · exact h.inv.range x h1
    · simp at h1; subst h1; exact ⟨hr.1, o2⟩
  · intro i h1 h2 h3
    refine hp.mem_iff.2 (List.mem_append.2 ?_)
    by_cases e : i = t.id
    · exact .inr (by simp [e])
    · left
      refine h.inv.all i h1 h2 (all_none.2 fun s hs e2 => ?_)
      have hs' : s ∈ rmT cl.tops t := List.mem_filter.2 ⟨hs, by simp [e2, e]⟩
      exact (all_none (c := { cl with tops := rmT cl.tops t, bv := bv', back := back' })).1 h3 s hs' e2
  · obtain ⟨p1, p2⟩ := h.own s (hsub s hs) hfs
    refine ⟨fun hx => ?_, p2⟩
    rcases List.mem_append.1 (hp.mem_iff.1 hx) with h1 | h1
    · exact p1 h1
    · simp at h1; exact hne s hs h1

def PushCl (w : World) (cl : Cl) (x : Int) (e : Ending) (w' : World) : Prop :=
  ∃ (bv' : Value) (back' : List Int), e = .returned (.tuple #[]) ∧ ClientB w' cl.cb cl.ib cl.ab bv' cl.nx ∧ BackAt w' bv' back' ∧ back'.Perm (cl.back ++ [x]) ∧ IsHeap back'.length back' ∧ (∀ k, bv'.ownBlock = some k → cl.bv.ownBlock = some k ∨ w.heap.size ≤ k) ∧ Fr (fun k => k = cl.cb ∨ cl.bv.ownBlock = some k) w w'

theorem push_cl (w : World) (cl : Cl) (x : Int) (hb : ClientB w cl.cb cl.ib cl.ab cl.bv cl.nx) (hk : BackAt w cl.bv cl.back) (hs : cl.bv.ownBlock ≠ some cl.cb) (hh : IsHeap cl.back.length cl.back) (hl : cl.back.length ≤ 100000) :
    Calls Tryz.prog 37 #[.iface 72 (.pointer (some ⟨cl.cb, 2, none⟩)), .iface 3 (.int .i64 x)] w (PushCl w cl x) := by
  have hcl := lt_of_heap hb
  refine (hpush_walk w ⟨cl.cb, 2, none⟩ cl.bv cl.back x (rowC hb 2) (rowF hb 2) hcl hk hs hl hh).mono fun e w' ⟨g, cap, ys, W1, h1, h2, h3, h4, h5, h6, h7⟩ => ?_
  have hgc : cl.cb ≠ g := fun e => by
    rcases h5 with h5 | h5
    · exact hs (by rw [h5, e])
    · omega
  have b1 : ClientB W1 cl.cb cl.ib cl.ab cl.bv cl.nx := (h6.block cl.cb hcl hs).trans hb
  have b2 : ClientB (W1.setCell ⟨cl.cb, 2, none⟩ (.slice (some ⟨g, 0, none⟩) (cl.back.length + 1) cap)) cl.cb cl.ib cl.ab (.slice (some ⟨g, 0, none⟩) (cl.back.length + 1) cap) cl.nx := heap_setCell b1 2 _
  have b3 : ClientB w' cl.cb cl.ib cl.ab (.slice (some ⟨g, 0, none⟩) (cl.back.length + 1) cap) cl.nx := (h7.block cl.cb (lt_of_heap b2) hgc).trans b2
  have hlen : ys.length = cl.back.length + 1 := by rw [h3.length_eq]; simp
  refine ⟨.slice (some ⟨g, 0, none⟩) ys.length cap, ys, h1, by rw [hlen]; exact b3, BackAt.of_row h2.row, h3, h4, fun k hk => ?_, ?_⟩
  · have : g = k := by simpa [Value.ownBlock] using hk
    subst this
    exact h5
  · have f1 : Fr (fun k => k = cl.cb ∨ cl.bv.ownBlock = some k) w (W1.setCell ⟨cl.cb, 2, none⟩ (.slice (some ⟨g, 0, none⟩) (cl.back.length + 1) cap)) := (h6.mono (fun k _ h => .inr h)).trans (Fr.setCell W1 _ _ (fp := fun k => k = cl.cb) rfl) (fun _ _ h => .inl h)
    refine f1.trans h7 (fun k hk e => ?_)
    rcases h5 with h5 | h5
    · exact .inr (by rw [h5, e])
    · omega
end Go.Proofs.YtfgnipcegnoagaaGreat
