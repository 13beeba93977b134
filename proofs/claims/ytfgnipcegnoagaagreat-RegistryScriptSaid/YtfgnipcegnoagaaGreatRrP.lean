/- The reference's answers are the program's, plainly. -/
import Derived.Test.YtfgnipcegnoagaaGreatRr9
namespace Go.Proofs.YtfgnipcegnoagaaGreat
open Go.RowKit Go.MapKept

/-- Unique finds survive a change of order. -/
theorem find_perm {α : Type} {p : α → Bool} {l s : List α} (hp : s.Perm l) (hu : ∀ x ∈ l, ∀ y ∈ l, p x = true → p y = true → x = y) : s.find? p = l.find? p := by
  cases h : l.find? p with
  | none =>
    refine List.find?_eq_none.2 fun x hx => ?_
    exact List.find?_eq_none.1 h x (hp.mem_iff.1 hx)
  | some x =>
    have h1 := List.find?_some h
    have h2 := List.mem_of_find?_eq_some h
    cases h' : s.find? p with
    | none => exact absurd h1 (List.find?_eq_none.1 h' x (hp.mem_iff.2 h2))
    | some y =>
      have h3 := List.find?_some h'
      have h4 := List.mem_of_find?_eq_some h'
      rw [hu y (hp.mem_iff.1 h4) x h2 h3 h1]
theorem byName_srt {cl : Cl} (h : cl.Ok) (n : ByteArray) : byName (srtT cl.tops) n = byName cl.tops n :=
  find_perm (srtT_perm _) fun x hx y hy h1 h2 => Cl.name_inj h hx hy ((of_decide_eq_true h1).trans (of_decide_eq_true h2).symm)
theorem byId_srt {cl : Cl} (h : cl.Ok) (id : Int) : byId (srtT cl.tops) id = byId cl.tops id :=
  find_perm (srtT_perm _) fun x hx y hy h1 h2 => Cl.id_inj h hx hy (by
    have e1 : x.id = id := by simpa using h1
    have e2 : y.id = id := by simpa using h2
    omega)
theorem nameRes_srt {cl : Cl} (h : cl.Ok) (id : Int) : nameRes (srtT cl.tops) id = nameRes cl.tops id := by unfold nameRes; rw [byId_srt h]
theorem idRes_srt {cl : Cl} (h : cl.Ok) (n : ByteArray) : idRes (srtT cl.tops) n = idRes cl.tops n := by unfold idRes; rw [byName_srt h]
theorem fixRes_srt {cl : Cl} (h : cl.Ok) (id : Int) : fixRes (srtT cl.tops) id = fixRes cl.tops id := by unfold fixRes; rw [byId_srt h]
theorem lfO_srt {l : List Top} (hl : l.length ≤ 65000) : lfO (srtT l) = lf 65534 1 l := by
  rw [lfO_eq]
  obtain ⟨q1, q2, q3, q4⟩ := lf_spec 65534 1 l
  have hle := lf_le l
  refine lf_unique q1 (by omega) (fun t ht => q4 (by omega) t ((srtT_perm l).mem_iff.1 ht)) (fun i h1 h2 => ?_)
  obtain ⟨t, ht, e⟩ := q3 i h1 h2
  exact ⟨t, (srtT_perm l).mem_iff.2 ht, e⟩
/-- Register answers alike. -/
theorem rregF_srt {cl : Cl} (h : cl.Ok) (n : ByteArray) (hl : cl.tops.length ≤ 65000) :
    rregF (srtT cl.tops) n = ⟨(regF cl.tops n).id, (regF cl.tops n).fresh, (regF cl.tops n).er, srtT (regF cl.tops n).tops⟩ := by
  have hb := byName_srt h n
  have hlf := lfO_srt hl
  rcases regF_cases h n hl with ⟨q1, q2⟩ | ⟨q1, t, q2, q3, q4⟩ | ⟨q1, q2, q3⟩
  · rw [q2]; unfold rregF; rw [if_neg (by rw [q1]; simp)]
  · rw [q4]
    unfold rregF
    rw [if_pos q1, hb, ← q3, byName_some h q2]
  · rw [q3]
    unfold rregF
    have hno : byName cl.tops n = none := List.find?_eq_none.2 fun t ht => by simpa using q2 t ht
    rw [if_pos q1, hb, hno, hlf]
    simp only
    obtain ⟨_, _, _, q4⟩ := lf_spec 65534 1 cl.tops
    have hle := lf_le cl.tops
    rw [ins_srt h (t := ⟨lf 65534 1 cl.tops, n, false⟩) (fun x hx => q4 (by omega) x hx)]
/-- Predefine answers alike. -/
theorem rpreF_srt {cl : Cl} (h : cl.Ok) (n : ByteArray) (id : Int) : rpreF (srtT cl.tops) n id = ((preF cl.tops n id).1, srtT (preF cl.tops n id).2) := by
  have hm : (⟨id, n, true⟩ : Top) ∈ srtT cl.tops ↔ (⟨id, n, true⟩ : Top) ∈ cl.tops := (srtT_perm _).mem_iff
  have ha : (srtT cl.tops).any (fun t => t.id == id || decide (t.name = n)) = cl.tops.any (fun t => t.id == id || decide (t.name = n)) := (srtT_perm cl.tops).any_eq
  unfold rpreF preF
  rw [ha]
  split
  · split
    · rfl
    · by_cases h1 : (⟨id, n, true⟩ : Top) ∈ cl.tops
      · rw [if_pos (hm.2 h1), if_pos h1]
      · rw [if_neg (fun e => h1 (hm.1 e)), if_neg h1]
        split
        · rfl
        · rename_i h2
          rw [ins_srt h (t := ⟨id, n, true⟩) (fun x hx e => h2 (List.any_eq_true.2 ⟨x, hx, by
            have e' : x.id = id := e
            simp [e']⟩))]
  · rfl
/-- Clear answers alike. -/
theorem filter_srt {cl : Cl} (h : cl.Ok) : (srtT cl.tops).filter (·.fixed) = srtT (clearF cl.tops).2 :=
  srtT_eq ((srtT_perm _).filter _) ((srtT_pw h).filter _)
theorem filter_srt_len (l : List Top) : (((srtT l).filter (fun t => !t.fixed)).length : Int) = (clearF l).1 := by
  unfold clearF
  rw [((srtT_perm l).filter _).length_eq]
/-- Clients answer alike. -/
theorem rclients_mem {w : World} {S : Rr} (h : S.At w) (c : ByteArray) : c ∈ S.es.map (·.c) ↔ S.get c ≠ [] := by
  constructor
  · intro hc
    obtain ⟨e, he, rfl⟩ := List.mem_map.1 hc
    have : S.get e.c = e.l := entGet_mem h.srt he
    rw [this]
    exact (h.each e he).2
  · intro hc
    refine Classical.byContradiction fun hn => hc (entGet_none fun e he e2 => hn (List.mem_map.2 ⟨e, he, e2⟩))
theorem srtT_nil {l : List Top} : srtT l = [] ↔ l = [] := by
  constructor
  · intro h
    have := srtT_len l
    rw [h] at this
    exact List.length_eq_zero_iff.1 this.symm
  · intro h
    rw [h]
    have := srtT_len []
    exact List.length_eq_zero_iff.1 this
theorem rclients_eq {w : World} {S : Rr} (h : S.At w) {l : List ByteArray} {g : ByteArray → List Top} (hg : ∀ c, S.get c = srtT (g c)) (hm : ∀ c, c ∈ l ↔ g c ≠ []) (hn : l.Nodup) (hp : l.Pairwise (fun a b => Op.bytesLess a.toList b.toList = true)) : S.es.map (·.c) = l := by
  have hs : (S.es.map (·.c)).Pairwise (fun a b => Op.bytesLess a.toList b.toList = true) := List.pairwise_map.2 h.srt
  have hnd : (S.es.map (·.c)).Nodup := hs.imp fun {a b} h (e : a = b) => ltB_irrefl a (by rw [← e] at h; exact h)
  refine sortedS_eq hnd hn (fun c => ?_) hs hp
  rw [rclients_mem h, hm, hg, Ne, srtT_nil]
end Go.Proofs.YtfgnipcegnoagaaGreat
