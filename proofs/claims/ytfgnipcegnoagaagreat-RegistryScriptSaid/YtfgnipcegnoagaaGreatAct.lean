/- The calls that a law is handed: how they lie; 'light'. -/
import Derived.Test.YtfgnipcegnoagaaGreatLaw
namespace Go.Proofs.YtfgnipcegnoagaaGreat
open Go.RowKit Go.MapKept

structure Act where
  kind : Int
  client : ByteArray
  name : ByteArray
  id : Int
/-- A slice of calls, as it lies. -/
def RowA (w : World) (v : Value) (l : List Act) : Prop :=
  (∃ p cap, v = .slice p 0 cap ∧ l = []) ∨ ∃ b off cap, v = .slice (some ⟨b, off, none⟩) l.length cap ∧ l ≠ [] ∧ b < w.heap.size ∧ ∀ i x, l[i]? = some x →
    w.cell? ⟨b, off + i * 4, none⟩ = some (.int .i64 x.kind) ∧ w.cell? ⟨b, off + i * 4 + 1, none⟩ = some (.string x.client) ∧ w.cell? ⟨b, off + i * 4 + 2, none⟩ = some (.string x.name) ∧ w.cell? ⟨b, off + i * 4 + 3, none⟩ = some (.int .i64 x.id)
theorem RowA.shape {w : World} {v : Value} {l : List Act} (h : RowA w v l) : ∃ p cap, v = .slice p l.length cap := by
  rcases h with ⟨p, cap, h1, h2⟩ | ⟨b, off, cap, h1, _⟩
  · exact ⟨p, cap, by rw [h1, h2]; rfl⟩
  · exact ⟨_, cap, h1⟩
theorem RowA.kept {w w' : World} {v : Value} {l : List Act} {fp : Nat → Prop} (h : RowA w v l) (hf : Fr fp w w') (hn : ∀ k, k < w.heap.size → v.ownBlock = some k → ¬ fp k) : RowA w' v l := by
  rcases h with h | ⟨b, off, cap, hv, hne, hb, hc⟩
  · exact .inl h
  · subst hv
    have hnb : ¬ fp b := hn b hb rfl
    refine .inr ⟨b, off, cap, rfl, hne, Nat.lt_of_lt_of_le hb hf.size, fun i x hi => ?_⟩
    obtain ⟨h1, h2, h3, h4⟩ := hc i x hi
    exact ⟨(hf.cell (p := ⟨b, off + i * 4, none⟩) hb hnb).trans h1, (hf.cell (p := ⟨b, off + i * 4 + 1, none⟩) hb hnb).trans h2, (hf.cell (p := ⟨b, off + i * 4 + 2, none⟩) hb hnb).trans h3, (hf.cell (p := ⟨b, off + i * 4 + 3, none⟩) hb hnb).trans h4⟩
theorem RowA.at {w : World} {p : Option Addr} {cap n : Nat} {l : List Act} (h : RowA w (.slice p n cap) l) {i : Nat} {x : Act} (hi : l[i]? = some x) :
    ∃ b off, p = some ⟨b, off, none⟩ ∧ w.cell? ⟨b, off + i * 4, none⟩ = some (.int .i64 x.kind) ∧ w.cell? ⟨b, off + i * 4 + 1, none⟩ = some (.string x.client) ∧ w.cell? ⟨b, off + i * 4 + 2, none⟩ = some (.string x.name) ∧ w.cell? ⟨b, off + i * 4 + 3, none⟩ = some (.int .i64 x.id) := by
  rcases h with ⟨p', cap', h1, h2⟩ | ⟨b, off, cap', h1, _, _, h2⟩
  · rw [h2] at hi; cases hi
  · cases h1
    exact ⟨b, off, rfl, h2 i x hi⟩

def lightA (l : List Act) : Prop := (∀ x ∈ l, x.client.size ≤ 100 ∧ x.name.size ≤ 400) ∧ l.length ≤ 80

def LightEnd (w : World) (l : List Act) (e : Ending) (w' : World) : Prop := ∃ b, e = .returned (.bool b) ∧ (b = true → lightA l) ∧ w = w'

set_option maxRecDepth 100000 in
set_option maxHeartbeats 1000000 in
theorem light_walk (w : World) (v : Value) (l : List Act) (h : RowA w v l) (hn : l.length ≤ 9223372036854775807) :
    Calls Tryz.prog 5 #[v] w (LightEnd w l) := by
  obtain ⟨p, cap, rfl⟩ := h.shape
  have Hh := Lib.hid h
  clear h
  go_enter Tryz.func5, Tryz.ntmps5
  go_wp2
  go_loopw [3] (fun s wr => ∃ (i : Nat), s = .int .i64 i ∧ i ≤ l.length ∧ wr = w ∧ ∀ k x, k < i → l[k]? = some x → x.client.size ≤ 100 ∧ x.name.size ≤ 400) (fun s _ => l.length - (intOf s).toNat)
  case atStart => exact ⟨0, rfl, Nat.zero_le _, rfl, fun k x hk => absurd hk (by omega)⟩
  case round =>
    obtain ⟨i, rfl, hil, rfl, hpre⟩ := hrel
    have Hpre := Lib.hid hpre
    clear hpre
    by_cases hlt : i < l.length
    · have hlt2 : (i : Int) < (l.length : Int) := by omega
      have ht : l[i]? = some l[i] := List.getElem?_eq_getElem hlt
      generalize l[i] = x at ht
      obtain ⟨b, off, rfl, x1, x2, x3, x4⟩ := Hh.out.at ht
      have Ht := Lib.hid ht
      clear ht
      by_cases hb : (x.client.size : Int) ≤ 100
      · by_cases hb2 : (x.name.size : Int) ≤ 400
        · have k1 : ¬ (100 : Int) < (x.client.size : Int) := by omega
          have k2 : ¬ (400 : Int) < (x.name.size : Int) := by omega
          go_wp2_with fail
          go_roundw
          case rel =>
            refine ⟨i + 1, rfl, by omega, trivial, fun k y hk hy => ?_⟩
            by_cases e : k = i
            · rw [e, Ht.out] at hy
              cases hy
              exact ⟨by omega, by omega⟩
            · exact Hpre.out k y (by omega) hy
          case measure =>
            simp only [intOf]
            omega
        · have k1 : ¬ (100 : Int) < (x.client.size : Int) := by omega
          have k2 : (400 : Int) < (x.name.size : Int) := by omega
          go_wp2_with fail
          go_ret
          exact ⟨false, rfl, nofun, rfl⟩
      · have k1 : (100 : Int) < (x.client.size : Int) := by omega
        go_wp2_with fail
        go_ret
        exact ⟨false, rfl, nofun, rfl⟩
    · have hie : ¬ (i : Int) < (l.length : Int) := by omega
      go_wp2_with fail
      go_ret
      refine ⟨_, rfl, fun h => ⟨fun x hx => ?_, ?_⟩, rfl⟩
      · obtain ⟨k, hk⟩ := List.getElem?_of_mem hx
        have := (List.getElem?_eq_some_iff.1 hk).1
        exact Hpre.out k x (by omega) hk
      · have := of_decide_eq_true h
        omega
end Go.Proofs.YtfgnipcegnoagaaGreat
