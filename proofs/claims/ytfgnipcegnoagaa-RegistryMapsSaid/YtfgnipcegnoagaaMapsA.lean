/- RegistryMaps: what its pieces carry; how a piece of a function's text is taken out. -/
import Derived.Test.YtfgnipcegnoagaaMaps
namespace Go.Proofs.Ytfgnipcegnoagaa
open Go.RowKit Go.MapKept

/-- Does a text begin with region r? -/
def isReg (r : Nat) : Code → Bool
  | .region n _ _ => Nat.beq n r
  | .seq a _ => isReg r a
  | .block _ c => isReg r c
  | .loop c => isReg r c
  | .scope c => isReg r c
  | _ => false
/-- The greatest part of a text that begins with region r. -/
def atReg (r : Nat) : Code → Option Code
  | .seq a b => bif isReg r (.seq a b) then some (.seq a b) else match atReg r a with | some c => some c | none => atReg r b
  | .cond _ a b => match atReg r a with | some c => some c | none => atReg r b
  | .block n c => bif isReg r (.block n c) then some (.block n c) else atReg r c
  | .loop c => bif isReg r (.loop c) then some (.loop c) else atReg r c
  | .scope c => bif isReg r (.scope c) then some (.scope c) else atReg r c
  | .region n o d => bif isReg r (.region n o d) then some (.region n o d) else none
  | _ => none
/-- The part of a text that is the 'if' whose test lies in slot k. -/
def atIf (k : Nat) : Code → Option Code
  | .seq a b => match atIf k a with | some c => some c | none => atIf k b
  | .cond (.tmp n) a b => bif Nat.beq n k then some (.cond (.tmp n) a b) else match atIf k a with | some c => some c | none => atIf k b
  | .cond _ a b => match atIf k a with | some c => some c | none => atIf k b
  | .block _ c => atIf k c
  | .loop c => atIf k c
  | .scope c => atIf k c
  | _ => none
noncomputable def ifAt (f : Func) (k : Nat) : Code := ((f.body.bind (atIf k)).getD .skip)
noncomputable def partAt (f : Func) (r : Nat) : Code := ((f.body.bind (atReg r)).getD .skip)
theorem wp_asThen {P : Program} {c : Code} {Q : Exit → Go.Act → World → Prop} {a : Go.Act} {w : World} (h : c.wp P (Exit.then (fun a w => Q .normal a w) Q) a w) : c.wp P Q a w := by
  refine wp_mono h ?_
  intro e a w hq
  cases e <;> exact hq

def otherB : ByteArray := ⟨#[111, 116, 104, 101, 114, 32, 111, 102, 32]⟩
theorem other_ne (c : ByteArray) : otherB ++ c ≠ c := fun e => by
  have := congrArg ByteArray.size e
  rw [ByteArray.size_append] at this
  have h9 : otherB.size = 9 := rfl
  omega
theorem other_op (c : ByteArray) (h : c.size ≤ 100) : Op.stringOp .add ⟨#[111, 116, 104, 101, 114, 32, 111, 102, 32]⟩ c = pure (.string (otherB ++ c)) :=
  stringOp_add _ _ (by show 9 + c.size ≤ _; omega)

theorem RowT.shape {w : World} {v : Value} {l : List Top} (h : RowT w v l) : ∃ p cap, v = .slice p l.length cap := by
  rcases h with ⟨h1, h2⟩ | ⟨b, cap, h1, _⟩
  · exact ⟨none, 0, by rw [h1, h2]; rfl⟩
  · exact ⟨_, cap, h1⟩
theorem RowT.at {w : World} {p : Option Addr} {cap n : Nat} {l : List Top} (h : RowT w (.slice p n cap) l) {i : Nat} {t : Top} (hi : l[i]? = some t) :
    ∃ b, p = some ⟨b, 0, none⟩ ∧ w.cell? ⟨b, i * 3, none⟩ = some (.int .i64 t.id) ∧ w.cell? ⟨b, i * 3 + 1, none⟩ = some (.string t.name) ∧ w.cell? ⟨b, i * 3 + 2, none⟩ = some (.bool t.fixed) := by
  rcases h with ⟨h1, h2⟩ | ⟨b, cap', h1, _, _, h2⟩
  · rw [h2] at hi; cases hi
  · cases h1
    exact ⟨b, rfl, h2 i t hi⟩

theorem byId_some {cl : Cl} (h : cl.Ok) {t : Top} (ht : t ∈ cl.tops) : byId cl.tops t.id = some t := by
  unfold byId
  cases hf : cl.tops.find? (fun s => s.id == t.id) with
  | none => exact absurd (List.find?_eq_none.1 hf t ht) (by simp)
  | some s =>
    have h1 := List.find?_some hf
    have h2 := List.mem_of_find?_eq_some hf
    have h3 : s.id = t.id := by simpa using h1
    rw [Cl.id_inj h h2 ht h3]
theorem srtT_perm (l : List Top) : (srtT l).Perm l := List.mergeSort_perm _ _
theorem srtT_pw {cl : Cl} (h : cl.Ok) : (srtT cl.tops).Pairwise (fun a b => a.id < b.id) := by
  have tr : ∀ a b c : Top, decide (a.id ≤ b.id) = true → decide (b.id ≤ c.id) = true → decide (a.id ≤ c.id) = true := fun a b c h1 h2 => by simp only [decide_eq_true_eq] at *; omega
  have tot : ∀ a b : Top, (decide (a.id ≤ b.id) || decide (b.id ≤ a.id)) = true := fun a b => by simp only [Bool.or_eq_true, decide_eq_true_eq]; omega
  have h2 : (srtT cl.tops).Pairwise (fun a b => a.id ≤ b.id) := (List.pairwise_mergeSort tr tot cl.tops).imp (fun h => of_decide_eq_true h)
  have hn : (srtT cl.tops).Pairwise (fun a b => a.id ≠ b.id) := List.pairwise_map.1 ((((srtT_perm cl.tops).map Top.id).nodup_iff.2 h.idn : ((srtT cl.tops).map Top.id).Nodup))
  exact (h2.and hn).imp (fun {a b} ⟨h1, h2⟩ => by omega)
theorem srtT_len (l : List Top) : (srtT l).length = l.length := (srtT_perm l).length_eq

/-- What the law asks of each topic. -/
structure Well (l : List Top) (t : Top) : Prop where
  nm : nameRes l t.id = .returned (.tuple #[.string t.name, .int .i64 0])
  idr : idRes l t.name = .returned (.tuple #[.int .i64 t.id, .int .i64 0])
  by_ : byId l t.id = some t
  lo : 1 ≤ t.id
  hi : t.id ≤ 65534
  ok : nameOk t.name = true
theorem Cl.Ok.well {cl : Cl} (h : cl.Ok) {t : Top} (ht : t ∈ cl.tops) : Well cl.tops t :=
  ⟨by unfold nameRes; rw [byId_some h ht], by unfold idRes; rw [byName_some h ht], byId_some h ht, (h.range t ht).1, (h.range t ht).2, h.good t ht⟩

/-- What holds ahead of the switch: x is the call, at b5. -/
structure SwPre (w W : World) (rb b5 : Nat) (x : Act) (R : Rg) (cl : Cl) (g0 was away : List Top) (oth : ByteArray) (vw va : Value) (i : Nat) : Prop where
  hS : Solo w W rb R [(b5, .cells #[.int .i64 x.kind, .string x.client, .string x.name, .int .i64 x.id] 36)]
  hw : RowF W R vw was
  ha : RowF W R va away
  hone : oth ≠ x.client
  hx : x.client.size ≤ 100 ∧ x.name.size ≤ 400
  hcl : cl.Ok
  hcg : cl.tops = g0
  hg0 : g0 = R.get x.client
  hwas : was = srtT g0
  haw : away = srtT (R.get oth)
  hlen : ∀ c, (R.get c).length ≤ i
  hi : i ≤ 80
theorem SwPre.wasl {w W : World} {rb b5 i : Nat} {x : Act} {R : Rg} {cl : Cl} {g0 was away : List Top} {oth : ByteArray} {vw va : Value} (P : SwPre w W rb b5 x R cl g0 was away oth vw va i) : was.length ≤ i ∧ g0.length ≤ i := by
  have h := P.hlen x.client
  rw [← P.hg0] at h
  rw [P.hwas, srtT_len]
  exact ⟨h, h⟩
/-- What a round leaves. -/
def AftRd (w : World) (rb i : Nat) (wc : World) : Prop := ∃ R' : Rg, Solo w wc rb R' [] ∧ ∀ c, (R'.get c).length ≤ i + 1
/-- What is behind the switch. -/
def AftSw (w : World) (rb : Nat) (ps : List (Nat × Obj)) (R : Rg) (c : ByteArray) (g0 was away : List Top) (vw va : Value) (i : Nat) (er : Value) (wc : World) : Prop :=
  ∃ (R' : Rg) (n : Int), er = .int .i64 n ∧ Solo w wc rb R' ps ∧ (∀ y, y ≠ c → R'.get y = R.get y) ∧ RowF wc R' vw was ∧ RowF wc R' va away ∧ (n ≠ 0 → R'.get c = g0) ∧ (R'.get c).length ≤ i + 1
theorem AftSw.mk {w W W' : World} {rb i : Nat} {ps : List (Nat × Obj)} {R R' : Rg} {c : ByteArray} {g0 was away t : List Top} {vw va : Value} {n : Int} (hS : Solo w W' rb R' ps) (st : Step R R' W W') (hg : ∀ y, R'.get y = upd R.get c t y) (hw : RowF W R vw was) (ha : RowF W R va away) (he : n ≠ 0 → t = g0) (hl : t.length ≤ i + 1) :
    AftSw w rb ps R c g0 was away vw va i (.int .i64 n) W' := by
  have e1 : R'.get c = t := by rw [hg]; unfold upd; rw [if_pos rfl]
  exact ⟨R', n, rfl, hS, fun y hy => by rw [hg]; unfold upd; rw [if_neg hy], hw.step st, ha.step st, fun h => by rw [e1]; exact he h, by rw [e1]; exact hl⟩
theorem AftSw.still {w W W' : World} {rb i : Nat} {ps : List (Nat × Obj)} {R : Rg} {c : ByteArray} {g0 was away : List Top} {vw va er : Value} (h : AftSw w rb ps R c g0 was away vw va i er W) (hf : Fr (fun _ => False) W W') : AftSw w rb ps R c g0 was away vw va i er W' := by
  obtain ⟨R', n, h1, h2, h3, h4, h5, h6, h7⟩ := h
  exact ⟨R', n, h1, h2.still hf, h3, h4.still hf, h5.still hf, h6, h7⟩

/-- The least free id, not to be reckoned. -/
@[irreducible] def lfO (l : List Top) : Int := lf 65534 1 l
theorem lfO_eq (l : List Top) : lfO l = lf 65534 1 l := by unfold lfO; rfl
/-- What Register answers, as the law asks. -/
structure RegWas (g0 was : List Top) (n : ByteArray) (id : Int) (fr : Bool) (f : Int) (t : List Top) : Prop where
  eq : regF g0 n = ⟨id, fr, f, t⟩
  err : f ≠ 0 → t = g0
  cs : (f = 0 ∧ nameOk n = true) ∨ (f = 10 ∧ nameOk n = false ∧ fr = false ∧ id = 0)
  had : ∀ t ∈ was, t.name = n → fr = false ∧ id = t.id
  new : fr = true → id = lfO g0
theorem reg_was {cl : Cl} (h : cl.Ok) (n : ByteArray) (hl : cl.tops.length ≤ 65000) {was : List Top} (hw : was = srtT cl.tops) : ∃ id fr f t, RegWas cl.tops was n id fr f t := by
  have hp : ∀ t, t ∈ was ↔ t ∈ cl.tops := fun t => by rw [hw]; exact (srtT_perm cl.tops).mem_iff
  rcases regF_cases h n hl with ⟨q1, q2⟩ | ⟨q1, t, q2, q3, q4⟩ | ⟨q1, q2, q3⟩
  · refine ⟨0, false, 10, _, q2, fun _ => rfl, .inr ⟨rfl, q1, rfl, rfl⟩, fun t ht e => ?_, nofun⟩
    have h9 := h.good t ((hp t).1 ht)
    rw [e, q1] at h9
    cases h9
  · refine ⟨t.id, false, 0, _, q4, fun h => absurd rfl h, .inl ⟨rfl, q1⟩, fun s hs e => ⟨rfl, ?_⟩, nofun⟩
    rw [Cl.name_inj h q2 ((hp s).1 hs) (q3.trans e.symm)]
  · rw [← lfO_eq] at q3
    exact ⟨_, true, 0, _, q3, fun h => absurd rfl h, .inl ⟨rfl, q1⟩, fun s hs e => absurd e (q2 s ((hp s).1 hs)), fun _ => rfl⟩

end Go.Proofs.Ytfgnipcegnoagaa
