/- How a piece of a function's text is taken out, so that a great walk is cut into declarations. -/
import Derived.WalkKit
namespace Go.Proofs.YtfgnipcegnoagaaGreat
open Go.RowKit

/-- Does a text begin with region r? -/
def isReg (r : Nat) : Code → Bool
  | .region n _ _ => Nat.beq n r
  | .seq a _ => isReg r a
  | .block _ c => isReg r c
  | .loop c => isReg r c
  | .scope c => isReg r c
  | _ => false
/-- The greatest part of a text that begins with region r. -/
def atReg (r : Nat) : Code → Option Code
  | .seq a b => bif isReg r (.seq a b) then some (.seq a b) else match atReg r a with | some c => some c | none => atReg r b
  | .cond _ a b => match atReg r a with | some c => some c | none => atReg r b
  | .block n c => bif isReg r (.block n c) then some (.block n c) else atReg r c
  | .loop c => bif isReg r (.loop c) then some (.loop c) else atReg r c
  | .scope c => bif isReg r (.scope c) then some (.scope c) else atReg r c
  | .region n o d => bif isReg r (.region n o d) then some (.region n o d) else none
  | _ => none
/-- The part of a text that is the 'if' whose test lies in slot k. -/
def atIf (k : Nat) : Code → Option Code
  | .seq a b => match atIf k a with | some c => some c | none => atIf k b
  | .cond (.tmp n) a b => bif Nat.beq n k then some (.cond (.tmp n) a b) else match atIf k a with | some c => some c | none => atIf k b
  | .cond _ a b => match atIf k a with | some c => some c | none => atIf k b
  | .block _ c => atIf k c
  | .loop c => atIf k c
  | .scope c => atIf k c
  | _ => none
noncomputable def ifAt (f : Func) (k : Nat) : Code := ((f.body.bind (atIf k)).getD .skip)
noncomputable def partAt (f : Func) (r : Nat) : Code := ((f.body.bind (atReg r)).getD .skip)
theorem wp_asThen {P : Program} {c : Code} {Q : Exit → Go.Act → World → Prop} {a : Go.Act} {w : World} (h : c.wp P (Exit.then (fun a w => Q .normal a w) Q) a w) : c.wp P Q a w := by
  refine wp_mono h ?_
  intro e a w hq
  cases e <;> exact hq
end Go.Proofs.YtfgnipcegnoagaaGreat
