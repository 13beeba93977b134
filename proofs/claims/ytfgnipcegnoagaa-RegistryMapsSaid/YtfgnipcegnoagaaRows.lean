/-
  No cell of these rows narrows 'for every input' (looked for: loops, veiled, ifaces, maps, wideKeys, modest, calm, conditions, laid).
  DERIVED. THE GIVEN ROWS OF THIS SEAT. 4 by the template 'for every input the law returns true; each argument reads behind the call as it read before'; 0 by the template 'total and deterministic' (their statements: YtfgnipcegnoagaaTotals.lean).
  GIVEN WITH THE SEED: the statements are not yours to turn. If you find one false, say at which input.
  Laid BY PROGRAM, IN A SANDBOX (cutbox-rows.mjs): the forced cells as the released guide's own fill.sh prints them over the translation 1b7a3769120f23d6… (all of the seat's roots in one cut). By AI agents, Wed Nov 11 2026. No macro, syntax, notation, axiom, sorry.
-/
import Derived.Test.YtfgnipcegnoagaaChecked
import GoSem.Claim
import GoSem.ClaimJoined
import GoSem.ClaimMapViews
import Derived.JoinedTies
import Derived.KernelRfl
namespace Go.Proofs.Ytfgnipcegnoagaa
/- THE CELL 'sum', in the pinned program and in every row, IS THE sha256 OF THE DUMP (.gsa) THAT YtfgnipcegnoagaaProg.lean LOADS. Nothing in Lean hashes anything: it is a label: what it is worth is what the hold of that sum in a sandbox is worth. -/
noncomputable def Try.pinned : Pinned := { name := "ytfgnipcegnoagaa", sum := "1b7a3769120f23d627ddc82f77960398f87b42b83a795e54ab1bb2fcb88b9744", checked := Try.checked }
namespace Rows
def none {H : Type} : Left H := { results := [], args := [] }

/-- 'polyglotlaw24.RegistryFull': WHATEVER THE INPUT: true; the input reads as it did. -/
def registryFullSpec : ChangeSpec := { name := "registryFull", fn := fun _ => fun
  | [d] => { results := [.lit (.bool true)], args := [d] }
  | _ => none }
def registryFullRow : OpenClaim := { program := "ytfgnipcegnoagaa", sum := "1b7a3769120f23d627ddc82f77960398f87b42b83a795e54ab1bb2fcb88b9744", func := "polyglot/polyglotlaw24.RegistryFull", spec := "registryFull", inPlace := ["internal/bytealg.IndexByteString", "internal/bytealg.IndexString"], unfollowed := true, recurses := true, named := ["internal/bytealg.MaxLen"], apart := false }
def RegistryFullSaid : Prop := registryFullRow.holds Try.pinned (OpenSpec.ofChange registryFullSpec)

/-- ITS FALSE NEIGHBOUR: 'it returns false'. Refute it at one input. -/
def registryFullWrong : ChangeSpec := { name := "registryFull", fn := fun _ => fun
  | [d] => { results := [.lit (.bool false)], args := [d] }
  | _ => none }
def RegistryFullWrongFalsely : Prop := registryFullRow.holds Try.pinned (OpenSpec.ofChange registryFullWrong)

/-- 'polyglotlaw24.RegistryMaps': WHATEVER THE INPUT: true; the input reads as it did. -/
def registryMapsSpec : ChangeSpec := { name := "registryMaps", fn := fun _ => fun
  | [d] => { results := [.lit (.bool true)], args := [d] }
  | _ => none }
def registryMapsRow : OpenClaim := { program := "ytfgnipcegnoagaa", sum := "1b7a3769120f23d627ddc82f77960398f87b42b83a795e54ab1bb2fcb88b9744", func := "polyglot/polyglotlaw24.RegistryMaps", spec := "registryMaps", inPlace := ["internal/bytealg.IndexByteString", "internal/bytealg.IndexString"], unfollowed := true, recurses := true, named := ["internal/bytealg.MaxLen"], apart := false }
def RegistryMapsSaid : Prop := registryMapsRow.holds Try.pinned (OpenSpec.ofChange registryMapsSpec)

/-- ITS FALSE NEIGHBOUR: 'it returns false'. Refute it at one input. -/
def registryMapsWrong : ChangeSpec := { name := "registryMaps", fn := fun _ => fun
  | [d] => { results := [.lit (.bool false)], args := [d] }
  | _ => none }
def RegistryMapsWrongFalsely : Prop := registryMapsRow.holds Try.pinned (OpenSpec.ofChange registryMapsWrong)

/-- 'polyglotlaw24.RegistryApart': WHATEVER THE INPUT: true; the input reads as it did. -/
def registryApartSpec : ChangeSpec := { name := "registryApart", fn := fun _ => fun
  | [d1, d2] => { results := [.lit (.bool true)], args := [d1, d2] }
  | _ => none }
def registryApartRow : OpenClaim := { program := "ytfgnipcegnoagaa", sum := "1b7a3769120f23d627ddc82f77960398f87b42b83a795e54ab1bb2fcb88b9744", func := "polyglot/polyglotlaw24.RegistryApart", spec := "registryApart", inPlace := ["internal/bytealg.IndexByteString", "internal/bytealg.IndexString"], unfollowed := true, recurses := true, named := ["internal/bytealg.MaxLen"], apart := false }
def RegistryApartSaid : Prop := registryApartRow.holds Try.pinned (OpenSpec.ofChange registryApartSpec)

/-- ITS FALSE NEIGHBOUR: 'it returns false'. Refute it at one input. -/
def registryApartWrong : ChangeSpec := { name := "registryApart", fn := fun _ => fun
  | [d1, d2] => { results := [.lit (.bool false)], args := [d1, d2] }
  | _ => none }
def RegistryApartWrongFalsely : Prop := registryApartRow.holds Try.pinned (OpenSpec.ofChange registryApartWrong)

/-- 'polyglotlaw24.RegistryNames': WHATEVER THE INPUT: true; the input reads as it did. -/
def registryNamesSpec : ChangeSpec := { name := "registryNames", fn := fun _ => fun
  | [] => { results := [.lit (.bool true)], args := [] }
  | _ => none }
def registryNamesRow : OpenClaim := { program := "ytfgnipcegnoagaa", sum := "1b7a3769120f23d627ddc82f77960398f87b42b83a795e54ab1bb2fcb88b9744", func := "polyglot/polyglotlaw24.RegistryNames", spec := "registryNames", inPlace := ["internal/bytealg.IndexByteString", "internal/bytealg.IndexString"], unfollowed := true, recurses := true, named := ["internal/bytealg.MaxLen"], apart := false }
def RegistryNamesSaid : Prop := registryNamesRow.holds Try.pinned (OpenSpec.ofChange registryNamesSpec)

/-- ITS FALSE NEIGHBOUR: 'it returns false'. Refute it at one input. -/
def registryNamesWrong : ChangeSpec := { name := "registryNames", fn := fun _ => fun
  | [] => { results := [.lit (.bool false)], args := [] }
  | _ => none }
def RegistryNamesWrongFalsely : Prop := registryNamesRow.holds Try.pinned (OpenSpec.ofChange registryNamesWrong)

/- THE SECOND FORM. 'bulk': how many values and letters a reading holds, each counted each time it is reached (what is shared counts as often as it is met; a slice's spare places count too). A statement '..UptoSaid' is the law's where the arguments, and the package variables that the reading takes, are together of bulk at most 1048576: NARROWER than '..Said'. Prove '..Said' where nothing that the law and all that it calls make is longer than what came in: it says more and counts as full. Else prove '..UptoSaid'. A law counts once. -/
mutual
def uptoBulk {H : Type} : DataW H → Nat
  | .lit (.string bytes) => bytes.length + 1
  | .lit _ => 1
  | .nil => 1
  | .ptr d => uptoBulk d + 1
  | .slice elems spare => uptoBulkAll elems + uptoBulkAll spare + 1
  | .agg parts => uptoBulkAll parts + 1
  | .iface _ d => uptoBulk d + 1
  | .map entries => uptoBulkEntries entries + 1
  | .held _ => 1
def uptoBulkAll {H : Type} : List (DataW H) → Nat
  | [] => 0
  | d :: r => uptoBulk d + uptoBulkAll r
def uptoBulkEntries {H : Type} : List (Lit × DataW H) → Nat
  | [] => 0
  | x :: r => uptoBulkEntry x + uptoBulkEntries r
def uptoBulkEntry {H : Type} : Lit × DataW H → Nat
  | (.string bytes, d) => bytes.length + uptoBulk d + 1
  | (_, d) => uptoBulk d + 1
 end
def uptoSmall : (H : Type) → List (DataW H) → Bool := fun _ ds => decide (uptoBulkAll ds ≤ 1048576)
def OpenSpec.upto (s : _root_.Go.ChangeSpec) : _root_.Go.OpenSpec := { _root_.Go.OpenSpec.ofChange s with cond := some uptoSmall }

/-- 'polyglotlaw24.RegistryFull', WHERE WHAT IT READS IS OF BULK AT MOST 1048576: true; the input reads as it did. -/
def registryFullUptoRow : OpenClaim := { program := "ytfgnipcegnoagaa", sum := "1b7a3769120f23d627ddc82f77960398f87b42b83a795e54ab1bb2fcb88b9744", func := "polyglot/polyglotlaw24.RegistryFull", spec := "registryFull", inPlace := ["internal/bytealg.IndexByteString", "internal/bytealg.IndexString"], unfollowed := true, recurses := true, named := ["internal/bytealg.MaxLen"], apart := false, narrowed := true }
def RegistryFullUptoSaid : Prop := registryFullUptoRow.holds Try.pinned (OpenSpec.upto registryFullSpec)

/-- 'polyglotlaw24.RegistryMaps', WHERE WHAT IT READS IS OF BULK AT MOST 1048576: true; the input reads as it did. -/
def registryMapsUptoRow : OpenClaim := { program := "ytfgnipcegnoagaa", sum := "1b7a3769120f23d627ddc82f77960398f87b42b83a795e54ab1bb2fcb88b9744", func := "polyglot/polyglotlaw24.RegistryMaps", spec := "registryMaps", inPlace := ["internal/bytealg.IndexByteString", "internal/bytealg.IndexString"], unfollowed := true, recurses := true, named := ["internal/bytealg.MaxLen"], apart := false, narrowed := true }
def RegistryMapsUptoSaid : Prop := registryMapsUptoRow.holds Try.pinned (OpenSpec.upto registryMapsSpec)

/-- 'polyglotlaw24.RegistryApart', WHERE WHAT IT READS IS OF BULK AT MOST 1048576: true; the input reads as it did. -/
def registryApartUptoRow : OpenClaim := { program := "ytfgnipcegnoagaa", sum := "1b7a3769120f23d627ddc82f77960398f87b42b83a795e54ab1bb2fcb88b9744", func := "polyglot/polyglotlaw24.RegistryApart", spec := "registryApart", inPlace := ["internal/bytealg.IndexByteString", "internal/bytealg.IndexString"], unfollowed := true, recurses := true, named := ["internal/bytealg.MaxLen"], apart := false, narrowed := true }
def RegistryApartUptoSaid : Prop := registryApartUptoRow.holds Try.pinned (OpenSpec.upto registryApartSpec)

/-- 'polyglotlaw24.RegistryNames', WHERE WHAT IT READS IS OF BULK AT MOST 1048576: true; the input reads as it did. -/
def registryNamesUptoRow : OpenClaim := { program := "ytfgnipcegnoagaa", sum := "1b7a3769120f23d627ddc82f77960398f87b42b83a795e54ab1bb2fcb88b9744", func := "polyglot/polyglotlaw24.RegistryNames", spec := "registryNames", inPlace := ["internal/bytealg.IndexByteString", "internal/bytealg.IndexString"], unfollowed := true, recurses := true, named := ["internal/bytealg.MaxLen"], apart := false, narrowed := true }
def RegistryNamesUptoSaid : Prop := registryNamesUptoRow.holds Try.pinned (OpenSpec.upto registryNamesSpec)

end Rows
end Go.Proofs.Ytfgnipcegnoagaa
