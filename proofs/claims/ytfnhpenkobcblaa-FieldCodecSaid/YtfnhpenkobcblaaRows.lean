/-
  No cell of these rows narrows 'for every input' (looked for: loops, veiled, ifaces, maps, wideKeys, modest, calm, conditions, laid).
  DERIVED. THE GIVEN ROWS OF THIS SEAT. 4 by the template 'for every input the law returns true; each argument reads behind the call as it read before'; 0 by the template 'total and deterministic' (their statements: YtfnhpenkobcblaaTotals.lean).
  GIVEN WITH THE SEED: the statements are not yours to turn. If you find one false, say at which input.
  Laid BY PROGRAM, IN A SANDBOX (cutbox-rows.mjs): the forced cells as the released guide's own fill.sh prints them over the translation 39a80b969f02995e… (all of the seat's roots in one cut). By AI agents, Wed Nov 11 2026. No macro, syntax, notation, axiom, sorry.
-/
import Derived.Test.YtfnhpenkobcblaaChecked
import GoSem.Claim
import GoSem.ClaimJoined
import GoSem.ClaimMapViews
import Derived.JoinedTies
import Derived.KernelRfl
namespace Go.Proofs.Ytfnhpenkobcblaa
/- THE CELL 'sum', in the pinned program and in every row, IS THE sha256 OF THE DUMP (.gsa) THAT YtfnhpenkobcblaaProg.lean LOADS. Nothing in Lean hashes anything: it is a label: what it is worth is what the hold of that sum in a sandbox is worth. -/
noncomputable def Try.pinned : Pinned := { name := "ytfnhpenkobcblaa", sum := "39a80b969f02995e44f3bc89c06f9290a609b29d735c88d493581d986fbed184", checked := Try.checked }
namespace Rows
def none {H : Type} : Left H := { results := [], args := [] }

/-- 'veillaw01.FieldLaws': WHATEVER THE INPUT: true; the input reads as it did. -/
def fieldLawsSpec : ChangeSpec := { name := "fieldLaws", fn := fun _ => fun
  | [d1, d2, d3] => { results := [.lit (.bool true)], args := [d1, d2, d3] }
  | _ => none }
def fieldLawsRow : OpenClaim := { program := "ytfnhpenkobcblaa", sum := "39a80b969f02995e44f3bc89c06f9290a609b29d735c88d493581d986fbed184", func := "veil/veillaw01.FieldLaws", spec := "fieldLaws", inPlace := ["math/bits.Add64"], apart := false }
def FieldLawsSaid : Prop := fieldLawsRow.holds Try.pinned (OpenSpec.ofChange fieldLawsSpec)

/-- ITS FALSE NEIGHBOUR: 'it returns false'. Refute it at one input. -/
def fieldLawsWrong : ChangeSpec := { name := "fieldLaws", fn := fun _ => fun
  | [d1, d2, d3] => { results := [.lit (.bool false)], args := [d1, d2, d3] }
  | _ => none }
def FieldLawsWrongFalsely : Prop := fieldLawsRow.holds Try.pinned (OpenSpec.ofChange fieldLawsWrong)

/-- 'veillaw01.FieldExponents': WHATEVER THE INPUT: true; the input reads as it did. -/
def fieldExponentsSpec : ChangeSpec := { name := "fieldExponents", fn := fun _ => fun
  | [d1, d2, d3, d4] => { results := [.lit (.bool true)], args := [d1, d2, d3, d4] }
  | _ => none }
def fieldExponentsRow : OpenClaim := { program := "ytfnhpenkobcblaa", sum := "39a80b969f02995e44f3bc89c06f9290a609b29d735c88d493581d986fbed184", func := "veil/veillaw01.FieldExponents", spec := "fieldExponents", inPlace := ["math/bits.Add64"], apart := false }
def FieldExponentsSaid : Prop := fieldExponentsRow.holds Try.pinned (OpenSpec.ofChange fieldExponentsSpec)

/-- ITS FALSE NEIGHBOUR: 'it returns false'. Refute it at one input. -/
def fieldExponentsWrong : ChangeSpec := { name := "fieldExponents", fn := fun _ => fun
  | [d1, d2, d3, d4] => { results := [.lit (.bool false)], args := [d1, d2, d3, d4] }
  | _ => none }
def FieldExponentsWrongFalsely : Prop := fieldExponentsRow.holds Try.pinned (OpenSpec.ofChange fieldExponentsWrong)

/-- 'veillaw01.FieldCodec': WHATEVER THE INPUT: true; the input reads as it did. -/
def fieldCodecSpec : ChangeSpec := { name := "fieldCodec", fn := fun _ => fun
  | [d1, d2, d3] => { results := [.lit (.bool true)], args := [d1, d2, d3] }
  | _ => none }
def fieldCodecRow : OpenClaim := { program := "ytfnhpenkobcblaa", sum := "39a80b969f02995e44f3bc89c06f9290a609b29d735c88d493581d986fbed184", func := "veil/veillaw01.FieldCodec", spec := "fieldCodec", inPlace := ["math/bits.Add64"], apart := false }
def FieldCodecSaid : Prop := fieldCodecRow.holds Try.pinned (OpenSpec.ofChange fieldCodecSpec)

/-- ITS FALSE NEIGHBOUR: 'it returns false'. Refute it at one input. -/
def fieldCodecWrong : ChangeSpec := { name := "fieldCodec", fn := fun _ => fun
  | [d1, d2, d3] => { results := [.lit (.bool false)], args := [d1, d2, d3] }
  | _ => none }
def FieldCodecWrongFalsely : Prop := fieldCodecRow.holds Try.pinned (OpenSpec.ofChange fieldCodecWrong)

/-- 'veillaw01.FieldSigns': WHATEVER THE INPUT: true; the input reads as it did. -/
def fieldSignsSpec : ChangeSpec := { name := "fieldSigns", fn := fun _ => fun
  | [d] => { results := [.lit (.bool true)], args := [d] }
  | _ => none }
def fieldSignsRow : OpenClaim := { program := "ytfnhpenkobcblaa", sum := "39a80b969f02995e44f3bc89c06f9290a609b29d735c88d493581d986fbed184", func := "veil/veillaw01.FieldSigns", spec := "fieldSigns", inPlace := ["math/bits.Add64"], apart := false }
def FieldSignsSaid : Prop := fieldSignsRow.holds Try.pinned (OpenSpec.ofChange fieldSignsSpec)

/-- ITS FALSE NEIGHBOUR: 'it returns false'. Refute it at one input. -/
def fieldSignsWrong : ChangeSpec := { name := "fieldSigns", fn := fun _ => fun
  | [d] => { results := [.lit (.bool false)], args := [d] }
  | _ => none }
def FieldSignsWrongFalsely : Prop := fieldSignsRow.holds Try.pinned (OpenSpec.ofChange fieldSignsWrong)

/- THE SECOND FORM. 'bulk': how many values and letters a reading holds, each counted each time it is reached (what is shared counts as often as it is met; a slice's spare places count too). A statement '..UptoSaid' is the law's where the arguments, and the package variables that the reading takes, are together of bulk at most 1048576: NARROWER than '..Said'. Prove '..Said' where nothing that the law and all that it calls make is longer than what came in: it says more and counts as full. Else prove '..UptoSaid'. A law counts once. -/
mutual
def uptoBulk {H : Type} : DataW H → Nat
  | .lit (.string bytes) => bytes.length + 1
  | .lit _ => 1
  | .nil => 1
  | .ptr d => uptoBulk d + 1
  | .slice elems spare => uptoBulkAll elems + uptoBulkAll spare + 1
  | .agg parts => uptoBulkAll parts + 1
  | .iface _ d => uptoBulk d + 1
  | .map entries => uptoBulkEntries entries + 1
  | .held _ => 1
def uptoBulkAll {H : Type} : List (DataW H) → Nat
  | [] => 0
  | d :: r => uptoBulk d + uptoBulkAll r
def uptoBulkEntries {H : Type} : List (Lit × DataW H) → Nat
  | [] => 0
  | x :: r => uptoBulkEntry x + uptoBulkEntries r
def uptoBulkEntry {H : Type} : Lit × DataW H → Nat
  | (.string bytes, d) => bytes.length + uptoBulk d + 1
  | (_, d) => uptoBulk d + 1
 end
def uptoSmall : (H : Type) → List (DataW H) → Bool := fun _ ds => decide (uptoBulkAll ds ≤ 1048576)
def OpenSpec.upto (s : _root_.Go.ChangeSpec) : _root_.Go.OpenSpec := { _root_.Go.OpenSpec.ofChange s with cond := some uptoSmall }

/-- 'veillaw01.FieldLaws', WHERE WHAT IT READS IS OF BULK AT MOST 1048576: true; the input reads as it did. -/
def fieldLawsUptoRow : OpenClaim := { program := "ytfnhpenkobcblaa", sum := "39a80b969f02995e44f3bc89c06f9290a609b29d735c88d493581d986fbed184", func := "veil/veillaw01.FieldLaws", spec := "fieldLaws", inPlace := ["math/bits.Add64"], apart := false, narrowed := true }
def FieldLawsUptoSaid : Prop := fieldLawsUptoRow.holds Try.pinned (OpenSpec.upto fieldLawsSpec)

/-- 'veillaw01.FieldExponents', WHERE WHAT IT READS IS OF BULK AT MOST 1048576: true; the input reads as it did. -/
def fieldExponentsUptoRow : OpenClaim := { program := "ytfnhpenkobcblaa", sum := "39a80b969f02995e44f3bc89c06f9290a609b29d735c88d493581d986fbed184", func := "veil/veillaw01.FieldExponents", spec := "fieldExponents", inPlace := ["math/bits.Add64"], apart := false, narrowed := true }
def FieldExponentsUptoSaid : Prop := fieldExponentsUptoRow.holds Try.pinned (OpenSpec.upto fieldExponentsSpec)

/-- 'veillaw01.FieldCodec', WHERE WHAT IT READS IS OF BULK AT MOST 1048576: true; the input reads as it did. -/
def fieldCodecUptoRow : OpenClaim := { program := "ytfnhpenkobcblaa", sum := "39a80b969f02995e44f3bc89c06f9290a609b29d735c88d493581d986fbed184", func := "veil/veillaw01.FieldCodec", spec := "fieldCodec", inPlace := ["math/bits.Add64"], apart := false, narrowed := true }
def FieldCodecUptoSaid : Prop := fieldCodecUptoRow.holds Try.pinned (OpenSpec.upto fieldCodecSpec)

/-- 'veillaw01.FieldSigns', WHERE WHAT IT READS IS OF BULK AT MOST 1048576: true; the input reads as it did. -/
def fieldSignsUptoRow : OpenClaim := { program := "ytfnhpenkobcblaa", sum := "39a80b969f02995e44f3bc89c06f9290a609b29d735c88d493581d986fbed184", func := "veil/veillaw01.FieldSigns", spec := "fieldSigns", inPlace := ["math/bits.Add64"], apart := false, narrowed := true }
def FieldSignsUptoSaid : Prop := fieldSignsUptoRow.holds Try.pinned (OpenSpec.upto fieldSignsSpec)

end Rows
end Go.Proofs.Ytfnhpenkobcblaa
