/-
  NARROWER THAN 'FOR EVERY INPUT', by the rows' own cells (each row's printed sentence says how): FieldLeast: laid · FieldBytes: laid · FieldAdds: laid · FieldAsks: laid · FieldMuls: laid · FieldPowers: laid · FieldConsts: laid · FieldRoots: laid · FieldRuns: laid · FieldSquares: laid.
  DERIVED. THE GIVEN ROWS OF THIS SEAT. 10 by the template 'for every input the law returns true; each argument reads behind the call as it read before'; 0 by the template 'total and deterministic' (their statements: YtfnhpenkobcblaaDoorTotals.lean).
  GIVEN WITH THE SEED: the statements are not yours to turn. If you find one false, say at which input.
  Laid BY PROGRAM, IN A SANDBOX (cutbox-rows.mjs): the forced cells as the released guide's own fill.sh prints them over the translation 4fa13c2c4e559e70… (all of the seat's roots in one cut). By AI agents, Wed Nov 11 2026. No macro, syntax, notation, axiom, sorry.
-/
import Derived.Test.YtfnhpenkobcblaaDoorChecked
import GoSem.Claim
import GoSem.ClaimJoined
import GoSem.ClaimMapViews
import Derived.JoinedTies
import Derived.KernelRfl
namespace Go.Proofs.YtfnhpenkobcblaaDoor
/- THE CELL 'sum', in the pinned program and in every row, IS THE sha256 OF THE DUMP (.gsa) THAT YtfnhpenkobcblaaDoorProg.lean LOADS. Nothing in Lean hashes anything: it is a label: what it is worth is what the hold of that sum in a sandbox is worth. -/
noncomputable def Tryd.pinned : Pinned := { name := "ytfnhpenkobcblaadoor", sum := "4fa13c2c4e559e7085232d138331eb7464f144032e01326ccb92d2adead423b0", checked := Tryd.checked }
namespace Rows
def none {H : Type} : Left H := { results := [], args := [] }

/- WHAT THE LISTED PACKAGE-LEVEL VARIABLES READ AS WHEN THE CALL BEGINS. Each datum BY PROGRAM (the guide's laid-datum.mjs) off the statement by which the dump's own 'gosem.cut.vars' lays the variable. In a bare row this is a premise. The card (YtfnhpenkobcblaaDoorCards.lean) ties it to the program's text. -/
def laid_veil_field_table {H : Type} : DataW H := .agg [.agg [.lit (.int .u64 0), .lit (.int .u64 0), .lit (.int .u64 0), .lit (.int .u64 0), .lit (.int .u64 0)], .agg [.lit (.int .u64 1718705420411056), .lit (.int .u64 234908883556509), .lit (.int .u64 2233514472574048), .lit (.int .u64 2117202627021982), .lit (.int .u64 765476049583133)], .agg [.lit (.int .u64 929955233495203), .lit (.int .u64 466365720129213), .lit (.int .u64 1662059464998953), .lit (.int .u64 2033849074728123), .lit (.int .u64 1442794654840575)], .agg [.lit (.int .u64 2241493124984347), .lit (.int .u64 425987919032274), .lit (.int .u64 2207028919301688), .lit (.int .u64 1220490630685848), .lit (.int .u64 974799131293748)], .agg [.lit (.int .u64 278908739862762), .lit (.int .u64 821645201101625), .lit (.int .u64 8113234426968), .lit (.int .u64 1777959178193151), .lit (.int .u64 2118520810568447)], .agg [.lit (.int .u64 1136626929484150), .lit (.int .u64 1998550399581263), .lit (.int .u64 496427632559748), .lit (.int .u64 118527312129759), .lit (.int .u64 45110755273534)], .agg [.lit (.int .u64 1507062230895904), .lit (.int .u64 1572317787530805), .lit (.int .u64 683053064812840), .lit (.int .u64 317374165784489), .lit (.int .u64 1572899562415810)]]
def laid_veil_veilref01_Zero {H : Type} : DataW H := .agg [.lit (.int .i64 0), .lit (.int .i64 0), .lit (.int .i64 0), .lit (.int .i64 0), .lit (.int .i64 0), .lit (.int .i64 0), .lit (.int .i64 0), .lit (.int .i64 0), .lit (.int .i64 0), .lit (.int .i64 0)]
def laid_veil_veilref01_One {H : Type} : DataW H := .agg [.lit (.int .i64 1), .lit (.int .i64 0), .lit (.int .i64 0), .lit (.int .i64 0), .lit (.int .i64 0), .lit (.int .i64 0), .lit (.int .i64 0), .lit (.int .i64 0), .lit (.int .i64 0), .lit (.int .i64 0)]
def laid_veil_veilref01_prime {H : Type} : DataW H := .agg [.lit (.int .i64 67108845), .lit (.int .i64 67108863), .lit (.int .i64 67108863), .lit (.int .i64 67108863), .lit (.int .i64 67108863), .lit (.int .i64 67108863), .lit (.int .i64 67108863), .lit (.int .i64 67108863), .lit (.int .i64 67108863), .lit (.int .i64 2097151)]

/-- 'veillaw01.FieldLeast': WHATEVER THE INPUT: true; the input reads as it did. -/
def fieldLeastSpec : ChangeSpec := { name := "fieldLeast", fn := fun _ => fun
  | [d1, d2, d3] => { results := [.lit (.bool true)], args := [d1, d2, d3] }
  | _ => none }
def fieldLeastRow : OpenClaim := { program := "ytfnhpenkobcblaadoor", sum := "4fa13c2c4e559e7085232d138331eb7464f144032e01326ccb92d2adead423b0", func := "veil/veillaw01.FieldLeast", spec := "fieldLeast", recurses := true, named := ["veil/veilref01.One", "veil/veilref01.prime", "veil/field.table", "veil/veilref01.Zero"], apart := false, laid := [("veil/field.table", laid_veil_field_table), ("veil/veilref01.Zero", laid_veil_veilref01_Zero), ("veil/veilref01.One", laid_veil_veilref01_One), ("veil/veilref01.prime", laid_veil_veilref01_prime)] }
def FieldLeastSaid : Prop := fieldLeastRow.holds Tryd.pinned (OpenSpec.ofChange fieldLeastSpec)

/-- ITS FALSE NEIGHBOUR: 'it returns false'. Refute it at one input. -/
def fieldLeastWrong : ChangeSpec := { name := "fieldLeast", fn := fun _ => fun
  | [d1, d2, d3] => { results := [.lit (.bool false)], args := [d1, d2, d3] }
  | _ => none }
def FieldLeastWrongFalsely : Prop := fieldLeastRow.holds Tryd.pinned (OpenSpec.ofChange fieldLeastWrong)

/-- 'veillaw01.FieldBytes': WHATEVER THE INPUT: true; the input reads as it did. -/
def fieldBytesSpec : ChangeSpec := { name := "fieldBytes", fn := fun _ => fun
  | [d1, d2] => { results := [.lit (.bool true)], args := [d1, d2] }
  | _ => none }
def fieldBytesRow : OpenClaim := { program := "ytfnhpenkobcblaadoor", sum := "4fa13c2c4e559e7085232d138331eb7464f144032e01326ccb92d2adead423b0", func := "veil/veillaw01.FieldBytes", spec := "fieldBytes", named := ["veil/veilref01.prime"], apart := false, laid := [("veil/veilref01.prime", laid_veil_veilref01_prime)] }
def FieldBytesSaid : Prop := fieldBytesRow.holds Tryd.pinned (OpenSpec.ofChange fieldBytesSpec)

/-- ITS FALSE NEIGHBOUR: 'it returns false'. Refute it at one input. -/
def fieldBytesWrong : ChangeSpec := { name := "fieldBytes", fn := fun _ => fun
  | [d1, d2] => { results := [.lit (.bool false)], args := [d1, d2] }
  | _ => none }
def FieldBytesWrongFalsely : Prop := fieldBytesRow.holds Tryd.pinned (OpenSpec.ofChange fieldBytesWrong)

/-- 'veillaw01.FieldAdds': WHATEVER THE INPUT: true; the input reads as it did. -/
def fieldAddsSpec : ChangeSpec := { name := "fieldAdds", fn := fun _ => fun
  | [d1, d2] => { results := [.lit (.bool true)], args := [d1, d2] }
  | _ => none }
def fieldAddsRow : OpenClaim := { program := "ytfnhpenkobcblaadoor", sum := "4fa13c2c4e559e7085232d138331eb7464f144032e01326ccb92d2adead423b0", func := "veil/veillaw01.FieldAdds", spec := "fieldAdds", named := ["veil/veilref01.prime", "veil/veilref01.Zero"], apart := false, laid := [("veil/veilref01.Zero", laid_veil_veilref01_Zero), ("veil/veilref01.prime", laid_veil_veilref01_prime)] }
def FieldAddsSaid : Prop := fieldAddsRow.holds Tryd.pinned (OpenSpec.ofChange fieldAddsSpec)

/-- ITS FALSE NEIGHBOUR: 'it returns false'. Refute it at one input. -/
def fieldAddsWrong : ChangeSpec := { name := "fieldAdds", fn := fun _ => fun
  | [d1, d2] => { results := [.lit (.bool false)], args := [d1, d2] }
  | _ => none }
def FieldAddsWrongFalsely : Prop := fieldAddsRow.holds Tryd.pinned (OpenSpec.ofChange fieldAddsWrong)

/-- 'veillaw01.FieldAsks': WHATEVER THE INPUT: true; the input reads as it did. -/
def fieldAsksSpec : ChangeSpec := { name := "fieldAsks", fn := fun _ => fun
  | [d1, d2, d3] => { results := [.lit (.bool true)], args := [d1, d2, d3] }
  | _ => none }
def fieldAsksRow : OpenClaim := { program := "ytfnhpenkobcblaadoor", sum := "4fa13c2c4e559e7085232d138331eb7464f144032e01326ccb92d2adead423b0", func := "veil/veillaw01.FieldAsks", spec := "fieldAsks", named := ["veil/veilref01.Zero", "veil/veilref01.prime"], apart := false, laid := [("veil/veilref01.Zero", laid_veil_veilref01_Zero), ("veil/veilref01.prime", laid_veil_veilref01_prime)] }
def FieldAsksSaid : Prop := fieldAsksRow.holds Tryd.pinned (OpenSpec.ofChange fieldAsksSpec)

/-- ITS FALSE NEIGHBOUR: 'it returns false'. Refute it at one input. -/
def fieldAsksWrong : ChangeSpec := { name := "fieldAsks", fn := fun _ => fun
  | [d1, d2, d3] => { results := [.lit (.bool false)], args := [d1, d2, d3] }
  | _ => none }
def FieldAsksWrongFalsely : Prop := fieldAsksRow.holds Tryd.pinned (OpenSpec.ofChange fieldAsksWrong)

/-- 'veillaw01.FieldMuls': WHATEVER THE INPUT: true; the input reads as it did. -/
def fieldMulsSpec : ChangeSpec := { name := "fieldMuls", fn := fun _ => fun
  | [d1, d2] => { results := [.lit (.bool true)], args := [d1, d2] }
  | _ => none }
def fieldMulsRow : OpenClaim := { program := "ytfnhpenkobcblaadoor", sum := "4fa13c2c4e559e7085232d138331eb7464f144032e01326ccb92d2adead423b0", func := "veil/veillaw01.FieldMuls", spec := "fieldMuls", inPlace := ["math/bits.Add64"], named := ["veil/veilref01.prime"], apart := false, laid := [("veil/veilref01.prime", laid_veil_veilref01_prime)] }
def FieldMulsSaid : Prop := fieldMulsRow.holds Tryd.pinned (OpenSpec.ofChange fieldMulsSpec)

/-- ITS FALSE NEIGHBOUR: 'it returns false'. Refute it at one input. -/
def fieldMulsWrong : ChangeSpec := { name := "fieldMuls", fn := fun _ => fun
  | [d1, d2] => { results := [.lit (.bool false)], args := [d1, d2] }
  | _ => none }
def FieldMulsWrongFalsely : Prop := fieldMulsRow.holds Tryd.pinned (OpenSpec.ofChange fieldMulsWrong)

/-- 'veillaw01.FieldPowers': WHATEVER THE INPUT: true; the input reads as it did. -/
def fieldPowersSpec : ChangeSpec := { name := "fieldPowers", fn := fun _ => fun
  | [d1, d2] => { results := [.lit (.bool true)], args := [d1, d2] }
  | _ => none }
def fieldPowersRow : OpenClaim := { program := "ytfnhpenkobcblaadoor", sum := "4fa13c2c4e559e7085232d138331eb7464f144032e01326ccb92d2adead423b0", func := "veil/veillaw01.FieldPowers", spec := "fieldPowers", inPlace := ["math/bits.Add64"], recurses := true, named := ["veil/veilref01.prime", "veil/veilref01.One"], apart := false, laid := [("veil/veilref01.One", laid_veil_veilref01_One), ("veil/veilref01.prime", laid_veil_veilref01_prime)] }
def FieldPowersSaid : Prop := fieldPowersRow.holds Tryd.pinned (OpenSpec.ofChange fieldPowersSpec)

/-- ITS FALSE NEIGHBOUR: 'it returns false'. Refute it at one input. -/
def fieldPowersWrong : ChangeSpec := { name := "fieldPowers", fn := fun _ => fun
  | [d1, d2] => { results := [.lit (.bool false)], args := [d1, d2] }
  | _ => none }
def FieldPowersWrongFalsely : Prop := fieldPowersRow.holds Tryd.pinned (OpenSpec.ofChange fieldPowersWrong)

/-- 'veillaw01.FieldConsts': WHATEVER THE INPUT: true; the input reads as it did. -/
def fieldConstsSpec : ChangeSpec := { name := "fieldConsts", fn := fun _ => fun
  | [] => { results := [.lit (.bool true)], args := [] }
  | _ => none }
def fieldConstsRow : OpenClaim := { program := "ytfnhpenkobcblaadoor", sum := "4fa13c2c4e559e7085232d138331eb7464f144032e01326ccb92d2adead423b0", func := "veil/veillaw01.FieldConsts", spec := "fieldConsts", inPlace := ["math/bits.Add64"], named := ["veil/field.table"], apart := false, laid := [("veil/field.table", laid_veil_field_table)] }
def FieldConstsSaid : Prop := fieldConstsRow.holds Tryd.pinned (OpenSpec.ofChange fieldConstsSpec)

/-- ITS FALSE NEIGHBOUR: 'it returns false'. Refute it at one input. -/
def fieldConstsWrong : ChangeSpec := { name := "fieldConsts", fn := fun _ => fun
  | [] => { results := [.lit (.bool false)], args := [] }
  | _ => none }
def FieldConstsWrongFalsely : Prop := fieldConstsRow.holds Tryd.pinned (OpenSpec.ofChange fieldConstsWrong)

/-- 'veillaw01.FieldRoots': WHATEVER THE INPUT: true; the input reads as it did. -/
def fieldRootsSpec : ChangeSpec := { name := "fieldRoots", fn := fun _ => fun
  | [d1, d2] => { results := [.lit (.bool true)], args := [d1, d2] }
  | _ => none }
def fieldRootsRow : OpenClaim := { program := "ytfnhpenkobcblaadoor", sum := "4fa13c2c4e559e7085232d138331eb7464f144032e01326ccb92d2adead423b0", func := "veil/veillaw01.FieldRoots", spec := "fieldRoots", inPlace := ["math/bits.Add64"], recurses := true, named := ["veil/field.table", "veil/veilref01.prime", "veil/veilref01.Zero"], apart := false, laid := [("veil/field.table", laid_veil_field_table), ("veil/veilref01.Zero", laid_veil_veilref01_Zero), ("veil/veilref01.prime", laid_veil_veilref01_prime)] }
def FieldRootsSaid : Prop := fieldRootsRow.holds Tryd.pinned (OpenSpec.ofChange fieldRootsSpec)

/-- ITS FALSE NEIGHBOUR: 'it returns false'. Refute it at one input. -/
def fieldRootsWrong : ChangeSpec := { name := "fieldRoots", fn := fun _ => fun
  | [d1, d2] => { results := [.lit (.bool false)], args := [d1, d2] }
  | _ => none }
def FieldRootsWrongFalsely : Prop := fieldRootsRow.holds Tryd.pinned (OpenSpec.ofChange fieldRootsWrong)

/-- 'veillaw01.FieldRuns': WHATEVER THE INPUT: true; the input reads as it did. -/
def fieldRunsSpec : ChangeSpec := { name := "fieldRuns", fn := fun _ => fun
  | [d1, d2] => { results := [.lit (.bool true)], args := [d1, d2] }
  | _ => none }
def fieldRunsRow : OpenClaim := { program := "ytfnhpenkobcblaadoor", sum := "4fa13c2c4e559e7085232d138331eb7464f144032e01326ccb92d2adead423b0", func := "veil/veillaw01.FieldRuns", spec := "fieldRuns", inPlace := ["math/bits.Add64"], recurses := true, named := ["veil/veilref01.prime", "veil/veilref01.Zero", "veil/field.table"], apart := false, laid := [("veil/field.table", laid_veil_field_table), ("veil/veilref01.Zero", laid_veil_veilref01_Zero), ("veil/veilref01.prime", laid_veil_veilref01_prime)] }
def FieldRunsSaid : Prop := fieldRunsRow.holds Tryd.pinned (OpenSpec.ofChange fieldRunsSpec)

/-- ITS FALSE NEIGHBOUR: 'it returns false'. Refute it at one input. -/
def fieldRunsWrong : ChangeSpec := { name := "fieldRuns", fn := fun _ => fun
  | [d1, d2] => { results := [.lit (.bool false)], args := [d1, d2] }
  | _ => none }
def FieldRunsWrongFalsely : Prop := fieldRunsRow.holds Tryd.pinned (OpenSpec.ofChange fieldRunsWrong)

/-- 'veillaw01.FieldSquares': WHATEVER THE INPUT: true; the input reads as it did. -/
def fieldSquaresSpec : ChangeSpec := { name := "fieldSquares", fn := fun _ => fun
  | [d1, d2, d3] => { results := [.lit (.bool true)], args := [d1, d2, d3] }
  | _ => none }
def fieldSquaresRow : OpenClaim := { program := "ytfnhpenkobcblaadoor", sum := "4fa13c2c4e559e7085232d138331eb7464f144032e01326ccb92d2adead423b0", func := "veil/veillaw01.FieldSquares", spec := "fieldSquares", inPlace := ["math/bits.Add64"], named := ["veil/field.table"], apart := false, laid := [("veil/field.table", laid_veil_field_table)] }
def FieldSquaresSaid : Prop := fieldSquaresRow.holds Tryd.pinned (OpenSpec.ofChange fieldSquaresSpec)

/-- ITS FALSE NEIGHBOUR: 'it returns false'. Refute it at one input. -/
def fieldSquaresWrong : ChangeSpec := { name := "fieldSquares", fn := fun _ => fun
  | [d1, d2, d3] => { results := [.lit (.bool false)], args := [d1, d2, d3] }
  | _ => none }
def FieldSquaresWrongFalsely : Prop := fieldSquaresRow.holds Tryd.pinned (OpenSpec.ofChange fieldSquaresWrong)

/- THE SECOND FORM. 'bulk': how many values and letters a reading holds, each counted each time it is reached (what is shared counts as often as it is met; a slice's spare places count too). A statement '..UptoSaid' is the law's where the arguments, and the package variables that the reading takes, are together of bulk at most 1048576: NARROWER than '..Said'. Prove '..Said' where nothing that the law and all that it calls make is longer than what came in: it says more and counts as full. Else prove '..UptoSaid'. A law counts once. -/
mutual
def uptoBulk {H : Type} : DataW H → Nat
  | .lit (.string bytes) => bytes.length + 1
  | .lit _ => 1
  | .nil => 1
  | .ptr d => uptoBulk d + 1
  | .slice elems spare => uptoBulkAll elems + uptoBulkAll spare + 1
  | .agg parts => uptoBulkAll parts + 1
  | .iface _ d => uptoBulk d + 1
  | .map entries => uptoBulkEntries entries + 1
  | .held _ => 1
def uptoBulkAll {H : Type} : List (DataW H) → Nat
  | [] => 0
  | d :: r => uptoBulk d + uptoBulkAll r
def uptoBulkEntries {H : Type} : List (Lit × DataW H) → Nat
  | [] => 0
  | x :: r => uptoBulkEntry x + uptoBulkEntries r
def uptoBulkEntry {H : Type} : Lit × DataW H → Nat
  | (.string bytes, d) => bytes.length + uptoBulk d + 1
  | (_, d) => uptoBulk d + 1
 end
def uptoSmall : (H : Type) → List (DataW H) → Bool := fun _ ds => decide (uptoBulkAll ds ≤ 1048576)
def OpenSpec.upto (s : _root_.Go.ChangeSpec) : _root_.Go.OpenSpec := { _root_.Go.OpenSpec.ofChange s with cond := some uptoSmall }

/-- 'veillaw01.FieldLeast', WHERE WHAT IT READS IS OF BULK AT MOST 1048576: true; the input reads as it did. -/
def fieldLeastUptoRow : OpenClaim := { program := "ytfnhpenkobcblaadoor", sum := "4fa13c2c4e559e7085232d138331eb7464f144032e01326ccb92d2adead423b0", func := "veil/veillaw01.FieldLeast", spec := "fieldLeast", recurses := true, named := ["veil/veilref01.One", "veil/veilref01.prime", "veil/field.table", "veil/veilref01.Zero"], apart := false, laid := [("veil/field.table", laid_veil_field_table), ("veil/veilref01.Zero", laid_veil_veilref01_Zero), ("veil/veilref01.One", laid_veil_veilref01_One), ("veil/veilref01.prime", laid_veil_veilref01_prime)], narrowed := true }
def FieldLeastUptoSaid : Prop := fieldLeastUptoRow.holds Tryd.pinned (OpenSpec.upto fieldLeastSpec)

/-- 'veillaw01.FieldBytes', WHERE WHAT IT READS IS OF BULK AT MOST 1048576: true; the input reads as it did. -/
def fieldBytesUptoRow : OpenClaim := { program := "ytfnhpenkobcblaadoor", sum := "4fa13c2c4e559e7085232d138331eb7464f144032e01326ccb92d2adead423b0", func := "veil/veillaw01.FieldBytes", spec := "fieldBytes", named := ["veil/veilref01.prime"], apart := false, laid := [("veil/veilref01.prime", laid_veil_veilref01_prime)], narrowed := true }
def FieldBytesUptoSaid : Prop := fieldBytesUptoRow.holds Tryd.pinned (OpenSpec.upto fieldBytesSpec)

/-- 'veillaw01.FieldAdds', WHERE WHAT IT READS IS OF BULK AT MOST 1048576: true; the input reads as it did. -/
def fieldAddsUptoRow : OpenClaim := { program := "ytfnhpenkobcblaadoor", sum := "4fa13c2c4e559e7085232d138331eb7464f144032e01326ccb92d2adead423b0", func := "veil/veillaw01.FieldAdds", spec := "fieldAdds", named := ["veil/veilref01.prime", "veil/veilref01.Zero"], apart := false, laid := [("veil/veilref01.Zero", laid_veil_veilref01_Zero), ("veil/veilref01.prime", laid_veil_veilref01_prime)], narrowed := true }
def FieldAddsUptoSaid : Prop := fieldAddsUptoRow.holds Tryd.pinned (OpenSpec.upto fieldAddsSpec)

/-- 'veillaw01.FieldAsks', WHERE WHAT IT READS IS OF BULK AT MOST 1048576: true; the input reads as it did. -/
def fieldAsksUptoRow : OpenClaim := { program := "ytfnhpenkobcblaadoor", sum := "4fa13c2c4e559e7085232d138331eb7464f144032e01326ccb92d2adead423b0", func := "veil/veillaw01.FieldAsks", spec := "fieldAsks", named := ["veil/veilref01.Zero", "veil/veilref01.prime"], apart := false, laid := [("veil/veilref01.Zero", laid_veil_veilref01_Zero), ("veil/veilref01.prime", laid_veil_veilref01_prime)], narrowed := true }
def FieldAsksUptoSaid : Prop := fieldAsksUptoRow.holds Tryd.pinned (OpenSpec.upto fieldAsksSpec)

/-- 'veillaw01.FieldMuls', WHERE WHAT IT READS IS OF BULK AT MOST 1048576: true; the input reads as it did. -/
def fieldMulsUptoRow : OpenClaim := { program := "ytfnhpenkobcblaadoor", sum := "4fa13c2c4e559e7085232d138331eb7464f144032e01326ccb92d2adead423b0", func := "veil/veillaw01.FieldMuls", spec := "fieldMuls", inPlace := ["math/bits.Add64"], named := ["veil/veilref01.prime"], apart := false, laid := [("veil/veilref01.prime", laid_veil_veilref01_prime)], narrowed := true }
def FieldMulsUptoSaid : Prop := fieldMulsUptoRow.holds Tryd.pinned (OpenSpec.upto fieldMulsSpec)

/-- 'veillaw01.FieldPowers', WHERE WHAT IT READS IS OF BULK AT MOST 1048576: true; the input reads as it did. -/
def fieldPowersUptoRow : OpenClaim := { program := "ytfnhpenkobcblaadoor", sum := "4fa13c2c4e559e7085232d138331eb7464f144032e01326ccb92d2adead423b0", func := "veil/veillaw01.FieldPowers", spec := "fieldPowers", inPlace := ["math/bits.Add64"], recurses := true, named := ["veil/veilref01.prime", "veil/veilref01.One"], apart := false, laid := [("veil/veilref01.One", laid_veil_veilref01_One), ("veil/veilref01.prime", laid_veil_veilref01_prime)], narrowed := true }
def FieldPowersUptoSaid : Prop := fieldPowersUptoRow.holds Tryd.pinned (OpenSpec.upto fieldPowersSpec)

/-- 'veillaw01.FieldConsts', WHERE WHAT IT READS IS OF BULK AT MOST 1048576: true; the input reads as it did. -/
def fieldConstsUptoRow : OpenClaim := { program := "ytfnhpenkobcblaadoor", sum := "4fa13c2c4e559e7085232d138331eb7464f144032e01326ccb92d2adead423b0", func := "veil/veillaw01.FieldConsts", spec := "fieldConsts", inPlace := ["math/bits.Add64"], named := ["veil/field.table"], apart := false, laid := [("veil/field.table", laid_veil_field_table)], narrowed := true }
def FieldConstsUptoSaid : Prop := fieldConstsUptoRow.holds Tryd.pinned (OpenSpec.upto fieldConstsSpec)

/-- 'veillaw01.FieldRoots', WHERE WHAT IT READS IS OF BULK AT MOST 1048576: true; the input reads as it did. -/
def fieldRootsUptoRow : OpenClaim := { program := "ytfnhpenkobcblaadoor", sum := "4fa13c2c4e559e7085232d138331eb7464f144032e01326ccb92d2adead423b0", func := "veil/veillaw01.FieldRoots", spec := "fieldRoots", inPlace := ["math/bits.Add64"], recurses := true, named := ["veil/field.table", "veil/veilref01.prime", "veil/veilref01.Zero"], apart := false, laid := [("veil/field.table", laid_veil_field_table), ("veil/veilref01.Zero", laid_veil_veilref01_Zero), ("veil/veilref01.prime", laid_veil_veilref01_prime)], narrowed := true }
def FieldRootsUptoSaid : Prop := fieldRootsUptoRow.holds Tryd.pinned (OpenSpec.upto fieldRootsSpec)

/-- 'veillaw01.FieldRuns', WHERE WHAT IT READS IS OF BULK AT MOST 1048576: true; the input reads as it did. -/
def fieldRunsUptoRow : OpenClaim := { program := "ytfnhpenkobcblaadoor", sum := "4fa13c2c4e559e7085232d138331eb7464f144032e01326ccb92d2adead423b0", func := "veil/veillaw01.FieldRuns", spec := "fieldRuns", inPlace := ["math/bits.Add64"], recurses := true, named := ["veil/veilref01.prime", "veil/veilref01.Zero", "veil/field.table"], apart := false, laid := [("veil/field.table", laid_veil_field_table), ("veil/veilref01.Zero", laid_veil_veilref01_Zero), ("veil/veilref01.prime", laid_veil_veilref01_prime)], narrowed := true }
def FieldRunsUptoSaid : Prop := fieldRunsUptoRow.holds Tryd.pinned (OpenSpec.upto fieldRunsSpec)

/-- 'veillaw01.FieldSquares', WHERE WHAT IT READS IS OF BULK AT MOST 1048576: true; the input reads as it did. -/
def fieldSquaresUptoRow : OpenClaim := { program := "ytfnhpenkobcblaadoor", sum := "4fa13c2c4e559e7085232d138331eb7464f144032e01326ccb92d2adead423b0", func := "veil/veillaw01.FieldSquares", spec := "fieldSquares", inPlace := ["math/bits.Add64"], named := ["veil/field.table"], apart := false, laid := [("veil/field.table", laid_veil_field_table)], narrowed := true }
def FieldSquaresUptoSaid : Prop := fieldSquaresUptoRow.holds Tryd.pinned (OpenSpec.upto fieldSquaresSpec)

end Rows
end Go.Proofs.YtfnhpenkobcblaaDoor
