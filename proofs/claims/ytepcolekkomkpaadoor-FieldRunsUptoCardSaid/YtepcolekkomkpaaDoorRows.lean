/-
  NARROWER THAN 'FOR EVERY INPUT', by the rows' own cells (each row's printed sentence says how): FieldRuns: laid.
  DERIVED. THE GIVEN ROWS OF THIS SEAT. 1 by the template 'for every input the law returns true; each argument reads behind the call as it read before'; 0 by the template 'total and deterministic' (their statements: YtepcolekkomkpaaDoorTotals.lean).
  GIVEN WITH THE SEED: the statements are not yours to turn. If you find one false, say at which input.
  Laid BY PROGRAM, IN A SANDBOX (cutbox-rows.mjs): the forced cells as the released guide's own fill.sh prints them over the translation 0c15864b2211fe66… (all of the seat's roots in one cut). By AI agents, Wed Nov 11 2026. No macro, syntax, notation, axiom, sorry.
-/
import Derived.Test.YtepcolekkomkpaaDoorChecked
import GoSem.Claim
import GoSem.ClaimJoined
import GoSem.ClaimMapViews
import Derived.JoinedTies
import Derived.KernelRfl
namespace Go.Proofs.YtepcolekkomkpaaDoor
/- THE CELL 'sum', in the pinned program and in every row, IS THE sha256 OF THE DUMP (.gsa) THAT YtepcolekkomkpaaDoorProg.lean LOADS. Nothing in Lean hashes anything: it is a label: what it is worth is what the hold of that sum in a sandbox is worth. -/
noncomputable def Tryd.pinned : Pinned := { name := "ytepcolekkomkpaadoor", sum := "0c15864b2211fe6611a1095671163d080bdf7424fddf956f9e1a4e7422509437", checked := Tryd.checked }
namespace Rows
def none {H : Type} : Left H := { results := [], args := [] }

/- WHAT THE LISTED PACKAGE-LEVEL VARIABLES READ AS WHEN THE CALL BEGINS. Each datum BY PROGRAM (the guide's laid-datum.mjs) off the statement by which the dump's own 'gosem.cut.vars' lays the variable. In a bare row this is a premise. The card (YtepcolekkomkpaaDoorCards.lean) ties it to the program's text. -/
def laid_veil_field_table {H : Type} : DataW H := .agg [.agg [.lit (.int .u64 0), .lit (.int .u64 0), .lit (.int .u64 0), .lit (.int .u64 0), .lit (.int .u64 0)], .agg [.lit (.int .u64 1718705420411056), .lit (.int .u64 234908883556509), .lit (.int .u64 2233514472574048), .lit (.int .u64 2117202627021982), .lit (.int .u64 765476049583133)], .agg [.lit (.int .u64 929955233495203), .lit (.int .u64 466365720129213), .lit (.int .u64 1662059464998953), .lit (.int .u64 2033849074728123), .lit (.int .u64 1442794654840575)], .agg [.lit (.int .u64 2241493124984347), .lit (.int .u64 425987919032274), .lit (.int .u64 2207028919301688), .lit (.int .u64 1220490630685848), .lit (.int .u64 974799131293748)], .agg [.lit (.int .u64 278908739862762), .lit (.int .u64 821645201101625), .lit (.int .u64 8113234426968), .lit (.int .u64 1777959178193151), .lit (.int .u64 2118520810568447)], .agg [.lit (.int .u64 1136626929484150), .lit (.int .u64 1998550399581263), .lit (.int .u64 496427632559748), .lit (.int .u64 118527312129759), .lit (.int .u64 45110755273534)], .agg [.lit (.int .u64 1507062230895904), .lit (.int .u64 1572317787530805), .lit (.int .u64 683053064812840), .lit (.int .u64 317374165784489), .lit (.int .u64 1572899562415810)]]
def laid_veil_veilref01_Zero {H : Type} : DataW H := .agg [.lit (.int .i64 0), .lit (.int .i64 0), .lit (.int .i64 0), .lit (.int .i64 0), .lit (.int .i64 0), .lit (.int .i64 0), .lit (.int .i64 0), .lit (.int .i64 0), .lit (.int .i64 0), .lit (.int .i64 0)]
def laid_veil_veilref01_prime {H : Type} : DataW H := .agg [.lit (.int .i64 67108845), .lit (.int .i64 67108863), .lit (.int .i64 67108863), .lit (.int .i64 67108863), .lit (.int .i64 67108863), .lit (.int .i64 67108863), .lit (.int .i64 67108863), .lit (.int .i64 67108863), .lit (.int .i64 67108863), .lit (.int .i64 2097151)]

/-- 'veillaw01.FieldRuns': WHATEVER THE INPUT: true; the input reads as it did. -/
def fieldRunsSpec : ChangeSpec := { name := "fieldRuns", fn := fun _ => fun
  | [d1, d2] => { results := [.lit (.bool true)], args := [d1, d2] }
  | _ => none }
def fieldRunsRow : OpenClaim := { program := "ytepcolekkomkpaadoor", sum := "0c15864b2211fe6611a1095671163d080bdf7424fddf956f9e1a4e7422509437", func := "veil/veillaw01.FieldRuns", spec := "fieldRuns", inPlace := ["math/bits.Add64"], recurses := true, named := ["veil/veilref01.prime", "veil/veilref01.Zero", "veil/field.table"], apart := false, laid := [("veil/field.table", laid_veil_field_table), ("veil/veilref01.Zero", laid_veil_veilref01_Zero), ("veil/veilref01.prime", laid_veil_veilref01_prime)] }
def FieldRunsSaid : Prop := fieldRunsRow.holds Tryd.pinned (OpenSpec.ofChange fieldRunsSpec)

/-- ITS FALSE NEIGHBOUR: 'it returns false'. Refute it at one input. -/
def fieldRunsWrong : ChangeSpec := { name := "fieldRuns", fn := fun _ => fun
  | [d1, d2] => { results := [.lit (.bool false)], args := [d1, d2] }
  | _ => none }
def FieldRunsWrongFalsely : Prop := fieldRunsRow.holds Tryd.pinned (OpenSpec.ofChange fieldRunsWrong)

/- THE SECOND FORM. 'bulk': how many values and letters a reading holds, each counted each time it is reached (what is shared counts as often as it is met; a slice's spare places count too). A statement '..UptoSaid' is the law's where the arguments, and the package variables that the reading takes, are together of bulk at most 1048576: NARROWER than '..Said'. Prove '..Said' where nothing that the law and all that it calls make is longer than what came in: it says more and counts as full. Else prove '..UptoSaid'. A law counts once. -/
mutual
def uptoBulk {H : Type} : DataW H → Nat
  | .lit (.string bytes) => bytes.length + 1
  | .lit _ => 1
  | .nil => 1
  | .ptr d => uptoBulk d + 1
  | .slice elems spare => uptoBulkAll elems + uptoBulkAll spare + 1
  | .agg parts => uptoBulkAll parts + 1
  | .iface _ d => uptoBulk d + 1
  | .map entries => uptoBulkEntries entries + 1
  | .held _ => 1
def uptoBulkAll {H : Type} : List (DataW H) → Nat
  | [] => 0
  | d :: r => uptoBulk d + uptoBulkAll r
def uptoBulkEntries {H : Type} : List (Lit × DataW H) → Nat
  | [] => 0
  | x :: r => uptoBulkEntry x + uptoBulkEntries r
def uptoBulkEntry {H : Type} : Lit × DataW H → Nat
  | (.string bytes, d) => bytes.length + uptoBulk d + 1
  | (_, d) => uptoBulk d + 1
 end
def uptoSmall : (H : Type) → List (DataW H) → Bool := fun _ ds => decide (uptoBulkAll ds ≤ 1048576)
def OpenSpec.upto (s : _root_.Go.ChangeSpec) : _root_.Go.OpenSpec := { _root_.Go.OpenSpec.ofChange s with cond := some uptoSmall }

/-- 'veillaw01.FieldRuns', WHERE WHAT IT READS IS OF BULK AT MOST 1048576: true; the input reads as it did. -/
def fieldRunsUptoRow : OpenClaim := { program := "ytepcolekkomkpaadoor", sum := "0c15864b2211fe6611a1095671163d080bdf7424fddf956f9e1a4e7422509437", func := "veil/veillaw01.FieldRuns", spec := "fieldRuns", inPlace := ["math/bits.Add64"], recurses := true, named := ["veil/veilref01.prime", "veil/veilref01.Zero", "veil/field.table"], apart := false, laid := [("veil/field.table", laid_veil_field_table), ("veil/veilref01.Zero", laid_veil_veilref01_Zero), ("veil/veilref01.prime", laid_veil_veilref01_prime)], narrowed := true }
def FieldRunsUptoSaid : Prop := fieldRunsUptoRow.holds Tryd.pinned (OpenSpec.upto fieldRunsSpec)

end Rows
end Go.Proofs.YtepcolekkomkpaaDoor
