/-
  NARROWER THAN 'FOR EVERY INPUT', by the rows' own cells (each row's printed sentence says how): CurveMakes: laid · CurveRuns: laid.
  DERIVED. THE GIVEN ROWS OF THIS SEAT. 2 by the template 'for every input the law returns true; each argument reads behind the call as it read before'; 0 by the template 'total and deterministic' (their statements: YtmoiobmpeohgnaaDoorTotals.lean).
  GIVEN WITH THE SEED: the statements are not yours to turn. If you find one false, say at which input.
  Laid BY PROGRAM, IN A SANDBOX (cutbox-rows.mjs): the forced cells as the released guide's own fill.sh prints them over the translation 5a53b4c27e3a8423… (all of the seat's roots in one cut). By AI agents, Wed Nov 11 2026. No macro, syntax, notation, axiom, sorry.
-/
import Derived.Test.YtmoiobmpeohgnaaDoorChecked
import GoSem.Claim
import GoSem.ClaimJoined
import GoSem.ClaimMapViews
import Derived.JoinedTies
import Derived.KernelRfl
namespace Go.Proofs.YtmoiobmpeohgnaaDoor
/- THE CELL 'sum', in the pinned program and in every row, IS THE sha256 OF THE DUMP (.gsa) THAT YtmoiobmpeohgnaaDoorProg.lean LOADS. Nothing in Lean hashes anything: it is a label: what it is worth is what the hold of that sum in a sandbox is worth. -/
noncomputable def Tryd.pinned : Pinned := { name := "ytmoiobmpeohgnaadoor", sum := "5a53b4c27e3a842312ec222b6ca1fab536d49f165df0aa012540fa61a658a15c", checked := Tryd.checked }
namespace Rows
def none {H : Type} : Left H := { results := [], args := [] }

/- WHAT THE LISTED PACKAGE-LEVEL VARIABLES READ AS WHEN THE CALL BEGINS. Each datum BY PROGRAM (the guide's laid-datum.mjs) off the statement by which the dump's own 'gosem.cut.vars' lays the variable. In a bare row this is a premise. The card (YtmoiobmpeohgnaaDoorCards.lean) ties it to the program's text. -/
def laid_veil_field_table {H : Type} : DataW H := .agg [.agg [.lit (.int .u64 0), .lit (.int .u64 0), .lit (.int .u64 0), .lit (.int .u64 0), .lit (.int .u64 0)], .agg [.lit (.int .u64 1718705420411056), .lit (.int .u64 234908883556509), .lit (.int .u64 2233514472574048), .lit (.int .u64 2117202627021982), .lit (.int .u64 765476049583133)], .agg [.lit (.int .u64 929955233495203), .lit (.int .u64 466365720129213), .lit (.int .u64 1662059464998953), .lit (.int .u64 2033849074728123), .lit (.int .u64 1442794654840575)], .agg [.lit (.int .u64 2241493124984347), .lit (.int .u64 425987919032274), .lit (.int .u64 2207028919301688), .lit (.int .u64 1220490630685848), .lit (.int .u64 974799131293748)], .agg [.lit (.int .u64 278908739862762), .lit (.int .u64 821645201101625), .lit (.int .u64 8113234426968), .lit (.int .u64 1777959178193151), .lit (.int .u64 2118520810568447)], .agg [.lit (.int .u64 1136626929484150), .lit (.int .u64 1998550399581263), .lit (.int .u64 496427632559748), .lit (.int .u64 118527312129759), .lit (.int .u64 45110755273534)], .agg [.lit (.int .u64 1507062230895904), .lit (.int .u64 1572317787530805), .lit (.int .u64 683053064812840), .lit (.int .u64 317374165784489), .lit (.int .u64 1572899562415810)]]
def laid_veil_curve_one {H : Type} : DataW H := .agg [.lit (.int .u64 1), .lit (.int .u64 0), .lit (.int .u64 0), .lit (.int .u64 0), .lit (.int .u64 0)]
def laid_veil_curve_base {H : Type} : DataW H := .agg [.agg [.agg [.lit (.int .u64 1738742601995546), .lit (.int .u64 1146398526822698), .lit (.int .u64 2070867633025821), .lit (.int .u64 562264141797630), .lit (.int .u64 587772402128613)], .agg [.lit (.int .u64 1801439850948184), .lit (.int .u64 1351079888211148), .lit (.int .u64 450359962737049), .lit (.int .u64 900719925474099), .lit (.int .u64 1801439850948198)], .agg [.lit (.int .u64 1), .lit (.int .u64 0), .lit (.int .u64 0), .lit (.int .u64 0), .lit (.int .u64 0)], .agg [.lit (.int .u64 1841354044333475), .lit (.int .u64 16398895984059), .lit (.int .u64 755974180946558), .lit (.int .u64 900171276175154), .lit (.int .u64 1821297809914039)]]]
def laid_veil_curve_torsions {H : Type} : DataW H := .agg [.agg [.agg [.agg [.lit (.int .u64 0), .lit (.int .u64 0), .lit (.int .u64 0), .lit (.int .u64 0), .lit (.int .u64 0)], .agg [.lit (.int .u64 0), .lit (.int .u64 0), .lit (.int .u64 0), .lit (.int .u64 0), .lit (.int .u64 0)], .agg [.lit (.int .u64 0), .lit (.int .u64 0), .lit (.int .u64 0), .lit (.int .u64 0), .lit (.int .u64 0)], .agg [.lit (.int .u64 0), .lit (.int .u64 0), .lit (.int .u64 0), .lit (.int .u64 0), .lit (.int .u64 0)]]], .agg [.agg [.agg [.lit (.int .u64 358744748052810), .lit (.int .u64 1691584618240980), .lit (.int .u64 977650209285361), .lit (.int .u64 1429865912637724), .lit (.int .u64 560044844278676)], .agg [.lit (.int .u64 2166873539340326), .lit (.int .u64 1778179147085316), .lit (.int .u64 1886209374839743), .lit (.int .u64 1223329526802818), .lit (.int .u64 105300633354275)], .agg [.lit (.int .u64 1), .lit (.int .u64 0), .lit (.int .u64 0), .lit (.int .u64 0), .lit (.int .u64 0)], .agg [.lit (.int .u64 803472979097708), .lit (.int .u64 393902981724766), .lit (.int .u64 1158077081819914), .lit (.int .u64 574391322974006), .lit (.int .u64 336294660666841)]]], .agg [.agg [.agg [.lit (.int .u64 1718705420411056), .lit (.int .u64 234908883556509), .lit (.int .u64 2233514472574048), .lit (.int .u64 2117202627021982), .lit (.int .u64 765476049583133)], .agg [.lit (.int .u64 0), .lit (.int .u64 0), .lit (.int .u64 0), .lit (.int .u64 0), .lit (.int .u64 0)], .agg [.lit (.int .u64 1), .lit (.int .u64 0), .lit (.int .u64 0), .lit (.int .u64 0), .lit (.int .u64 0)], .agg [.lit (.int .u64 0), .lit (.int .u64 0), .lit (.int .u64 0), .lit (.int .u64 0), .lit (.int .u64 0)]]], .agg [.agg [.agg [.lit (.int .u64 358744748052810), .lit (.int .u64 1691584618240980), .lit (.int .u64 977650209285361), .lit (.int .u64 1429865912637724), .lit (.int .u64 560044844278676)], .agg [.lit (.int .u64 84926274344903), .lit (.int .u64 473620666599931), .lit (.int .u64 365590438845504), .lit (.int .u64 1028470286882429), .lit (.int .u64 2146499180330972)], .agg [.lit (.int .u64 1), .lit (.int .u64 0), .lit (.int .u64 0), .lit (.int .u64 0), .lit (.int .u64 0)], .agg [.lit (.int .u64 1448326834587521), .lit (.int .u64 1857896831960481), .lit (.int .u64 1093722731865333), .lit (.int .u64 1677408490711241), .lit (.int .u64 1915505153018406)]]], .agg [.agg [.agg [.lit (.int .u64 0), .lit (.int .u64 0), .lit (.int .u64 0), .lit (.int .u64 0), .lit (.int .u64 0)], .agg [.lit (.int .u64 2251799813685228), .lit (.int .u64 2251799813685247), .lit (.int .u64 2251799813685247), .lit (.int .u64 2251799813685247), .lit (.int .u64 2251799813685247)], .agg [.lit (.int .u64 1), .lit (.int .u64 0), .lit (.int .u64 0), .lit (.int .u64 0), .lit (.int .u64 0)], .agg [.lit (.int .u64 0), .lit (.int .u64 0), .lit (.int .u64 0), .lit (.int .u64 0), .lit (.int .u64 0)]]], .agg [.agg [.agg [.lit (.int .u64 1893055065632419), .lit (.int .u64 560215195444267), .lit (.int .u64 1274149604399886), .lit (.int .u64 821933901047523), .lit (.int .u64 1691754969406571)], .agg [.lit (.int .u64 84926274344903), .lit (.int .u64 473620666599931), .lit (.int .u64 365590438845504), .lit (.int .u64 1028470286882429), .lit (.int .u64 2146499180330972)], .agg [.lit (.int .u64 1), .lit (.int .u64 0), .lit (.int .u64 0), .lit (.int .u64 0), .lit (.int .u64 0)], .agg [.lit (.int .u64 803472979097708), .lit (.int .u64 393902981724766), .lit (.int .u64 1158077081819914), .lit (.int .u64 574391322974006), .lit (.int .u64 336294660666841)]]], .agg [.agg [.agg [.lit (.int .u64 533094393274173), .lit (.int .u64 2016890930128738), .lit (.int .u64 18285341111199), .lit (.int .u64 134597186663265), .lit (.int .u64 1486323764102114)], .agg [.lit (.int .u64 0), .lit (.int .u64 0), .lit (.int .u64 0), .lit (.int .u64 0), .lit (.int .u64 0)], .agg [.lit (.int .u64 1), .lit (.int .u64 0), .lit (.int .u64 0), .lit (.int .u64 0), .lit (.int .u64 0)], .agg [.lit (.int .u64 0), .lit (.int .u64 0), .lit (.int .u64 0), .lit (.int .u64 0), .lit (.int .u64 0)]]], .agg [.agg [.agg [.lit (.int .u64 1893055065632419), .lit (.int .u64 560215195444267), .lit (.int .u64 1274149604399886), .lit (.int .u64 821933901047523), .lit (.int .u64 1691754969406571)], .agg [.lit (.int .u64 2166873539340326), .lit (.int .u64 1778179147085316), .lit (.int .u64 1886209374839743), .lit (.int .u64 1223329526802818), .lit (.int .u64 105300633354275)], .agg [.lit (.int .u64 1), .lit (.int .u64 0), .lit (.int .u64 0), .lit (.int .u64 0), .lit (.int .u64 0)], .agg [.lit (.int .u64 1448326834587521), .lit (.int .u64 1857896831960481), .lit (.int .u64 1093722731865333), .lit (.int .u64 1677408490711241), .lit (.int .u64 1915505153018406)]]]]
def laid_veil_veilref01_Zero {H : Type} : DataW H := .agg [.lit (.int .i64 0), .lit (.int .i64 0), .lit (.int .i64 0), .lit (.int .i64 0), .lit (.int .i64 0), .lit (.int .i64 0), .lit (.int .i64 0), .lit (.int .i64 0), .lit (.int .i64 0), .lit (.int .i64 0)]
def laid_veil_veilref01_One {H : Type} : DataW H := .agg [.lit (.int .i64 1), .lit (.int .i64 0), .lit (.int .i64 0), .lit (.int .i64 0), .lit (.int .i64 0), .lit (.int .i64 0), .lit (.int .i64 0), .lit (.int .i64 0), .lit (.int .i64 0), .lit (.int .i64 0)]
def laid_veil_veilref01_prime {H : Type} : DataW H := .agg [.lit (.int .i64 67108845), .lit (.int .i64 67108863), .lit (.int .i64 67108863), .lit (.int .i64 67108863), .lit (.int .i64 67108863), .lit (.int .i64 67108863), .lit (.int .i64 67108863), .lit (.int .i64 67108863), .lit (.int .i64 67108863), .lit (.int .i64 2097151)]
def laid_veil_scalar_table {H : Type} : DataW H := .agg [.agg [.lit (.int .u64 6346243789798364141), .lit (.int .u64 1503914060200516822), .lit (.int .u64 0), .lit (.int .u64 1152921504606846976)], .agg [.lit (.int .u64 15486807595281847581), .lit (.int .u64 14334777244411350896), .lit (.int .u64 18446744073709551614), .lit (.int .u64 1152921504606846975)], .agg [.lit (.int .u64 11819153939886771969), .lit (.int .u64 14991950615390032711), .lit (.int .u64 14910419812499177061), .lit (.int .u64 259310039853996605)], .agg [.lit (.int .u64 6346243789798364139), .lit (.int .u64 1503914060200516822), .lit (.int .u64 0), .lit (.int .u64 1152921504606846976)]]
def laid_veil_curve_twice {H : Type} : DataW H := .agg [.lit (.int .u64 1859910466990425), .lit (.int .u64 932731440258426), .lit (.int .u64 1072319116312658), .lit (.int .u64 1815898335770999), .lit (.int .u64 633789495995903)]
def laid_veil_veillaw04_order {H : Type} : DataW H := .agg [.lit (.int .u8 237), .lit (.int .u8 211), .lit (.int .u8 245), .lit (.int .u8 92), .lit (.int .u8 26), .lit (.int .u8 99), .lit (.int .u8 18), .lit (.int .u8 88), .lit (.int .u8 214), .lit (.int .u8 156), .lit (.int .u8 247), .lit (.int .u8 162), .lit (.int .u8 222), .lit (.int .u8 249), .lit (.int .u8 222), .lit (.int .u8 20), .lit (.int .u8 0), .lit (.int .u8 0), .lit (.int .u8 0), .lit (.int .u8 0), .lit (.int .u8 0), .lit (.int .u8 0), .lit (.int .u8 0), .lit (.int .u8 0), .lit (.int .u8 0), .lit (.int .u8 0), .lit (.int .u8 0), .lit (.int .u8 0), .lit (.int .u8 0), .lit (.int .u8 0), .lit (.int .u8 0), .lit (.int .u8 16)]

/-- 'veillaw04.CurveMakes': WHATEVER THE INPUT: true; the input reads as it did. -/
def curveMakesSpec : ChangeSpec := { name := "curveMakes", fn := fun _ => fun
  | [d] => { results := [.lit (.bool true)], args := [d] }
  | _ => none }
def curveMakesRow : OpenClaim := { program := "ytmoiobmpeohgnaadoor", sum := "5a53b4c27e3a842312ec222b6ca1fab536d49f165df0aa012540fa61a658a15c", func := "veil/veillaw04.CurveMakes", spec := "curveMakes", inPlace := ["math/bits.Add64"], recurses := true, named := ["veil/curve.base", "veil/veilref01.prime", "veil/veilref01.One", "veil/veilref01.Zero", "veil/curve.one", "veil/curve.torsions", "veil/field.table"], apart := false, laid := [("veil/field.table", laid_veil_field_table), ("veil/curve.one", laid_veil_curve_one), ("veil/curve.base", laid_veil_curve_base), ("veil/curve.torsions", laid_veil_curve_torsions), ("veil/veilref01.Zero", laid_veil_veilref01_Zero), ("veil/veilref01.One", laid_veil_veilref01_One), ("veil/veilref01.prime", laid_veil_veilref01_prime)] }
def CurveMakesSaid : Prop := curveMakesRow.holds Tryd.pinned (OpenSpec.ofChange curveMakesSpec)

/-- ITS FALSE NEIGHBOUR: 'it returns false'. Refute it at one input. -/
def curveMakesWrong : ChangeSpec := { name := "curveMakes", fn := fun _ => fun
  | [d] => { results := [.lit (.bool false)], args := [d] }
  | _ => none }
def CurveMakesWrongFalsely : Prop := curveMakesRow.holds Tryd.pinned (OpenSpec.ofChange curveMakesWrong)

/-- 'veillaw04.CurveRuns': WHATEVER THE INPUT: true; the input reads as it did. -/
def curveRunsSpec : ChangeSpec := { name := "curveRuns", fn := fun _ => fun
  | [d] => { results := [.lit (.bool true)], args := [d] }
  | _ => none }
def curveRunsRow : OpenClaim := { program := "ytmoiobmpeohgnaadoor", sum := "5a53b4c27e3a842312ec222b6ca1fab536d49f165df0aa012540fa61a658a15c", func := "veil/veillaw04.CurveRuns", spec := "curveRuns", inPlace := ["math/bits.Add64", "math/bits.Sub64"], recurses := true, named := ["veil/curve.base", "veil/veilref01.prime", "veil/veilref01.One", "veil/veilref01.Zero", "veil/curve.one", "veil/curve.twice", "veil/scalar.table", "veil/veillaw04.order", "veil/curve.torsions", "veil/field.table"], apart := false, laid := [("veil/field.table", laid_veil_field_table), ("veil/scalar.table", laid_veil_scalar_table), ("veil/curve.one", laid_veil_curve_one), ("veil/curve.twice", laid_veil_curve_twice), ("veil/curve.base", laid_veil_curve_base), ("veil/curve.torsions", laid_veil_curve_torsions), ("veil/veilref01.Zero", laid_veil_veilref01_Zero), ("veil/veilref01.One", laid_veil_veilref01_One), ("veil/veilref01.prime", laid_veil_veilref01_prime), ("veil/veillaw04.order", laid_veil_veillaw04_order)] }
def CurveRunsSaid : Prop := curveRunsRow.holds Tryd.pinned (OpenSpec.ofChange curveRunsSpec)

/-- ITS FALSE NEIGHBOUR: 'it returns false'. Refute it at one input. -/
def curveRunsWrong : ChangeSpec := { name := "curveRuns", fn := fun _ => fun
  | [d] => { results := [.lit (.bool false)], args := [d] }
  | _ => none }
def CurveRunsWrongFalsely : Prop := curveRunsRow.holds Tryd.pinned (OpenSpec.ofChange curveRunsWrong)

/- THE SECOND FORM. 'bulk': how many values and letters a reading holds, each counted each time it is reached (what is shared counts as often as it is met; a slice's spare places count too). A statement '..UptoSaid' is the law's where the arguments, and the package variables that the reading takes, are together of bulk at most 1048576: NARROWER than '..Said'. Prove '..Said' where nothing that the law and all that it calls make is longer than what came in: it says more and counts as full. Else prove '..UptoSaid'. A law counts once. -/
mutual
def uptoBulk {H : Type} : DataW H → Nat
  | .lit (.string bytes) => bytes.length + 1
  | .lit _ => 1
  | .nil => 1
  | .ptr d => uptoBulk d + 1
  | .slice elems spare => uptoBulkAll elems + uptoBulkAll spare + 1
  | .agg parts => uptoBulkAll parts + 1
  | .iface _ d => uptoBulk d + 1
  | .map entries => uptoBulkEntries entries + 1
  | .held _ => 1
def uptoBulkAll {H : Type} : List (DataW H) → Nat
  | [] => 0
  | d :: r => uptoBulk d + uptoBulkAll r
def uptoBulkEntries {H : Type} : List (Lit × DataW H) → Nat
  | [] => 0
  | x :: r => uptoBulkEntry x + uptoBulkEntries r
def uptoBulkEntry {H : Type} : Lit × DataW H → Nat
  | (.string bytes, d) => bytes.length + uptoBulk d + 1
  | (_, d) => uptoBulk d + 1
 end
def uptoSmall : (H : Type) → List (DataW H) → Bool := fun _ ds => decide (uptoBulkAll ds ≤ 1048576)
def OpenSpec.upto (s : _root_.Go.ChangeSpec) : _root_.Go.OpenSpec := { _root_.Go.OpenSpec.ofChange s with cond := some uptoSmall }

/-- 'veillaw04.CurveMakes', WHERE WHAT IT READS IS OF BULK AT MOST 1048576: true; the input reads as it did. -/
def curveMakesUptoRow : OpenClaim := { program := "ytmoiobmpeohgnaadoor", sum := "5a53b4c27e3a842312ec222b6ca1fab536d49f165df0aa012540fa61a658a15c", func := "veil/veillaw04.CurveMakes", spec := "curveMakes", inPlace := ["math/bits.Add64"], recurses := true, named := ["veil/curve.base", "veil/veilref01.prime", "veil/veilref01.One", "veil/veilref01.Zero", "veil/curve.one", "veil/curve.torsions", "veil/field.table"], apart := false, laid := [("veil/field.table", laid_veil_field_table), ("veil/curve.one", laid_veil_curve_one), ("veil/curve.base", laid_veil_curve_base), ("veil/curve.torsions", laid_veil_curve_torsions), ("veil/veilref01.Zero", laid_veil_veilref01_Zero), ("veil/veilref01.One", laid_veil_veilref01_One), ("veil/veilref01.prime", laid_veil_veilref01_prime)], narrowed := true }
def CurveMakesUptoSaid : Prop := curveMakesUptoRow.holds Tryd.pinned (OpenSpec.upto curveMakesSpec)

/-- 'veillaw04.CurveRuns', WHERE WHAT IT READS IS OF BULK AT MOST 1048576: true; the input reads as it did. -/
def curveRunsUptoRow : OpenClaim := { program := "ytmoiobmpeohgnaadoor", sum := "5a53b4c27e3a842312ec222b6ca1fab536d49f165df0aa012540fa61a658a15c", func := "veil/veillaw04.CurveRuns", spec := "curveRuns", inPlace := ["math/bits.Add64", "math/bits.Sub64"], recurses := true, named := ["veil/curve.base", "veil/veilref01.prime", "veil/veilref01.One", "veil/veilref01.Zero", "veil/curve.one", "veil/curve.twice", "veil/scalar.table", "veil/veillaw04.order", "veil/curve.torsions", "veil/field.table"], apart := false, laid := [("veil/field.table", laid_veil_field_table), ("veil/scalar.table", laid_veil_scalar_table), ("veil/curve.one", laid_veil_curve_one), ("veil/curve.twice", laid_veil_curve_twice), ("veil/curve.base", laid_veil_curve_base), ("veil/curve.torsions", laid_veil_curve_torsions), ("veil/veilref01.Zero", laid_veil_veilref01_Zero), ("veil/veilref01.One", laid_veil_veilref01_One), ("veil/veilref01.prime", laid_veil_veilref01_prime), ("veil/veillaw04.order", laid_veil_veillaw04_order)], narrowed := true }
def CurveRunsUptoSaid : Prop := curveRunsUptoRow.holds Tryd.pinned (OpenSpec.upto curveRunsSpec)

end Rows
end Go.Proofs.YtmoiobmpeohgnaaDoor
