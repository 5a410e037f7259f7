/-
  NARROWER THAN 'FOR EVERY INPUT', by the rows' own cells (each row's printed sentence says how): WireReads: laid · WireHands: laid · WireDecodes: laid.
  DERIVED. THE GIVEN ROWS OF THIS SEAT. 3 by the template 'for every input the law returns true; each argument reads behind the call as it read before'; 0 by the template 'total and deterministic' (their statements: YtoionfdfofmplaaGreatDoorTotals.lean).
  GIVEN WITH THE SEED: the statements are not yours to turn. If you find one false, say at which input.
  Laid BY PROGRAM, IN A SANDBOX (cutbox-rows.mjs): the forced cells as the released guide's own fill.sh prints them over the translation 2c5295617cbc8c5a… (all of the seat's roots in one cut). By AI agents, Wed Nov 11 2026. No macro, syntax, notation, axiom, sorry.
-/
import Derived.Test.YtoionfdfofmplaaGreatDoorChecked
import GoSem.Claim
import GoSem.ClaimJoined
import GoSem.ClaimMapViews
import Derived.JoinedTies
import Derived.KernelRfl
namespace Go.Proofs.YtoionfdfofmplaaGreatDoor
/- THE CELL 'sum', in the pinned program and in every row, IS THE sha256 OF THE DUMP (.gsa) THAT YtoionfdfofmplaaGreatDoorProg.lean LOADS. Nothing in Lean hashes anything: it is a label: what it is worth is what the hold of that sum in a sandbox is worth. -/
noncomputable def Tryz.pinned : Pinned := { name := "ytoionfdfofmplaagreatdoor", sum := "2c5295617cbc8c5a8640903b8c7924e3c68175efd2fb5cdb28ca27fb3f5bfa90", checked := Tryz.checked }
namespace Rows
def none {H : Type} : Left H := { results := [], args := [] }

/- WHAT THE LISTED PACKAGE-LEVEL VARIABLES READ AS WHEN THE CALL BEGINS. Each datum BY PROGRAM (the guide's laid-datum.mjs) off the statement by which the dump's own 'gosem.cut.vars' lays the variable. In a bare row this is a premise. The card (YtoionfdfofmplaaGreatDoorCards.lean) ties it to the program's text. -/
def laid_veil_veilref03_round {H : Type} : DataW H := .agg [.lit (.int .u64 4794697086780616226), .lit (.int .u64 8158064640168781261), .lit (.int .u64 13096744586834688815), .lit (.int .u64 16840607885511220156), .lit (.int .u64 4131703408338449720), .lit (.int .u64 6480981068601479193), .lit (.int .u64 10538285296894168987), .lit (.int .u64 12329834152419229976), .lit (.int .u64 15566598209576043074), .lit (.int .u64 1334009975649890238), .lit (.int .u64 2608012711638119052), .lit (.int .u64 6128411473006802146), .lit (.int .u64 8268148722764581231), .lit (.int .u64 9286055187155687089), .lit (.int .u64 11230858885718282805), .lit (.int .u64 13951009754708518548), .lit (.int .u64 16472876342353939154), .lit (.int .u64 17275323862435702243), .lit (.int .u64 1135362057144423861), .lit (.int .u64 2597628984639134821), .lit (.int .u64 3308224258029322869), .lit (.int .u64 5365058923640841347), .lit (.int .u64 6679025012923562964), .lit (.int .u64 8573033837759648693), .lit (.int .u64 10970295158949994411), .lit (.int .u64 12119686244451234320), .lit (.int .u64 12683024718118986047), .lit (.int .u64 13788192230050041572), .lit (.int .u64 14330467153632333762), .lit (.int .u64 15395433587784984357), .lit (.int .u64 489312712824947311), .lit (.int .u64 1452737877330783856), .lit (.int .u64 2861767655752347644), .lit (.int .u64 3322285676063803686), .lit (.int .u64 5560940570517711597), .lit (.int .u64 5996557281743188959), .lit (.int .u64 7280758554555802590), .lit (.int .u64 8532644243296465576), .lit (.int .u64 9350256976987008742), .lit (.int .u64 10552545826968843579), .lit (.int .u64 11727347734174303076), .lit (.int .u64 12113106623233404929), .lit (.int .u64 14000437183269869457), .lit (.int .u64 14369950271660146224), .lit (.int .u64 15101387698204529176), .lit (.int .u64 15463397548674623760), .lit (.int .u64 17586052441742319658), .lit (.int .u64 1182934255886127544), .lit (.int .u64 1847814050463011016), .lit (.int .u64 2177327727835720531), .lit (.int .u64 2830643537854262169), .lit (.int .u64 3796741975233480872), .lit (.int .u64 4115178125766777443), .lit (.int .u64 5681478168544905931), .lit (.int .u64 6601373596472566643), .lit (.int .u64 7507060721942968483), .lit (.int .u64 8399075790359081724), .lit (.int .u64 8693463985226723168), .lit (.int .u64 9568029438360202098), .lit (.int .u64 10144078919501101548), .lit (.int .u64 10430055236837252648), .lit (.int .u64 11840083180663258601), .lit (.int .u64 13761210420658862357), .lit (.int .u64 14299343276471374635), .lit (.int .u64 14566680578165727644), .lit (.int .u64 15097957966210449927), .lit (.int .u64 16922976911328602910), .lit (.int .u64 17689382322260857208), .lit (.int .u64 500013540394364858), .lit (.int .u64 748580250866718886), .lit (.int .u64 1242879168328830382), .lit (.int .u64 1977374033974150939), .lit (.int .u64 2944078676154940804), .lit (.int .u64 3659926193048069267), .lit (.int .u64 4368137639120453308), .lit (.int .u64 4836135668995329356), .lit (.int .u64 5532061633213252278), .lit (.int .u64 6448918945643986474), .lit (.int .u64 6902733635092675308), .lit (.int .u64 7801388544844847127)]
def laid_veil_veilref03_first {H : Type} : DataW H := .agg [.lit (.int .u64 7640891576956012808), .lit (.int .u64 13503953896175478587), .lit (.int .u64 4354685564936845355), .lit (.int .u64 11912009170470909681), .lit (.int .u64 5840696475078001361), .lit (.int .u64 11170449401992604703), .lit (.int .u64 2270897969802886507), .lit (.int .u64 6620516959819538809)]
def laid_veil_field_table {H : Type} : DataW H := .agg [.agg [.lit (.int .u64 0), .lit (.int .u64 0), .lit (.int .u64 0), .lit (.int .u64 0), .lit (.int .u64 0)], .agg [.lit (.int .u64 1718705420411056), .lit (.int .u64 234908883556509), .lit (.int .u64 2233514472574048), .lit (.int .u64 2117202627021982), .lit (.int .u64 765476049583133)], .agg [.lit (.int .u64 929955233495203), .lit (.int .u64 466365720129213), .lit (.int .u64 1662059464998953), .lit (.int .u64 2033849074728123), .lit (.int .u64 1442794654840575)], .agg [.lit (.int .u64 2241493124984347), .lit (.int .u64 425987919032274), .lit (.int .u64 2207028919301688), .lit (.int .u64 1220490630685848), .lit (.int .u64 974799131293748)], .agg [.lit (.int .u64 278908739862762), .lit (.int .u64 821645201101625), .lit (.int .u64 8113234426968), .lit (.int .u64 1777959178193151), .lit (.int .u64 2118520810568447)], .agg [.lit (.int .u64 1136626929484150), .lit (.int .u64 1998550399581263), .lit (.int .u64 496427632559748), .lit (.int .u64 118527312129759), .lit (.int .u64 45110755273534)], .agg [.lit (.int .u64 1507062230895904), .lit (.int .u64 1572317787530805), .lit (.int .u64 683053064812840), .lit (.int .u64 317374165784489), .lit (.int .u64 1572899562415810)]]
def laid_veil_scalar_table {H : Type} : DataW H := .agg [.agg [.lit (.int .u64 6346243789798364141), .lit (.int .u64 1503914060200516822), .lit (.int .u64 0), .lit (.int .u64 1152921504606846976)], .agg [.lit (.int .u64 15486807595281847581), .lit (.int .u64 14334777244411350896), .lit (.int .u64 18446744073709551614), .lit (.int .u64 1152921504606846975)], .agg [.lit (.int .u64 11819153939886771969), .lit (.int .u64 14991950615390032711), .lit (.int .u64 14910419812499177061), .lit (.int .u64 259310039853996605)], .agg [.lit (.int .u64 6346243789798364139), .lit (.int .u64 1503914060200516822), .lit (.int .u64 0), .lit (.int .u64 1152921504606846976)]]
def laid_veil_curve_one {H : Type} : DataW H := .agg [.lit (.int .u64 1), .lit (.int .u64 0), .lit (.int .u64 0), .lit (.int .u64 0), .lit (.int .u64 0)]
def laid_veil_veilref01_Zero {H : Type} : DataW H := .agg [.lit (.int .i64 0), .lit (.int .i64 0), .lit (.int .i64 0), .lit (.int .i64 0), .lit (.int .i64 0), .lit (.int .i64 0), .lit (.int .i64 0), .lit (.int .i64 0), .lit (.int .i64 0), .lit (.int .i64 0)]
def laid_veil_veilref01_One {H : Type} : DataW H := .agg [.lit (.int .i64 1), .lit (.int .i64 0), .lit (.int .i64 0), .lit (.int .i64 0), .lit (.int .i64 0), .lit (.int .i64 0), .lit (.int .i64 0), .lit (.int .i64 0), .lit (.int .i64 0), .lit (.int .i64 0)]
def laid_veil_veilref01_prime {H : Type} : DataW H := .agg [.lit (.int .i64 67108845), .lit (.int .i64 67108863), .lit (.int .i64 67108863), .lit (.int .i64 67108863), .lit (.int .i64 67108863), .lit (.int .i64 67108863), .lit (.int .i64 67108863), .lit (.int .i64 67108863), .lit (.int .i64 67108863), .lit (.int .i64 2097151)]

/-- 'veillaw10.WireReads': WHATEVER THE INPUT: true; the input reads as it did. -/
def wireReadsSpec : ChangeSpec := { name := "wireReads", fn := fun _ => fun
  | [d1, d2] => { results := [.lit (.bool true)], args := [d1, d2] }
  | _ => none }
def wireReadsRow : OpenClaim := { program := "ytoionfdfofmplaagreatdoor", sum := "2c5295617cbc8c5a8640903b8c7924e3c68175efd2fb5cdb28ca27fb3f5bfa90", func := "veil/veillaw10.WireReads", spec := "wireReads", inPlace := ["math/bits.Add64", "math/bits.Sub64"], unfollowed := true, recurses := true, named := ["veil/scalar.table", "veil/curve.one", "veil/field.table", "veil/veilref01.prime", "veil/veilref01.One", "veil/veilref01.Zero", "veil/veilref03.first", "veil/veilref03.round"], apart := false, laid := [("veil/veilref03.round", laid_veil_veilref03_round), ("veil/veilref03.first", laid_veil_veilref03_first), ("veil/field.table", laid_veil_field_table), ("veil/scalar.table", laid_veil_scalar_table), ("veil/curve.one", laid_veil_curve_one), ("veil/veilref01.Zero", laid_veil_veilref01_Zero), ("veil/veilref01.One", laid_veil_veilref01_One), ("veil/veilref01.prime", laid_veil_veilref01_prime)] }
def WireReadsSaid : Prop := wireReadsRow.holds Tryz.pinned (OpenSpec.ofChange wireReadsSpec)

/-- ITS FALSE NEIGHBOUR: 'it returns false'. Refute it at one input. -/
def wireReadsWrong : ChangeSpec := { name := "wireReads", fn := fun _ => fun
  | [d1, d2] => { results := [.lit (.bool false)], args := [d1, d2] }
  | _ => none }
def WireReadsWrongFalsely : Prop := wireReadsRow.holds Tryz.pinned (OpenSpec.ofChange wireReadsWrong)

/-- 'veillaw10.WireHands': WHATEVER THE INPUT: true; the input reads as it did. -/
def wireHandsSpec : ChangeSpec := { name := "wireHands", fn := fun _ => fun
  | [d1, d2] => { results := [.lit (.bool true)], args := [d1, d2] }
  | _ => none }
def wireHandsRow : OpenClaim := { program := "ytoionfdfofmplaagreatdoor", sum := "2c5295617cbc8c5a8640903b8c7924e3c68175efd2fb5cdb28ca27fb3f5bfa90", func := "veil/veillaw10.WireHands", spec := "wireHands", inPlace := ["math/bits.Add64", "math/bits.Sub64"], unfollowed := true, recurses := true, named := ["veil/scalar.table", "veil/curve.one", "veil/field.table", "veil/veilref01.prime", "veil/veilref01.One", "veil/veilref01.Zero", "veil/veilref03.first", "veil/veilref03.round"], apart := false, laid := [("veil/veilref03.round", laid_veil_veilref03_round), ("veil/veilref03.first", laid_veil_veilref03_first), ("veil/field.table", laid_veil_field_table), ("veil/scalar.table", laid_veil_scalar_table), ("veil/curve.one", laid_veil_curve_one), ("veil/veilref01.Zero", laid_veil_veilref01_Zero), ("veil/veilref01.One", laid_veil_veilref01_One), ("veil/veilref01.prime", laid_veil_veilref01_prime)] }
def WireHandsSaid : Prop := wireHandsRow.holds Tryz.pinned (OpenSpec.ofChange wireHandsSpec)

/-- ITS FALSE NEIGHBOUR: 'it returns false'. Refute it at one input. -/
def wireHandsWrong : ChangeSpec := { name := "wireHands", fn := fun _ => fun
  | [d1, d2] => { results := [.lit (.bool false)], args := [d1, d2] }
  | _ => none }
def WireHandsWrongFalsely : Prop := wireHandsRow.holds Tryz.pinned (OpenSpec.ofChange wireHandsWrong)

/-- 'veillaw10.WireDecodes': WHATEVER THE INPUT: true; the input reads as it did. -/
def wireDecodesSpec : ChangeSpec := { name := "wireDecodes", fn := fun _ => fun
  | [d] => { results := [.lit (.bool true)], args := [d] }
  | _ => none }
def wireDecodesRow : OpenClaim := { program := "ytoionfdfofmplaagreatdoor", sum := "2c5295617cbc8c5a8640903b8c7924e3c68175efd2fb5cdb28ca27fb3f5bfa90", func := "veil/veillaw10.WireDecodes", spec := "wireDecodes", inPlace := ["math/bits.Add64", "math/bits.Sub64"], unfollowed := true, recurses := true, named := ["veil/scalar.table", "veil/veilref01.prime", "veil/veilref01.One", "veil/veilref01.Zero", "veil/veilref03.first", "veil/veilref03.round"], apart := false, laid := [("veil/veilref03.round", laid_veil_veilref03_round), ("veil/veilref03.first", laid_veil_veilref03_first), ("veil/scalar.table", laid_veil_scalar_table), ("veil/veilref01.Zero", laid_veil_veilref01_Zero), ("veil/veilref01.One", laid_veil_veilref01_One), ("veil/veilref01.prime", laid_veil_veilref01_prime)] }
def WireDecodesSaid : Prop := wireDecodesRow.holds Tryz.pinned (OpenSpec.ofChange wireDecodesSpec)

/-- ITS FALSE NEIGHBOUR: 'it returns false'. Refute it at one input. -/
def wireDecodesWrong : ChangeSpec := { name := "wireDecodes", fn := fun _ => fun
  | [d] => { results := [.lit (.bool false)], args := [d] }
  | _ => none }
def WireDecodesWrongFalsely : Prop := wireDecodesRow.holds Tryz.pinned (OpenSpec.ofChange wireDecodesWrong)

/- THE SECOND FORM. 'bulk': how many values and letters a reading holds, each counted each time it is reached (what is shared counts as often as it is met; a slice's spare places count too). A statement '..UptoSaid' is the law's where the arguments, and the package variables that the reading takes, are together of bulk at most 1048576: NARROWER than '..Said'. Prove '..Said' where nothing that the law and all that it calls make is longer than what came in: it says more and counts as full. Else prove '..UptoSaid'. A law counts once. -/
mutual
def uptoBulk {H : Type} : DataW H → Nat
  | .lit (.string bytes) => bytes.length + 1
  | .lit _ => 1
  | .nil => 1
  | .ptr d => uptoBulk d + 1
  | .slice elems spare => uptoBulkAll elems + uptoBulkAll spare + 1
  | .agg parts => uptoBulkAll parts + 1
  | .iface _ d => uptoBulk d + 1
  | .map entries => uptoBulkEntries entries + 1
  | .held _ => 1
def uptoBulkAll {H : Type} : List (DataW H) → Nat
  | [] => 0
  | d :: r => uptoBulk d + uptoBulkAll r
def uptoBulkEntries {H : Type} : List (Lit × DataW H) → Nat
  | [] => 0
  | x :: r => uptoBulkEntry x + uptoBulkEntries r
def uptoBulkEntry {H : Type} : Lit × DataW H → Nat
  | (.string bytes, d) => bytes.length + uptoBulk d + 1
  | (_, d) => uptoBulk d + 1
 end
def uptoSmall : (H : Type) → List (DataW H) → Bool := fun _ ds => decide (uptoBulkAll ds ≤ 1048576)
def OpenSpec.upto (s : _root_.Go.ChangeSpec) : _root_.Go.OpenSpec := { _root_.Go.OpenSpec.ofChange s with cond := some uptoSmall }

/-- 'veillaw10.WireReads', WHERE WHAT IT READS IS OF BULK AT MOST 1048576: true; the input reads as it did. -/
def wireReadsUptoRow : OpenClaim := { program := "ytoionfdfofmplaagreatdoor", sum := "2c5295617cbc8c5a8640903b8c7924e3c68175efd2fb5cdb28ca27fb3f5bfa90", func := "veil/veillaw10.WireReads", spec := "wireReads", inPlace := ["math/bits.Add64", "math/bits.Sub64"], unfollowed := true, recurses := true, named := ["veil/scalar.table", "veil/curve.one", "veil/field.table", "veil/veilref01.prime", "veil/veilref01.One", "veil/veilref01.Zero", "veil/veilref03.first", "veil/veilref03.round"], apart := false, laid := [("veil/veilref03.round", laid_veil_veilref03_round), ("veil/veilref03.first", laid_veil_veilref03_first), ("veil/field.table", laid_veil_field_table), ("veil/scalar.table", laid_veil_scalar_table), ("veil/curve.one", laid_veil_curve_one), ("veil/veilref01.Zero", laid_veil_veilref01_Zero), ("veil/veilref01.One", laid_veil_veilref01_One), ("veil/veilref01.prime", laid_veil_veilref01_prime)], narrowed := true }
def WireReadsUptoSaid : Prop := wireReadsUptoRow.holds Tryz.pinned (OpenSpec.upto wireReadsSpec)

/-- 'veillaw10.WireHands', WHERE WHAT IT READS IS OF BULK AT MOST 1048576: true; the input reads as it did. -/
def wireHandsUptoRow : OpenClaim := { program := "ytoionfdfofmplaagreatdoor", sum := "2c5295617cbc8c5a8640903b8c7924e3c68175efd2fb5cdb28ca27fb3f5bfa90", func := "veil/veillaw10.WireHands", spec := "wireHands", inPlace := ["math/bits.Add64", "math/bits.Sub64"], unfollowed := true, recurses := true, named := ["veil/scalar.table", "veil/curve.one", "veil/field.table", "veil/veilref01.prime", "veil/veilref01.One", "veil/veilref01.Zero", "veil/veilref03.first", "veil/veilref03.round"], apart := false, laid := [("veil/veilref03.round", laid_veil_veilref03_round), ("veil/veilref03.first", laid_veil_veilref03_first), ("veil/field.table", laid_veil_field_table), ("veil/scalar.table", laid_veil_scalar_table), ("veil/curve.one", laid_veil_curve_one), ("veil/veilref01.Zero", laid_veil_veilref01_Zero), ("veil/veilref01.One", laid_veil_veilref01_One), ("veil/veilref01.prime", laid_veil_veilref01_prime)], narrowed := true }
def WireHandsUptoSaid : Prop := wireHandsUptoRow.holds Tryz.pinned (OpenSpec.upto wireHandsSpec)

/-- 'veillaw10.WireDecodes', WHERE WHAT IT READS IS OF BULK AT MOST 1048576: true; the input reads as it did. -/
def wireDecodesUptoRow : OpenClaim := { program := "ytoionfdfofmplaagreatdoor", sum := "2c5295617cbc8c5a8640903b8c7924e3c68175efd2fb5cdb28ca27fb3f5bfa90", func := "veil/veillaw10.WireDecodes", spec := "wireDecodes", inPlace := ["math/bits.Add64", "math/bits.Sub64"], unfollowed := true, recurses := true, named := ["veil/scalar.table", "veil/veilref01.prime", "veil/veilref01.One", "veil/veilref01.Zero", "veil/veilref03.first", "veil/veilref03.round"], apart := false, laid := [("veil/veilref03.round", laid_veil_veilref03_round), ("veil/veilref03.first", laid_veil_veilref03_first), ("veil/scalar.table", laid_veil_scalar_table), ("veil/veilref01.Zero", laid_veil_veilref01_Zero), ("veil/veilref01.One", laid_veil_veilref01_One), ("veil/veilref01.prime", laid_veil_veilref01_prime)], narrowed := true }
def WireDecodesUptoSaid : Prop := wireDecodesUptoRow.holds Tryz.pinned (OpenSpec.upto wireDecodesSpec)

end Rows
end Go.Proofs.YtoionfdfofmplaaGreatDoor
