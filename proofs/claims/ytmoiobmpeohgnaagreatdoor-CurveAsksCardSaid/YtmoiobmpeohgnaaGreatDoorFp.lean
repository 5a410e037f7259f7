import Derived.Test.YtmoiobmpeohgnaaGreatDoorVxR
set_option autoImplicit false
set_option linter.unusedVariables false
set_option linter.unusedSimpArgs false
namespace Go.Vx
open Go
def Zc7 (i:Nat) : LI := List.getD [[0, 0, 0, 0, 0], [1718705420411056, 234908883556509, 2233514472574048, 2117202627021982, 765476049583133], [929955233495203, 466365720129213, 1662059464998953, 2033849074728123, 1442794654840575], [2241493124984347, 425987919032274, 2207028919301688, 1220490630685848, 974799131293748], [278908739862762, 821645201101625, 8113234426968, 1777959178193151, 2118520810568447], [1136626929484150, 1998550399581263, 496427632559748, 118527312129759, 45110755273534], [1507062230895904, 1572317787530805, 683053064812840, 317374165784489, 1572899562415810]] i [0, 0, 0, 0, 0]
def Zbn (a:LI) : LI :=
 [(ibin .add .u64 (ibin .and .u64 (List.getD a 0 0) 2251799813685247) (ibin .mul .u64 19 (ibin .shr .u64 (List.getD a 4 0) 51))), (ibin .add .u64 (ibin .and .u64 (List.getD a 1 0) 2251799813685247) (ibin .shr .u64 (List.getD a 0 0) 51)), (ibin .add .u64 (ibin .and .u64 (List.getD a 2 0) 2251799813685247) (ibin .shr .u64 (List.getD a 1 0) 51)), (ibin .add .u64 (ibin .and .u64 (List.getD a 3 0) 2251799813685247) (ibin .shr .u64 (List.getD a 2 0) 51)), (ibin .add .u64 (ibin .and .u64 (List.getD a 4 0) 2251799813685247) (ibin .shr .u64 (List.getD a 3 0) 51))]
def Zaa (a:LI) : LI :=
 let x1 := (Zbn (Zbn (Zbn a)))
 let x2 := (List.getD x1 0 0)
 let x3 := (List.set x1 0 (ibin .add .u64 x2 (ibin .mul .u64 19 (ibin .shr .u64 (ibin .add .u64 (List.getD x1 4 0) (ibin .shr .u64 (ibin .add .u64 (List.getD x1 3 0) (ibin .shr .u64 (ibin .add .u64 (List.getD x1 2 0) (ibin .shr .u64 (ibin .add .u64 (List.getD x1 1 0) (ibin .shr .u64 (ibin .add .u64 x2 19) 51)) 51)) 51)) 51)) 51))))
 let x4 := (List.set x3 1 (ibin .add .u64 (List.getD x3 1 0) (ibin .shr .u64 (List.getD x3 0 0) 51)))
 let x5 := (List.set x4 0 (ibin .and .u64 (List.getD x4 0 0) 2251799813685247))
 let x6 := (List.set x5 2 (ibin .add .u64 (List.getD x5 2 0) (ibin .shr .u64 (List.getD x5 1 0) 51)))
 let x7 := (List.set x6 1 (ibin .and .u64 (List.getD x6 1 0) 2251799813685247))
 let x8 := (List.set x7 3 (ibin .add .u64 (List.getD x7 3 0) (ibin .shr .u64 (List.getD x7 2 0) 51)))
 let x9 := (List.set x8 2 (ibin .and .u64 (List.getD x8 2 0) 2251799813685247))
 let x10 := (List.set x9 4 (ibin .add .u64 (List.getD x9 4 0) (ibin .shr .u64 (List.getD x9 3 0) 51)))
 let x11 := (List.set x10 3 (ibin .and .u64 (List.getD x10 3 0) 2251799813685247))
 (List.set x11 4 (ibin .and .u64 (List.getD x11 4 0) 2251799813685247))
def ZaJ (a:LI) : Bool :=
 (icmp .eql (ibin .shr .u64 (ibin .or .u64 (ibin .or .u64 (ibin .or .u64 (ibin .or .u64 (List.getD a 0 0) (List.getD a 1 0)) (List.getD a 2 0)) (List.getD a 3 0)) (List.getD a 4 0)) 51) 0)
def ZfE (a:Int) (b:Int) (c:Int) (d:Int) (e:Int) : LI :=
 let x1 := (ibin .add .u64 a (ibin .mul .u64 19 (ibin .shr .u64 (ibin .add .u64 e (ibin .shr .u64 (ibin .add .u64 d (ibin .shr .u64 (ibin .add .u64 c (ibin .shr .u64 (ibin .add .u64 b (ibin .shr .u64 (ibin .add .u64 a 19) 51)) 51)) 51)) 51)) 51)))
 let x2 := (ibin .add .u64 b (ibin .shr .u64 x1 51))
 let x3 := (ibin .add .u64 c (ibin .shr .u64 x2 51))
 let x4 := (ibin .add .u64 d (ibin .shr .u64 x3 51))
 [(ibin .and .u64 x1 2251799813685247), (ibin .and .u64 x2 2251799813685247), (ibin .and .u64 x3 2251799813685247), (ibin .and .u64 x4 2251799813685247), (ibin .and .u64 (ibin .add .u64 e (ibin .shr .u64 x4 51)) 2251799813685247)]
def Zbg (a:Int) (b:Int) (c:Int) (d:Int) (e:Int) : LI :=
 let x1 := (ibin .add .u64 b (ibin .shr .u64 a 51))
 let x2 := (ibin .add .u64 c (ibin .shr .u64 x1 51))
 let x3 := (ibin .add .u64 d (ibin .shr .u64 x2 51))
 let x4 := (ibin .add .u64 e (ibin .shr .u64 x3 51))
 let x5 := (ibin .add .u64 (ibin .and .u64 a 2251799813685247) (ibin .mul .u64 19 (ibin .shr .u64 x4 51)))
 cond (icmp .leq x5 2251799813685247) (
 let x6 := (ibin .and .u64 x4 2251799813685247)
 cond (icmp .neq x6 2251799813685247) (
 [x5, (ibin .and .u64 x1 2251799813685247), (ibin .and .u64 x2 2251799813685247), (ibin .and .u64 x3 2251799813685247), x6]
 ) (
 (ZfE x5 (ibin .and .u64 x1 2251799813685247) (ibin .and .u64 x2 2251799813685247) (ibin .and .u64 x3 2251799813685247) x6)
 )
 ) (
 (ZfE x5 (ibin .and .u64 x1 2251799813685247) (ibin .and .u64 x2 2251799813685247) (ibin .and .u64 x3 2251799813685247) (ibin .and .u64 x4 2251799813685247))
 )
def ZlU (a:Int) (b:Int) (c:Int) (d:Int) (e:Int) : Option (LI) :=
 let x1 := (ibin .add .u64 b (ibin .shr .u64 a 51))
 let x2 := (ibin .add .u64 c (ibin .shr .u64 x1 51))
 let x3 := (ibin .add .u64 d (ibin .shr .u64 x2 51))
 let x4 := (ibin .add .u64 e (ibin .shr .u64 x3 51))
 let x5 := (ibin .add .u64 (ibin .and .u64 a 2251799813685247) (ibin .mul .u64 19 (ibin .shr .u64 x4 51)))
 cond (icmp .leq x5 2251799813685247) (
 let x6 := (ibin .and .u64 x4 2251799813685247)
 cond (icmp .neq x6 2251799813685247) (
 some [x5, (ibin .and .u64 x1 2251799813685247), (ibin .and .u64 x2 2251799813685247), (ibin .and .u64 x3 2251799813685247), x6]
 ) (
 some (ZfE x5 (ibin .and .u64 x1 2251799813685247) (ibin .and .u64 x2 2251799813685247) (ibin .and .u64 x3 2251799813685247) x6)
 )
 ) (
 some (ZfE x5 (ibin .and .u64 x1 2251799813685247) (ibin .and .u64 x2 2251799813685247) (ibin .and .u64 x3 2251799813685247) (ibin .and .u64 x4 2251799813685247))
 )
theorem Zvr (a:Int) (b:Int) (c:Int) (d:Int) (e:Int) : ZlU a b c d e = some (Zbg a b c d e) := by
 unfold ZlU Zbg
 repeat' (first | refine Zk5 ?_ ?_ | rfl)
def ZaO (a:LI) (b:LI) : LI :=
 cond (!(ZaJ a)) (
 (Zbg (ibin .add .u64 (List.getD (Zaa a) 0 0) (List.getD (Zaa b) 0 0)) (ibin .add .u64 (List.getD (Zaa a) 1 0) (List.getD (Zaa b) 1 0)) (ibin .add .u64 (List.getD (Zaa a) 2 0) (List.getD (Zaa b) 2 0)) (ibin .add .u64 (List.getD (Zaa a) 3 0) (List.getD (Zaa b) 3 0)) (ibin .add .u64 (List.getD (Zaa a) 4 0) (List.getD (Zaa b) 4 0)))
 ) (
 cond (!(ZaJ b)) (
 (Zbg (ibin .add .u64 (List.getD (Zaa a) 0 0) (List.getD (Zaa b) 0 0)) (ibin .add .u64 (List.getD (Zaa a) 1 0) (List.getD (Zaa b) 1 0)) (ibin .add .u64 (List.getD (Zaa a) 2 0) (List.getD (Zaa b) 2 0)) (ibin .add .u64 (List.getD (Zaa a) 3 0) (List.getD (Zaa b) 3 0)) (ibin .add .u64 (List.getD (Zaa a) 4 0) (List.getD (Zaa b) 4 0)))
 ) (
 (Zbg (ibin .add .u64 (List.getD a 0 0) (List.getD b 0 0)) (ibin .add .u64 (List.getD a 1 0) (List.getD b 1 0)) (ibin .add .u64 (List.getD a 2 0) (List.getD b 2 0)) (ibin .add .u64 (List.getD a 3 0) (List.getD b 3 0)) (ibin .add .u64 (List.getD a 4 0) (List.getD b 4 0)))
 )
 )
def Zjl (a:LI) (b:LI) : Option (LI) :=
 cond (!(ZaJ a)) (
 some (Zbg (ibin .add .u64 (List.getD (Zaa a) 0 0) (List.getD (Zaa b) 0 0)) (ibin .add .u64 (List.getD (Zaa a) 1 0) (List.getD (Zaa b) 1 0)) (ibin .add .u64 (List.getD (Zaa a) 2 0) (List.getD (Zaa b) 2 0)) (ibin .add .u64 (List.getD (Zaa a) 3 0) (List.getD (Zaa b) 3 0)) (ibin .add .u64 (List.getD (Zaa a) 4 0) (List.getD (Zaa b) 4 0)))
 ) (
 cond (!(ZaJ b)) (
 some (Zbg (ibin .add .u64 (List.getD (Zaa a) 0 0) (List.getD (Zaa b) 0 0)) (ibin .add .u64 (List.getD (Zaa a) 1 0) (List.getD (Zaa b) 1 0)) (ibin .add .u64 (List.getD (Zaa a) 2 0) (List.getD (Zaa b) 2 0)) (ibin .add .u64 (List.getD (Zaa a) 3 0) (List.getD (Zaa b) 3 0)) (ibin .add .u64 (List.getD (Zaa a) 4 0) (List.getD (Zaa b) 4 0)))
 ) (
 some (Zbg (ibin .add .u64 (List.getD a 0 0) (List.getD b 0 0)) (ibin .add .u64 (List.getD a 1 0) (List.getD b 1 0)) (ibin .add .u64 (List.getD a 2 0) (List.getD b 2 0)) (ibin .add .u64 (List.getD a 3 0) (List.getD b 3 0)) (ibin .add .u64 (List.getD a 4 0) (List.getD b 4 0)))
 )
 )
theorem Zsm (a:LI) (b:LI) : Zjl a b = some (ZaO a b) := by
 unfold Zjl ZaO
 repeat' (first | refine Zk5 ?_ ?_ | rfl)
def Zax (a:LI) (b:LI) : LI :=
 cond (!(ZaJ a)) (
 (Zbg (ibin .sub .u64 (ibin .add .u64 (List.getD (Zaa a) 0 0) 4503599627370458) (List.getD (Zaa b) 0 0)) (ibin .sub .u64 (ibin .add .u64 (List.getD (Zaa a) 1 0) 4503599627370494) (List.getD (Zaa b) 1 0)) (ibin .sub .u64 (ibin .add .u64 (List.getD (Zaa a) 2 0) 4503599627370494) (List.getD (Zaa b) 2 0)) (ibin .sub .u64 (ibin .add .u64 (List.getD (Zaa a) 3 0) 4503599627370494) (List.getD (Zaa b) 3 0)) (ibin .sub .u64 (ibin .add .u64 (List.getD (Zaa a) 4 0) 4503599627370494) (List.getD (Zaa b) 4 0)))
 ) (
 cond (!(ZaJ b)) (
 (Zbg (ibin .sub .u64 (ibin .add .u64 (List.getD (Zaa a) 0 0) 4503599627370458) (List.getD (Zaa b) 0 0)) (ibin .sub .u64 (ibin .add .u64 (List.getD (Zaa a) 1 0) 4503599627370494) (List.getD (Zaa b) 1 0)) (ibin .sub .u64 (ibin .add .u64 (List.getD (Zaa a) 2 0) 4503599627370494) (List.getD (Zaa b) 2 0)) (ibin .sub .u64 (ibin .add .u64 (List.getD (Zaa a) 3 0) 4503599627370494) (List.getD (Zaa b) 3 0)) (ibin .sub .u64 (ibin .add .u64 (List.getD (Zaa a) 4 0) 4503599627370494) (List.getD (Zaa b) 4 0)))
 ) (
 (Zbg (ibin .sub .u64 (ibin .add .u64 (List.getD a 0 0) 4503599627370458) (List.getD b 0 0)) (ibin .sub .u64 (ibin .add .u64 (List.getD a 1 0) 4503599627370494) (List.getD b 1 0)) (ibin .sub .u64 (ibin .add .u64 (List.getD a 2 0) 4503599627370494) (List.getD b 2 0)) (ibin .sub .u64 (ibin .add .u64 (List.getD a 3 0) 4503599627370494) (List.getD b 3 0)) (ibin .sub .u64 (ibin .add .u64 (List.getD a 4 0) 4503599627370494) (List.getD b 4 0)))
 )
 )
def Zjm (a:LI) (b:LI) : Option (LI) :=
 cond (!(ZaJ a)) (
 some (Zbg (ibin .sub .u64 (ibin .add .u64 (List.getD (Zaa a) 0 0) 4503599627370458) (List.getD (Zaa b) 0 0)) (ibin .sub .u64 (ibin .add .u64 (List.getD (Zaa a) 1 0) 4503599627370494) (List.getD (Zaa b) 1 0)) (ibin .sub .u64 (ibin .add .u64 (List.getD (Zaa a) 2 0) 4503599627370494) (List.getD (Zaa b) 2 0)) (ibin .sub .u64 (ibin .add .u64 (List.getD (Zaa a) 3 0) 4503599627370494) (List.getD (Zaa b) 3 0)) (ibin .sub .u64 (ibin .add .u64 (List.getD (Zaa a) 4 0) 4503599627370494) (List.getD (Zaa b) 4 0)))
 ) (
 cond (!(ZaJ b)) (
 some (Zbg (ibin .sub .u64 (ibin .add .u64 (List.getD (Zaa a) 0 0) 4503599627370458) (List.getD (Zaa b) 0 0)) (ibin .sub .u64 (ibin .add .u64 (List.getD (Zaa a) 1 0) 4503599627370494) (List.getD (Zaa b) 1 0)) (ibin .sub .u64 (ibin .add .u64 (List.getD (Zaa a) 2 0) 4503599627370494) (List.getD (Zaa b) 2 0)) (ibin .sub .u64 (ibin .add .u64 (List.getD (Zaa a) 3 0) 4503599627370494) (List.getD (Zaa b) 3 0)) (ibin .sub .u64 (ibin .add .u64 (List.getD (Zaa a) 4 0) 4503599627370494) (List.getD (Zaa b) 4 0)))
 ) (
 some (Zbg (ibin .sub .u64 (ibin .add .u64 (List.getD a 0 0) 4503599627370458) (List.getD b 0 0)) (ibin .sub .u64 (ibin .add .u64 (List.getD a 1 0) 4503599627370494) (List.getD b 1 0)) (ibin .sub .u64 (ibin .add .u64 (List.getD a 2 0) 4503599627370494) (List.getD b 2 0)) (ibin .sub .u64 (ibin .add .u64 (List.getD a 3 0) 4503599627370494) (List.getD b 3 0)) (ibin .sub .u64 (ibin .add .u64 (List.getD a 4 0) 4503599627370494) (List.getD b 4 0)))
 )
 )
theorem Zsn (a:LI) (b:LI) : Zjm a b = some (Zax a b) := by
 unfold Zjm Zax
 repeat' (first | refine Zk5 ?_ ?_ | rfl)
def ZaN (a:LI) : LI :=
 (Zax [0, 0, 0, 0, 0] a)
def ZfF (a:Int) (b:Int) : (Int × Int) :=
 let x1 := (ibin .add .u64 (ibin .mul .u64 (ibin .shr .u64 a 32) (ibin .and .u64 b 4294967295)) (ibin .shr .u64 (ibin .mul .u64 (ibin .and .u64 a 4294967295) (ibin .and .u64 b 4294967295)) 32))
 ((ibin .add .u64 (ibin .add .u64 (ibin .mul .u64 (ibin .shr .u64 a 32) (ibin .shr .u64 b 32)) (ibin .shr .u64 x1 32)) (ibin .shr .u64 (ibin .add .u64 (ibin .and .u64 x1 4294967295) (ibin .mul .u64 (ibin .and .u64 a 4294967295) (ibin .shr .u64 b 32))) 32)), (ibin .mul .u64 a b))
def Zac (a:(Int × Int)) (b:Int) (c:Int) : Option ((Int × Int)) :=
 mo (ZdL a.2 (ZfF b c).2 0) none fun r1 =>
 mo (ZdL a.1 (ZfF b c).1 r1.2) none fun r2 =>
 some (r2.1, r1.1)
def ZbX (a:(Int × Int)) : Int :=
 (ibin .or .u64 (ibin .shl .u64 a.1 13) (ibin .shr .u64 a.2 51))
def ZcU (a:(Int × Int)) (b:(Int × Int)) (c:(Int × Int)) (d:(Int × Int)) (e:(Int × Int)) : Option (LI) :=
 mo (Zac (b.1, b.2) (ZbX (a.1, a.2)) 1) none fun r1 =>
 mo (Zac (c.1, c.2) (ZbX (r1.1, r1.2)) 1) none fun r2 =>
 mo (Zac (d.1, d.2) (ZbX (r2.1, r2.2)) 1) none fun r3 =>
 mo (Zac (e.1, e.2) (ZbX (r3.1, r3.2)) 1) none fun r4 =>
 mo (Zac (0, (ibin .and .u64 a.2 2251799813685247)) (ZbX (r4.1, r4.2)) 19) none fun r5 =>
 some (Zbg (ibin .and .u64 r5.2 2251799813685247) (ibin .add .u64 (ibin .and .u64 r1.2 2251799813685247) (ZbX (r5.1, r5.2))) (ibin .and .u64 r2.2 2251799813685247) (ibin .and .u64 r3.2 2251799813685247) (ibin .and .u64 r4.2 2251799813685247))
def Zap (a:LI) (b:LI) : Option (LI) :=
 cond (!(ZaJ a)) (
 mo (Zac (0, 0) (List.getD (Zaa a) 0 0) (List.getD (Zaa b) 0 0)) none fun r1 =>
 mo (Zac (r1.1, r1.2) (ibin .mul .u64 19 (List.getD (Zaa a) 1 0)) (List.getD (Zaa b) 4 0)) none fun r2 =>
 let x1 := (ibin .mul .u64 19 (List.getD (Zaa a) 2 0))
 mo (Zac (r2.1, r2.2) x1 (List.getD (Zaa b) 3 0)) none fun r3 =>
 let x2 := (ibin .mul .u64 19 (List.getD (Zaa a) 3 0))
 mo (Zac (r3.1, r3.2) x2 (List.getD (Zaa b) 2 0)) none fun r4 =>
 let x3 := (ibin .mul .u64 19 (List.getD (Zaa a) 4 0))
 mo (Zac (r4.1, r4.2) x3 (List.getD (Zaa b) 1 0)) none fun r5 =>
 mo (Zac (0, 0) (List.getD (Zaa a) 0 0) (List.getD (Zaa b) 1 0)) none fun r6 =>
 mo (Zac (r6.1, r6.2) (List.getD (Zaa a) 1 0) (List.getD (Zaa b) 0 0)) none fun r7 =>
 mo (Zac (r7.1, r7.2) x1 (List.getD (Zaa b) 4 0)) none fun r8 =>
 mo (Zac (r8.1, r8.2) x2 (List.getD (Zaa b) 3 0)) none fun r9 =>
 mo (Zac (r9.1, r9.2) x3 (List.getD (Zaa b) 2 0)) none fun r10 =>
 mo (Zac (0, 0) (List.getD (Zaa a) 0 0) (List.getD (Zaa b) 2 0)) none fun r11 =>
 mo (Zac (r11.1, r11.2) (List.getD (Zaa a) 1 0) (List.getD (Zaa b) 1 0)) none fun r12 =>
 mo (Zac (r12.1, r12.2) (List.getD (Zaa a) 2 0) (List.getD (Zaa b) 0 0)) none fun r13 =>
 mo (Zac (r13.1, r13.2) x2 (List.getD (Zaa b) 4 0)) none fun r14 =>
 mo (Zac (r14.1, r14.2) x3 (List.getD (Zaa b) 3 0)) none fun r15 =>
 mo (Zac (0, 0) (List.getD (Zaa a) 0 0) (List.getD (Zaa b) 3 0)) none fun r16 =>
 mo (Zac (r16.1, r16.2) (List.getD (Zaa a) 1 0) (List.getD (Zaa b) 2 0)) none fun r17 =>
 mo (Zac (r17.1, r17.2) (List.getD (Zaa a) 2 0) (List.getD (Zaa b) 1 0)) none fun r18 =>
 mo (Zac (r18.1, r18.2) (List.getD (Zaa a) 3 0) (List.getD (Zaa b) 0 0)) none fun r19 =>
 mo (Zac (r19.1, r19.2) x3 (List.getD (Zaa b) 4 0)) none fun r20 =>
 mo (Zac (0, 0) (List.getD (Zaa a) 0 0) (List.getD (Zaa b) 4 0)) none fun r21 =>
 mo (Zac (r21.1, r21.2) (List.getD (Zaa a) 1 0) (List.getD (Zaa b) 3 0)) none fun r22 =>
 mo (Zac (r22.1, r22.2) (List.getD (Zaa a) 2 0) (List.getD (Zaa b) 2 0)) none fun r23 =>
 mo (Zac (r23.1, r23.2) (List.getD (Zaa a) 3 0) (List.getD (Zaa b) 1 0)) none fun r24 =>
 mo (Zac (r24.1, r24.2) (List.getD (Zaa a) 4 0) (List.getD (Zaa b) 0 0)) none fun r25 =>
 mo (ZcU (r5.1, r5.2) (r10.1, r10.2) (r15.1, r15.2) (r20.1, r20.2) (r25.1, r25.2)) none fun r26 =>
 some r26
 ) (
 cond (!(ZaJ b)) (
 mo (Zac (0, 0) (List.getD (Zaa a) 0 0) (List.getD (Zaa b) 0 0)) none fun r27 =>
 mo (Zac (r27.1, r27.2) (ibin .mul .u64 19 (List.getD (Zaa a) 1 0)) (List.getD (Zaa b) 4 0)) none fun r28 =>
 let x4 := (ibin .mul .u64 19 (List.getD (Zaa a) 2 0))
 mo (Zac (r28.1, r28.2) x4 (List.getD (Zaa b) 3 0)) none fun r29 =>
 let x5 := (ibin .mul .u64 19 (List.getD (Zaa a) 3 0))
 mo (Zac (r29.1, r29.2) x5 (List.getD (Zaa b) 2 0)) none fun r30 =>
 let x6 := (ibin .mul .u64 19 (List.getD (Zaa a) 4 0))
 mo (Zac (r30.1, r30.2) x6 (List.getD (Zaa b) 1 0)) none fun r31 =>
 mo (Zac (0, 0) (List.getD (Zaa a) 0 0) (List.getD (Zaa b) 1 0)) none fun r32 =>
 mo (Zac (r32.1, r32.2) (List.getD (Zaa a) 1 0) (List.getD (Zaa b) 0 0)) none fun r33 =>
 mo (Zac (r33.1, r33.2) x4 (List.getD (Zaa b) 4 0)) none fun r34 =>
 mo (Zac (r34.1, r34.2) x5 (List.getD (Zaa b) 3 0)) none fun r35 =>
 mo (Zac (r35.1, r35.2) x6 (List.getD (Zaa b) 2 0)) none fun r36 =>
 mo (Zac (0, 0) (List.getD (Zaa a) 0 0) (List.getD (Zaa b) 2 0)) none fun r37 =>
 mo (Zac (r37.1, r37.2) (List.getD (Zaa a) 1 0) (List.getD (Zaa b) 1 0)) none fun r38 =>
 mo (Zac (r38.1, r38.2) (List.getD (Zaa a) 2 0) (List.getD (Zaa b) 0 0)) none fun r39 =>
 mo (Zac (r39.1, r39.2) x5 (List.getD (Zaa b) 4 0)) none fun r40 =>
 mo (Zac (r40.1, r40.2) x6 (List.getD (Zaa b) 3 0)) none fun r41 =>
 mo (Zac (0, 0) (List.getD (Zaa a) 0 0) (List.getD (Zaa b) 3 0)) none fun r42 =>
 mo (Zac (r42.1, r42.2) (List.getD (Zaa a) 1 0) (List.getD (Zaa b) 2 0)) none fun r43 =>
 mo (Zac (r43.1, r43.2) (List.getD (Zaa a) 2 0) (List.getD (Zaa b) 1 0)) none fun r44 =>
 mo (Zac (r44.1, r44.2) (List.getD (Zaa a) 3 0) (List.getD (Zaa b) 0 0)) none fun r45 =>
 mo (Zac (r45.1, r45.2) x6 (List.getD (Zaa b) 4 0)) none fun r46 =>
 mo (Zac (0, 0) (List.getD (Zaa a) 0 0) (List.getD (Zaa b) 4 0)) none fun r47 =>
 mo (Zac (r47.1, r47.2) (List.getD (Zaa a) 1 0) (List.getD (Zaa b) 3 0)) none fun r48 =>
 mo (Zac (r48.1, r48.2) (List.getD (Zaa a) 2 0) (List.getD (Zaa b) 2 0)) none fun r49 =>
 mo (Zac (r49.1, r49.2) (List.getD (Zaa a) 3 0) (List.getD (Zaa b) 1 0)) none fun r50 =>
 mo (Zac (r50.1, r50.2) (List.getD (Zaa a) 4 0) (List.getD (Zaa b) 0 0)) none fun r51 =>
 mo (ZcU (r31.1, r31.2) (r36.1, r36.2) (r41.1, r41.2) (r46.1, r46.2) (r51.1, r51.2)) none fun r52 =>
 some r52
 ) (
 mo (Zac (0, 0) (List.getD a 0 0) (List.getD b 0 0)) none fun r53 =>
 mo (Zac (r53.1, r53.2) (ibin .mul .u64 19 (List.getD a 1 0)) (List.getD b 4 0)) none fun r54 =>
 let x7 := (ibin .mul .u64 19 (List.getD a 2 0))
 mo (Zac (r54.1, r54.2) x7 (List.getD b 3 0)) none fun r55 =>
 let x8 := (ibin .mul .u64 19 (List.getD a 3 0))
 mo (Zac (r55.1, r55.2) x8 (List.getD b 2 0)) none fun r56 =>
 let x9 := (ibin .mul .u64 19 (List.getD a 4 0))
 mo (Zac (r56.1, r56.2) x9 (List.getD b 1 0)) none fun r57 =>
 mo (Zac (0, 0) (List.getD a 0 0) (List.getD b 1 0)) none fun r58 =>
 mo (Zac (r58.1, r58.2) (List.getD a 1 0) (List.getD b 0 0)) none fun r59 =>
 mo (Zac (r59.1, r59.2) x7 (List.getD b 4 0)) none fun r60 =>
 mo (Zac (r60.1, r60.2) x8 (List.getD b 3 0)) none fun r61 =>
 mo (Zac (r61.1, r61.2) x9 (List.getD b 2 0)) none fun r62 =>
 mo (Zac (0, 0) (List.getD a 0 0) (List.getD b 2 0)) none fun r63 =>
 mo (Zac (r63.1, r63.2) (List.getD a 1 0) (List.getD b 1 0)) none fun r64 =>
 mo (Zac (r64.1, r64.2) (List.getD a 2 0) (List.getD b 0 0)) none fun r65 =>
 mo (Zac (r65.1, r65.2) x8 (List.getD b 4 0)) none fun r66 =>
 mo (Zac (r66.1, r66.2) x9 (List.getD b 3 0)) none fun r67 =>
 mo (Zac (0, 0) (List.getD a 0 0) (List.getD b 3 0)) none fun r68 =>
 mo (Zac (r68.1, r68.2) (List.getD a 1 0) (List.getD b 2 0)) none fun r69 =>
 mo (Zac (r69.1, r69.2) (List.getD a 2 0) (List.getD b 1 0)) none fun r70 =>
 mo (Zac (r70.1, r70.2) (List.getD a 3 0) (List.getD b 0 0)) none fun r71 =>
 mo (Zac (r71.1, r71.2) x9 (List.getD b 4 0)) none fun r72 =>
 mo (Zac (0, 0) (List.getD a 0 0) (List.getD b 4 0)) none fun r73 =>
 mo (Zac (r73.1, r73.2) (List.getD a 1 0) (List.getD b 3 0)) none fun r74 =>
 mo (Zac (r74.1, r74.2) (List.getD a 2 0) (List.getD b 2 0)) none fun r75 =>
 mo (Zac (r75.1, r75.2) (List.getD a 3 0) (List.getD b 1 0)) none fun r76 =>
 mo (Zac (r76.1, r76.2) (List.getD a 4 0) (List.getD b 0 0)) none fun r77 =>
 mo (ZcU (r57.1, r57.2) (r62.1, r62.2) (r67.1, r67.2) (r72.1, r72.2) (r77.1, r77.2)) none fun r78 =>
 some r78
 )
 )
def ZaK (a:LI) : Option (LI) :=
 cond (!(ZaJ a)) (
 mo (Zac (0, 0) (List.getD (Zaa a) 0 0) (List.getD (Zaa a) 0 0)) none fun r1 =>
 mo (Zac (r1.1, r1.2) (ibin .mul .u64 38 (List.getD (Zaa a) 1 0)) (List.getD (Zaa a) 4 0)) none fun r2 =>
 let x1 := (ibin .mul .u64 38 (List.getD (Zaa a) 2 0))
 mo (Zac (r2.1, r2.2) x1 (List.getD (Zaa a) 3 0)) none fun r3 =>
 let x2 := (ibin .mul .u64 2 (List.getD (Zaa a) 0 0))
 mo (Zac (0, 0) x2 (List.getD (Zaa a) 1 0)) none fun r4 =>
 mo (Zac (r4.1, r4.2) x1 (List.getD (Zaa a) 4 0)) none fun r5 =>
 let x3 := (ibin .mul .u64 19 (List.getD (Zaa a) 3 0))
 mo (Zac (r5.1, r5.2) x3 (List.getD (Zaa a) 3 0)) none fun r6 =>
 mo (Zac (0, 0) x2 (List.getD (Zaa a) 2 0)) none fun r7 =>
 mo (Zac (r7.1, r7.2) (List.getD (Zaa a) 1 0) (List.getD (Zaa a) 1 0)) none fun r8 =>
 mo (Zac (r8.1, r8.2) (ibin .mul .u64 2 x3) (List.getD (Zaa a) 4 0)) none fun r9 =>
 mo (Zac (0, 0) x2 (List.getD (Zaa a) 3 0)) none fun r10 =>
 let x4 := (ibin .mul .u64 2 (List.getD (Zaa a) 1 0))
 mo (Zac (r10.1, r10.2) x4 (List.getD (Zaa a) 2 0)) none fun r11 =>
 mo (Zac (r11.1, r11.2) (ibin .mul .u64 19 (List.getD (Zaa a) 4 0)) (List.getD (Zaa a) 4 0)) none fun r12 =>
 mo (Zac (0, 0) x2 (List.getD (Zaa a) 4 0)) none fun r13 =>
 mo (Zac (r13.1, r13.2) x4 (List.getD (Zaa a) 3 0)) none fun r14 =>
 mo (Zac (r14.1, r14.2) (List.getD (Zaa a) 2 0) (List.getD (Zaa a) 2 0)) none fun r15 =>
 mo (ZcU (r3.1, r3.2) (r6.1, r6.2) (r9.1, r9.2) (r12.1, r12.2) (r15.1, r15.2)) none fun r16 =>
 some r16
 ) (
 mo (Zac (0, 0) (List.getD a 0 0) (List.getD a 0 0)) none fun r17 =>
 mo (Zac (r17.1, r17.2) (ibin .mul .u64 38 (List.getD a 1 0)) (List.getD a 4 0)) none fun r18 =>
 let x5 := (ibin .mul .u64 38 (List.getD a 2 0))
 mo (Zac (r18.1, r18.2) x5 (List.getD a 3 0)) none fun r19 =>
 let x6 := (ibin .mul .u64 2 (List.getD a 0 0))
 mo (Zac (0, 0) x6 (List.getD a 1 0)) none fun r20 =>
 mo (Zac (r20.1, r20.2) x5 (List.getD a 4 0)) none fun r21 =>
 let x7 := (ibin .mul .u64 19 (List.getD a 3 0))
 mo (Zac (r21.1, r21.2) x7 (List.getD a 3 0)) none fun r22 =>
 mo (Zac (0, 0) x6 (List.getD a 2 0)) none fun r23 =>
 mo (Zac (r23.1, r23.2) (List.getD a 1 0) (List.getD a 1 0)) none fun r24 =>
 mo (Zac (r24.1, r24.2) (ibin .mul .u64 2 x7) (List.getD a 4 0)) none fun r25 =>
 mo (Zac (0, 0) x6 (List.getD a 3 0)) none fun r26 =>
 let x8 := (ibin .mul .u64 2 (List.getD a 1 0))
 mo (Zac (r26.1, r26.2) x8 (List.getD a 2 0)) none fun r27 =>
 mo (Zac (r27.1, r27.2) (ibin .mul .u64 19 (List.getD a 4 0)) (List.getD a 4 0)) none fun r28 =>
 mo (Zac (0, 0) x6 (List.getD a 4 0)) none fun r29 =>
 mo (Zac (r29.1, r29.2) x8 (List.getD a 3 0)) none fun r30 =>
 mo (Zac (r30.1, r30.2) (List.getD a 2 0) (List.getD a 2 0)) none fun r31 =>
 mo (ZcU (r19.1, r19.2) (r22.1, r22.2) (r25.1, r25.2) (r28.1, r28.2) (r31.1, r31.2)) none fun r32 =>
 some r32
 )
def Zdr (a:LI) : LI :=
 let x1 := (ibin .or .u64 (ibin .or .u64 (ibin .or .u64 (ibin .or .u64 (ibin .or .u64 (ibin .or .u64 (ibin .or .u64 (ibin .or .u64 0 (ibin .shl .u64 (IntKind.wrap .u64 (List.getD a 0 0)) 0)) (ibin .shl .u64 (IntKind.wrap .u64 (List.getD a 1 0)) 8)) (ibin .shl .u64 (IntKind.wrap .u64 (List.getD a 2 0)) 16)) (ibin .shl .u64 (IntKind.wrap .u64 (List.getD a 3 0)) 24)) (ibin .shl .u64 (IntKind.wrap .u64 (List.getD a 4 0)) 32)) (ibin .shl .u64 (IntKind.wrap .u64 (List.getD a 5 0)) 40)) (ibin .shl .u64 (IntKind.wrap .u64 (List.getD a 6 0)) 48)) (ibin .shl .u64 (IntKind.wrap .u64 (List.getD a 7 0)) 56))
 let x2 := (ibin .or .u64 (ibin .or .u64 (ibin .or .u64 (ibin .or .u64 (ibin .or .u64 (ibin .or .u64 (ibin .or .u64 (ibin .or .u64 0 (ibin .shl .u64 (IntKind.wrap .u64 (List.getD a 8 0)) 0)) (ibin .shl .u64 (IntKind.wrap .u64 (List.getD a 9 0)) 8)) (ibin .shl .u64 (IntKind.wrap .u64 (List.getD a 10 0)) 16)) (ibin .shl .u64 (IntKind.wrap .u64 (List.getD a 11 0)) 24)) (ibin .shl .u64 (IntKind.wrap .u64 (List.getD a 12 0)) 32)) (ibin .shl .u64 (IntKind.wrap .u64 (List.getD a 13 0)) 40)) (ibin .shl .u64 (IntKind.wrap .u64 (List.getD a 14 0)) 48)) (ibin .shl .u64 (IntKind.wrap .u64 (List.getD a 15 0)) 56))
 let x3 := (ibin .or .u64 (ibin .or .u64 (ibin .or .u64 (ibin .or .u64 (ibin .or .u64 (ibin .or .u64 (ibin .or .u64 (ibin .or .u64 0 (ibin .shl .u64 (IntKind.wrap .u64 (List.getD a 16 0)) 0)) (ibin .shl .u64 (IntKind.wrap .u64 (List.getD a 17 0)) 8)) (ibin .shl .u64 (IntKind.wrap .u64 (List.getD a 18 0)) 16)) (ibin .shl .u64 (IntKind.wrap .u64 (List.getD a 19 0)) 24)) (ibin .shl .u64 (IntKind.wrap .u64 (List.getD a 20 0)) 32)) (ibin .shl .u64 (IntKind.wrap .u64 (List.getD a 21 0)) 40)) (ibin .shl .u64 (IntKind.wrap .u64 (List.getD a 22 0)) 48)) (ibin .shl .u64 (IntKind.wrap .u64 (List.getD a 23 0)) 56))
 let x4 := (ibin .or .u64 (ibin .or .u64 (ibin .or .u64 (ibin .or .u64 (ibin .or .u64 (ibin .or .u64 (ibin .or .u64 (ibin .or .u64 0 (ibin .shl .u64 (IntKind.wrap .u64 (List.getD a 24 0)) 0)) (ibin .shl .u64 (IntKind.wrap .u64 (List.getD a 25 0)) 8)) (ibin .shl .u64 (IntKind.wrap .u64 (List.getD a 26 0)) 16)) (ibin .shl .u64 (IntKind.wrap .u64 (List.getD a 27 0)) 24)) (ibin .shl .u64 (IntKind.wrap .u64 (List.getD a 28 0)) 32)) (ibin .shl .u64 (IntKind.wrap .u64 (List.getD a 29 0)) 40)) (ibin .shl .u64 (IntKind.wrap .u64 (List.getD a 30 0)) 48)) (ibin .shl .u64 (IntKind.wrap .u64 (List.getD a 31 0)) 56))
 [(ibin .and .u64 x1 2251799813685247), (ibin .and .u64 (ibin .or .u64 (ibin .shr .u64 x1 51) (ibin .shl .u64 x2 13)) 2251799813685247), (ibin .and .u64 (ibin .or .u64 (ibin .shr .u64 x2 38) (ibin .shl .u64 x3 26)) 2251799813685247), (ibin .and .u64 (ibin .or .u64 (ibin .shr .u64 x3 25) (ibin .shl .u64 x4 39)) 2251799813685247), (ibin .and .u64 (ibin .shr .u64 x4 12) 2251799813685247)]
def ZaQ (a:LI) : (LI × Int) :=
 cond (icmp .gtr (List.getD a 31 0) 127) (
 ([0, 0, 0, 0, 0], 3)
 ) (
 cond (!(decide ((Zdr a) = (Zaa (Zdr a))))) (
 ([0, 0, 0, 0, 0], 3)
 ) (
 ((Zdr a), 0)
 )
 )
def ZlV (a:LI) : Option ((LI × Int)) :=
 cond (icmp .gtr (List.getD a 31 0) 127) (
 some ([0, 0, 0, 0, 0], 3)
 ) (
 cond (!(decide ((Zdr a) = (Zaa (Zdr a))))) (
 some ([0, 0, 0, 0, 0], 3)
 ) (
 some ((Zdr a), 0)
 )
 )
theorem Zvs (a:LI) : ZlV a = some (ZaQ a) := by
 unfold ZlV ZaQ
 repeat' (first | refine Zk5 ?_ ?_ | rfl)
def Zau (a:LI) : LI :=
 let x1 := (ibin .or .u64 (List.getD (Zaa a) 0 0) (ibin .shl .u64 (List.getD (Zaa a) 1 0) 51))
 let x2 := (ibin .or .u64 (ibin .shr .u64 (List.getD (Zaa a) 1 0) 13) (ibin .shl .u64 (List.getD (Zaa a) 2 0) 38))
 let x3 := (ibin .or .u64 (ibin .shr .u64 (List.getD (Zaa a) 2 0) 26) (ibin .shl .u64 (List.getD (Zaa a) 3 0) 25))
 let x4 := (ibin .or .u64 (ibin .shr .u64 (List.getD (Zaa a) 3 0) 39) (ibin .shl .u64 (List.getD (Zaa a) 4 0) 12))
 [(IntKind.wrap .u8 (ibin .shr .u64 x1 0)), (IntKind.wrap .u8 (ibin .shr .u64 x1 8)), (IntKind.wrap .u8 (ibin .shr .u64 x1 16)), (IntKind.wrap .u8 (ibin .shr .u64 x1 24)), (IntKind.wrap .u8 (ibin .shr .u64 x1 32)), (IntKind.wrap .u8 (ibin .shr .u64 x1 40)), (IntKind.wrap .u8 (ibin .shr .u64 x1 48)), (IntKind.wrap .u8 (ibin .shr .u64 x1 56)), (IntKind.wrap .u8 (ibin .shr .u64 x2 0)), (IntKind.wrap .u8 (ibin .shr .u64 x2 8)), (IntKind.wrap .u8 (ibin .shr .u64 x2 16)), (IntKind.wrap .u8 (ibin .shr .u64 x2 24)), (IntKind.wrap .u8 (ibin .shr .u64 x2 32)), (IntKind.wrap .u8 (ibin .shr .u64 x2 40)), (IntKind.wrap .u8 (ibin .shr .u64 x2 48)), (IntKind.wrap .u8 (ibin .shr .u64 x2 56)), (IntKind.wrap .u8 (ibin .shr .u64 x3 0)), (IntKind.wrap .u8 (ibin .shr .u64 x3 8)), (IntKind.wrap .u8 (ibin .shr .u64 x3 16)), (IntKind.wrap .u8 (ibin .shr .u64 x3 24)), (IntKind.wrap .u8 (ibin .shr .u64 x3 32)), (IntKind.wrap .u8 (ibin .shr .u64 x3 40)), (IntKind.wrap .u8 (ibin .shr .u64 x3 48)), (IntKind.wrap .u8 (ibin .shr .u64 x3 56)), (IntKind.wrap .u8 (ibin .shr .u64 x4 0)), (IntKind.wrap .u8 (ibin .shr .u64 x4 8)), (IntKind.wrap .u8 (ibin .shr .u64 x4 16)), (IntKind.wrap .u8 (ibin .shr .u64 x4 24)), (IntKind.wrap .u8 (ibin .shr .u64 x4 32)), (IntKind.wrap .u8 (ibin .shr .u64 x4 40)), (IntKind.wrap .u8 (ibin .shr .u64 x4 48)), (IntKind.wrap .u8 (ibin .shr .u64 x4 56))]
def Zcc (N:Nat) (v:(Unit × Unit × Int × Int) × (LI × Unit)) : Option (((Unit × Unit × Int × Int) × (LI × Unit)) ⊕ (((Unit × Unit) × (LI × Unit)) ⊕ (Unit × Unit))) :=
 cond (icmp .lss v.1.2.2.2 v.1.2.2.1) (
 mo (ZaK v.2.1) none fun r6 =>
 some (.inl (((), (), v.1.2.2.1, (ibin .add .i64 v.1.2.2.2 1)), (r6, ())))
 ) (
 some (.inr (.inl (((), ()), (v.2.1, ()))))
 )
def ZaC (N:Nat) (a:LI) (b:Int) : Option (LI) :=
 mo (loopF (Zcc N) N (((), (), b, 0), (a, ()))) none fun r7 =>
 match r7 with
 | .inl u8 => (
 some u8.2.1
 )
 | .inr _ => (
 none
 )
def Zez (N:Nat) (a:LI) : Option ((LI × LI)) :=
 mo (ZaK a) none fun r1 =>
 mo (ZaC N r1 2) none fun r2 =>
 mo (Zap r2 a) none fun r3 =>
 mo (Zap r3 r1) none fun r4 =>
 mo (ZaK r4) none fun r5 =>
 mo (Zap r5 r3) none fun r6 =>
 mo (ZaC N r6 5) none fun r7 =>
 mo (Zap r7 r6) none fun r8 =>
 mo (ZaC N r8 10) none fun r9 =>
 mo (Zap r9 r8) none fun r10 =>
 mo (ZaC N r10 20) none fun r11 =>
 mo (Zap r11 r10) none fun r12 =>
 mo (ZaC N r12 10) none fun r13 =>
 mo (Zap r13 r8) none fun r14 =>
 mo (ZaC N r14 50) none fun r15 =>
 mo (Zap r15 r14) none fun r16 =>
 mo (ZaC N r16 100) none fun r17 =>
 mo (Zap r17 r16) none fun r18 =>
 mo (ZaC N r18 50) none fun r19 =>
 mo (Zap r19 r14) none fun r20 =>
 some (r20, r4)
def ZdK (N:Nat) (a:LI) : Option (LI) :=
 mo (Zez N a) none fun r1 =>
 mo (ZaC N r1.1 5) none fun r2 =>
 mo (Zap r2 r1.2) none fun r3 =>
 some r3
def Zf8 (N:Nat) (a:LI) : Option (LI) :=
 mo (Zez N a) none fun r1 =>
 mo (ZaC N r1.1 2) none fun r2 =>
 mo (Zap r2 a) none fun r3 =>
 some r3
def ZcH (a:LI) : Bool :=
 (decide ((Zaa a) = [0, 0, 0, 0, 0]))
def Zb9 (a:LI) : Bool :=
 (icmp .eql (ibin .and .u64 (List.getD (Zaa a) 0 0) 1) 1)
def ZiW (a:Int) (b:LI) (c:LI) : LI :=
 let x1 := (ineg .u64 (IntKind.wrap .u64 (ibin .and .i64 a 1)))
 let x2 := (List.set b 0 (ibin .or .u64 (ibin .and .u64 (List.getD b 0 0) x1) (ibin .andNot .u64 (List.getD c 0 0) x1)))
 let x3 := (List.set x2 1 (ibin .or .u64 (ibin .and .u64 (List.getD x2 1 0) x1) (ibin .andNot .u64 (List.getD c 1 0) x1)))
 let x4 := (List.set x3 2 (ibin .or .u64 (ibin .and .u64 (List.getD x3 2 0) x1) (ibin .andNot .u64 (List.getD c 2 0) x1)))
 let x5 := (List.set x4 3 (ibin .or .u64 (ibin .and .u64 (List.getD x4 3 0) x1) (ibin .andNot .u64 (List.getD c 3 0) x1)))
 (Zaa (List.set x5 4 (ibin .or .u64 (ibin .and .u64 (List.getD x5 4 0) x1) (ibin .andNot .u64 (List.getD c 4 0) x1))))
def ZaV (a:LI) : LI :=
 (ZiW (IntKind.wrap .i64 (ibin .and .u64 (List.getD (Zaa a) 0 0) 1)) (ZaN a) a)
def Zj4 (a:Int) : Option (LI) :=
 cond (icmp .lss a 0) (
 some [0, 0, 0, 0, 0]
 ) (
 cond (icmp .geq a 7) (
 some [0, 0, 0, 0, 0]
 ) (
 cond (decide ((0 : Int) ≤ a ∧ a < ((7 : Nat) : Int))) (
 some (Zc7 (Int.toNat a))
 ) (
 none
 )
 )
 )
def Zdl (N:Nat) (a:LI) (b:LI) : Option ((LI × Bool)) :=
 mo (ZaK b) none fun r1 =>
 mo (Zap r1 b) none fun r2 =>
 mo (ZaK r2) none fun r3 =>
 mo (Zap r3 b) none fun r4 =>
 mo (Zap (Zaa a) r2) none fun r5 =>
 mo (Zap (Zaa a) r4) none fun r6 =>
 mo (Zf8 N r6) none fun r7 =>
 mo (Zap r5 r7) none fun r8 =>
 mo (ZaK r8) none fun r9 =>
 mo (Zap b r9) none fun r10 =>
 let x1 := (decide (r10 = (ZaN (Zaa a))))
 cond x1 (
 mo (Zap r8 (Zc7 1)) none fun r11 =>
 cond (decide (r10 = (Zaa a))) (
 some ((ZaV r11), true)
 ) (
 some ((ZaV r11), x1)
 )
 ) (
 mo (Zap (ZaN (Zaa a)) (Zc7 1)) none fun r12 =>
 cond (decide (r10 = r12)) (
 mo (Zap r8 (Zc7 1)) none fun r13 =>
 cond (decide (r10 = (Zaa a))) (
 some ((ZaV r13), true)
 ) (
 some ((ZaV r13), x1)
 )
 ) (
 cond (decide (r10 = (Zaa a))) (
 some ((ZaV r8), true)
 ) (
 some ((ZaV r8), x1)
 )
 )
 )
def Zan (a:(LI × LI × LI × LI)) : (LI × LI × LI × LI) :=
 cond (decide (a.2.2.1 = [0, 0, 0, 0, 0])) (
 ([0, 0, 0, 0, 0], [1, 0, 0, 0, 0], [1, 0, 0, 0, 0], [0, 0, 0, 0, 0])
 ) (
 (a.1, a.2.1, a.2.2.1, a.2.2.2)
 )
def Zhi (a:(LI × LI × LI × LI)) : Option ((LI × LI × LI × LI)) :=
 cond (decide (a.2.2.1 = [0, 0, 0, 0, 0])) (
 some ([0, 0, 0, 0, 0], [1, 0, 0, 0, 0], [1, 0, 0, 0, 0], [0, 0, 0, 0, 0])
 ) (
 some (a.1, a.2.1, a.2.2.1, a.2.2.2)
 )
theorem ZoS (a:(LI × LI × LI × LI)) : Zhi a = some (Zan a) := by
 unfold Zhi Zan
 repeat' (first | refine Zk5 ?_ ?_ | rfl)
def ZiK (a:LI) (b:LI) : Option ((LI × LI × LI × LI)) :=
 mo (Zap a b) none fun r1 =>
 some (a, b, [1, 0, 0, 0, 0], r1)
def Zj0 (a:LI) (b:LI) (c:LI) (d:LI) : Option ((LI × LI × LI × LI)) :=
 mo (Zap a b) none fun r1 =>
 mo (Zap c d) none fun r2 =>
 mo (Zap b c) none fun r3 =>
 mo (Zap a d) none fun r4 =>
 some (r1, r2, r3, r4)
def ZaA (a:(LI × LI × LI × LI)) (b:(LI × LI × LI × LI)) : Option ((LI × LI × LI × LI)) :=
 mo (Zap (Zax (Zan (a.1, a.2.1, a.2.2.1, a.2.2.2)).2.1 (Zan (a.1, a.2.1, a.2.2.1, a.2.2.2)).1) (Zax (Zan (b.1, b.2.1, b.2.2.1, b.2.2.2)).2.1 (Zan (b.1, b.2.1, b.2.2.1, b.2.2.2)).1)) none fun r1 =>
 mo (Zap (ZaO (Zan (a.1, a.2.1, a.2.2.1, a.2.2.2)).2.1 (Zan (a.1, a.2.1, a.2.2.1, a.2.2.2)).1) (ZaO (Zan (b.1, b.2.1, b.2.2.1, b.2.2.2)).2.1 (Zan (b.1, b.2.1, b.2.2.1, b.2.2.2)).1)) none fun r2 =>
 mo (Zap (Zan (a.1, a.2.1, a.2.2.1, a.2.2.2)).2.2.2 [1859910466990425, 932731440258426, 1072319116312658, 1815898335770999, 633789495995903]) none fun r3 =>
 mo (Zap r3 (Zan (b.1, b.2.1, b.2.2.1, b.2.2.2)).2.2.2) none fun r4 =>
 mo (Zap (Zan (a.1, a.2.1, a.2.2.1, a.2.2.2)).2.2.1 (Zan (b.1, b.2.1, b.2.2.1, b.2.2.2)).2.2.1) none fun r5 =>
 mo (Zj0 (Zax r2 r1) (Zax (ZaO r5 r5) r4) (ZaO (ZaO r5 r5) r4) (ZaO r2 r1)) none fun r6 =>
 some (r6.1, r6.2.1, r6.2.2.1, r6.2.2.2)
def ZaU (a:(LI × LI × LI × LI)) : (LI × LI × LI × LI) :=
 ((ZaN (Zan (a.1, a.2.1, a.2.2.1, a.2.2.2)).1), (Zan (a.1, a.2.1, a.2.2.1, a.2.2.2)).2.1, (Zan (a.1, a.2.1, a.2.2.1, a.2.2.2)).2.2.1, (ZaN (Zan (a.1, a.2.1, a.2.2.1, a.2.2.2)).2.2.2))
def Zex (a:(LI × LI × LI × LI)) (b:(LI × LI × LI × LI)) : Option ((LI × LI × LI × LI)) :=
 mo (ZaA (a.1, a.2.1, a.2.2.1, a.2.2.2) ((ZaU (b.1, b.2.1, b.2.2.1, b.2.2.2)).1, (ZaU (b.1, b.2.1, b.2.2.1, b.2.2.2)).2.1, (ZaU (b.1, b.2.1, b.2.2.1, b.2.2.2)).2.2.1, (ZaU (b.1, b.2.1, b.2.2.1, b.2.2.2)).2.2.2)) none fun r1 =>
 some (r1.1, r1.2.1, r1.2.2.1, r1.2.2.2)
def ZbL (a:(LI × LI × LI × LI)) : Option ((LI × LI × LI × LI)) :=
 mo (ZaK (Zan (a.1, a.2.1, a.2.2.1, a.2.2.2)).1) none fun r1 =>
 mo (ZaK (Zan (a.1, a.2.1, a.2.2.1, a.2.2.2)).2.1) none fun r2 =>
 mo (ZaK (Zan (a.1, a.2.1, a.2.2.1, a.2.2.2)).2.2.1) none fun r3 =>
 mo (ZaK (ZaO (Zan (a.1, a.2.1, a.2.2.1, a.2.2.2)).1 (Zan (a.1, a.2.1, a.2.2.1, a.2.2.2)).2.1)) none fun r4 =>
 mo (Zj0 (Zax (Zax r4 r1) r2) (Zax (Zax (Zax r2 r1) r3) r3) (Zax r2 r1) (Zax (ZaN r1) r2)) none fun r5 =>
 some (r5.1, r5.2.1, r5.2.2.1, r5.2.2.2)
def ZcO (N:Nat) (a:(LI × LI × LI × LI)) : Option ((LI × LI)) :=
 mo (ZdK N (Zan (a.1, a.2.1, a.2.2.1, a.2.2.2)).2.2.1) none fun r1 =>
 mo (Zap (Zan (a.1, a.2.1, a.2.2.1, a.2.2.2)).1 r1) none fun r2 =>
 mo (Zap (Zan (a.1, a.2.1, a.2.2.1, a.2.2.2)).2.1 r1) none fun r3 =>
 some (r2, r3)
def Zc2 (a:LI) (b:LI) : Option (((LI × LI × LI × LI) × Int)) :=
 mo (ZaK (Zaa a)) none fun r1 =>
 mo (ZaK (Zaa b)) none fun r2 =>
 mo (Zj4 2) none fun r3 =>
 mo (Zap r3 r1) none fun r4 =>
 mo (Zap r4 r2) none fun r5 =>
 cond (!(decide ((Zax r2 r1) = (ZaO [1, 0, 0, 0, 0] r5)))) (
 some (([0, 0, 0, 0, 0], [0, 0, 0, 0, 0], [0, 0, 0, 0, 0], [0, 0, 0, 0, 0]), 40)
 ) (
 mo (ZiK (Zaa a) (Zaa b)) none fun r6 =>
 some ((r6.1, r6.2.1, r6.2.2.1, r6.2.2.2), 0)
 )
def Zay  : (LI × LI × LI × LI) :=
 ([1738742601995546, 1146398526822698, 2070867633025821, 562264141797630, 587772402128613], [1801439850948184, 1351079888211148, 450359962737049, 900719925474099, 1801439850948198], [1, 0, 0, 0, 0], [1841354044333475, 16398895984059, 755974180946558, 900171276175154, 1821297809914039])
def ZgG (a:Int) : Option ((LI × LI × LI × LI)) :=
 cond (decide ((0 : Int) ≤ (ibin .and .i64 a 7) ∧ (ibin .and .i64 a 7) < ((8 : Nat) : Int))) (
 some ((List.getD [[0, 0, 0, 0, 0], [358744748052810, 1691584618240980, 977650209285361, 1429865912637724, 560044844278676], [1718705420411056, 234908883556509, 2233514472574048, 2117202627021982, 765476049583133], [358744748052810, 1691584618240980, 977650209285361, 1429865912637724, 560044844278676], [0, 0, 0, 0, 0], [1893055065632419, 560215195444267, 1274149604399886, 821933901047523, 1691754969406571], [533094393274173, 2016890930128738, 18285341111199, 134597186663265, 1486323764102114], [1893055065632419, 560215195444267, 1274149604399886, 821933901047523, 1691754969406571]] (Int.toNat (ibin .and .i64 a 7)) []), (List.getD [[0, 0, 0, 0, 0], [2166873539340326, 1778179147085316, 1886209374839743, 1223329526802818, 105300633354275], [0, 0, 0, 0, 0], [84926274344903, 473620666599931, 365590438845504, 1028470286882429, 2146499180330972], [2251799813685228, 2251799813685247, 2251799813685247, 2251799813685247, 2251799813685247], [84926274344903, 473620666599931, 365590438845504, 1028470286882429, 2146499180330972], [0, 0, 0, 0, 0], [2166873539340326, 1778179147085316, 1886209374839743, 1223329526802818, 105300633354275]] (Int.toNat (ibin .and .i64 a 7)) []), (List.getD [[0, 0, 0, 0, 0], [1, 0, 0, 0, 0], [1, 0, 0, 0, 0], [1, 0, 0, 0, 0], [1, 0, 0, 0, 0], [1, 0, 0, 0, 0], [1, 0, 0, 0, 0], [1, 0, 0, 0, 0]] (Int.toNat (ibin .and .i64 a 7)) []), (List.getD [[0, 0, 0, 0, 0], [803472979097708, 393902981724766, 1158077081819914, 574391322974006, 336294660666841], [0, 0, 0, 0, 0], [1448326834587521, 1857896831960481, 1093722731865333, 1677408490711241, 1915505153018406], [0, 0, 0, 0, 0], [803472979097708, 393902981724766, 1158077081819914, 574391322974006, 336294660666841], [0, 0, 0, 0, 0], [1448326834587521, 1857896831960481, 1093722731865333, 1677408490711241, 1915505153018406]] (Int.toNat (ibin .and .i64 a 7)) []))
 ) (
 none
 )
def ZoJ (N:Nat) (a:LI) : Option ((LI × Bool)) :=
 mo (ZaK a) none fun r1 =>
 mo (Zj4 2) none fun r2 =>
 mo (Zap r2 r1) none fun r3 =>
 mo (Zdl N (Zax r1 [1, 0, 0, 0, 0]) (ZaO r3 [1, 0, 0, 0, 0])) none fun r4 =>
 some (r4.1, r4.2)
def Zcl (N:Nat) (a:(LI × LI × LI × LI)) : Option (LI) :=
 mo (ZcO N (a.1, a.2.1, a.2.2.1, a.2.2.2)) none fun r1 =>
 cond (Zb9 r1.1) (
 some (List.set (Zau r1.2) 31 (ibin .or .u8 (List.getD (Zau r1.2) 31 0) 128))
 ) (
 some (Zau r1.2)
 )
def Zbl (N:Nat) (a:LI) : Option (((LI × LI × LI × LI) × Int)) :=
 cond (icmp .neq (ZaQ (List.set a 31 (ibin .and .u8 (List.getD a 31 0) 127))).2 0) (
 some (([0, 0, 0, 0, 0], [0, 0, 0, 0, 0], [0, 0, 0, 0, 0], [0, 0, 0, 0, 0]), (ZaQ (List.set a 31 (ibin .and .u8 (List.getD a 31 0) 127))).2)
 ) (
 mo (ZoJ N (ZaQ (List.set a 31 (ibin .and .u8 (List.getD a 31 0) 127))).1) none fun r1 =>
 cond (!r1.2) (
 some (([0, 0, 0, 0, 0], [0, 0, 0, 0, 0], [0, 0, 0, 0, 0], [0, 0, 0, 0, 0]), 40)
 ) (
 let x1 := (icmp .gtr (List.getD a 31 0) 127)
 cond x1 (
 cond (ZcH r1.1) (
 some (([0, 0, 0, 0, 0], [0, 0, 0, 0, 0], [0, 0, 0, 0, 0], [0, 0, 0, 0, 0]), 3)
 ) (
 cond x1 (
 mo (ZiK (ZaN r1.1) (ZaQ (List.set a 31 (ibin .and .u8 (List.getD a 31 0) 127))).1) none fun r2 =>
 some ((r2.1, r2.2.1, r2.2.2.1, r2.2.2.2), 0)
 ) (
 mo (ZiK r1.1 (ZaQ (List.set a 31 (ibin .and .u8 (List.getD a 31 0) 127))).1) none fun r3 =>
 some ((r3.1, r3.2.1, r3.2.2.1, r3.2.2.2), 0)
 )
 )
 ) (
 cond x1 (
 mo (ZiK (ZaN r1.1) (ZaQ (List.set a 31 (ibin .and .u8 (List.getD a 31 0) 127))).1) none fun r4 =>
 some ((r4.1, r4.2.1, r4.2.2.1, r4.2.2.2), 0)
 ) (
 mo (ZiK r1.1 (ZaQ (List.set a 31 (ibin .and .u8 (List.getD a 31 0) 127))).1) none fun r5 =>
 some ((r5.1, r5.2.1, r5.2.2.1, r5.2.2.2), 0)
 )
 )
 )
 )
def ZcQ (a:LI) (b:LI) : Bool :=
 cond (icmp .neq (List.getD a 9 0) (List.getD b 9 0)) (
 (icmp .lss (List.getD a 9 0) (List.getD b 9 0))
 ) (
 cond (icmp .neq (List.getD a 8 0) (List.getD b 8 0)) (
 (icmp .lss (List.getD a 8 0) (List.getD b 8 0))
 ) (
 cond (icmp .neq (List.getD a 7 0) (List.getD b 7 0)) (
 (icmp .lss (List.getD a 7 0) (List.getD b 7 0))
 ) (
 cond (icmp .neq (List.getD a 6 0) (List.getD b 6 0)) (
 (icmp .lss (List.getD a 6 0) (List.getD b 6 0))
 ) (
 cond (icmp .neq (List.getD a 5 0) (List.getD b 5 0)) (
 (icmp .lss (List.getD a 5 0) (List.getD b 5 0))
 ) (
 cond (icmp .neq (List.getD a 4 0) (List.getD b 4 0)) (
 (icmp .lss (List.getD a 4 0) (List.getD b 4 0))
 ) (
 cond (icmp .neq (List.getD a 3 0) (List.getD b 3 0)) (
 (icmp .lss (List.getD a 3 0) (List.getD b 3 0))
 ) (
 cond (icmp .neq (List.getD a 2 0) (List.getD b 2 0)) (
 (icmp .lss (List.getD a 2 0) (List.getD b 2 0))
 ) (
 cond (icmp .neq (List.getD a 1 0) (List.getD b 1 0)) (
 (icmp .lss (List.getD a 1 0) (List.getD b 1 0))
 ) (
 cond (icmp .neq (List.getD a 0 0) (List.getD b 0 0)) (
 (icmp .lss (List.getD a 0 0) (List.getD b 0 0))
 ) (
 false
 )
 )
 )
 )
 )
 )
 )
 )
 )
 )
def Ziy (a:LI) (b:LI) : Option (Bool) :=
 cond (icmp .neq (List.getD a 9 0) (List.getD b 9 0)) (
 some (icmp .lss (List.getD a 9 0) (List.getD b 9 0))
 ) (
 cond (icmp .neq (List.getD a 8 0) (List.getD b 8 0)) (
 some (icmp .lss (List.getD a 8 0) (List.getD b 8 0))
 ) (
 cond (icmp .neq (List.getD a 7 0) (List.getD b 7 0)) (
 some (icmp .lss (List.getD a 7 0) (List.getD b 7 0))
 ) (
 cond (icmp .neq (List.getD a 6 0) (List.getD b 6 0)) (
 some (icmp .lss (List.getD a 6 0) (List.getD b 6 0))
 ) (
 cond (icmp .neq (List.getD a 5 0) (List.getD b 5 0)) (
 some (icmp .lss (List.getD a 5 0) (List.getD b 5 0))
 ) (
 cond (icmp .neq (List.getD a 4 0) (List.getD b 4 0)) (
 some (icmp .lss (List.getD a 4 0) (List.getD b 4 0))
 ) (
 cond (icmp .neq (List.getD a 3 0) (List.getD b 3 0)) (
 some (icmp .lss (List.getD a 3 0) (List.getD b 3 0))
 ) (
 cond (icmp .neq (List.getD a 2 0) (List.getD b 2 0)) (
 some (icmp .lss (List.getD a 2 0) (List.getD b 2 0))
 ) (
 cond (icmp .neq (List.getD a 1 0) (List.getD b 1 0)) (
 some (icmp .lss (List.getD a 1 0) (List.getD b 1 0))
 ) (
 cond (icmp .neq (List.getD a 0 0) (List.getD b 0 0)) (
 some (icmp .lss (List.getD a 0 0) (List.getD b 0 0))
 ) (
 some false
 )
 )
 )
 )
 )
 )
 )
 )
 )
 )
theorem Zra (a:LI) (b:LI) : Ziy a b = some (ZcQ a b) := by
 unfold Ziy ZcQ
 repeat' (first | refine Zk5 ?_ ?_ | rfl)
def ZbU (a:LI) (b:LI) : LI :=
 let x1 := (ibin .sub .i64 (ibin .add .i64 0 (List.getD a 0 0)) (List.getD b 0 0))
 let x2 := (ibin .sub .i64 (ibin .add .i64 (ibin .shr .i64 x1 26) (List.getD a 1 0)) (List.getD b 1 0))
 let x3 := (ibin .sub .i64 (ibin .add .i64 (ibin .shr .i64 x2 26) (List.getD a 2 0)) (List.getD b 2 0))
 let x4 := (ibin .sub .i64 (ibin .add .i64 (ibin .shr .i64 x3 26) (List.getD a 3 0)) (List.getD b 3 0))
 let x5 := (ibin .sub .i64 (ibin .add .i64 (ibin .shr .i64 x4 26) (List.getD a 4 0)) (List.getD b 4 0))
 let x6 := (ibin .sub .i64 (ibin .add .i64 (ibin .shr .i64 x5 26) (List.getD a 5 0)) (List.getD b 5 0))
 let x7 := (ibin .sub .i64 (ibin .add .i64 (ibin .shr .i64 x6 26) (List.getD a 6 0)) (List.getD b 6 0))
 let x8 := (ibin .sub .i64 (ibin .add .i64 (ibin .shr .i64 x7 26) (List.getD a 7 0)) (List.getD b 7 0))
 let x9 := (ibin .sub .i64 (ibin .add .i64 (ibin .shr .i64 x8 26) (List.getD a 8 0)) (List.getD b 8 0))
 [(ibin .and .i64 x1 67108863), (ibin .and .i64 x2 67108863), (ibin .and .i64 x3 67108863), (ibin .and .i64 x4 67108863), (ibin .and .i64 x5 67108863), (ibin .and .i64 x6 67108863), (ibin .and .i64 x7 67108863), (ibin .and .i64 x8 67108863), (ibin .and .i64 x9 67108863), (ibin .and .i64 (ibin .sub .i64 (ibin .add .i64 (ibin .shr .i64 x9 26) (List.getD a 9 0)) (List.getD b 9 0)) 67108863)]
def Zbm (N:Nat) (v:(Unit × Int × Unit × Bool) × (Unit × Unit × LI)) : Option (((Unit × Int × Unit × Bool) × (Unit × Unit × LI)) ⊕ (((Unit × Unit) × (Unit × Unit × LI)) ⊕ (Unit × Unit))) :=
 cond v.1.2.2.2 (
 let x1 := (List.set v.2.2.2 0 (ibin .add .i64 (List.getD v.2.2.2 0 0) v.1.2.1))
 let x2 := (ibin .add .i64 0 (List.getD x1 0 0))
 let x3 := (List.set x1 0 (ibin .and .i64 x2 67108863))
 let x4 := (ibin .add .i64 (ibin .shr .i64 x2 26) (List.getD x3 1 0))
 let x5 := (List.set x3 1 (ibin .and .i64 x4 67108863))
 let x6 := (ibin .add .i64 (ibin .shr .i64 x4 26) (List.getD x5 2 0))
 let x7 := (List.set x5 2 (ibin .and .i64 x6 67108863))
 let x8 := (ibin .add .i64 (ibin .shr .i64 x6 26) (List.getD x7 3 0))
 let x9 := (List.set x7 3 (ibin .and .i64 x8 67108863))
 let x10 := (ibin .add .i64 (ibin .shr .i64 x8 26) (List.getD x9 4 0))
 let x11 := (List.set x9 4 (ibin .and .i64 x10 67108863))
 let x12 := (ibin .add .i64 (ibin .shr .i64 x10 26) (List.getD x11 5 0))
 let x13 := (List.set x11 5 (ibin .and .i64 x12 67108863))
 let x14 := (ibin .add .i64 (ibin .shr .i64 x12 26) (List.getD x13 6 0))
 let x15 := (List.set x13 6 (ibin .and .i64 x14 67108863))
 let x16 := (ibin .add .i64 (ibin .shr .i64 x14 26) (List.getD x15 7 0))
 let x17 := (List.set x15 7 (ibin .and .i64 x16 67108863))
 let x18 := (ibin .add .i64 (ibin .shr .i64 x16 26) (List.getD x17 8 0))
 let x19 := (List.set x17 8 (ibin .and .i64 x18 67108863))
 let x20 := (ibin .add .i64 (ibin .shr .i64 x18 26) (List.getD x19 9 0))
 let x21 := (List.set x19 9 (ibin .and .i64 x20 67108863))
 let x22 := (List.getD x21 9 0)
 let x23 := (ibin .add .i64 (ibin .mul .i64 608 (ibin .shr .i64 x20 26)) (ibin .mul .i64 19 (ibin .quo .i64 x22 2097152)))
 some (.inl (((), x23, (), (icmp .gtr x23 0)), ((), (), (List.set x21 9 (ibin .rem .i64 x22 2097152)))))
 ) (
 some (.inr (.inl (((), ()), ((), (), v.2.2.2))))
 )
def Zbq (N:Nat) (a:LI) : Option (LI) :=
 let x1 := (ibin .add .i64 0 (List.getD a 0 0))
 let x2 := (List.set a 0 (ibin .and .i64 x1 67108863))
 let x3 := (ibin .add .i64 (ibin .shr .i64 x1 26) (List.getD x2 1 0))
 let x4 := (List.set x2 1 (ibin .and .i64 x3 67108863))
 let x5 := (ibin .add .i64 (ibin .shr .i64 x3 26) (List.getD x4 2 0))
 let x6 := (List.set x4 2 (ibin .and .i64 x5 67108863))
 let x7 := (ibin .add .i64 (ibin .shr .i64 x5 26) (List.getD x6 3 0))
 let x8 := (List.set x6 3 (ibin .and .i64 x7 67108863))
 let x9 := (ibin .add .i64 (ibin .shr .i64 x7 26) (List.getD x8 4 0))
 let x10 := (List.set x8 4 (ibin .and .i64 x9 67108863))
 let x11 := (ibin .add .i64 (ibin .shr .i64 x9 26) (List.getD x10 5 0))
 let x12 := (List.set x10 5 (ibin .and .i64 x11 67108863))
 let x13 := (ibin .add .i64 (ibin .shr .i64 x11 26) (List.getD x12 6 0))
 let x14 := (List.set x12 6 (ibin .and .i64 x13 67108863))
 let x15 := (ibin .add .i64 (ibin .shr .i64 x13 26) (List.getD x14 7 0))
 let x16 := (List.set x14 7 (ibin .and .i64 x15 67108863))
 let x17 := (ibin .add .i64 (ibin .shr .i64 x15 26) (List.getD x16 8 0))
 let x18 := (List.set x16 8 (ibin .and .i64 x17 67108863))
 let x19 := (ibin .add .i64 (ibin .shr .i64 x17 26) (List.getD x18 9 0))
 let x20 := (List.set x18 9 (ibin .and .i64 x19 67108863))
 let x21 := (ibin .add .i64 (ibin .shr .i64 x19 26) (List.getD x20 10 0))
 let x22 := (List.set x20 10 (ibin .and .i64 x21 67108863))
 let x23 := (ibin .add .i64 (ibin .shr .i64 x21 26) (List.getD x22 11 0))
 let x24 := (List.set x22 11 (ibin .and .i64 x23 67108863))
 let x25 := (ibin .add .i64 (ibin .shr .i64 x23 26) (List.getD x24 12 0))
 let x26 := (List.set x24 12 (ibin .and .i64 x25 67108863))
 let x27 := (ibin .add .i64 (ibin .shr .i64 x25 26) (List.getD x26 13 0))
 let x28 := (List.set x26 13 (ibin .and .i64 x27 67108863))
 let x29 := (ibin .add .i64 (ibin .shr .i64 x27 26) (List.getD x28 14 0))
 let x30 := (List.set x28 14 (ibin .and .i64 x29 67108863))
 let x31 := (ibin .add .i64 (ibin .shr .i64 x29 26) (List.getD x30 15 0))
 let x32 := (List.set x30 15 (ibin .and .i64 x31 67108863))
 let x33 := (ibin .add .i64 (ibin .shr .i64 x31 26) (List.getD x32 16 0))
 let x34 := (List.set x32 16 (ibin .and .i64 x33 67108863))
 let x35 := (ibin .add .i64 (ibin .shr .i64 x33 26) (List.getD x34 17 0))
 let x36 := (List.set x34 17 (ibin .and .i64 x35 67108863))
 let x37 := (ibin .add .i64 (ibin .shr .i64 x35 26) (List.getD x36 18 0))
 let x38 := (List.set x36 18 (ibin .and .i64 x37 67108863))
 let x39 := (List.set x38 19 (ibin .and .i64 (ibin .add .i64 (ibin .shr .i64 x37 26) (List.getD x38 19 0)) 67108863))
 mo (loopF (Zbm N) N (((), 0, (), true), ((), (), [(ibin .add .i64 (List.getD x39 0 0) (ibin .mul .i64 608 (List.getD x39 10 0))), (ibin .add .i64 (List.getD x39 1 0) (ibin .mul .i64 608 (List.getD x39 11 0))), (ibin .add .i64 (List.getD x39 2 0) (ibin .mul .i64 608 (List.getD x39 12 0))), (ibin .add .i64 (List.getD x39 3 0) (ibin .mul .i64 608 (List.getD x39 13 0))), (ibin .add .i64 (List.getD x39 4 0) (ibin .mul .i64 608 (List.getD x39 14 0))), (ibin .add .i64 (List.getD x39 5 0) (ibin .mul .i64 608 (List.getD x39 15 0))), (ibin .add .i64 (List.getD x39 6 0) (ibin .mul .i64 608 (List.getD x39 16 0))), (ibin .add .i64 (List.getD x39 7 0) (ibin .mul .i64 608 (List.getD x39 17 0))), (ibin .add .i64 (List.getD x39 8 0) (ibin .mul .i64 608 (List.getD x39 18 0))), (ibin .add .i64 (List.getD x39 9 0) (ibin .mul .i64 608 (List.getD x39 19 0)))]))) none fun r5 =>
 match r5 with
 | .inl u6 => (
 cond (!(ZcQ u6.2.2.2 [67108845, 67108863, 67108863, 67108863, 67108863, 67108863, 67108863, 67108863, 67108863, 2097151])) (
 some (ZbU u6.2.2.2 [67108845, 67108863, 67108863, 67108863, 67108863, 67108863, 67108863, 67108863, 67108863, 2097151])
 ) (
 some u6.2.2.2
 )
 )
 | .inr _ => (
 none
 )
def ZdT (N:Nat) (v:(Unit × Unit × Unit × Int × Int) × (LI × Unit × LI)) : Option (((Unit × Unit × Unit × Int × Int) × (LI × Unit × LI)) ⊕ (((Unit × Unit × Unit × Int) × (LI × Unit × LI)) ⊕ (Unit × Unit))) :=
 cond (icmp .lss v.1.2.2.2.2 64) (
 cond (decide ((0 : Int) ≤ v.1.2.2.2.1 ∧ v.1.2.2.2.1 < ((5 : Nat) : Int))) (
 cond (decide ((0 : Int) ≤ v.1.2.2.2.2)) (
 cond (icmp .eql (ibin .and .u64 (ibin .shr .u64 (List.getD v.2.1 (Int.toNat v.1.2.2.2.1) 0) v.1.2.2.2.2) 1) 1) (
 let x1 := (ibin .add .i64 (ibin .mul .i64 51 v.1.2.2.2.1) v.1.2.2.2.2)
 let x2 := (ibin .quo .i64 x1 26)
 let x3 := (decide ((0 : Int) ≤ x2 ∧ x2 < ((20 : Nat) : Int)))
 cond x3 (
 let x4 := (ibin .rem .i64 x1 26)
 cond (decide ((0 : Int) ≤ x4)) (
 cond x3 (
 some (.inl (((), (), (), v.1.2.2.2.1, (ibin .add .i64 v.1.2.2.2.2 1)), (v.2.1, (), (List.set v.2.2.2 (Int.toNat x2) (ibin .add .i64 (List.getD v.2.2.2 (Int.toNat x2) 0) (ibin .shl .i64 1 x4))))))
 ) (
 none
 )
 ) (
 none
 )
 ) (
 none
 )
 ) (
 some (.inl (((), (), (), v.1.2.2.2.1, (ibin .add .i64 v.1.2.2.2.2 1)), (v.2.1, (), v.2.2.2)))
 )
 ) (
 none
 )
 ) (
 none
 )
 ) (
 some (.inr (.inl (((), (), (), v.1.2.2.2.1), (v.2.1, (), v.2.2.2))))
 )
def ZcR (N:Nat) (v:(Unit × Unit × Unit × Int) × (LI × Unit × LI)) : Option (((Unit × Unit × Unit × Int) × (LI × Unit × LI)) ⊕ (((Unit × Unit) × (Unit × LI)) ⊕ (Unit × Unit))) :=
 cond (icmp .lss v.1.2.2.2 5) (
 mo (loopF (ZdT N) N (((), (), (), v.1.2.2.2, 0), (v.2.1, (), v.2.2.2))) none fun r12 =>
 match r12 with
 | .inl u13 => (
 some (.inl (((), (), (), (ibin .add .i64 u13.1.2.2.2 1)), (u13.2.1, (), u13.2.2.2)))
 )
 | .inr w14 => (
 some (.inr (.inr ((), ())))
 )
 ) (
 some (.inr (.inl (((), ()), ((), v.2.2.2))))
 )
def Ze0 (N:Nat) (a:LI) : Option (LI) :=
 mo (loopF (ZcR N) N (((), (), (), 0), (a, (), [0, 0, 0, 0, 0, 0, 0, 0, 0, 0, 0, 0, 0, 0, 0, 0, 0, 0, 0, 0]))) none fun r15 =>
 match r15 with
 | .inl u16 => (
 mo (Zbq N u16.2.2) none fun r17 =>
 some r17
 )
 | .inr _ => (
 none
 )
def Zae (N:Nat) (a:Int) : Option (LI) :=
 mo (Zbq N [(IntKind.wrap .i64 (ibin .and .u64 a 67108863)), (IntKind.wrap .i64 (ibin .and .u64 (ibin .shr .u64 a 26) 67108863)), (IntKind.wrap .i64 (ibin .shr .u64 a 52)), 0, 0, 0, 0, 0, 0, 0, 0, 0, 0, 0, 0, 0, 0, 0, 0, 0]) none fun r1 =>
 some r1
def Zad (N:Nat) (a:LI) (b:LI) : Option (LI) :=
 mo (Zbq N [(ibin .add .i64 (List.getD a 0 0) (List.getD b 0 0)), (ibin .add .i64 (List.getD a 1 0) (List.getD b 1 0)), (ibin .add .i64 (List.getD a 2 0) (List.getD b 2 0)), (ibin .add .i64 (List.getD a 3 0) (List.getD b 3 0)), (ibin .add .i64 (List.getD a 4 0) (List.getD b 4 0)), (ibin .add .i64 (List.getD a 5 0) (List.getD b 5 0)), (ibin .add .i64 (List.getD a 6 0) (List.getD b 6 0)), (ibin .add .i64 (List.getD a 7 0) (List.getD b 7 0)), (ibin .add .i64 (List.getD a 8 0) (List.getD b 8 0)), (ibin .add .i64 (List.getD a 9 0) (List.getD b 9 0)), 0, 0, 0, 0, 0, 0, 0, 0, 0, 0]) none fun r1 =>
 some r1
def ZaY (a:LI) : LI :=
 cond (decide (a = [0, 0, 0, 0, 0, 0, 0, 0, 0, 0])) (
 a
 ) (
 (ZbU [67108845, 67108863, 67108863, 67108863, 67108863, 67108863, 67108863, 67108863, 67108863, 2097151] a)
 )
def Ziz (a:LI) : Option (LI) :=
 cond (decide (a = [0, 0, 0, 0, 0, 0, 0, 0, 0, 0])) (
 some a
 ) (
 some (ZbU [67108845, 67108863, 67108863, 67108863, 67108863, 67108863, 67108863, 67108863, 67108863, 2097151] a)
 )
theorem Zrb (a:LI) : Ziz a = some (ZaY a) := by
 unfold Ziz ZaY
 repeat' (first | refine Zk5 ?_ ?_ | rfl)
def ZcS (N:Nat) (a:LI) (b:LI) : Option (LI) :=
 mo (Zad N a (ZaY b)) none fun r1 =>
 some r1
def Zab (N:Nat) (a:LI) (b:LI) : Option (LI) :=
 mo (Zbq N [(ibin .add .i64 0 (ibin .mul .i64 (List.getD a 0 0) (List.getD b 0 0))), (ibin .add .i64 (ibin .add .i64 0 (ibin .mul .i64 (List.getD a 0 0) (List.getD b 1 0))) (ibin .mul .i64 (List.getD a 1 0) (List.getD b 0 0))), (ibin .add .i64 (ibin .add .i64 (ibin .add .i64 0 (ibin .mul .i64 (List.getD a 0 0) (List.getD b 2 0))) (ibin .mul .i64 (List.getD a 1 0) (List.getD b 1 0))) (ibin .mul .i64 (List.getD a 2 0) (List.getD b 0 0))), (ibin .add .i64 (ibin .add .i64 (ibin .add .i64 (ibin .add .i64 0 (ibin .mul .i64 (List.getD a 0 0) (List.getD b 3 0))) (ibin .mul .i64 (List.getD a 1 0) (List.getD b 2 0))) (ibin .mul .i64 (List.getD a 2 0) (List.getD b 1 0))) (ibin .mul .i64 (List.getD a 3 0) (List.getD b 0 0))), (ibin .add .i64 (ibin .add .i64 (ibin .add .i64 (ibin .add .i64 (ibin .add .i64 0 (ibin .mul .i64 (List.getD a 0 0) (List.getD b 4 0))) (ibin .mul .i64 (List.getD a 1 0) (List.getD b 3 0))) (ibin .mul .i64 (List.getD a 2 0) (List.getD b 2 0))) (ibin .mul .i64 (List.getD a 3 0) (List.getD b 1 0))) (ibin .mul .i64 (List.getD a 4 0) (List.getD b 0 0))), (ibin .add .i64 (ibin .add .i64 (ibin .add .i64 (ibin .add .i64 (ibin .add .i64 (ibin .add .i64 0 (ibin .mul .i64 (List.getD a 0 0) (List.getD b 5 0))) (ibin .mul .i64 (List.getD a 1 0) (List.getD b 4 0))) (ibin .mul .i64 (List.getD a 2 0) (List.getD b 3 0))) (ibin .mul .i64 (List.getD a 3 0) (List.getD b 2 0))) (ibin .mul .i64 (List.getD a 4 0) (List.getD b 1 0))) (ibin .mul .i64 (List.getD a 5 0) (List.getD b 0 0))), (ibin .add .i64 (ibin .add .i64 (ibin .add .i64 (ibin .add .i64 (ibin .add .i64 (ibin .add .i64 (ibin .add .i64 0 (ibin .mul .i64 (List.getD a 0 0) (List.getD b 6 0))) (ibin .mul .i64 (List.getD a 1 0) (List.getD b 5 0))) (ibin .mul .i64 (List.getD a 2 0) (List.getD b 4 0))) (ibin .mul .i64 (List.getD a 3 0) (List.getD b 3 0))) (ibin .mul .i64 (List.getD a 4 0) (List.getD b 2 0))) (ibin .mul .i64 (List.getD a 5 0) (List.getD b 1 0))) (ibin .mul .i64 (List.getD a 6 0) (List.getD b 0 0))), (ibin .add .i64 (ibin .add .i64 (ibin .add .i64 (ibin .add .i64 (ibin .add .i64 (ibin .add .i64 (ibin .add .i64 (ibin .add .i64 0 (ibin .mul .i64 (List.getD a 0 0) (List.getD b 7 0))) (ibin .mul .i64 (List.getD a 1 0) (List.getD b 6 0))) (ibin .mul .i64 (List.getD a 2 0) (List.getD b 5 0))) (ibin .mul .i64 (List.getD a 3 0) (List.getD b 4 0))) (ibin .mul .i64 (List.getD a 4 0) (List.getD b 3 0))) (ibin .mul .i64 (List.getD a 5 0) (List.getD b 2 0))) (ibin .mul .i64 (List.getD a 6 0) (List.getD b 1 0))) (ibin .mul .i64 (List.getD a 7 0) (List.getD b 0 0))), (ibin .add .i64 (ibin .add .i64 (ibin .add .i64 (ibin .add .i64 (ibin .add .i64 (ibin .add .i64 (ibin .add .i64 (ibin .add .i64 (ibin .add .i64 0 (ibin .mul .i64 (List.getD a 0 0) (List.getD b 8 0))) (ibin .mul .i64 (List.getD a 1 0) (List.getD b 7 0))) (ibin .mul .i64 (List.getD a 2 0) (List.getD b 6 0))) (ibin .mul .i64 (List.getD a 3 0) (List.getD b 5 0))) (ibin .mul .i64 (List.getD a 4 0) (List.getD b 4 0))) (ibin .mul .i64 (List.getD a 5 0) (List.getD b 3 0))) (ibin .mul .i64 (List.getD a 6 0) (List.getD b 2 0))) (ibin .mul .i64 (List.getD a 7 0) (List.getD b 1 0))) (ibin .mul .i64 (List.getD a 8 0) (List.getD b 0 0))), (ibin .add .i64 (ibin .add .i64 (ibin .add .i64 (ibin .add .i64 (ibin .add .i64 (ibin .add .i64 (ibin .add .i64 (ibin .add .i64 (ibin .add .i64 (ibin .add .i64 0 (ibin .mul .i64 (List.getD a 0 0) (List.getD b 9 0))) (ibin .mul .i64 (List.getD a 1 0) (List.getD b 8 0))) (ibin .mul .i64 (List.getD a 2 0) (List.getD b 7 0))) (ibin .mul .i64 (List.getD a 3 0) (List.getD b 6 0))) (ibin .mul .i64 (List.getD a 4 0) (List.getD b 5 0))) (ibin .mul .i64 (List.getD a 5 0) (List.getD b 4 0))) (ibin .mul .i64 (List.getD a 6 0) (List.getD b 3 0))) (ibin .mul .i64 (List.getD a 7 0) (List.getD b 2 0))) (ibin .mul .i64 (List.getD a 8 0) (List.getD b 1 0))) (ibin .mul .i64 (List.getD a 9 0) (List.getD b 0 0))), (ibin .add .i64 (ibin .add .i64 (ibin .add .i64 (ibin .add .i64 (ibin .add .i64 (ibin .add .i64 (ibin .add .i64 (ibin .add .i64 (ibin .add .i64 0 (ibin .mul .i64 (List.getD a 1 0) (List.getD b 9 0))) (ibin .mul .i64 (List.getD a 2 0) (List.getD b 8 0))) (ibin .mul .i64 (List.getD a 3 0) (List.getD b 7 0))) (ibin .mul .i64 (List.getD a 4 0) (List.getD b 6 0))) (ibin .mul .i64 (List.getD a 5 0) (List.getD b 5 0))) (ibin .mul .i64 (List.getD a 6 0) (List.getD b 4 0))) (ibin .mul .i64 (List.getD a 7 0) (List.getD b 3 0))) (ibin .mul .i64 (List.getD a 8 0) (List.getD b 2 0))) (ibin .mul .i64 (List.getD a 9 0) (List.getD b 1 0))), (ibin .add .i64 (ibin .add .i64 (ibin .add .i64 (ibin .add .i64 (ibin .add .i64 (ibin .add .i64 (ibin .add .i64 (ibin .add .i64 0 (ibin .mul .i64 (List.getD a 2 0) (List.getD b 9 0))) (ibin .mul .i64 (List.getD a 3 0) (List.getD b 8 0))) (ibin .mul .i64 (List.getD a 4 0) (List.getD b 7 0))) (ibin .mul .i64 (List.getD a 5 0) (List.getD b 6 0))) (ibin .mul .i64 (List.getD a 6 0) (List.getD b 5 0))) (ibin .mul .i64 (List.getD a 7 0) (List.getD b 4 0))) (ibin .mul .i64 (List.getD a 8 0) (List.getD b 3 0))) (ibin .mul .i64 (List.getD a 9 0) (List.getD b 2 0))), (ibin .add .i64 (ibin .add .i64 (ibin .add .i64 (ibin .add .i64 (ibin .add .i64 (ibin .add .i64 (ibin .add .i64 0 (ibin .mul .i64 (List.getD a 3 0) (List.getD b 9 0))) (ibin .mul .i64 (List.getD a 4 0) (List.getD b 8 0))) (ibin .mul .i64 (List.getD a 5 0) (List.getD b 7 0))) (ibin .mul .i64 (List.getD a 6 0) (List.getD b 6 0))) (ibin .mul .i64 (List.getD a 7 0) (List.getD b 5 0))) (ibin .mul .i64 (List.getD a 8 0) (List.getD b 4 0))) (ibin .mul .i64 (List.getD a 9 0) (List.getD b 3 0))), (ibin .add .i64 (ibin .add .i64 (ibin .add .i64 (ibin .add .i64 (ibin .add .i64 (ibin .add .i64 0 (ibin .mul .i64 (List.getD a 4 0) (List.getD b 9 0))) (ibin .mul .i64 (List.getD a 5 0) (List.getD b 8 0))) (ibin .mul .i64 (List.getD a 6 0) (List.getD b 7 0))) (ibin .mul .i64 (List.getD a 7 0) (List.getD b 6 0))) (ibin .mul .i64 (List.getD a 8 0) (List.getD b 5 0))) (ibin .mul .i64 (List.getD a 9 0) (List.getD b 4 0))), (ibin .add .i64 (ibin .add .i64 (ibin .add .i64 (ibin .add .i64 (ibin .add .i64 0 (ibin .mul .i64 (List.getD a 5 0) (List.getD b 9 0))) (ibin .mul .i64 (List.getD a 6 0) (List.getD b 8 0))) (ibin .mul .i64 (List.getD a 7 0) (List.getD b 7 0))) (ibin .mul .i64 (List.getD a 8 0) (List.getD b 6 0))) (ibin .mul .i64 (List.getD a 9 0) (List.getD b 5 0))), (ibin .add .i64 (ibin .add .i64 (ibin .add .i64 (ibin .add .i64 0 (ibin .mul .i64 (List.getD a 6 0) (List.getD b 9 0))) (ibin .mul .i64 (List.getD a 7 0) (List.getD b 8 0))) (ibin .mul .i64 (List.getD a 8 0) (List.getD b 7 0))) (ibin .mul .i64 (List.getD a 9 0) (List.getD b 6 0))), (ibin .add .i64 (ibin .add .i64 (ibin .add .i64 0 (ibin .mul .i64 (List.getD a 7 0) (List.getD b 9 0))) (ibin .mul .i64 (List.getD a 8 0) (List.getD b 8 0))) (ibin .mul .i64 (List.getD a 9 0) (List.getD b 7 0))), (ibin .add .i64 (ibin .add .i64 0 (ibin .mul .i64 (List.getD a 8 0) (List.getD b 9 0))) (ibin .mul .i64 (List.getD a 9 0) (List.getD b 8 0))), (ibin .add .i64 0 (ibin .mul .i64 (List.getD a 9 0) (List.getD b 9 0))), 0]) none fun r1 =>
 some r1
def Zcb (N:Nat) (v:(Int × Unit × Unit × Unit × Unit × Int) × (LI × Unit × LI × LI)) : Option (((Int × Unit × Unit × Unit × Unit × Int) × (LI × Unit × LI × LI)) ⊕ (((Int × Unit × Unit × Unit × Unit) × (LI × Unit × LI × LI)) ⊕ (Unit × Unit))) :=
 cond (icmp .lss v.1.2.2.2.2.2 (ibin .quo .i64 v.1.1 2)) (
 mo (Zab N v.2.2.2.2 v.2.2.2.2) none fun r11 =>
 some (.inl ((v.1.1, (), (), (), (), (ibin .add .i64 v.1.2.2.2.2.2 1)), (v.2.1, (), v.2.2.2.1, r11)))
 ) (
 some (.inr (.inl ((v.1.1, (), (), (), ()), (v.2.1, (), v.2.2.2.1, v.2.2.2.2))))
 )
def Zdm (rec:LI → Int → Option (LI)) (N:Nat) (a:LI) (b:Int) : Option (LI) :=
 cond (icmp .eql b 1) (
 some a
 ) (
 mo (rec a (ibin .quo .i64 b 2)) none fun r1 =>
 mo (loopF (Zcb N) N ((b, (), (), (), (), 0), (a, (), r1, r1))) none fun r12 =>
 match r12 with
 | .inl u13 => (
 mo (Zab N u13.2.2.2.2 u13.2.2.2.1) none fun r14 =>
 cond (icmp .eql (ibin .rem .i64 u13.1.1 2) 1) (
 mo (Zab N r14 r14) none fun r15 =>
 mo (Zab N r15 u13.2.1) none fun r16 =>
 some r16
 ) (
 some r14
 )
 )
 | .inr _ => (
 none
 )
 )
def Zdd (N:Nat) : Nat → LI → Int → Option (LI)
 | 0 => fun _ _ => none
 | m + 1 => Zdm (Zdd N m) N
def Zfy (N:Nat) (a:LI) (b:Int) : Option (LI) := Zdd N N a b
def Zb3 (N:Nat) (a:LI) : Option (LI) :=
 mo (Zfy N a 250) none fun r1 =>
 mo (Zab N r1 r1) none fun r2 =>
 mo (Zab N r2 r2) none fun r3 =>
 mo (Zab N r3 r3) none fun r4 =>
 mo (Zab N r4 r4) none fun r5 =>
 mo (Zab N r5 r5) none fun r6 =>
 mo (Zab N a a) none fun r7 =>
 mo (Zab N r7 r7) none fun r8 =>
 mo (Zab N r8 r7) none fun r9 =>
 mo (Zab N r9 r7) none fun r10 =>
 mo (Zab N r6 r10) none fun r11 =>
 mo (Zab N r11 r7) none fun r12 =>
 mo (Zab N r12 a) none fun r13 =>
 some r13
def Zbw (a:LI) : Bool :=
 (icmp .eql (ibin .and .i64 (List.getD a 0 0) 1) 1)
def Zct (a:LI) : LI :=
 cond (icmp .eql (ibin .and .i64 (List.getD a 0 0) 1) 1) (
 (ZaY a)
 ) (
 a
 )
def ZiA (a:LI) : Option (LI) :=
 cond (icmp .eql (ibin .and .i64 (List.getD a 0 0) 1) 1) (
 some (ZaY a)
 ) (
 some a
 )
theorem Zrc (a:LI) : ZiA a = some (Zct a) := by
 unfold ZiA Zct
 repeat' (first | refine Zk5 ?_ ?_ | rfl)
def Zf3  : LI :=
 [34513072, 59165138, 38243406, 1750207, 53429016, 58652137, 13633939, 58469549, 8409025, 712905]
def Zcj  : LI :=
 [56195235, 47411844, 25868126, 20251911, 28682, 31357478, 7604119, 66702899, 15608687, 1343707]
def Zep (N:Nat) (a:LI) : Option ((LI × Bool)) :=
 mo (Zfy N a 251) none fun r1 =>
 mo (Zab N r1 r1) none fun r2 =>
 mo (Zab N r2 r2) none fun r3 =>
 cond (decide (r3 = a)) (
 some ((Zct r2), true)
 ) (
 mo (Zab N r2 Zf3) none fun r4 =>
 mo (Zab N r4 r4) none fun r5 =>
 cond (decide (r5 = a)) (
 some ((Zct r4), true)
 ) (
 mo (Zab N r4 Zf3) none fun r6 =>
 some ([0, 0, 0, 0, 0, 0, 0, 0, 0, 0], false)
 )
 )
def Zdc (N:Nat) (a:LI) (b:LI) : Option ((LI × Bool)) :=
 cond (decide (a = [0, 0, 0, 0, 0, 0, 0, 0, 0, 0])) (
 some ([0, 0, 0, 0, 0, 0, 0, 0, 0, 0], true)
 ) (
 cond (decide (b = [0, 0, 0, 0, 0, 0, 0, 0, 0, 0])) (
 some ([0, 0, 0, 0, 0, 0, 0, 0, 0, 0], false)
 ) (
 mo (Zb3 N b) none fun r1 =>
 mo (Zab N a r1) none fun r2 =>
 mo (Zep N r2) none fun r3 =>
 cond r3.2 (
 some (r3.1, true)
 ) (
 mo (Zab N r2 Zf3) none fun r4 =>
 mo (Zep N r4) none fun r5 =>
 some (r5.1, false)
 )
 )
 )
def Zca (N:Nat) (v:(Unit × Unit × Unit × Int) × (LI × Unit × LI)) : Option (((Unit × Unit × Unit × Int) × (LI × Unit × LI)) ⊕ (((Unit × Unit) × (Unit × LI)) ⊕ (Unit × Unit))) :=
 cond (icmp .lss v.1.2.2.2 255) (
 let x1 := (ibin .quo .i64 v.1.2.2.2 26)
 cond (decide ((0 : Int) ≤ x1 ∧ x1 < ((10 : Nat) : Int))) (
 let x2 := (ibin .rem .i64 v.1.2.2.2 26)
 cond (decide ((0 : Int) ≤ x2)) (
 cond (icmp .eql (ibin .and .i64 (ibin .shr .i64 (List.getD v.2.1 (Int.toNat x1) 0) x2) 1) 1) (
 let x3 := (ibin .quo .i64 v.1.2.2.2 8)
 let x4 := (decide ((0 : Int) ≤ x3 ∧ x3 < ((32 : Nat) : Int)))
 cond x4 (
 let x5 := (ibin .rem .i64 v.1.2.2.2 8)
 cond (decide ((0 : Int) ≤ x5)) (
 cond x4 (
 some (.inl (((), (), (), (ibin .add .i64 v.1.2.2.2 1)), (v.2.1, (), (List.set v.2.2.2 (Int.toNat x3) (ibin .add .u8 (List.getD v.2.2.2 (Int.toNat x3) 0) (ibin .shl .u8 1 x5))))))
 ) (
 none
 )
 ) (
 none
 )
 ) (
 none
 )
 ) (
 some (.inl (((), (), (), (ibin .add .i64 v.1.2.2.2 1)), (v.2.1, (), v.2.2.2)))
 )
 ) (
 none
 )
 ) (
 none
 )
 ) (
 some (.inr (.inl (((), ()), ((), v.2.2.2))))
 )
def Zcq (N:Nat) (a:LI) : Option (LI) :=
 mo (loopF (Zca N) N (((), (), (), 0), (a, (), [0, 0, 0, 0, 0, 0, 0, 0, 0, 0, 0, 0, 0, 0, 0, 0, 0, 0, 0, 0, 0, 0, 0, 0, 0, 0, 0, 0, 0, 0, 0, 0]))) none fun r5 =>
 match r5 with
 | .inl u6 => (
 some u6.2.2
 )
 | .inr _ => (
 none
 )
def ZbE (N:Nat) (v:(Nat × Unit × Unit × Int) × ((Nat × LI) × Unit × LI)) : Option (((Nat × Unit × Unit × Int) × ((Nat × LI) × Unit × LI)) ⊕ (((Unit × Unit) × (Unit × LI)) ⊕ (Unit × Unit))) :=
 cond (icmp .lss v.1.2.2.2 (ibin .mul .i64 8 ((v.1.1 : Nat) : Int))) (
 let x1 := (ibin .quo .i64 v.1.2.2.2 8)
 cond (decide ((0 : Int) ≤ x1 ∧ x1 < ((v.1.1 : Nat) : Int))) (
 let x2 := (ibin .rem .i64 v.1.2.2.2 8)
 cond (decide ((0 : Int) ≤ x2)) (
 cond (icmp .eql (ibin .and .u8 (ibin .shr .u8 (List.getD v.2.1.2 (Int.toNat x1) 0) x2) 1) 1) (
 let x3 := (ibin .quo .i64 v.1.2.2.2 26)
 let x4 := (decide ((0 : Int) ≤ x3 ∧ x3 < ((20 : Nat) : Int)))
 cond x4 (
 let x5 := (ibin .rem .i64 v.1.2.2.2 26)
 cond (decide ((0 : Int) ≤ x5)) (
 cond x4 (
 some (.inl ((v.1.1, (), (), (ibin .add .i64 v.1.2.2.2 1)), ((v.2.1.1, v.2.1.2), (), (List.set v.2.2.2 (Int.toNat x3) (ibin .add .i64 (List.getD v.2.2.2 (Int.toNat x3) 0) (ibin .shl .i64 1 x5))))))
 ) (
 none
 )
 ) (
 none
 )
 ) (
 none
 )
 ) (
 some (.inl ((v.1.1, (), (), (ibin .add .i64 v.1.2.2.2 1)), ((v.2.1.1, v.2.1.2), (), v.2.2.2)))
 )
 ) (
 none
 )
 ) (
 none
 )
 ) (
 some (.inr (.inl (((), ()), ((), v.2.2.2))))
 )
def Zee (N:Nat) (a:((Nat × LI) × Unit)) : Option (LI) :=
 mo (loopF (ZbE N) N ((a.1.1, (), (), 0), ((a.1.1, a.1.2), (), [0, 0, 0, 0, 0, 0, 0, 0, 0, 0, 0, 0, 0, 0, 0, 0, 0, 0, 0, 0]))) none fun r9 =>
 match r9 with
 | .inl u10 => (
 mo (Zbq N u10.2.2) none fun r11 =>
 some r11
 )
 | .inr _ => (
 none
 )
def Zed (N:Nat) (a:LI) : Option ((LI × Int)) :=
 mo (Zee N ((32, a), ())) none fun r1 =>
 mo (Zcq N r1) none fun r2 =>
 cond (!(decide (r2 = a))) (
 some ([0, 0, 0, 0, 0, 0, 0, 0, 0, 0], 3)
 ) (
 some (r1, 0)
 )
def Zcm (N:Nat) (v:(Unit × Unit × Unit × Int) × (LI × Unit × LI)) : Option (((Unit × Unit × Unit × Int) × (LI × Unit × LI)) ⊕ (((Unit × Unit) × (Unit × LI)) ⊕ (Unit × Unit))) :=
 cond (icmp .lss v.1.2.2.2 255) (
 let x1 := (ibin .quo .i64 v.1.2.2.2 26)
 cond (decide ((0 : Int) ≤ x1 ∧ x1 < ((10 : Nat) : Int))) (
 let x2 := (ibin .rem .i64 v.1.2.2.2 26)
 cond (decide ((0 : Int) ≤ x2)) (
 cond (icmp .eql (ibin .and .i64 (ibin .shr .i64 (List.getD v.2.1 (Int.toNat x1) 0) x2) 1) 1) (
 let x3 := (ibin .quo .i64 v.1.2.2.2 51)
 let x4 := (decide ((0 : Int) ≤ x3 ∧ x3 < ((5 : Nat) : Int)))
 cond x4 (
 let x5 := (ibin .rem .i64 v.1.2.2.2 51)
 cond (decide ((0 : Int) ≤ x5)) (
 cond x4 (
 some (.inl (((), (), (), (ibin .add .i64 v.1.2.2.2 1)), (v.2.1, (), (List.set v.2.2.2 (Int.toNat x3) (ibin .add .u64 (List.getD v.2.2.2 (Int.toNat x3) 0) (ibin .shl .u64 1 x5))))))
 ) (
 none
 )
 ) (
 none
 )
 ) (
 none
 )
 ) (
 some (.inl (((), (), (), (ibin .add .i64 v.1.2.2.2 1)), (v.2.1, (), v.2.2.2)))
 )
 ) (
 none
 )
 ) (
 none
 )
 ) (
 some (.inr (.inl (((), ()), ((), v.2.2.2))))
 )
def Zch (N:Nat) (a:LI) : Option (LI) :=
 mo (loopF (Zcm N) N (((), (), (), 0), (a, (), [0, 0, 0, 0, 0]))) none fun r5 =>
 match r5 with
 | .inl u6 => (
 some u6.2.2
 )
 | .inr _ => (
 none
 )
def Zak  : (LI × LI) :=
 ([0, 0, 0, 0, 0, 0, 0, 0, 0, 0], [1, 0, 0, 0, 0, 0, 0, 0, 0, 0])
def ZbC (N:Nat) (a:(LI × LI)) (b:(LI × LI)) : Option ((LI × LI)) :=
 mo (Zab N a.1 b.2) none fun r1 =>
 mo (Zab N a.2 b.1) none fun r2 =>
 mo (Zab N a.1 b.1) none fun r3 =>
 mo (Zab N a.2 b.2) none fun r4 =>
 mo (Zab N Zcj r3) none fun r5 =>
 mo (Zab N r5 r4) none fun r6 =>
 mo (Zad N [1, 0, 0, 0, 0, 0, 0, 0, 0, 0] r6) none fun r7 =>
 mo (ZcS N [1, 0, 0, 0, 0, 0, 0, 0, 0, 0] r6) none fun r8 =>
 mo (Zab N r7 r8) none fun r9 =>
 mo (Zb3 N r9) none fun r10 =>
 mo (Zad N r1 r2) none fun r11 =>
 mo (Zab N r11 r8) none fun r12 =>
 mo (Zab N r12 r10) none fun r13 =>
 mo (Zad N r4 r3) none fun r14 =>
 mo (Zab N r14 r7) none fun r15 =>
 mo (Zab N r15 r10) none fun r16 =>
 some (r13, r16)
def Ze4 (N:Nat) (a:LI) : Option ((LI × Bool)) :=
 mo (Zab N a a) none fun r1 =>
 mo (ZcS N r1 [1, 0, 0, 0, 0, 0, 0, 0, 0, 0]) none fun r2 =>
 mo (Zab N Zcj r1) none fun r3 =>
 mo (Zad N r3 [1, 0, 0, 0, 0, 0, 0, 0, 0, 0]) none fun r4 =>
 mo (Zdc N r2 r4) none fun r5 =>
 some (r5.1, r5.2)
def Zdi (N:Nat)  : Option ((LI × LI)) :=
 mo (Zae N 4) none fun r1 =>
 mo (Zae N 5) none fun r2 =>
 mo (Zb3 N r2) none fun r3 =>
 mo (Zab N r1 r3) none fun r4 =>
 mo (Ze4 N r4) none fun r5 =>
 some (r5.1, r4)
def Za4 (a:(LI × LI)) : (LI × LI) :=
 ((ZaY a.1), a.2)
def Zbc (N:Nat) (v:(Int × Unit × Unit × Unit × Int) × (Unit × Unit × (LI × LI) × (LI × LI))) : Option (((Int × Unit × Unit × Unit × Int) × (Unit × Unit × (LI × LI) × (LI × LI))) ⊕ (((Unit × Unit) × (Unit × Unit × (LI × LI))) ⊕ (Unit × Unit))) :=
 cond (icmp .lss v.1.2.2.2.2 (ibin .rem .i64 (ibin .add .i64 (ibin .rem .i64 v.1.1 8) 8) 8)) (
 mo (ZbC N (v.2.2.2.2.1, v.2.2.2.2.2) (v.2.2.2.1.1, v.2.2.2.1.2)) none fun r473 =>
 some (.inl ((v.1.1, (), (), (), (ibin .add .i64 v.1.2.2.2.2 1)), ((), (), (v.2.2.2.1.1, v.2.2.2.1.2), (r473.1, r473.2))))
 ) (
 some (.inr (.inl (((), ()), ((), (), (v.2.2.2.2.1, v.2.2.2.2.2)))))
 )
set_option maxRecDepth 100000 in
def Zew (N:Nat) (a:Int) : Option ((LI × LI)) :=
 mo (Zae N 10) none fun r1 =>
 mo (Zab N [0, 0, 0, 0, 0, 0, 0, 0, 0, 0] r1) none fun r2 =>
 mo (Zae N 1) none fun r3 =>
 mo (Zad N r2 r3) none fun r4 =>
 mo (Zab N r4 r1) none fun r5 =>
 mo (Zae N 4) none fun r6 =>
 mo (Zad N r5 r6) none fun r7 =>
 mo (Zab N r7 r1) none fun r8 =>
 mo (Zae N 3) none fun r9 =>
 mo (Zad N r8 r9) none fun r10 =>
 mo (Zab N r10 r1) none fun r11 =>
 mo (Zae N 9) none fun r12 =>
 mo (Zad N r11 r12) none fun r13 =>
 mo (Zab N r13 r1) none fun r14 =>
 mo (Zae N 9) none fun r15 =>
 mo (Zad N r14 r15) none fun r16 =>
 mo (Zab N r16 r1) none fun r17 =>
 mo (Zae N 3) none fun r18 =>
 mo (Zad N r17 r18) none fun r19 =>
 mo (Zab N r19 r1) none fun r20 =>
 mo (Zae N 1) none fun r21 =>
 mo (Zad N r20 r21) none fun r22 =>
 mo (Zab N r22 r1) none fun r23 =>
 mo (Zae N 7) none fun r24 =>
 mo (Zad N r23 r24) none fun r25 =>
 mo (Zab N r25 r1) none fun r26 =>
 mo (Zae N 8) none fun r27 =>
 mo (Zad N r26 r27) none fun r28 =>
 mo (Zab N r28 r1) none fun r29 =>
 mo (Zae N 6) none fun r30 =>
 mo (Zad N r29 r30) none fun r31 =>
 mo (Zab N r31 r1) none fun r32 =>
 mo (Zae N 8) none fun r33 =>
 mo (Zad N r32 r33) none fun r34 =>
 mo (Zab N r34 r1) none fun r35 =>
 mo (Zae N 2) none fun r36 =>
 mo (Zad N r35 r36) none fun r37 =>
 mo (Zab N r37 r1) none fun r38 =>
 mo (Zae N 0) none fun r39 =>
 mo (Zad N r38 r39) none fun r40 =>
 mo (Zab N r40 r1) none fun r41 =>
 mo (Zae N 0) none fun r42 =>
 mo (Zad N r41 r42) none fun r43 =>
 mo (Zab N r43 r1) none fun r44 =>
 mo (Zae N 1) none fun r45 =>
 mo (Zad N r44 r45) none fun r46 =>
 mo (Zab N r46 r1) none fun r47 =>
 mo (Zae N 1) none fun r48 =>
 mo (Zad N r47 r48) none fun r49 =>
 mo (Zab N r49 r1) none fun r50 =>
 mo (Zae N 8) none fun r51 =>
 mo (Zad N r50 r51) none fun r52 =>
 mo (Zab N r52 r1) none fun r53 =>
 mo (Zae N 2) none fun r54 =>
 mo (Zad N r53 r54) none fun r55 =>
 mo (Zab N r55 r1) none fun r56 =>
 mo (Zae N 6) none fun r57 =>
 mo (Zad N r56 r57) none fun r58 =>
 mo (Zab N r58 r1) none fun r59 =>
 mo (Zae N 0) none fun r60 =>
 mo (Zad N r59 r60) none fun r61 =>
 mo (Zab N r61 r1) none fun r62 =>
 mo (Zae N 3) none fun r63 =>
 mo (Zad N r62 r63) none fun r64 =>
 mo (Zab N r64 r1) none fun r65 =>
 mo (Zae N 4) none fun r66 =>
 mo (Zad N r65 r66) none fun r67 =>
 mo (Zab N r67 r1) none fun r68 =>
 mo (Zae N 7) none fun r69 =>
 mo (Zad N r68 r69) none fun r70 =>
 mo (Zab N r70 r1) none fun r71 =>
 mo (Zae N 9) none fun r72 =>
 mo (Zad N r71 r72) none fun r73 =>
 mo (Zab N r73 r1) none fun r74 =>
 mo (Zae N 3) none fun r75 =>
 mo (Zad N r74 r75) none fun r76 =>
 mo (Zab N r76 r1) none fun r77 =>
 mo (Zae N 4) none fun r78 =>
 mo (Zad N r77 r78) none fun r79 =>
 mo (Zab N r79 r1) none fun r80 =>
 mo (Zae N 3) none fun r81 =>
 mo (Zad N r80 r81) none fun r82 =>
 mo (Zab N r82 r1) none fun r83 =>
 mo (Zae N 2) none fun r84 =>
 mo (Zad N r83 r84) none fun r85 =>
 mo (Zab N r85 r1) none fun r86 =>
 mo (Zae N 0) none fun r87 =>
 mo (Zad N r86 r87) none fun r88 =>
 mo (Zab N r88 r1) none fun r89 =>
 mo (Zae N 5) none fun r90 =>
 mo (Zad N r89 r90) none fun r91 =>
 mo (Zab N r91 r1) none fun r92 =>
 mo (Zae N 2) none fun r93 =>
 mo (Zad N r92 r93) none fun r94 =>
 mo (Zab N r94 r1) none fun r95 =>
 mo (Zae N 7) none fun r96 =>
 mo (Zad N r95 r96) none fun r97 =>
 mo (Zab N r97 r1) none fun r98 =>
 mo (Zae N 2) none fun r99 =>
 mo (Zad N r98 r99) none fun r100 =>
 mo (Zab N r100 r1) none fun r101 =>
 mo (Zae N 3) none fun r102 =>
 mo (Zad N r101 r102) none fun r103 =>
 mo (Zab N r103 r1) none fun r104 =>
 mo (Zae N 2) none fun r105 =>
 mo (Zad N r104 r105) none fun r106 =>
 mo (Zab N r106 r1) none fun r107 =>
 mo (Zae N 5) none fun r108 =>
 mo (Zad N r107 r108) none fun r109 =>
 mo (Zab N r109 r1) none fun r110 =>
 mo (Zae N 8) none fun r111 =>
 mo (Zad N r110 r111) none fun r112 =>
 mo (Zab N r112 r1) none fun r113 =>
 mo (Zae N 0) none fun r114 =>
 mo (Zad N r113 r114) none fun r115 =>
 mo (Zab N r115 r1) none fun r116 =>
 mo (Zae N 6) none fun r117 =>
 mo (Zad N r116 r117) none fun r118 =>
 mo (Zab N r118 r1) none fun r119 =>
 mo (Zae N 1) none fun r120 =>
 mo (Zad N r119 r120) none fun r121 =>
 mo (Zab N r121 r1) none fun r122 =>
 mo (Zae N 8) none fun r123 =>
 mo (Zad N r122 r123) none fun r124 =>
 mo (Zab N r124 r1) none fun r125 =>
 mo (Zae N 8) none fun r126 =>
 mo (Zad N r125 r126) none fun r127 =>
 mo (Zab N r127 r1) none fun r128 =>
 mo (Zae N 2) none fun r129 =>
 mo (Zad N r128 r129) none fun r130 =>
 mo (Zab N r130 r1) none fun r131 =>
 mo (Zae N 3) none fun r132 =>
 mo (Zad N r131 r132) none fun r133 =>
 mo (Zab N r133 r1) none fun r134 =>
 mo (Zae N 9) none fun r135 =>
 mo (Zad N r134 r135) none fun r136 =>
 mo (Zab N r136 r1) none fun r137 =>
 mo (Zae N 7) none fun r138 =>
 mo (Zad N r137 r138) none fun r139 =>
 mo (Zab N r139 r1) none fun r140 =>
 mo (Zae N 1) none fun r141 =>
 mo (Zad N r140 r141) none fun r142 =>
 mo (Zab N r142 r1) none fun r143 =>
 mo (Zae N 1) none fun r144 =>
 mo (Zad N r143 r144) none fun r145 =>
 mo (Zab N r145 r1) none fun r146 =>
 mo (Zae N 9) none fun r147 =>
 mo (Zad N r146 r147) none fun r148 =>
 mo (Zab N r148 r1) none fun r149 =>
 mo (Zae N 4) none fun r150 =>
 mo (Zad N r149 r150) none fun r151 =>
 mo (Zab N r151 r1) none fun r152 =>
 mo (Zae N 3) none fun r153 =>
 mo (Zad N r152 r153) none fun r154 =>
 mo (Zab N r154 r1) none fun r155 =>
 mo (Zae N 4) none fun r156 =>
 mo (Zad N r155 r156) none fun r157 =>
 mo (Zab N r157 r1) none fun r158 =>
 mo (Zae N 5) none fun r159 =>
 mo (Zad N r158 r159) none fun r160 =>
 mo (Zab N r160 r1) none fun r161 =>
 mo (Zae N 2) none fun r162 =>
 mo (Zad N r161 r162) none fun r163 =>
 mo (Zab N r163 r1) none fun r164 =>
 mo (Zae N 6) none fun r165 =>
 mo (Zad N r164 r165) none fun r166 =>
 mo (Zab N r166 r1) none fun r167 =>
 mo (Zae N 1) none fun r168 =>
 mo (Zad N r167 r168) none fun r169 =>
 mo (Zab N r169 r1) none fun r170 =>
 mo (Zae N 2) none fun r171 =>
 mo (Zad N r170 r171) none fun r172 =>
 mo (Zab N r172 r1) none fun r173 =>
 mo (Zae N 1) none fun r174 =>
 mo (Zad N r173 r174) none fun r175 =>
 mo (Zab N r175 r1) none fun r176 =>
 mo (Zae N 4) none fun r177 =>
 mo (Zad N r176 r177) none fun r178 =>
 mo (Zab N r178 r1) none fun r179 =>
 mo (Zae N 2) none fun r180 =>
 mo (Zad N r179 r180) none fun r181 =>
 mo (Zab N r181 r1) none fun r182 =>
 mo (Zae N 1) none fun r183 =>
 mo (Zad N r182 r183) none fun r184 =>
 mo (Zab N r184 r1) none fun r185 =>
 mo (Zae N 7) none fun r186 =>
 mo (Zad N r185 r186) none fun r187 =>
 mo (Zab N r187 r1) none fun r188 =>
 mo (Zae N 5) none fun r189 =>
 mo (Zad N r188 r189) none fun r190 =>
 mo (Zab N r190 r1) none fun r191 =>
 mo (Zae N 7) none fun r192 =>
 mo (Zad N r191 r192) none fun r193 =>
 mo (Zab N r193 r1) none fun r194 =>
 mo (Zae N 5) none fun r195 =>
 mo (Zad N r194 r195) none fun r196 =>
 mo (Zab N r196 r1) none fun r197 =>
 mo (Zae N 4) none fun r198 =>
 mo (Zad N r197 r198) none fun r199 =>
 mo (Zab N r199 r1) none fun r200 =>
 mo (Zae N 1) none fun r201 =>
 mo (Zad N r200 r201) none fun r202 =>
 mo (Zab N r202 r1) none fun r203 =>
 mo (Zae N 6) none fun r204 =>
 mo (Zad N r203 r204) none fun r205 =>
 mo (Zab N r205 r1) none fun r206 =>
 mo (Zae N 7) none fun r207 =>
 mo (Zad N r206 r207) none fun r208 =>
 mo (Zab N r208 r1) none fun r209 =>
 mo (Zae N 8) none fun r210 =>
 mo (Zad N r209 r210) none fun r211 =>
 mo (Zab N r211 r1) none fun r212 =>
 mo (Zae N 8) none fun r213 =>
 mo (Zad N r212 r213) none fun r214 =>
 mo (Zab N r214 r1) none fun r215 =>
 mo (Zae N 7) none fun r216 =>
 mo (Zad N r215 r216) none fun r217 =>
 mo (Zab N r217 r1) none fun r218 =>
 mo (Zae N 9) none fun r219 =>
 mo (Zad N r218 r219) none fun r220 =>
 mo (Zab N r220 r1) none fun r221 =>
 mo (Zae N 9) none fun r222 =>
 mo (Zad N r221 r222) none fun r223 =>
 mo (Zab N r223 r1) none fun r224 =>
 mo (Zae N 8) none fun r225 =>
 mo (Zad N r224 r225) none fun r226 =>
 mo (Zab N r226 r1) none fun r227 =>
 mo (Zae N 1) none fun r228 =>
 mo (Zad N r227 r228) none fun r229 =>
 mo (Zab N r229 r1) none fun r230 =>
 mo (Zae N 8) none fun r231 =>
 mo (Zad N r230 r231) none fun r232 =>
 mo (Zae N 10) none fun r233 =>
 mo (Zab N [0, 0, 0, 0, 0, 0, 0, 0, 0, 0] r233) none fun r234 =>
 mo (Zae N 2) none fun r235 =>
 mo (Zad N r234 r235) none fun r236 =>
 mo (Zab N r236 r233) none fun r237 =>
 mo (Zae N 7) none fun r238 =>
 mo (Zad N r237 r238) none fun r239 =>
 mo (Zab N r239 r233) none fun r240 =>
 mo (Zae N 0) none fun r241 =>
 mo (Zad N r240 r241) none fun r242 =>
 mo (Zab N r242 r233) none fun r243 =>
 mo (Zae N 7) none fun r244 =>
 mo (Zad N r243 r244) none fun r245 =>
 mo (Zab N r245 r233) none fun r246 =>
 mo (Zae N 3) none fun r247 =>
 mo (Zad N r246 r247) none fun r248 =>
 mo (Zab N r248 r233) none fun r249 =>
 mo (Zae N 8) none fun r250 =>
 mo (Zad N r249 r250) none fun r251 =>
 mo (Zab N r251 r233) none fun r252 =>
 mo (Zae N 5) none fun r253 =>
 mo (Zad N r252 r253) none fun r254 =>
 mo (Zab N r254 r233) none fun r255 =>
 mo (Zae N 5) none fun r256 =>
 mo (Zad N r255 r256) none fun r257 =>
 mo (Zab N r257 r233) none fun r258 =>
 mo (Zae N 0) none fun r259 =>
 mo (Zad N r258 r259) none fun r260 =>
 mo (Zab N r260 r233) none fun r261 =>
 mo (Zae N 1) none fun r262 =>
 mo (Zad N r261 r262) none fun r263 =>
 mo (Zab N r263 r233) none fun r264 =>
 mo (Zae N 1) none fun r265 =>
 mo (Zad N r264 r265) none fun r266 =>
 mo (Zab N r266 r233) none fun r267 =>
 mo (Zae N 4) none fun r268 =>
 mo (Zad N r267 r268) none fun r269 =>
 mo (Zab N r269 r233) none fun r270 =>
 mo (Zae N 4) none fun r271 =>
 mo (Zad N r270 r271) none fun r272 =>
 mo (Zab N r272 r233) none fun r273 =>
 mo (Zae N 8) none fun r274 =>
 mo (Zad N r273 r274) none fun r275 =>
 mo (Zab N r275 r233) none fun r276 =>
 mo (Zae N 4) none fun r277 =>
 mo (Zad N r276 r277) none fun r278 =>
 mo (Zab N r278 r233) none fun r279 =>
 mo (Zae N 0) none fun r280 =>
 mo (Zad N r279 r280) none fun r281 =>
 mo (Zab N r281 r233) none fun r282 =>
 mo (Zae N 6) none fun r283 =>
 mo (Zad N r282 r283) none fun r284 =>
 mo (Zab N r284 r233) none fun r285 =>
 mo (Zae N 4) none fun r286 =>
 mo (Zad N r285 r286) none fun r287 =>
 mo (Zab N r287 r233) none fun r288 =>
 mo (Zae N 9) none fun r289 =>
 mo (Zad N r288 r289) none fun r290 =>
 mo (Zab N r290 r233) none fun r291 =>
 mo (Zae N 3) none fun r292 =>
 mo (Zad N r291 r292) none fun r293 =>
 mo (Zab N r293 r233) none fun r294 =>
 mo (Zae N 1) none fun r295 =>
 mo (Zad N r294 r295) none fun r296 =>
 mo (Zab N r296 r233) none fun r297 =>
 mo (Zae N 8) none fun r298 =>
 mo (Zad N r297 r298) none fun r299 =>
 mo (Zab N r299 r233) none fun r300 =>
 mo (Zae N 2) none fun r301 =>
 mo (Zad N r300 r301) none fun r302 =>
 mo (Zab N r302 r233) none fun r303 =>
 mo (Zae N 2) none fun r304 =>
 mo (Zad N r303 r304) none fun r305 =>
 mo (Zab N r305 r233) none fun r306 =>
 mo (Zae N 5) none fun r307 =>
 mo (Zad N r306 r307) none fun r308 =>
 mo (Zab N r308 r233) none fun r309 =>
 mo (Zae N 2) none fun r310 =>
 mo (Zad N r309 r310) none fun r311 =>
 mo (Zab N r311 r233) none fun r312 =>
 mo (Zae N 8) none fun r313 =>
 mo (Zad N r312 r313) none fun r314 =>
 mo (Zab N r314 r233) none fun r315 =>
 mo (Zae N 7) none fun r316 =>
 mo (Zad N r315 r316) none fun r317 =>
 mo (Zab N r317 r233) none fun r318 =>
 mo (Zae N 2) none fun r319 =>
 mo (Zad N r318 r319) none fun r320 =>
 mo (Zab N r320 r233) none fun r321 =>
 mo (Zae N 2) none fun r322 =>
 mo (Zad N r321 r322) none fun r323 =>
 mo (Zab N r323 r233) none fun r324 =>
 mo (Zae N 5) none fun r325 =>
 mo (Zad N r324 r325) none fun r326 =>
 mo (Zab N r326 r233) none fun r327 =>
 mo (Zae N 6) none fun r328 =>
 mo (Zad N r327 r328) none fun r329 =>
 mo (Zab N r329 r233) none fun r330 =>
 mo (Zae N 5) none fun r331 =>
 mo (Zad N r330 r331) none fun r332 =>
 mo (Zab N r332 r233) none fun r333 =>
 mo (Zae N 8) none fun r334 =>
 mo (Zad N r333 r334) none fun r335 =>
 mo (Zab N r335 r233) none fun r336 =>
 mo (Zae N 7) none fun r337 =>
 mo (Zad N r336 r337) none fun r338 =>
 mo (Zab N r338 r233) none fun r339 =>
 mo (Zae N 8) none fun r340 =>
 mo (Zad N r339 r340) none fun r341 =>
 mo (Zab N r341 r233) none fun r342 =>
 mo (Zae N 8) none fun r343 =>
 mo (Zad N r342 r343) none fun r344 =>
 mo (Zab N r344 r233) none fun r345 =>
 mo (Zae N 9) none fun r346 =>
 mo (Zad N r345 r346) none fun r347 =>
 mo (Zab N r347 r233) none fun r348 =>
 mo (Zae N 3) none fun r349 =>
 mo (Zad N r348 r349) none fun r350 =>
 mo (Zab N r350 r233) none fun r351 =>
 mo (Zae N 6) none fun r352 =>
 mo (Zad N r351 r352) none fun r353 =>
 mo (Zab N r353 r233) none fun r354 =>
 mo (Zae N 8) none fun r355 =>
 mo (Zad N r354 r355) none fun r356 =>
 mo (Zab N r356 r233) none fun r357 =>
 mo (Zae N 0) none fun r358 =>
 mo (Zad N r357 r358) none fun r359 =>
 mo (Zab N r359 r233) none fun r360 =>
 mo (Zae N 4) none fun r361 =>
 mo (Zad N r360 r361) none fun r362 =>
 mo (Zab N r362 r233) none fun r363 =>
 mo (Zae N 2) none fun r364 =>
 mo (Zad N r363 r364) none fun r365 =>
 mo (Zab N r365 r233) none fun r366 =>
 mo (Zae N 6) none fun r367 =>
 mo (Zad N r366 r367) none fun r368 =>
 mo (Zab N r368 r233) none fun r369 =>
 mo (Zae N 7) none fun r370 =>
 mo (Zad N r369 r370) none fun r371 =>
 mo (Zab N r371 r233) none fun r372 =>
 mo (Zae N 5) none fun r373 =>
 mo (Zad N r372 r373) none fun r374 =>
 mo (Zab N r374 r233) none fun r375 =>
 mo (Zae N 7) none fun r376 =>
 mo (Zad N r375 r376) none fun r377 =>
 mo (Zab N r377 r233) none fun r378 =>
 mo (Zae N 5) none fun r379 =>
 mo (Zad N r378 r379) none fun r380 =>
 mo (Zab N r380 r233) none fun r381 =>
 mo (Zae N 3) none fun r382 =>
 mo (Zad N r381 r382) none fun r383 =>
 mo (Zab N r383 r233) none fun r384 =>
 mo (Zae N 1) none fun r385 =>
 mo (Zad N r384 r385) none fun r386 =>
 mo (Zab N r386 r233) none fun r387 =>
 mo (Zae N 3) none fun r388 =>
 mo (Zad N r387 r388) none fun r389 =>
 mo (Zab N r389 r233) none fun r390 =>
 mo (Zae N 5) none fun r391 =>
 mo (Zad N r390 r391) none fun r392 =>
 mo (Zab N r392 r233) none fun r393 =>
 mo (Zae N 1) none fun r394 =>
 mo (Zad N r393 r394) none fun r395 =>
 mo (Zab N r395 r233) none fun r396 =>
 mo (Zae N 9) none fun r397 =>
 mo (Zad N r396 r397) none fun r398 =>
 mo (Zab N r398 r233) none fun r399 =>
 mo (Zae N 4) none fun r400 =>
 mo (Zad N r399 r400) none fun r401 =>
 mo (Zab N r401 r233) none fun r402 =>
 mo (Zae N 6) none fun r403 =>
 mo (Zad N r402 r403) none fun r404 =>
 mo (Zab N r404 r233) none fun r405 =>
 mo (Zae N 3) none fun r406 =>
 mo (Zad N r405 r406) none fun r407 =>
 mo (Zab N r407 r233) none fun r408 =>
 mo (Zae N 7) none fun r409 =>
 mo (Zad N r408 r409) none fun r410 =>
 mo (Zab N r410 r233) none fun r411 =>
 mo (Zae N 4) none fun r412 =>
 mo (Zad N r411 r412) none fun r413 =>
 mo (Zab N r413 r233) none fun r414 =>
 mo (Zae N 3) none fun r415 =>
 mo (Zad N r414 r415) none fun r416 =>
 mo (Zab N r416 r233) none fun r417 =>
 mo (Zae N 6) none fun r418 =>
 mo (Zad N r417 r418) none fun r419 =>
 mo (Zab N r419 r233) none fun r420 =>
 mo (Zae N 0) none fun r421 =>
 mo (Zad N r420 r421) none fun r422 =>
 mo (Zab N r422 r233) none fun r423 =>
 mo (Zae N 9) none fun r424 =>
 mo (Zad N r423 r424) none fun r425 =>
 mo (Zab N r425 r233) none fun r426 =>
 mo (Zae N 7) none fun r427 =>
 mo (Zad N r426 r427) none fun r428 =>
 mo (Zab N r428 r233) none fun r429 =>
 mo (Zae N 5) none fun r430 =>
 mo (Zad N r429 r430) none fun r431 =>
 mo (Zab N r431 r233) none fun r432 =>
 mo (Zae N 0) none fun r433 =>
 mo (Zad N r432 r433) none fun r434 =>
 mo (Zab N r434 r233) none fun r435 =>
 mo (Zae N 3) none fun r436 =>
 mo (Zad N r435 r436) none fun r437 =>
 mo (Zab N r437 r233) none fun r438 =>
 mo (Zae N 0) none fun r439 =>
 mo (Zad N r438 r439) none fun r440 =>
 mo (Zab N r440 r233) none fun r441 =>
 mo (Zae N 3) none fun r442 =>
 mo (Zad N r441 r442) none fun r443 =>
 mo (Zab N r443 r233) none fun r444 =>
 mo (Zae N 4) none fun r445 =>
 mo (Zad N r444 r445) none fun r446 =>
 mo (Zab N r446 r233) none fun r447 =>
 mo (Zae N 0) none fun r448 =>
 mo (Zad N r447 r448) none fun r449 =>
 mo (Zab N r449 r233) none fun r450 =>
 mo (Zae N 2) none fun r451 =>
 mo (Zad N r450 r451) none fun r452 =>
 mo (Zab N r452 r233) none fun r453 =>
 mo (Zae N 0) none fun r454 =>
 mo (Zad N r453 r454) none fun r455 =>
 mo (Zab N r455 r233) none fun r456 =>
 mo (Zae N 2) none fun r457 =>
 mo (Zad N r456 r457) none fun r458 =>
 mo (Zab N r458 r233) none fun r459 =>
 mo (Zae N 2) none fun r460 =>
 mo (Zad N r459 r460) none fun r461 =>
 mo (loopF (Zbc N) N ((a, (), (), (), 0), ((), (), (r232, r461), (Zak.1, Zak.2)))) none fun r474 =>
 match r474 with
 | .inl u475 => (
 some (u475.2.2.2.1, u475.2.2.2.2)
 )
 | .inr _ => (
 none
 )
def ZiO (N:Nat) (a:LI) (b:LI) : Option (Bool) :=
 mo (Zab N a a) none fun r1 =>
 mo (Zab N b b) none fun r2 =>
 mo (ZcS N r2 r1) none fun r3 =>
 mo (Zab N Zcj r1) none fun r4 =>
 mo (Zab N r4 r2) none fun r5 =>
 mo (Zad N [1, 0, 0, 0, 0, 0, 0, 0, 0, 0] r5) none fun r6 =>
 some (decide (r3 = r6))
def Zc0 (N:Nat) (a:LI) (b:LI) : Option (((LI × LI) × Int)) :=
 mo (ZiO N a b) none fun r1 =>
 cond (!r1) (
 some ((Zak.1, Zak.2), 40)
 ) (
 some ((a, b), 0)
 )
def Zck (N:Nat) (a:LI) : Option (((LI × LI) × Int)) :=
 mo (Zed N (List.set a 31 (ibin .and .u8 (List.getD a 31 0) 127))) none fun r1 =>
 cond (icmp .neq r1.2 0) (
 some ((Zak.1, Zak.2), r1.2)
 ) (
 mo (Ze4 N r1.1) none fun r2 =>
 cond (!r2.2) (
 some ((Zak.1, Zak.2), 40)
 ) (
 let x1 := (icmp .geq (List.getD a 31 0) 128)
 cond x1 (
 cond (decide (r2.1 = [0, 0, 0, 0, 0, 0, 0, 0, 0, 0])) (
 some ((Zak.1, Zak.2), 3)
 ) (
 cond x1 (
 some (((ZaY r2.1), r1.1), 0)
 ) (
 some ((r2.1, r1.1), 0)
 )
 )
 ) (
 cond x1 (
 some (((ZaY r2.1), r1.1), 0)
 ) (
 some ((r2.1, r1.1), 0)
 )
 )
 )
 )
def ZaG (N:Nat) (a:(LI × LI × LI × LI)) (b:(LI × LI)) : Option (Bool) :=
 mo (ZcO N (a.1, a.2.1, a.2.2.1, a.2.2.2)) none fun r1 =>
 mo (Zch N b.1) none fun r2 =>
 cond (decide (r1.1 = r2)) (
 mo (Zch N b.2) none fun r3 =>
 some (decide (r1.2 = r3))
 ) (
 some false
 )
def Zg9 (N:Nat)  : Option (Bool) :=
 mo (Zdi N) none fun r1 =>
 mo (ZaG N (Zay.1, Zay.2.1, Zay.2.2.1, Zay.2.2.2) (r1.1, r1.2)) none fun r2 =>
 cond r2 (
 mo (ZaG N ([0, 0, 0, 0, 0], [0, 0, 0, 0, 0], [0, 0, 0, 0, 0], [0, 0, 0, 0, 0]) (Zak.1, Zak.2)) none fun r3 =>
 some r3
 ) (
 some false
 )
def ZaX (N:Nat) (v:(Unit × Unit × Unit × Unit × Int) × ((LI × LI × LI × LI) × LI × Unit)) : Option (((Unit × Unit × Unit × Unit × Int) × ((LI × LI × LI × LI) × LI × Unit)) ⊕ (((Unit × Unit × Unit × Int) × ((LI × LI × LI × LI) × LI × Unit)) ⊕ (Unit × Unit))) :=
 cond (icmp .geq v.1.2.2.2.2 0) (
 let x1 := (decide ((0 : Int) ≤ v.1.2.2.2.2 ∧ v.1.2.2.2.2 < ((32 : Nat) : Int)))
 cond x1 (
 let x2 := (List.getD v.2.2.1 (Int.toNat v.1.2.2.2.2) 0)
 cond (icmp .neq (ibin .and .u8 (ibin .shr .u8 x2 4) 15) 0) (
 some (.inr (.inl (((), (), (), (ibin .add .i64 (ibin .mul .i64 2 v.1.2.2.2.2) 1)), ((v.2.1.1, v.2.1.2.1, v.2.1.2.2.1, v.2.1.2.2.2), v.2.2.1, ()))))
 ) (
 cond x1 (
 cond (icmp .neq (ibin .and .u8 (ibin .shr .u8 x2 0) 15) 0) (
 some (.inr (.inl (((), (), (), (ibin .add .i64 (ibin .mul .i64 2 v.1.2.2.2.2) 0)), ((v.2.1.1, v.2.1.2.1, v.2.1.2.2.1, v.2.1.2.2.2), v.2.2.1, ()))))
 ) (
 some (.inl (((), (), (), (), (ibin .sub .i64 v.1.2.2.2.2 1)), ((v.2.1.1, v.2.1.2.1, v.2.1.2.2.1, v.2.1.2.2.2), v.2.2.1, ())))
 )
 ) (
 none
 )
 )
 ) (
 none
 )
 ) (
 some (.inr (.inl (((), (), (), (-1)), ((v.2.1.1, v.2.1.2.1, v.2.1.2.2.1, v.2.1.2.2.2), v.2.2.1, ()))))
 )
def Zbf (N:Nat) (v:(Unit × Unit × Unit × Unit × Int) × (LI × Unit × ((LI × LI × LI × LI) × (LI × LI × LI × LI) × (LI × LI × LI × LI) × (LI × LI × LI × LI) × (LI × LI × LI × LI) × (LI × LI × LI × LI) × (LI × LI × LI × LI) × (LI × LI × LI × LI) × (LI × LI × LI × LI) × (LI × LI × LI × LI) × (LI × LI × LI × LI) × (LI × LI × LI × LI) × (LI × LI × LI × LI) × (LI × LI × LI × LI) × (LI × LI × LI × LI) × (LI × LI × LI × LI)) × (LI × LI × LI × LI))) : Option (((Unit × Unit × Unit × Unit × Int) × (LI × Unit × ((LI × LI × LI × LI) × (LI × LI × LI × LI) × (LI × LI × LI × LI) × (LI × LI × LI × LI) × (LI × LI × LI × LI) × (LI × LI × LI × LI) × (LI × LI × LI × LI) × (LI × LI × LI × LI) × (LI × LI × LI × LI) × (LI × LI × LI × LI) × (LI × LI × LI × LI) × (LI × LI × LI × LI) × (LI × LI × LI × LI) × (LI × LI × LI × LI) × (LI × LI × LI × LI) × (LI × LI × LI × LI)) × (LI × LI × LI × LI))) ⊕ (((Unit × Unit) × (Unit × (LI × LI × LI × LI))) ⊕ (Unit × Unit))) :=
 cond (icmp .geq v.1.2.2.2.2 0) (
 mo (ZbL (v.2.2.2.2.1, v.2.2.2.2.2.1, v.2.2.2.2.2.2.1, v.2.2.2.2.2.2.2)) none fun r165 =>
 mo (ZbL (r165.1, r165.2.1, r165.2.2.1, r165.2.2.2)) none fun r166 =>
 mo (ZbL (r166.1, r166.2.1, r166.2.2.1, r166.2.2.2)) none fun r167 =>
 mo (ZbL (r167.1, r167.2.1, r167.2.2.1, r167.2.2.2)) none fun r168 =>
 let x1 := (ibin .quo .i64 v.1.2.2.2.2 2)
 cond (decide ((0 : Int) ≤ x1 ∧ x1 < ((32 : Nat) : Int))) (
 let x2 := (ibin .mul .i64 4 (ibin .rem .i64 v.1.2.2.2.2 2))
 cond (decide ((0 : Int) ≤ x2)) (
 let x3 := (ibin .and .u8 (ibin .shr .u8 (List.getD v.2.1 (Int.toNat x1) 0) x2) 15)
 cond (decide ((0 : Int) ≤ x3 ∧ x3 < ((16 : Nat) : Int))) (
 mo (ZaA (r168.1, r168.2.1, r168.2.2.1, r168.2.2.2) ((List.getD [v.2.2.2.1.1.1, v.2.2.2.1.2.1.1, v.2.2.2.1.2.2.1.1, v.2.2.2.1.2.2.2.1.1, v.2.2.2.1.2.2.2.2.1.1, v.2.2.2.1.2.2.2.2.2.1.1, v.2.2.2.1.2.2.2.2.2.2.1.1, v.2.2.2.1.2.2.2.2.2.2.2.1.1, v.2.2.2.1.2.2.2.2.2.2.2.2.1.1, v.2.2.2.1.2.2.2.2.2.2.2.2.2.1.1, v.2.2.2.1.2.2.2.2.2.2.2.2.2.2.1.1, v.2.2.2.1.2.2.2.2.2.2.2.2.2.2.2.1.1, v.2.2.2.1.2.2.2.2.2.2.2.2.2.2.2.2.1.1, v.2.2.2.1.2.2.2.2.2.2.2.2.2.2.2.2.2.1.1, v.2.2.2.1.2.2.2.2.2.2.2.2.2.2.2.2.2.2.1.1, v.2.2.2.1.2.2.2.2.2.2.2.2.2.2.2.2.2.2.2.1] (Int.toNat x3) []), (List.getD [v.2.2.2.1.1.2.1, v.2.2.2.1.2.1.2.1, v.2.2.2.1.2.2.1.2.1, v.2.2.2.1.2.2.2.1.2.1, v.2.2.2.1.2.2.2.2.1.2.1, v.2.2.2.1.2.2.2.2.2.1.2.1, v.2.2.2.1.2.2.2.2.2.2.1.2.1, v.2.2.2.1.2.2.2.2.2.2.2.1.2.1, v.2.2.2.1.2.2.2.2.2.2.2.2.1.2.1, v.2.2.2.1.2.2.2.2.2.2.2.2.2.1.2.1, v.2.2.2.1.2.2.2.2.2.2.2.2.2.2.1.2.1, v.2.2.2.1.2.2.2.2.2.2.2.2.2.2.2.1.2.1, v.2.2.2.1.2.2.2.2.2.2.2.2.2.2.2.2.1.2.1, v.2.2.2.1.2.2.2.2.2.2.2.2.2.2.2.2.2.1.2.1, v.2.2.2.1.2.2.2.2.2.2.2.2.2.2.2.2.2.2.1.2.1, v.2.2.2.1.2.2.2.2.2.2.2.2.2.2.2.2.2.2.2.2.1] (Int.toNat x3) []), (List.getD [v.2.2.2.1.1.2.2.1, v.2.2.2.1.2.1.2.2.1, v.2.2.2.1.2.2.1.2.2.1, v.2.2.2.1.2.2.2.1.2.2.1, v.2.2.2.1.2.2.2.2.1.2.2.1, v.2.2.2.1.2.2.2.2.2.1.2.2.1, v.2.2.2.1.2.2.2.2.2.2.1.2.2.1, v.2.2.2.1.2.2.2.2.2.2.2.1.2.2.1, v.2.2.2.1.2.2.2.2.2.2.2.2.1.2.2.1, v.2.2.2.1.2.2.2.2.2.2.2.2.2.1.2.2.1, v.2.2.2.1.2.2.2.2.2.2.2.2.2.2.1.2.2.1, v.2.2.2.1.2.2.2.2.2.2.2.2.2.2.2.1.2.2.1, v.2.2.2.1.2.2.2.2.2.2.2.2.2.2.2.2.1.2.2.1, v.2.2.2.1.2.2.2.2.2.2.2.2.2.2.2.2.2.1.2.2.1, v.2.2.2.1.2.2.2.2.2.2.2.2.2.2.2.2.2.2.1.2.2.1, v.2.2.2.1.2.2.2.2.2.2.2.2.2.2.2.2.2.2.2.2.2.1] (Int.toNat x3) []), (List.getD [v.2.2.2.1.1.2.2.2, v.2.2.2.1.2.1.2.2.2, v.2.2.2.1.2.2.1.2.2.2, v.2.2.2.1.2.2.2.1.2.2.2, v.2.2.2.1.2.2.2.2.1.2.2.2, v.2.2.2.1.2.2.2.2.2.1.2.2.2, v.2.2.2.1.2.2.2.2.2.2.1.2.2.2, v.2.2.2.1.2.2.2.2.2.2.2.1.2.2.2, v.2.2.2.1.2.2.2.2.2.2.2.2.1.2.2.2, v.2.2.2.1.2.2.2.2.2.2.2.2.2.1.2.2.2, v.2.2.2.1.2.2.2.2.2.2.2.2.2.2.1.2.2.2, v.2.2.2.1.2.2.2.2.2.2.2.2.2.2.2.1.2.2.2, v.2.2.2.1.2.2.2.2.2.2.2.2.2.2.2.2.1.2.2.2, v.2.2.2.1.2.2.2.2.2.2.2.2.2.2.2.2.2.1.2.2.2, v.2.2.2.1.2.2.2.2.2.2.2.2.2.2.2.2.2.2.1.2.2.2, v.2.2.2.1.2.2.2.2.2.2.2.2.2.2.2.2.2.2.2.2.2.2] (Int.toNat x3) []))) none fun r169 =>
 some (.inl (((), (), (), (), (ibin .sub .i64 v.1.2.2.2.2 1)), (v.2.1, (), ((v.2.2.2.1.1.1, v.2.2.2.1.1.2.1, v.2.2.2.1.1.2.2.1, v.2.2.2.1.1.2.2.2), (v.2.2.2.1.2.1.1, v.2.2.2.1.2.1.2.1, v.2.2.2.1.2.1.2.2.1, v.2.2.2.1.2.1.2.2.2), (v.2.2.2.1.2.2.1.1, v.2.2.2.1.2.2.1.2.1, v.2.2.2.1.2.2.1.2.2.1, v.2.2.2.1.2.2.1.2.2.2), (v.2.2.2.1.2.2.2.1.1, v.2.2.2.1.2.2.2.1.2.1, v.2.2.2.1.2.2.2.1.2.2.1, v.2.2.2.1.2.2.2.1.2.2.2), (v.2.2.2.1.2.2.2.2.1.1, v.2.2.2.1.2.2.2.2.1.2.1, v.2.2.2.1.2.2.2.2.1.2.2.1, v.2.2.2.1.2.2.2.2.1.2.2.2), (v.2.2.2.1.2.2.2.2.2.1.1, v.2.2.2.1.2.2.2.2.2.1.2.1, v.2.2.2.1.2.2.2.2.2.1.2.2.1, v.2.2.2.1.2.2.2.2.2.1.2.2.2), (v.2.2.2.1.2.2.2.2.2.2.1.1, v.2.2.2.1.2.2.2.2.2.2.1.2.1, v.2.2.2.1.2.2.2.2.2.2.1.2.2.1, v.2.2.2.1.2.2.2.2.2.2.1.2.2.2), (v.2.2.2.1.2.2.2.2.2.2.2.1.1, v.2.2.2.1.2.2.2.2.2.2.2.1.2.1, v.2.2.2.1.2.2.2.2.2.2.2.1.2.2.1, v.2.2.2.1.2.2.2.2.2.2.2.1.2.2.2), (v.2.2.2.1.2.2.2.2.2.2.2.2.1.1, v.2.2.2.1.2.2.2.2.2.2.2.2.1.2.1, v.2.2.2.1.2.2.2.2.2.2.2.2.1.2.2.1, v.2.2.2.1.2.2.2.2.2.2.2.2.1.2.2.2), (v.2.2.2.1.2.2.2.2.2.2.2.2.2.1.1, v.2.2.2.1.2.2.2.2.2.2.2.2.2.1.2.1, v.2.2.2.1.2.2.2.2.2.2.2.2.2.1.2.2.1, v.2.2.2.1.2.2.2.2.2.2.2.2.2.1.2.2.2), (v.2.2.2.1.2.2.2.2.2.2.2.2.2.2.1.1, v.2.2.2.1.2.2.2.2.2.2.2.2.2.2.1.2.1, v.2.2.2.1.2.2.2.2.2.2.2.2.2.2.1.2.2.1, v.2.2.2.1.2.2.2.2.2.2.2.2.2.2.1.2.2.2), (v.2.2.2.1.2.2.2.2.2.2.2.2.2.2.2.1.1, v.2.2.2.1.2.2.2.2.2.2.2.2.2.2.2.1.2.1, v.2.2.2.1.2.2.2.2.2.2.2.2.2.2.2.1.2.2.1, v.2.2.2.1.2.2.2.2.2.2.2.2.2.2.2.1.2.2.2), (v.2.2.2.1.2.2.2.2.2.2.2.2.2.2.2.2.1.1, v.2.2.2.1.2.2.2.2.2.2.2.2.2.2.2.2.1.2.1, v.2.2.2.1.2.2.2.2.2.2.2.2.2.2.2.2.1.2.2.1, v.2.2.2.1.2.2.2.2.2.2.2.2.2.2.2.2.1.2.2.2), (v.2.2.2.1.2.2.2.2.2.2.2.2.2.2.2.2.2.1.1, v.2.2.2.1.2.2.2.2.2.2.2.2.2.2.2.2.2.1.2.1, v.2.2.2.1.2.2.2.2.2.2.2.2.2.2.2.2.2.1.2.2.1, v.2.2.2.1.2.2.2.2.2.2.2.2.2.2.2.2.2.1.2.2.2), (v.2.2.2.1.2.2.2.2.2.2.2.2.2.2.2.2.2.2.1.1, v.2.2.2.1.2.2.2.2.2.2.2.2.2.2.2.2.2.2.1.2.1, v.2.2.2.1.2.2.2.2.2.2.2.2.2.2.2.2.2.2.1.2.2.1, v.2.2.2.1.2.2.2.2.2.2.2.2.2.2.2.2.2.2.1.2.2.2), (v.2.2.2.1.2.2.2.2.2.2.2.2.2.2.2.2.2.2.2.1, v.2.2.2.1.2.2.2.2.2.2.2.2.2.2.2.2.2.2.2.2.1, v.2.2.2.1.2.2.2.2.2.2.2.2.2.2.2.2.2.2.2.2.2.1, v.2.2.2.1.2.2.2.2.2.2.2.2.2.2.2.2.2.2.2.2.2.2)), (r169.1, r169.2.1, r169.2.2.1, r169.2.2.2))))
 ) (
 none
 )
 ) (
 none
 )
 ) (
 none
 )
 ) (
 some (.inr (.inl (((), ()), ((), (v.2.2.2.2.1, v.2.2.2.2.2.1, v.2.2.2.2.2.2.1, v.2.2.2.2.2.2.2)))))
 )
def ZbG (N:Nat) (a:(LI × LI × LI × LI)) (b:LI) : Option ((LI × LI × LI × LI)) :=
 mo (loopF (ZaX N) N (((), (), (), (), 31), ((a.1, a.2.1, a.2.2.1, a.2.2.2), b, ()))) none fun r12 =>
 match r12 with
 | .inl u13 => (
 mo (ZaA ([0, 0, 0, 0, 0], [0, 0, 0, 0, 0], [0, 0, 0, 0, 0], [0, 0, 0, 0, 0]) (u13.2.1.1, u13.2.1.2.1, u13.2.1.2.2.1, u13.2.1.2.2.2)) none fun r14 =>
 mo (ZaA (r14.1, r14.2.1, r14.2.2.1, r14.2.2.2) (u13.2.1.1, u13.2.1.2.1, u13.2.1.2.2.1, u13.2.1.2.2.2)) none fun r15 =>
 mo (ZaA (r15.1, r15.2.1, r15.2.2.1, r15.2.2.2) (u13.2.1.1, u13.2.1.2.1, u13.2.1.2.2.1, u13.2.1.2.2.2)) none fun r16 =>
 mo (ZaA (r16.1, r16.2.1, r16.2.2.1, r16.2.2.2) (u13.2.1.1, u13.2.1.2.1, u13.2.1.2.2.1, u13.2.1.2.2.2)) none fun r17 =>
 mo (ZaA (r17.1, r17.2.1, r17.2.2.1, r17.2.2.2) (u13.2.1.1, u13.2.1.2.1, u13.2.1.2.2.1, u13.2.1.2.2.2)) none fun r18 =>
 mo (ZaA (r18.1, r18.2.1, r18.2.2.1, r18.2.2.2) (u13.2.1.1, u13.2.1.2.1, u13.2.1.2.2.1, u13.2.1.2.2.2)) none fun r19 =>
 mo (ZaA (r19.1, r19.2.1, r19.2.2.1, r19.2.2.2) (u13.2.1.1, u13.2.1.2.1, u13.2.1.2.2.1, u13.2.1.2.2.2)) none fun r20 =>
 mo (ZaA (r20.1, r20.2.1, r20.2.2.1, r20.2.2.2) (u13.2.1.1, u13.2.1.2.1, u13.2.1.2.2.1, u13.2.1.2.2.2)) none fun r21 =>
 mo (ZaA (r21.1, r21.2.1, r21.2.2.1, r21.2.2.2) (u13.2.1.1, u13.2.1.2.1, u13.2.1.2.2.1, u13.2.1.2.2.2)) none fun r22 =>
 mo (ZaA (r22.1, r22.2.1, r22.2.2.1, r22.2.2.2) (u13.2.1.1, u13.2.1.2.1, u13.2.1.2.2.1, u13.2.1.2.2.2)) none fun r23 =>
 mo (ZaA (r23.1, r23.2.1, r23.2.2.1, r23.2.2.2) (u13.2.1.1, u13.2.1.2.1, u13.2.1.2.2.1, u13.2.1.2.2.2)) none fun r24 =>
 mo (ZaA (r24.1, r24.2.1, r24.2.2.1, r24.2.2.2) (u13.2.1.1, u13.2.1.2.1, u13.2.1.2.2.1, u13.2.1.2.2.2)) none fun r25 =>
 mo (ZaA (r25.1, r25.2.1, r25.2.2.1, r25.2.2.2) (u13.2.1.1, u13.2.1.2.1, u13.2.1.2.2.1, u13.2.1.2.2.2)) none fun r26 =>
 mo (ZaA (r26.1, r26.2.1, r26.2.2.1, r26.2.2.2) (u13.2.1.1, u13.2.1.2.1, u13.2.1.2.2.1, u13.2.1.2.2.2)) none fun r27 =>
 mo (ZaA (r27.1, r27.2.1, r27.2.2.1, r27.2.2.2) (u13.2.1.1, u13.2.1.2.1, u13.2.1.2.2.1, u13.2.1.2.2.2)) none fun r28 =>
 mo (loopF (Zbf N) N (((), (), (), (), u13.1.2.2.2), (u13.2.2.1, (), (([0, 0, 0, 0, 0], [0, 0, 0, 0, 0], [0, 0, 0, 0, 0], [0, 0, 0, 0, 0]), (r14.1, r14.2.1, r14.2.2.1, r14.2.2.2), (r15.1, r15.2.1, r15.2.2.1, r15.2.2.2), (r16.1, r16.2.1, r16.2.2.1, r16.2.2.2), (r17.1, r17.2.1, r17.2.2.1, r17.2.2.2), (r18.1, r18.2.1, r18.2.2.1, r18.2.2.2), (r19.1, r19.2.1, r19.2.2.1, r19.2.2.2), (r20.1, r20.2.1, r20.2.2.1, r20.2.2.2), (r21.1, r21.2.1, r21.2.2.1, r21.2.2.2), (r22.1, r22.2.1, r22.2.2.1, r22.2.2.2), (r23.1, r23.2.1, r23.2.2.1, r23.2.2.2), (r24.1, r24.2.1, r24.2.2.1, r24.2.2.2), (r25.1, r25.2.1, r25.2.2.1, r25.2.2.2), (r26.1, r26.2.1, r26.2.2.1, r26.2.2.2), (r27.1, r27.2.1, r27.2.2.1, r27.2.2.2), (r28.1, r28.2.1, r28.2.2.1, r28.2.2.2)), ([0, 0, 0, 0, 0], [0, 0, 0, 0, 0], [0, 0, 0, 0, 0], [0, 0, 0, 0, 0])))) none fun r170 =>
 match r170 with
 | .inl u171 => (
 some (u171.2.2.1, u171.2.2.2.1, u171.2.2.2.2.1, u171.2.2.2.2.2)
 )
 | .inr _ => (
 none
 )
 )
 | .inr _ => (
 none
 )
def Zc5 (a:(LI × LI × LI × LI)) (b:(LI × LI × LI × LI)) : Option (Bool) :=
 mo (Zap (Zan (a.1, a.2.1, a.2.2.1, a.2.2.2)).1 (Zan (b.1, b.2.1, b.2.2.1, b.2.2.2)).2.2.1) none fun r1 =>
 mo (Zap (Zan (b.1, b.2.1, b.2.2.1, b.2.2.2)).1 (Zan (a.1, a.2.1, a.2.2.1, a.2.2.2)).2.2.1) none fun r2 =>
 cond (decide (r1 = r2)) (
 mo (Zap (Zan (a.1, a.2.1, a.2.2.1, a.2.2.2)).2.1 (Zan (b.1, b.2.1, b.2.2.1, b.2.2.2)).2.2.1) none fun r3 =>
 mo (Zap (Zan (b.1, b.2.1, b.2.2.1, b.2.2.2)).2.1 (Zan (a.1, a.2.1, a.2.2.1, a.2.2.2)).2.2.1) none fun r4 =>
 some (decide (r3 = r4))
 ) (
 some false
 )
def ZdA (N:Nat) (a:(LI × LI × LI × LI)) : Option (Bool) :=
 mo (ZbG N (a.1, a.2.1, a.2.2.1, a.2.2.2) [237, 211, 245, 92, 26, 99, 18, 88, 214, 156, 247, 162, 222, 249, 222, 20, 0, 0, 0, 0, 0, 0, 0, 0, 0, 0, 0, 0, 0, 0, 0, 16]) none fun r1 =>
 mo (Zc5 (r1.1, r1.2.1, r1.2.2.1, r1.2.2.2) ([0, 0, 0, 0, 0], [0, 0, 0, 0, 0], [0, 0, 0, 0, 0], [0, 0, 0, 0, 0])) none fun r2 =>
 some r2
def Zc3 (a:Int) (b:Int) : Option (Int) :=
 cond (icmp .eql a 0) (
 some 0
 ) (
 cond (a == 0) (
 none
 ) (
 cond (icmp .lss (ibin .rem .i64 b a) 0) (
 some (ibin .add .i64 (ibin .rem .i64 b a) a)
 ) (
 some (ibin .rem .i64 b a)
 )
 )
 )
def ZhB (a:LI) (b:LI) : Option ((LI × Int)) :=
 mo (ZfC (List.getD a 0 0) (List.getD b 0 0) 0) none fun r1 =>
 mo (ZfC (List.getD a 1 0) (List.getD b 1 0) r1.2) none fun r2 =>
 mo (ZfC (List.getD a 2 0) (List.getD b 2 0) r2.2) none fun r3 =>
 mo (ZfC (List.getD a 3 0) (List.getD b 3 0) r3.2) none fun r4 =>
 some ([r1.1, r2.1, r3.1, r4.1], r4.2)
def Zj6 (a:LI) (b:LI) : Option ((LI × Int)) :=
 mo (ZdL (List.getD a 0 0) (List.getD b 0 0) 0) none fun r1 =>
 mo (ZdL (List.getD a 1 0) (List.getD b 1 0) r1.2) none fun r2 =>
 mo (ZdL (List.getD a 2 0) (List.getD b 2 0) r2.2) none fun r3 =>
 mo (ZdL (List.getD a 3 0) (List.getD b 3 0) r3.2) none fun r4 =>
 some ([r1.1, r2.1, r3.1, r4.1], r4.2)
def Zei (a:Int) (b:LI) (c:LI) : LI :=
 let x1 := (List.set b 0 (ibin .or .u64 (ibin .and .u64 (List.getD b 0 0) a) (ibin .andNot .u64 (List.getD c 0 0) a)))
 let x2 := (List.set x1 1 (ibin .or .u64 (ibin .and .u64 (List.getD x1 1 0) a) (ibin .andNot .u64 (List.getD c 1 0) a)))
 let x3 := (List.set x2 2 (ibin .or .u64 (ibin .and .u64 (List.getD x2 2 0) a) (ibin .andNot .u64 (List.getD c 2 0) a)))
 (List.set x3 3 (ibin .or .u64 (ibin .and .u64 (List.getD x3 3 0) a) (ibin .andNot .u64 (List.getD c 3 0) a)))
def ZiQ (a:LI) : Option (LI) :=
 mo (ZhB a [6346243789798364141, 1503914060200516822, 0, 1152921504606846976]) none fun r1 =>
 some (Zei (ineg .u64 r1.2) a r1.1)
def ZdR (a:LI) : Option (LI) :=
 cond (icmp .lss (List.getD a 3 0) 1152921504606846976) (
 some a
 ) (
 mo (ZdL (ZfF (ibin .shr .u64 (List.getD a 3 0) 60) 1503914060200516822).2 (ZfF (ibin .shr .u64 (List.getD a 3 0) 60) 6346243789798364141).1 0) none fun r1 =>
 mo (ZhB (List.set a 3 (ibin .and .u64 (List.getD a 3 0) 1152921504606846975)) [(ZfF (ibin .shr .u64 (List.getD a 3 0) 60) 6346243789798364141).2, r1.1, (ibin .add .u64 (ZfF (ibin .shr .u64 (List.getD a 3 0) 60) 1503914060200516822).1 r1.2), 0]) none fun r2 =>
 mo (Zj6 r2.1 [6346243789798364141, 1503914060200516822, 0, 1152921504606846976]) none fun r3 =>
 mo (ZiQ (Zei (ineg .u64 r2.2) r3.1 r2.1)) none fun r4 =>
 some r4
 )
def ZcP (N:Nat) (v:(Unit × Unit × Unit × Int) × (LI × Unit × LI)) : Option (((Unit × Unit × Unit × Int) × (LI × Unit × LI)) ⊕ (((Unit × Unit) × (Unit × LI)) ⊕ (Unit × Unit))) :=
 cond (icmp .lss v.1.2.2.2 32) (
 let x1 := (ibin .quo .i64 v.1.2.2.2 8)
 cond (decide ((0 : Int) ≤ x1 ∧ x1 < ((4 : Nat) : Int))) (
 let x2 := (ibin .mul .i64 8 (ibin .rem .i64 v.1.2.2.2 8))
 cond (decide ((0 : Int) ≤ x2)) (
 cond (decide ((0 : Int) ≤ v.1.2.2.2 ∧ v.1.2.2.2 < ((32 : Nat) : Int))) (
 some (.inl (((), (), (), (ibin .add .i64 v.1.2.2.2 1)), (v.2.1, (), (List.set v.2.2.2 (Int.toNat v.1.2.2.2) (IntKind.wrap .u8 (ibin .shr .u64 (List.getD v.2.1 (Int.toNat x1) 0) x2))))))
 ) (
 none
 )
 ) (
 none
 )
 ) (
 none
 )
 ) (
 some (.inr (.inl (((), ()), ((), v.2.2.2))))
 )
def ZdC (N:Nat) (a:LI) : Option (LI) :=
 mo (ZdR a) none fun r1 =>
 mo (loopF (ZcP N) N (((), (), (), 0), (r1, (), [0, 0, 0, 0, 0, 0, 0, 0, 0, 0, 0, 0, 0, 0, 0, 0, 0, 0, 0, 0, 0, 0, 0, 0, 0, 0, 0, 0, 0, 0, 0, 0]))) none fun r6 =>
 match r6 with
 | .inl u7 => (
 some u7.2.2
 )
 | .inr _ => (
 none
 )
def Zey (N:Nat) (a:(LI × LI × LI × LI)) (b:LI) : Option ((LI × LI × LI × LI)) :=
 mo (ZdC N b) none fun r1 =>
 mo (ZbG N (a.1, a.2.1, a.2.2.1, a.2.2.2) r1) none fun r2 =>
 some (r2.1, r2.2.1, r2.2.2.1, r2.2.2.2)
def ZbA (N:Nat) (v:(Unit × Unit × Int) × (Unit × LI)) : Option (((Unit × Unit × Int) × (Unit × LI)) ⊕ ((Unit × Unit) ⊕ (Bool × Unit))) :=
 cond (icmp .geq v.1.2.2 0) (
 let x1 := (decide ((0 : Int) ≤ v.1.2.2 ∧ v.1.2.2 < ((32 : Nat) : Int)))
 cond x1 (
 cond x1 (
 let x2 := (List.getD v.2.2 (Int.toNat v.1.2.2) 0)
 let x3 := (List.getD [237, 211, 245, 92, 26, 99, 18, 88, 214, 156, 247, 162, 222, 249, 222, 20, 0, 0, 0, 0, 0, 0, 0, 0, 0, 0, 0, 0, 0, 0, 0, 16] (Int.toNat v.1.2.2) 0)
 cond (icmp .neq x2 x3) (
 cond x1 (
 cond x1 (
 some (.inr (.inr ((icmp .lss x2 x3), ())))
 ) (
 none
 )
 ) (
 none
 )
 ) (
 some (.inl (((), (), (ibin .sub .i64 v.1.2.2 1)), ((), v.2.2)))
 )
 ) (
 none
 )
 ) (
 none
 )
 ) (
 some (.inr (.inl ((), ())))
 )
def Zf2 (N:Nat) (a:LI) : Option (Bool) :=
 mo (loopF (ZbA N) N (((), (), 31), ((), a))) none fun r4 =>
 match r4 with
 | .inl u5 => (
 some false
 )
 | .inr w6 => (
 some w6.1
 )
def ZdS (N:Nat) (v:(Unit × Unit × Unit × Int) × (Unit × LI × Unit × LI)) : Option (((Unit × Unit × Unit × Int) × (Unit × LI × Unit × LI)) ⊕ (((Unit × Unit) × (Unit × Unit × LI)) ⊕ (Unit × Unit))) :=
 cond (icmp .lss v.1.2.2.2 32) (
 let x1 := (ibin .quo .i64 v.1.2.2.2 8)
 cond (decide ((0 : Int) ≤ x1 ∧ x1 < ((4 : Nat) : Int))) (
 let x2 := (ibin .mul .i64 8 (ibin .rem .i64 v.1.2.2.2 8))
 cond (decide ((0 : Int) ≤ x2)) (
 cond (decide ((0 : Int) ≤ v.1.2.2.2 ∧ v.1.2.2.2 < ((32 : Nat) : Int))) (
 some (.inl (((), (), (), (ibin .add .i64 v.1.2.2.2 1)), ((), v.2.2.1, (), (List.set v.2.2.2.2 (Int.toNat v.1.2.2.2) (IntKind.wrap .u8 (ibin .shr .u64 (List.getD v.2.2.1 (Int.toNat x1) 0) x2))))))
 ) (
 none
 )
 ) (
 none
 )
 ) (
 none
 )
 ) (
 some (.inr (.inl (((), ()), ((), (), v.2.2.2.2))))
 )
def ZbP (N:Nat) (v:(Unit × Unit × Int × Int) × (Unit × Unit × LI)) : Option (((Unit × Unit × Int × Int) × (Unit × Unit × LI)) ⊕ (((Unit × Unit) × (Unit × Unit × LI)) ⊕ (Unit × Unit))) :=
 cond (icmp .lss v.1.2.2.2 32) (
 let x1 := (decide ((0 : Int) ≤ v.1.2.2.2 ∧ v.1.2.2.2 < ((32 : Nat) : Int)))
 cond x1 (
 cond x1 (
 cond x1 (
 let x2 := (ibin .sub .i64 (ibin .add .i64 v.1.2.2.1 (IntKind.wrap .i64 (List.getD v.2.2.2 (Int.toNat v.1.2.2.2) 0))) (IntKind.wrap .i64 (List.getD [237, 211, 245, 92, 26, 99, 18, 88, 214, 156, 247, 162, 222, 249, 222, 20, 0, 0, 0, 0, 0, 0, 0, 0, 0, 0, 0, 0, 0, 0, 0, 16] (Int.toNat v.1.2.2.2) 0)))
 some (.inl (((), (), (ibin .shr .i64 x2 8), (ibin .add .i64 v.1.2.2.2 1)), ((), (), (List.set v.2.2.2 (Int.toNat v.1.2.2.2) (IntKind.wrap .u8 (ibin .and .i64 x2 255))))))
 ) (
 none
 )
 ) (
 none
 )
 ) (
 none
 )
 ) (
 some (.inr (.inl (((), ()), ((), (), v.2.2.2))))
 )
def Zbb (N:Nat) (v:(Unit × Unit) × (Unit × Unit × LI)) : Option (((Unit × Unit) × (Unit × Unit × LI)) ⊕ (((Unit × Unit) × (Unit × Unit × LI)) ⊕ (Unit × Unit))) :=
 mo (Zf2 N v.2.2.2) none fun r9 =>
 cond (!r9) (
 mo (loopF (ZbP N) N (((), (), 0, 0), ((), (), v.2.2.2))) none fun r14 =>
 match r14 with
 | .inl u15 => (
 some (.inl (((), ()), ((), (), u15.2.2.2)))
 )
 | .inr w16 => (
 some (.inr (.inr ((), ())))
 )
 ) (
 some (.inr (.inl (((), ()), ((), (), v.2.2.2))))
 )
def Zfx (N:Nat) (a:LI) : Option (LI) :=
 mo (loopF (ZdS N) N (((), (), (), 0), ((), a, (), [0, 0, 0, 0, 0, 0, 0, 0, 0, 0, 0, 0, 0, 0, 0, 0, 0, 0, 0, 0, 0, 0, 0, 0, 0, 0, 0, 0, 0, 0, 0, 0]))) none fun r5 =>
 match r5 with
 | .inl u6 => (
 mo (loopF (Zbb N) N (((), ()), ((), (), u6.2.2.2))) none fun r17 =>
 match r17 with
 | .inl u18 => (
 some u18.2.2.2
 )
 | .inr _ => (
 none
 )
 )
 | .inr _ => (
 none
 )
def Ze1 (N:Nat) (v:(Unit × Unit × Nat × Int × Int) × (List ((LI × LI × LI × LI)) × Unit × (LI × LI × LI × LI))) : Option (((Unit × Unit × Nat × Int × Int) × (List ((LI × LI × LI × LI)) × Unit × (LI × LI × LI × LI))) ⊕ (((Unit × Unit) × (Unit × (LI × LI × LI × LI))) ⊕ (Unit × Unit))) :=
 cond (icmp .lss v.1.2.2.2.2 v.1.2.2.2.1) (
 cond (decide ((0 : Int) ≤ v.1.2.2.2.2 ∧ v.1.2.2.2.2 < ((v.1.2.2.1 : Nat) : Int))) (
 let x1 := (List.getD v.2.1 (Int.toNat v.1.2.2.2.2) ([0, 0, 0, 0, 0], [0, 0, 0, 0, 0], [0, 0, 0, 0, 0], [0, 0, 0, 0, 0]))
 mo (ZaA (v.2.2.2.1, v.2.2.2.2.1, v.2.2.2.2.2.1, v.2.2.2.2.2.2) (x1.1, x1.2.1, x1.2.2.1, x1.2.2.2)) none fun r12 =>
 some (.inl (((), (), v.1.2.2.1, v.1.2.2.2.1, (ibin .add .i64 v.1.2.2.2.2 1)), (v.2.1, (), (r12.1, r12.2.1, r12.2.2.1, r12.2.2.2))))
 ) (
 none
 )
 ) (
 some (.inr (.inl (((), ()), ((), (v.2.2.2.1, v.2.2.2.2.1, v.2.2.2.2.2.1, v.2.2.2.2.2.2)))))
 )
def ZiP (N:Nat) (a:(List ((LI × LI × LI × LI)) × Unit)) : Option ((LI × LI × LI × LI)) :=
 mo (loopF (Ze1 N) N (((), (), (List.length a.1), (((List.length a.1) : Nat) : Int), 0), (a.1, (), ([0, 0, 0, 0, 0], [0, 0, 0, 0, 0], [0, 0, 0, 0, 0], [0, 0, 0, 0, 0])))) none fun r13 =>
 match r13 with
 | .inl u14 => (
 some (u14.2.2.1, u14.2.2.2.1, u14.2.2.2.2.1, u14.2.2.2.2.2)
 )
 | .inr _ => (
 none
 )
def Zc4 (N:Nat) (v:(Nat × Unit × Unit × Int) × (List ((LI × LI)) × Unit × (LI × LI))) : Option (((Nat × Unit × Unit × Int) × (List ((LI × LI)) × Unit × (LI × LI))) ⊕ (((Unit × Unit) × (Unit × (LI × LI))) ⊕ (Unit × Unit))) :=
 cond (icmp .lss v.1.2.2.2 ((v.1.1 : Nat) : Int)) (
 cond (decide ((0 : Int) ≤ v.1.2.2.2 ∧ v.1.2.2.2 < ((v.1.1 : Nat) : Int))) (
 let x1 := (List.getD v.2.1 (Int.toNat v.1.2.2.2) ([0, 0, 0, 0, 0, 0, 0, 0, 0, 0], [0, 0, 0, 0, 0, 0, 0, 0, 0, 0]))
 mo (ZbC N (v.2.2.2.1, v.2.2.2.2) (x1.1, x1.2)) none fun r10 =>
 some (.inl ((v.1.1, (), (), (ibin .add .i64 v.1.2.2.2 1)), (v.2.1, (), (r10.1, r10.2))))
 ) (
 none
 )
 ) (
 some (.inr (.inl (((), ()), ((), (v.2.2.2.1, v.2.2.2.2)))))
 )
def Zeh (N:Nat) (a:(List ((LI × LI)) × Unit)) : Option ((LI × LI)) :=
 mo (loopF (Zc4 N) N (((List.length a.1), (), (), 0), (a.1, (), (Zak.1, Zak.2)))) none fun r11 =>
 match r11 with
 | .inl u12 => (
 some (u12.2.2.1, u12.2.2.2)
 )
 | .inr _ => (
 none
 )
def ZbD (N:Nat) (a:(LI × LI × LI)) (b:(LI × LI × LI)) (c:LI) : Option ((LI × LI × LI)) :=
 mo (Zab N a.2.2 b.2.2) none fun r1 =>
 mo (Zab N r1 r1) none fun r2 =>
 mo (Zab N a.1 b.1) none fun r3 =>
 mo (Zab N a.2.1 b.2.1) none fun r4 =>
 mo (Zab N c r3) none fun r5 =>
 mo (Zab N r5 r4) none fun r6 =>
 mo (ZcS N r2 r6) none fun r7 =>
 mo (Zad N r2 r6) none fun r8 =>
 mo (Zab N a.1 b.2.1) none fun r9 =>
 mo (Zab N a.2.1 b.1) none fun r10 =>
 mo (Zad N r9 r10) none fun r11 =>
 mo (Zad N r4 r3) none fun r12 =>
 mo (Zab N r1 r7) none fun r13 =>
 mo (Zab N r13 r11) none fun r14 =>
 mo (Zab N r1 r8) none fun r15 =>
 mo (Zab N r15 r12) none fun r16 =>
 mo (Zab N r7 r8) none fun r17 =>
 some (r14, r16, r17)
def Za0 (N:Nat) (v:(Unit × Unit × Unit × Unit × Unit × Bool × Int) × (Unit × LI × Unit × LI × (LI × LI × LI) × (LI × LI × LI))) : Option (((Unit × Unit × Unit × Unit × Unit × Bool × Int) × (Unit × LI × Unit × LI × (LI × LI × LI) × (LI × LI × LI))) ⊕ (((Unit × Unit) × (Unit × Unit × (LI × LI × LI))) ⊕ (Unit × Unit))) :=
 cond (icmp .geq v.1.2.2.2.2.2.2 0) (
 cond v.1.2.2.2.2.2.1 (
 mo (ZbD N (v.2.2.2.2.2.2.1, v.2.2.2.2.2.2.2.1, v.2.2.2.2.2.2.2.2) (v.2.2.2.2.2.2.1, v.2.2.2.2.2.2.2.1, v.2.2.2.2.2.2.2.2) v.2.2.2.2.1) none fun r16 =>
 let x1 := (ibin .quo .i64 v.1.2.2.2.2.2.2 8)
 cond (decide ((0 : Int) ≤ x1 ∧ x1 < ((32 : Nat) : Int))) (
 let x2 := (ibin .rem .i64 v.1.2.2.2.2.2.2 8)
 cond (decide ((0 : Int) ≤ x2)) (
 cond (icmp .eql (ibin .and .u8 (ibin .shr .u8 (List.getD v.2.2.1 (Int.toNat x1) 0) x2) 1) 1) (
 mo (ZbD N (r16.1, r16.2.1, r16.2.2) (v.2.2.2.2.2.1.1, v.2.2.2.2.2.1.2.1, v.2.2.2.2.2.1.2.2) v.2.2.2.2.1) none fun r17 =>
 some (.inl (((), (), (), (), (), true, (ibin .sub .i64 v.1.2.2.2.2.2.2 1)), ((), v.2.2.1, (), v.2.2.2.2.1, (v.2.2.2.2.2.1.1, v.2.2.2.2.2.1.2.1, v.2.2.2.2.2.1.2.2), (r17.1, r17.2.1, r17.2.2))))
 ) (
 some (.inl (((), (), (), (), (), v.1.2.2.2.2.2.1, (ibin .sub .i64 v.1.2.2.2.2.2.2 1)), ((), v.2.2.1, (), v.2.2.2.2.1, (v.2.2.2.2.2.1.1, v.2.2.2.2.2.1.2.1, v.2.2.2.2.2.1.2.2), (r16.1, r16.2.1, r16.2.2))))
 )
 ) (
 none
 )
 ) (
 none
 )
 ) (
 let x3 := (ibin .quo .i64 v.1.2.2.2.2.2.2 8)
 cond (decide ((0 : Int) ≤ x3 ∧ x3 < ((32 : Nat) : Int))) (
 let x4 := (ibin .rem .i64 v.1.2.2.2.2.2.2 8)
 cond (decide ((0 : Int) ≤ x4)) (
 cond (icmp .eql (ibin .and .u8 (ibin .shr .u8 (List.getD v.2.2.1 (Int.toNat x3) 0) x4) 1) 1) (
 mo (ZbD N (v.2.2.2.2.2.2.1, v.2.2.2.2.2.2.2.1, v.2.2.2.2.2.2.2.2) (v.2.2.2.2.2.1.1, v.2.2.2.2.2.1.2.1, v.2.2.2.2.2.1.2.2) v.2.2.2.2.1) none fun r18 =>
 some (.inl (((), (), (), (), (), true, (ibin .sub .i64 v.1.2.2.2.2.2.2 1)), ((), v.2.2.1, (), v.2.2.2.2.1, (v.2.2.2.2.2.1.1, v.2.2.2.2.2.1.2.1, v.2.2.2.2.2.1.2.2), (r18.1, r18.2.1, r18.2.2))))
 ) (
 some (.inl (((), (), (), (), (), v.1.2.2.2.2.2.1, (ibin .sub .i64 v.1.2.2.2.2.2.2 1)), ((), v.2.2.1, (), v.2.2.2.2.1, (v.2.2.2.2.2.1.1, v.2.2.2.2.2.1.2.1, v.2.2.2.2.2.1.2.2), (v.2.2.2.2.2.2.1, v.2.2.2.2.2.2.2.1, v.2.2.2.2.2.2.2.2))))
 )
 ) (
 none
 )
 ) (
 none
 )
 )
 ) (
 some (.inr (.inl (((), ()), ((), (), (v.2.2.2.2.2.2.1, v.2.2.2.2.2.2.2.1, v.2.2.2.2.2.2.2.2)))))
 )
def Zb6 (N:Nat) (a:(LI × LI)) (b:LI) : Option ((LI × LI)) :=
 mo (loopF (Za0 N) N (((), (), (), (), (), false, 255), ((), b, (), Zcj, (a.1, a.2, [1, 0, 0, 0, 0, 0, 0, 0, 0, 0]), ([0, 0, 0, 0, 0, 0, 0, 0, 0, 0], [1, 0, 0, 0, 0, 0, 0, 0, 0, 0], [1, 0, 0, 0, 0, 0, 0, 0, 0, 0])))) none fun r19 =>
 match r19 with
 | .inl u20 => (
 mo (Zb3 N u20.2.2.2.2.2) none fun r21 =>
 mo (Zab N u20.2.2.2.1 r21) none fun r22 =>
 mo (Zab N u20.2.2.2.2.1 r21) none fun r23 =>
 some (r22, r23)
 )
 | .inr _ => (
 none
 )
def Zf1  : LI :=
 [237, 211, 245, 92, 26, 99, 18, 88, 214, 156, 247, 162, 222, 249, 222, 20, 0, 0, 0, 0, 0, 0, 0, 0, 0, 0, 0, 0, 0, 0, 0, 16]
def ZcZ (N:Nat) (a:(LI × LI)) : Option (Bool) :=
 mo (Zb6 N (a.1, a.2) Zf1) none fun r1 =>
 some ((decide (r1.1 = Zak.1)) && ((decide (r1.2 = Zak.2)) && true))
def ZcE (N:Nat) (a:(LI × LI)) : Option (LI) :=
 mo (Zcq N a.2) none fun r1 =>
 cond (Zbw a.1) (
 some (List.set r1 31 (ibin .add .u8 (List.getD r1 31 0) 128))
 ) (
 some r1
 )
def Zcp (a:(Unit × Int)) (b:((Nat × Nat) × List ((LI × LI × LI × LI)) × List ((LI × LI)))) (m:Unit) : Option (((LI × LI × LI × LI) × (LI × LI)) × Unit) :=
 let x1 := ((b.1.1 : Nat) : Int)
 cond (icmp .eql x1 0) (
 some ((([0, 0, 0, 0, 0], [0, 0, 0, 0, 0], [0, 0, 0, 0, 0], [0, 0, 0, 0, 0]), (Zak.1, Zak.2)), ())
 ) (
 mo (Zc3 x1 a.2) none fun r1 =>
 cond (decide ((0 : Int) ≤ r1 ∧ r1 < ((b.1.1 : Nat) : Int))) (
 cond (decide ((0 : Int) ≤ r1 ∧ r1 < ((b.1.2 : Nat) : Int))) (
 let x2 := (List.getD b.2.1 (Int.toNat r1) ([0, 0, 0, 0, 0], [0, 0, 0, 0, 0], [0, 0, 0, 0, 0], [0, 0, 0, 0, 0]))
 let x3 := (List.getD b.2.2 (Int.toNat r1) ([0, 0, 0, 0, 0, 0, 0, 0, 0, 0], [0, 0, 0, 0, 0, 0, 0, 0, 0, 0]))
 some (((x2.1, x2.2.1, x2.2.2.1, x2.2.2.2), (x3.1, x3.2)), ())
 ) (
 none
 )
 ) (
 none
 )
 )
def Zb7 (N:Nat) (a:(Unit × (Int × Int × Int × Int × LI × LI × LI × LI))) (b:Unit) (m:((Nat × Nat) × List ((LI × LI × LI × LI)) × List ((LI × LI)))) : Option (Bool × ((Nat × Nat) × List ((LI × LI × LI × LI)) × List ((LI × LI)))) :=
 cond (icmp .eql a.2.1 1) (
 mo (Zdi N) none fun r1 =>
 let x1 := (m.2.1 ++ [(Zay.1, Zay.2.1, Zay.2.2.1, Zay.2.2.2)])
 let x2 := (List.length x1)
 cond (decide (x2 * 160 ≤ 140737488355328 ∧ x2 ≤ 9223372036854775807)) (
 let x3 := (m.2.2 ++ [(r1.1, r1.2)])
 let x4 := (List.length x3)
 cond (decide (x4 * 160 ≤ 140737488355328 ∧ x4 ≤ 9223372036854775807)) (
 mo (ZaG N (Zay.1, Zay.2.1, Zay.2.2.1, Zay.2.2.2) (r1.1, r1.2)) none fun r2 =>
 some (r2, ((x2, x4), x1, x3))
 ) (
 none
 )
 ) (
 none
 )
 ) (
 cond (icmp .eql a.2.1 2) (
 mo (ZgG a.2.2.2.2.1) none fun r3 =>
 mo (Zew N a.2.2.2.2.1) none fun r4 =>
 let x5 := (m.2.1 ++ [(r3.1, r3.2.1, r3.2.2.1, r3.2.2.2)])
 let x6 := (List.length x5)
 cond (decide (x6 * 160 ≤ 140737488355328 ∧ x6 ≤ 9223372036854775807)) (
 let x7 := (m.2.2 ++ [(r4.1, r4.2)])
 let x8 := (List.length x7)
 cond (decide (x8 * 160 ≤ 140737488355328 ∧ x8 ≤ 9223372036854775807)) (
 mo (ZaG N (r3.1, r3.2.1, r3.2.2.1, r3.2.2.2) (r4.1, r4.2)) none fun r5 =>
 some (r5, ((x6, x8), x5, x7))
 ) (
 none
 )
 ) (
 none
 )
 ) (
 cond (icmp .eql a.2.1 3) (
 mo (Zc2 a.2.2.2.2.2.2.2.1 a.2.2.2.2.2.2.2.2) none fun r6 =>
 mo (Ze0 N a.2.2.2.2.2.2.2.1) none fun r7 =>
 mo (Ze0 N a.2.2.2.2.2.2.2.2) none fun r8 =>
 mo (Zc0 N r7 r8) none fun r9 =>
 let x9 := (m.2.1 ++ [(r6.1.1, r6.1.2.1, r6.1.2.2.1, r6.1.2.2.2)])
 let x10 := (List.length x9)
 cond (decide (x10 * 160 ≤ 140737488355328 ∧ x10 ≤ 9223372036854775807)) (
 let x11 := (m.2.2 ++ [(r9.1.1, r9.1.2)])
 let x12 := (List.length x11)
 cond (decide (x12 * 160 ≤ 140737488355328 ∧ x12 ≤ 9223372036854775807)) (
 cond (icmp .eql r6.2 r9.2) (
 mo (ZaG N (r6.1.1, r6.1.2.1, r6.1.2.2.1, r6.1.2.2.2) (r9.1.1, r9.1.2)) none fun r10 =>
 some (r10, ((x10, x12), x9, x11))
 ) (
 some (false, ((x10, x12), x9, x11))
 )
 ) (
 none
 )
 ) (
 none
 )
 ) (
 cond (icmp .eql a.2.1 4) (
 mo (Zbl N a.2.2.2.2.2.1) none fun r11 =>
 mo (Zck N a.2.2.2.2.2.1) none fun r12 =>
 let x13 := (m.2.1 ++ [(r11.1.1, r11.1.2.1, r11.1.2.2.1, r11.1.2.2.2)])
 let x14 := (List.length x13)
 cond (decide (x14 * 160 ≤ 140737488355328 ∧ x14 ≤ 9223372036854775807)) (
 let x15 := (m.2.2 ++ [(r12.1.1, r12.1.2)])
 let x16 := (List.length x15)
 cond (decide (x16 * 160 ≤ 140737488355328 ∧ x16 ≤ 9223372036854775807)) (
 cond (icmp .eql r11.2 r12.2) (
 mo (ZaG N (r11.1.1, r11.1.2.1, r11.1.2.2.1, r11.1.2.2.2) (r12.1.1, r12.1.2)) none fun r13 =>
 some (r13, ((x14, x16), x13, x15))
 ) (
 some (false, ((x14, x16), x13, x15))
 )
 ) (
 none
 )
 ) (
 none
 )
 ) (
 let x17 := (m.2.1 ++ [([0, 0, 0, 0, 0], [0, 0, 0, 0, 0], [0, 0, 0, 0, 0], [0, 0, 0, 0, 0])])
 let x18 := (List.length x17)
 cond (decide (x18 * 160 ≤ 140737488355328 ∧ x18 ≤ 9223372036854775807)) (
 let x19 := (m.2.2 ++ [(Zak.1, Zak.2)])
 let x20 := (List.length x19)
 cond (decide (x20 * 160 ≤ 140737488355328 ∧ x20 ≤ 9223372036854775807)) (
 mo (ZaG N ([0, 0, 0, 0, 0], [0, 0, 0, 0, 0], [0, 0, 0, 0, 0], [0, 0, 0, 0, 0]) (Zak.1, Zak.2)) none fun r14 =>
 some (r14, ((x18, x20), x17, x19))
 ) (
 none
 )
 ) (
 none
 )
 )
 )
 )
 )
def Za7 (N:Nat) (v:(Unit × Unit × Unit × Unit × Int × Int × Nat × Int) × ((Nat × Nat) × List ((LI × LI × LI × LI)) × List ((LI × LI)) × List ((LI × LI × LI × LI)) × (LI × LI × LI × LI) × (LI × LI))) : Option (((Unit × Unit × Unit × Unit × Int × Int × Nat × Int) × ((Nat × Nat) × List ((LI × LI × LI × LI)) × List ((LI × LI)) × List ((LI × LI × LI × LI)) × (LI × LI × LI × LI) × (LI × LI))) ⊕ (((Unit × Unit × Unit) × ((Nat × Nat) × List ((LI × LI × LI × LI)) × List ((LI × LI)) × (LI × LI × LI × LI) × (LI × LI))) ⊕ (Unit × ((Nat × Nat) × List ((LI × LI × LI × LI)) × List ((LI × LI)))))) :=
 cond (icmp .lss v.1.2.2.2.2.2.2.2 v.1.2.2.2.2.1) (
 cond (decide ((0 : Int) ≤ v.1.2.2.2.2.2.2.2 ∧ v.1.2.2.2.2.2.2.2 < ((v.1.2.2.2.2.2.2.1 : Nat) : Int))) (
 let x1 := (ibin .add .i64 v.1.2.2.2.2.2.1 v.1.2.2.2.2.2.2.2)
 cond (decide ((0 : Int) ≤ x1 ∧ x1 < ((v.2.1.2 : Nat) : Int))) (
 let x2 := (List.getD v.2.2.2.2.1 (Int.toNat v.1.2.2.2.2.2.2.2) ([0, 0, 0, 0, 0], [0, 0, 0, 0, 0], [0, 0, 0, 0, 0], [0, 0, 0, 0, 0]))
 let x3 := (List.getD v.2.2.2.1 (Int.toNat x1) ([0, 0, 0, 0, 0, 0, 0, 0, 0, 0], [0, 0, 0, 0, 0, 0, 0, 0, 0, 0]))
 mo (ZaG N (x2.1, x2.2.1, x2.2.2.1, x2.2.2.2) (x3.1, x3.2)) none fun r53 =>
 cond (!r53) (
 some (.inr (.inr ((), ((v.2.1.1, v.2.1.2), v.2.2.1, v.2.2.2.1))))
 ) (
 some (.inl (((), (), (), (), v.1.2.2.2.2.1, v.1.2.2.2.2.2.1, v.1.2.2.2.2.2.2.1, (ibin .add .i64 v.1.2.2.2.2.2.2.2 1)), ((v.2.1.1, v.2.1.2), v.2.2.1, v.2.2.2.1, v.2.2.2.2.1, (v.2.2.2.2.2.1.1, v.2.2.2.2.2.1.2.1, v.2.2.2.2.2.1.2.2.1, v.2.2.2.2.2.1.2.2.2), (v.2.2.2.2.2.2.1, v.2.2.2.2.2.2.2))))
 )
 ) (
 none
 )
 ) (
 none
 )
 ) (
 some (.inr (.inl (((), (), ()), ((v.2.1.1, v.2.1.2), v.2.2.1, v.2.2.2.1, (v.2.2.2.2.2.1.1, v.2.2.2.2.2.1.2.1, v.2.2.2.2.2.1.2.2.1, v.2.2.2.2.2.1.2.2.2), (v.2.2.2.2.2.2.1, v.2.2.2.2.2.2.2)))))
 )
set_option maxRecDepth 100000 in
def ZcD (N:Nat) (a:(Unit × (Int × Int × Int × Int × LI × LI × LI × LI))) (b:Unit) (m:((Nat × Nat) × List ((LI × LI × LI × LI)) × List ((LI × LI)))) : Option (Bool × ((Nat × Nat) × List ((LI × LI × LI × LI)) × List ((LI × LI)))) :=
 mo (Zcp ((), a.2.2.1) ((m.1.1, m.1.2), m.2.1, m.2.2) ()) none fun r1 =>
 mo (Zcp ((), a.2.2.2.1) ((m.1.1, m.1.2), m.2.1, m.2.2) ()) none fun r2 =>
 cond (icmp .eql a.2.1 5) (
 mo (ZaA (r1.1.1.1, r1.1.1.2.1, r1.1.1.2.2.1, r1.1.1.2.2.2) (r2.1.1.1, r2.1.1.2.1, r2.1.1.2.2.1, r2.1.1.2.2.2)) none fun r3 =>
 mo (ZbC N (r1.1.2.1, r1.1.2.2) (r2.1.2.1, r2.1.2.2)) none fun r4 =>
 let x1 := (m.2.1 ++ [(r3.1, r3.2.1, r3.2.2.1, r3.2.2.2)])
 let x2 := (List.length x1)
 cond (decide (x2 * 160 ≤ 140737488355328 ∧ x2 ≤ 9223372036854775807)) (
 let x3 := (m.2.2 ++ [(r4.1, r4.2)])
 let x4 := (List.length x3)
 cond (decide (x4 * 160 ≤ 140737488355328 ∧ x4 ≤ 9223372036854775807)) (
 mo (ZaG N (r3.1, r3.2.1, r3.2.2.1, r3.2.2.2) (r4.1, r4.2)) none fun r5 =>
 some (r5, ((x2, x4), x1, x3))
 ) (
 none
 )
 ) (
 none
 )
 ) (
 cond (icmp .eql a.2.1 6) (
 mo (Zex (r1.1.1.1, r1.1.1.2.1, r1.1.1.2.2.1, r1.1.1.2.2.2) (r2.1.1.1, r2.1.1.2.1, r2.1.1.2.2.1, r2.1.1.2.2.2)) none fun r6 =>
 mo (ZbC N (r1.1.2.1, r1.1.2.2) ((Za4 (r2.1.2.1, r2.1.2.2)).1, (Za4 (r2.1.2.1, r2.1.2.2)).2)) none fun r7 =>
 let x5 := (m.2.1 ++ [(r6.1, r6.2.1, r6.2.2.1, r6.2.2.2)])
 let x6 := (List.length x5)
 cond (decide (x6 * 160 ≤ 140737488355328 ∧ x6 ≤ 9223372036854775807)) (
 let x7 := (m.2.2 ++ [(r7.1, r7.2)])
 let x8 := (List.length x7)
 cond (decide (x8 * 160 ≤ 140737488355328 ∧ x8 ≤ 9223372036854775807)) (
 mo (ZaG N (r6.1, r6.2.1, r6.2.2.1, r6.2.2.2) (r7.1, r7.2)) none fun r8 =>
 some (r8, ((x6, x8), x5, x7))
 ) (
 none
 )
 ) (
 none
 )
 ) (
 cond (icmp .eql a.2.1 7) (
 let x9 := (m.2.1 ++ [((ZaU (r1.1.1.1, r1.1.1.2.1, r1.1.1.2.2.1, r1.1.1.2.2.2)).1, (ZaU (r1.1.1.1, r1.1.1.2.1, r1.1.1.2.2.1, r1.1.1.2.2.2)).2.1, (ZaU (r1.1.1.1, r1.1.1.2.1, r1.1.1.2.2.1, r1.1.1.2.2.2)).2.2.1, (ZaU (r1.1.1.1, r1.1.1.2.1, r1.1.1.2.2.1, r1.1.1.2.2.2)).2.2.2)])
 let x10 := (List.length x9)
 cond (decide (x10 * 160 ≤ 140737488355328 ∧ x10 ≤ 9223372036854775807)) (
 let x11 := (m.2.2 ++ [((Za4 (r1.1.2.1, r1.1.2.2)).1, (Za4 (r1.1.2.1, r1.1.2.2)).2)])
 let x12 := (List.length x11)
 cond (decide (x12 * 160 ≤ 140737488355328 ∧ x12 ≤ 9223372036854775807)) (
 mo (ZaG N ((ZaU (r1.1.1.1, r1.1.1.2.1, r1.1.1.2.2.1, r1.1.1.2.2.2)).1, (ZaU (r1.1.1.1, r1.1.1.2.1, r1.1.1.2.2.1, r1.1.1.2.2.2)).2.1, (ZaU (r1.1.1.1, r1.1.1.2.1, r1.1.1.2.2.1, r1.1.1.2.2.2)).2.2.1, (ZaU (r1.1.1.1, r1.1.1.2.1, r1.1.1.2.2.1, r1.1.1.2.2.2)).2.2.2) ((Za4 (r1.1.2.1, r1.1.2.2)).1, (Za4 (r1.1.2.1, r1.1.2.2)).2)) none fun r9 =>
 some (r9, ((x10, x12), x9, x11))
 ) (
 none
 )
 ) (
 none
 )
 ) (
 cond (icmp .eql a.2.1 8) (
 mo (ZbL (r1.1.1.1, r1.1.1.2.1, r1.1.1.2.2.1, r1.1.1.2.2.2)) none fun r10 =>
 mo (ZbC N (r1.1.2.1, r1.1.2.2) (r1.1.2.1, r1.1.2.2)) none fun r11 =>
 let x13 := (m.2.1 ++ [(r10.1, r10.2.1, r10.2.2.1, r10.2.2.2)])
 let x14 := (List.length x13)
 cond (decide (x14 * 160 ≤ 140737488355328 ∧ x14 ≤ 9223372036854775807)) (
 let x15 := (m.2.2 ++ [(r11.1, r11.2)])
 let x16 := (List.length x15)
 cond (decide (x16 * 160 ≤ 140737488355328 ∧ x16 ≤ 9223372036854775807)) (
 mo (ZaG N (r10.1, r10.2.1, r10.2.2.1, r10.2.2.2) (r11.1, r11.2)) none fun r12 =>
 some (r12, ((x14, x16), x13, x15))
 ) (
 none
 )
 ) (
 none
 )
 ) (
 cond (icmp .eql a.2.1 9) (
 mo (Zey N (r1.1.1.1, r1.1.1.2.1, r1.1.1.2.2.1, r1.1.1.2.2.2) a.2.2.2.2.2.2.1) none fun r13 =>
 mo (Zfx N a.2.2.2.2.2.2.1) none fun r14 =>
 mo (Zb6 N (r1.1.2.1, r1.1.2.2) r14) none fun r15 =>
 let x17 := (m.2.1 ++ [(r13.1, r13.2.1, r13.2.2.1, r13.2.2.2)])
 let x18 := (List.length x17)
 cond (decide (x18 * 160 ≤ 140737488355328 ∧ x18 ≤ 9223372036854775807)) (
 let x19 := (m.2.2 ++ [(r15.1, r15.2)])
 let x20 := (List.length x19)
 cond (decide (x20 * 160 ≤ 140737488355328 ∧ x20 ≤ 9223372036854775807)) (
 mo (ZaG N (r13.1, r13.2.1, r13.2.2.1, r13.2.2.2) (r15.1, r15.2)) none fun r16 =>
 some (r16, ((x18, x20), x17, x19))
 ) (
 none
 )
 ) (
 none
 )
 ) (
 cond (icmp .eql a.2.1 10) (
 mo (ZbG N (r1.1.1.1, r1.1.1.2.1, r1.1.1.2.2.1, r1.1.1.2.2.2) a.2.2.2.2.2.1) none fun r17 =>
 mo (Zb6 N (r1.1.2.1, r1.1.2.2) a.2.2.2.2.2.1) none fun r18 =>
 let x21 := (m.2.1 ++ [(r17.1, r17.2.1, r17.2.2.1, r17.2.2.2)])
 let x22 := (List.length x21)
 cond (decide (x22 * 160 ≤ 140737488355328 ∧ x22 ≤ 9223372036854775807)) (
 let x23 := (m.2.2 ++ [(r18.1, r18.2)])
 let x24 := (List.length x23)
 cond (decide (x24 * 160 ≤ 140737488355328 ∧ x24 ≤ 9223372036854775807)) (
 mo (ZaG N (r17.1, r17.2.1, r17.2.2.1, r17.2.2.2) (r18.1, r18.2)) none fun r19 =>
 some (r19, ((x22, x24), x21, x23))
 ) (
 none
 )
 ) (
 none
 )
 ) (
 cond (icmp .eql a.2.1 11) (
 mo (Zc3 8 a.2.2.2.2.1) none fun r20 =>
 let x25 := ((m.1.1 : Nat) : Int)
 cond (icmp .gtr r20 x25) (
 let x26 := (ibin .add .i64 x25 1)
 cond ((decide ((0 : Int) ≤ x26 ∧ (x26:Int) ≤ x26) && decide (Int.toNat x26 * 160 ≤ 140737488355328 ∧ Int.toNat x26 ≤ 9223372036854775807)) && true) (
 let x27 := (ibin .sub .i64 x25 x25)
 cond (decide ((0 : Int) ≤ x27 ∧ x27 ≤ ((m.1.1 : Nat) : Int))) (
 let x28 := (Int.toNat x26)
 let x29 := (decide ((0 : Int) ≤ x25 ∧ x25 < ((x28:Nat) : Int)))
 cond x29 (
 cond (decide ((0 : Int) ≤ x25 ∧ x25 ≤ ((x28:Nat) : Int))) (
 let x30 := (Int.toNat x27)
 let x31 := (List.take (m.1.1 - x30) (List.drop x30 m.2.1))
 let x32 := (List.replicate x28 ([0, 0, 0, 0, 0], [0, 0, 0, 0, 0], [0, 0, 0, 0, 0], [0, 0, 0, 0, 0]))
 let x33 := (List.set (List.take (List.length x32) x31 ++ List.drop (List.length x31) x32) (Int.toNat x25) (r1.1.1.1, r1.1.1.2.1, r1.1.1.2.2.1, r1.1.1.2.2.2))
 mo (ZiP N ((List.take (Int.toNat x25) (List.drop 0 x33)), ())) none fun r21 =>
 cond (decide ((0 : Int) ≤ x27 ∧ x27 ≤ ((m.1.2 : Nat) : Int))) (
 mo (Zeh N ((List.take (m.1.2 - x30) (List.drop x30 m.2.2)), ())) none fun r22 =>
 cond x29 (
 let x34 := (List.getD x33 (Int.toNat x25) ([0, 0, 0, 0, 0], [0, 0, 0, 0, 0], [0, 0, 0, 0, 0], [0, 0, 0, 0, 0]))
 mo (ZaG N (x34.1, x34.2.1, x34.2.2.1, x34.2.2.2) (r1.1.2.1, r1.1.2.2)) none fun r23 =>
 cond (!r23) (
 some (false, ((m.1.1, m.1.2), m.2.1, m.2.2))
 ) (
 mo (loopF (Za7 N) N (((), (), (), (), x25, x27, x28, 0), ((m.1.1, m.1.2), m.2.1, m.2.2, x33, (r21.1, r21.2.1, r21.2.2.1, r21.2.2.2), (r22.1, r22.2)))) none fun r54 =>
 match r54 with
 | .inl u55 => (
 let x35 := (u55.2.2.1 ++ [(u55.2.2.2.2.1.1, u55.2.2.2.2.1.2.1, u55.2.2.2.2.1.2.2.1, u55.2.2.2.2.1.2.2.2)])
 let x36 := (List.length x35)
 cond (decide (x36 * 160 ≤ 140737488355328 ∧ x36 ≤ 9223372036854775807)) (
 let x37 := (u55.2.2.2.1 ++ [(u55.2.2.2.2.2.1, u55.2.2.2.2.2.2)])
 let x38 := (List.length x37)
 cond (decide (x38 * 160 ≤ 140737488355328 ∧ x38 ≤ 9223372036854775807)) (
 mo (ZaG N (u55.2.2.2.2.1.1, u55.2.2.2.2.1.2.1, u55.2.2.2.2.1.2.2.1, u55.2.2.2.2.1.2.2.2) (u55.2.2.2.2.2.1, u55.2.2.2.2.2.2)) none fun r56 =>
 some (r56, ((x36, x38), x35, x37))
 ) (
 none
 )
 ) (
 none
 )
 )
 | .inr w57 => (
 some (false, ((w57.2.1.1, w57.2.1.2), w57.2.2.1, w57.2.2.2))
 )
 )
 ) (
 none
 )
 ) (
 none
 )
 ) (
 none
 )
 ) (
 none
 )
 ) (
 none
 )
 ) (
 none
 )
 ) (
 cond ((decide ((0 : Int) ≤ (ibin .add .i64 r20 1) ∧ ((ibin .add .i64 r20 1) : Int) ≤ (ibin .add .i64 r20 1)) && decide (Int.toNat (ibin .add .i64 r20 1) * 160 ≤ 140737488355328 ∧ Int.toNat (ibin .add .i64 r20 1) ≤ 9223372036854775807)) && true) (
 let x39 := (ibin .sub .i64 x25 r20)
 cond (decide ((0 : Int) ≤ x39 ∧ x39 ≤ ((m.1.1 : Nat) : Int))) (
 let x40 := (Int.toNat (ibin .add .i64 r20 1))
 let x41 := (decide ((0 : Int) ≤ r20 ∧ r20 < ((x40:Nat) : Int)))
 cond x41 (
 cond (decide ((0 : Int) ≤ r20 ∧ r20 ≤ ((x40:Nat) : Int))) (
 let x42 := (Int.toNat x39)
 let x43 := (List.take (m.1.1 - x42) (List.drop x42 m.2.1))
 let x44 := (List.replicate x40 ([0, 0, 0, 0, 0], [0, 0, 0, 0, 0], [0, 0, 0, 0, 0], [0, 0, 0, 0, 0]))
 let x45 := (List.set (List.take (List.length x44) x43 ++ List.drop (List.length x43) x44) (Int.toNat r20) (r1.1.1.1, r1.1.1.2.1, r1.1.1.2.2.1, r1.1.1.2.2.2))
 mo (ZiP N ((List.take (Int.toNat r20) (List.drop 0 x45)), ())) none fun r58 =>
 cond (decide ((0 : Int) ≤ x39 ∧ x39 ≤ ((m.1.2 : Nat) : Int))) (
 mo (Zeh N ((List.take (m.1.2 - x42) (List.drop x42 m.2.2)), ())) none fun r59 =>
 cond x41 (
 let x46 := (List.getD x45 (Int.toNat r20) ([0, 0, 0, 0, 0], [0, 0, 0, 0, 0], [0, 0, 0, 0, 0], [0, 0, 0, 0, 0]))
 mo (ZaG N (x46.1, x46.2.1, x46.2.2.1, x46.2.2.2) (r1.1.2.1, r1.1.2.2)) none fun r60 =>
 cond (!r60) (
 some (false, ((m.1.1, m.1.2), m.2.1, m.2.2))
 ) (
 mo (loopF (Za7 N) N (((), (), (), (), r20, x39, x40, 0), ((m.1.1, m.1.2), m.2.1, m.2.2, x45, (r58.1, r58.2.1, r58.2.2.1, r58.2.2.2), (r59.1, r59.2)))) none fun r91 =>
 match r91 with
 | .inl u92 => (
 let x47 := (u92.2.2.1 ++ [(u92.2.2.2.2.1.1, u92.2.2.2.2.1.2.1, u92.2.2.2.2.1.2.2.1, u92.2.2.2.2.1.2.2.2)])
 let x48 := (List.length x47)
 cond (decide (x48 * 160 ≤ 140737488355328 ∧ x48 ≤ 9223372036854775807)) (
 let x49 := (u92.2.2.2.1 ++ [(u92.2.2.2.2.2.1, u92.2.2.2.2.2.2)])
 let x50 := (List.length x49)
 cond (decide (x50 * 160 ≤ 140737488355328 ∧ x50 ≤ 9223372036854775807)) (
 mo (ZaG N (u92.2.2.2.2.1.1, u92.2.2.2.2.1.2.1, u92.2.2.2.2.1.2.2.1, u92.2.2.2.2.1.2.2.2) (u92.2.2.2.2.2.1, u92.2.2.2.2.2.2)) none fun r93 =>
 some (r93, ((x48, x50), x47, x49))
 ) (
 none
 )
 ) (
 none
 )
 )
 | .inr w94 => (
 some (false, ((w94.2.1.1, w94.2.1.2), w94.2.2.1, w94.2.2.2))
 )
 )
 ) (
 none
 )
 ) (
 none
 )
 ) (
 none
 )
 ) (
 none
 )
 ) (
 none
 )
 ) (
 none
 )
 )
 ) (
 let x51 := (m.2.1 ++ [(r1.1.1.1, r1.1.1.2.1, r1.1.1.2.2.1, r1.1.1.2.2.2)])
 let x52 := (List.length x51)
 cond (decide (x52 * 160 ≤ 140737488355328 ∧ x52 ≤ 9223372036854775807)) (
 let x53 := (m.2.2 ++ [(r1.1.2.1, r1.1.2.2)])
 let x54 := (List.length x53)
 cond (decide (x54 * 160 ≤ 140737488355328 ∧ x54 ≤ 9223372036854775807)) (
 mo (ZaG N (r1.1.1.1, r1.1.1.2.1, r1.1.1.2.2.1, r1.1.1.2.2.2) (r1.1.2.1, r1.1.2.2)) none fun r95 =>
 some (r95, ((x52, x54), x51, x53))
 ) (
 none
 )
 ) (
 none
 )
 )
 )
 )
 )
 )
 )
 )
def Zc1 (N:Nat) (a:(Unit × (Int × Int × Int × Int × LI × LI × LI × LI))) (b:Unit) (m:((Nat × Nat) × List ((LI × LI × LI × LI)) × List ((LI × LI)))) : Option (Bool × ((Nat × Nat) × List ((LI × LI × LI × LI)) × List ((LI × LI)))) :=
 cond (icmp .geq a.2.1 5) (
 cond (icmp .leq a.2.1 11) (
 mo (ZcD N ((), (a.2.1, a.2.2.1, a.2.2.2.1, a.2.2.2.2.1, a.2.2.2.2.2.1, a.2.2.2.2.2.2.1, a.2.2.2.2.2.2.2.1, a.2.2.2.2.2.2.2.2)) () ((m.1.1, m.1.2), m.2.1, m.2.2)) none fun r1 =>
 some (r1.1, ((r1.2.1.1, r1.2.1.2), r1.2.2.1, r1.2.2.2))
 ) (
 mo (Zb7 N ((), (a.2.1, a.2.2.1, a.2.2.2.1, a.2.2.2.2.1, a.2.2.2.2.2.1, a.2.2.2.2.2.2.1, a.2.2.2.2.2.2.2.1, a.2.2.2.2.2.2.2.2)) () ((m.1.1, m.1.2), m.2.1, m.2.2)) none fun r2 =>
 some (r2.1, ((r2.2.1.1, r2.2.1.2), r2.2.2.1, r2.2.2.2))
 )
 ) (
 mo (Zb7 N ((), (a.2.1, a.2.2.1, a.2.2.2.1, a.2.2.2.2.1, a.2.2.2.2.2.1, a.2.2.2.2.2.2.1, a.2.2.2.2.2.2.2.1, a.2.2.2.2.2.2.2.2)) () ((m.1.1, m.1.2), m.2.1, m.2.2)) none fun r3 =>
 some (r3.1, ((r3.2.1.1, r3.2.1.2), r3.2.2.1, r3.2.2.2))
 )
def Zb8 (N M:Nat) (v:(Nat × Unit × Unit × Int) × (List ((Int × Int × Int × Int × LI × LI × LI × LI)) × List ((LI × LI × LI × LI)) × List ((LI × LI)) × (Nat × Nat))) : Option (((Nat × Unit × Unit × Int) × (List ((Int × Int × Int × Int × LI × LI × LI × LI)) × List ((LI × LI × LI × LI)) × List ((LI × LI)) × (Nat × Nat))) ⊕ ((Unit × (List ((LI × LI × LI × LI)) × List ((LI × LI)) × (Nat × Nat))) ⊕ (Unit × Unit))) :=
 cond (icmp .lss v.1.2.2.2 ((v.1.1 : Nat) : Int)) (
 cond (decide ((0 : Int) ≤ v.1.2.2.2 ∧ v.1.2.2.2 < ((v.1.1 : Nat) : Int))) (
 let x1 := (List.getD v.2.1 (Int.toNat v.1.2.2.2) (0, 0, 0, 0, (List.replicate 32 0), [0, 0, 0, 0], [0, 0, 0, 0, 0], [0, 0, 0, 0, 0]))
 mo (Zc1 N ((), (x1.1, x1.2.1, x1.2.2.1, x1.2.2.2.1, x1.2.2.2.2.1, x1.2.2.2.2.2.1, x1.2.2.2.2.2.2.1, x1.2.2.2.2.2.2.2)) () ((v.2.2.2.2.1, v.2.2.2.2.2), v.2.2.1, v.2.2.2.1)) none fun r16 =>
 some (.inl ((v.1.1, (), (), (ibin .add .i64 v.1.2.2.2 1)), (v.2.1, r16.2.2.1, r16.2.2.2, (r16.2.1.1, r16.2.1.2))))
 ) (
 none
 )
 ) (
 some (.inr (.inl ((), (v.2.2.1, v.2.2.2.1, (v.2.2.2.2.1, v.2.2.2.2.2)))))
 )
def Zec (N M:Nat) (a:Nat) (b:List ((Int × Int × Int × Int × LI × LI × LI × LI))) (m:Unit) : Option (Unit × ((Nat × Nat) × List ((LI × LI × LI × LI)) × List ((LI × LI)))) :=
 mo (loopF (Zb8 N M) M ((a, (), (), 0), (b, [], [], (0, 0)))) none fun r17 =>
 match r17 with
 | .inl u18 => (
 some ((), ((u18.2.2.2.1, u18.2.2.2.2), u18.2.1, u18.2.2.1))
 )
 | .inr _ => (
 none
 )
def ZbF (N M:Nat) (v:(Unit × Int × Int) × ((Nat × Nat) × List ((LI × LI × LI × LI)) × List ((LI × LI)))) : Option (((Unit × Int × Int) × ((Nat × Nat) × List ((LI × LI × LI × LI)) × List ((LI × LI)))) ⊕ (((Unit × Int) × ((Nat × Nat) × List ((LI × LI × LI × LI)) × List ((LI × LI)))) ⊕ (Unit × Unit))) :=
 cond (icmp .lss v.1.2.2 ((v.2.1.1 : Nat) : Int)) (
 cond (decide ((0 : Int) ≤ v.1.2.1 ∧ v.1.2.1 < ((v.2.1.1 : Nat) : Int))) (
 cond (decide ((0 : Int) ≤ v.1.2.2 ∧ v.1.2.2 < ((v.2.1.1 : Nat) : Int))) (
 let x1 := (List.getD v.2.2.1 (Int.toNat v.1.2.1) ([0, 0, 0, 0, 0], [0, 0, 0, 0, 0], [0, 0, 0, 0, 0], [0, 0, 0, 0, 0]))
 let x2 := (List.getD v.2.2.1 (Int.toNat v.1.2.2) ([0, 0, 0, 0, 0], [0, 0, 0, 0, 0], [0, 0, 0, 0, 0], [0, 0, 0, 0, 0]))
 mo (Zc5 (x1.1, x1.2.1, x1.2.2.1, x1.2.2.2) (x2.1, x2.2.1, x2.2.2.1, x2.2.2.2)) none fun r28 =>
 cond (decide ((0 : Int) ≤ v.1.2.1 ∧ v.1.2.1 < ((v.2.1.2 : Nat) : Int))) (
 cond (decide ((0 : Int) ≤ v.1.2.2 ∧ v.1.2.2 < ((v.2.1.2 : Nat) : Int))) (
 let x3 := (List.getD v.2.2.2 (Int.toNat v.1.2.1) ([0, 0, 0, 0, 0, 0, 0, 0, 0, 0], [0, 0, 0, 0, 0, 0, 0, 0, 0, 0]))
 let x4 := (List.getD v.2.2.2 (Int.toNat v.1.2.2) ([0, 0, 0, 0, 0, 0, 0, 0, 0, 0], [0, 0, 0, 0, 0, 0, 0, 0, 0, 0]))
 cond (!(r28 == ((decide (x3.1 = x4.1)) && ((decide (x3.2 = x4.2)) && true)))) (
 some (.inr (.inr ((), ())))
 ) (
 some (.inl (((), v.1.2.1, (ibin .add .i64 v.1.2.2 1)), ((v.2.1.1, v.2.1.2), v.2.2.1, v.2.2.2)))
 )
 ) (
 none
 )
 ) (
 none
 )
 ) (
 none
 )
 ) (
 none
 )
 ) (
 some (.inr (.inl (((), v.1.2.1), ((v.2.1.1, v.2.1.2), v.2.2.1, v.2.2.2))))
 )
def Zbt (N M:Nat) (v:(Unit × Int) × ((Nat × Nat) × List ((LI × LI × LI × LI)) × List ((LI × LI)))) : Option (((Unit × Int) × ((Nat × Nat) × List ((LI × LI × LI × LI)) × List ((LI × LI)))) ⊕ ((Unit × Unit) ⊕ (Unit × Unit))) :=
 cond (icmp .lss v.1.2 ((v.2.1.1 : Nat) : Int)) (
 mo (loopF (ZbF N M) M (((), v.1.2, 0), ((v.2.1.1, v.2.1.2), v.2.2.1, v.2.2.2))) none fun r29 =>
 match r29 with
 | .inl u30 => (
 let x1 := (decide ((0 : Int) ≤ u30.1.2 ∧ u30.1.2 < ((u30.2.1.1 : Nat) : Int)))
 cond x1 (
 let x2 := (List.getD u30.2.2.1 (Int.toNat u30.1.2) ([0, 0, 0, 0, 0], [0, 0, 0, 0, 0], [0, 0, 0, 0, 0], [0, 0, 0, 0, 0]))
 mo (Zcl N (x2.1, x2.2.1, x2.2.2.1, x2.2.2.2)) none fun r31 =>
 let x3 := (decide ((0 : Int) ≤ u30.1.2 ∧ u30.1.2 < ((u30.2.1.2 : Nat) : Int)))
 cond x3 (
 let x4 := (List.getD u30.2.2.2 (Int.toNat u30.1.2) ([0, 0, 0, 0, 0, 0, 0, 0, 0, 0], [0, 0, 0, 0, 0, 0, 0, 0, 0, 0]))
 mo (ZcE N (x4.1, x4.2)) none fun r32 =>
 cond (!(decide (r31 = r32))) (
 some (.inr (.inr ((), ())))
 ) (
 cond x1 (
 mo (ZdA N (x2.1, x2.2.1, x2.2.2.1, x2.2.2.2)) none fun r33 =>
 cond x3 (
 mo (ZcZ N (x4.1, x4.2)) none fun r34 =>
 cond (!(r33 == r34)) (
 some (.inr (.inr ((), ())))
 ) (
 some (.inl (((), (ibin .add .i64 u30.1.2 1)), ((u30.2.1.1, u30.2.1.2), u30.2.2.1, u30.2.2.2)))
 )
 ) (
 none
 )
 ) (
 none
 )
 )
 ) (
 none
 )
 ) (
 none
 )
 )
 | .inr w35 => (
 some (.inr (.inr ((), ())))
 )
 ) (
 some (.inr (.inl ((), ())))
 )
def ZdQ (N M:Nat) (a:(List ((Int × Int × Int × Int × LI × LI × LI × LI)) × Unit)) : Option (Bool) :=
 mo (Zg9 N) none fun r1 =>
 cond (!r1) (
 some false
 ) (
 mo (Zec N M (List.length a.1) a.1 ()) none fun r2 =>
 let x1 := (r2.2.2.1 ++ [([0, 0, 0, 0, 0], [0, 0, 0, 0, 0], [0, 0, 0, 0, 0], [0, 0, 0, 0, 0]), (Zay.1, Zay.2.1, Zay.2.2.1, Zay.2.2.2)])
 let x2 := (List.length x1)
 cond (decide (x2 * 160 ≤ 140737488355328 ∧ x2 ≤ 9223372036854775807)) (
 mo (Zdi N) none fun r3 =>
 let x3 := (r2.2.2.2 ++ [(Zak.1, Zak.2), (r3.1, r3.2)])
 let x4 := (List.length x3)
 cond (decide (x4 * 160 ≤ 140737488355328 ∧ x4 ≤ 9223372036854775807)) (
 mo (loopF (Zbt N M) M (((), 0), ((x2, x4), x1, x3))) none fun r36 =>
 match r36 with
 | .inl u37 => (
 some true
 )
 | .inr w38 => (
 some false
 )
 ) (
 none
 )
 ) (
 none
 )
 )
end Go.Vx
