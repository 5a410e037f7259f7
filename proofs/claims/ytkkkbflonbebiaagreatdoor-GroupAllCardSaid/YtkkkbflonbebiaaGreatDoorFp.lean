import Derived.Test.YtkkkbflonbebiaaGreatDoorVxU2
set_option autoImplicit false
set_option linter.unusedVariables false
set_option linter.unusedSimpArgs false
namespace Go.Vx
open Go
def Zbe (i : Nat) : List Int := List.getD [[0, 0, 0, 0, 0], [1718705420411056, 234908883556509, 2233514472574048, 2117202627021982, 765476049583133], [929955233495203, 466365720129213, 1662059464998953, 2033849074728123, 1442794654840575], [2241493124984347, 425987919032274, 2207028919301688, 1220490630685848, 974799131293748], [278908739862762, 821645201101625, 8113234426968, 1777959178193151, 2118520810568447], [1136626929484150, 1998550399581263, 496427632559748, 118527312129759, 45110755273534], [1507062230895904, 1572317787530805, 683053064812840, 317374165784489, 1572899562415810]] i [0, 0, 0, 0, 0]
def ZbP (a : List Int) : List Int :=
 [(ibin .add .u64 (ibin .and .u64 (List.getD a 0 0) 2251799813685247) (ibin .mul .u64 19 (ibin .shr .u64 (List.getD a 4 0) 51))), (ibin .add .u64 (ibin .and .u64 (List.getD a 1 0) 2251799813685247) (ibin .shr .u64 (List.getD a 0 0) 51)), (ibin .add .u64 (ibin .and .u64 (List.getD a 2 0) 2251799813685247) (ibin .shr .u64 (List.getD a 1 0) 51)), (ibin .add .u64 (ibin .and .u64 (List.getD a 3 0) 2251799813685247) (ibin .shr .u64 (List.getD a 2 0) 51)), (ibin .add .u64 (ibin .and .u64 (List.getD a 4 0) 2251799813685247) (ibin .shr .u64 (List.getD a 3 0) 51))]
def Zaa (a : List Int) : List Int :=
 let x1 := (ZbP (ZbP (ZbP a)))
 let x2 := (List.getD x1 0 0)
 let x3 := (List.set x1 0 (ibin .add .u64 x2 (ibin .mul .u64 19 (ibin .shr .u64 (ibin .add .u64 (List.getD x1 4 0) (ibin .shr .u64 (ibin .add .u64 (List.getD x1 3 0) (ibin .shr .u64 (ibin .add .u64 (List.getD x1 2 0) (ibin .shr .u64 (ibin .add .u64 (List.getD x1 1 0) (ibin .shr .u64 (ibin .add .u64 x2 19) 51)) 51)) 51)) 51)) 51))))
 let x4 := (List.set x3 1 (ibin .add .u64 (List.getD x3 1 0) (ibin .shr .u64 (List.getD x3 0 0) 51)))
 let x5 := (List.set x4 0 (ibin .and .u64 (List.getD x4 0 0) 2251799813685247))
 let x6 := (List.set x5 2 (ibin .add .u64 (List.getD x5 2 0) (ibin .shr .u64 (List.getD x5 1 0) 51)))
 let x7 := (List.set x6 1 (ibin .and .u64 (List.getD x6 1 0) 2251799813685247))
 let x8 := (List.set x7 3 (ibin .add .u64 (List.getD x7 3 0) (ibin .shr .u64 (List.getD x7 2 0) 51)))
 let x9 := (List.set x8 2 (ibin .and .u64 (List.getD x8 2 0) 2251799813685247))
 let x10 := (List.set x9 4 (ibin .add .u64 (List.getD x9 4 0) (ibin .shr .u64 (List.getD x9 3 0) 51)))
 let x11 := (List.set x10 3 (ibin .and .u64 (List.getD x10 3 0) 2251799813685247))
 (List.set x11 4 (ibin .and .u64 (List.getD x11 4 0) 2251799813685247))
def ZaW (a : List Int) : Bool :=
 (icmp .eql (ibin .shr .u64 (ibin .or .u64 (ibin .or .u64 (ibin .or .u64 (ibin .or .u64 (List.getD a 0 0) (List.getD a 1 0)) (List.getD a 2 0)) (List.getD a 3 0)) (List.getD a 4 0)) 51) 0)
def Zgo (a : Int) (b : Int) (c : Int) (d : Int) (e : Int) : List Int :=
 let x1 := (ibin .add .u64 a (ibin .mul .u64 19 (ibin .shr .u64 (ibin .add .u64 e (ibin .shr .u64 (ibin .add .u64 d (ibin .shr .u64 (ibin .add .u64 c (ibin .shr .u64 (ibin .add .u64 b (ibin .shr .u64 (ibin .add .u64 a 19) 51)) 51)) 51)) 51)) 51)))
 let x2 := (ibin .add .u64 b (ibin .shr .u64 x1 51))
 let x3 := (ibin .add .u64 c (ibin .shr .u64 x2 51))
 let x4 := (ibin .add .u64 d (ibin .shr .u64 x3 51))
 [(ibin .and .u64 x1 2251799813685247), (ibin .and .u64 x2 2251799813685247), (ibin .and .u64 x3 2251799813685247), (ibin .and .u64 x4 2251799813685247), (ibin .and .u64 (ibin .add .u64 e (ibin .shr .u64 x4 51)) 2251799813685247)]
def ZbM (a : Int) (b : Int) (c : Int) (d : Int) (e : Int) : List Int :=
 let x1 := (ibin .add .u64 b (ibin .shr .u64 a 51))
 let x2 := (ibin .add .u64 c (ibin .shr .u64 x1 51))
 let x3 := (ibin .add .u64 d (ibin .shr .u64 x2 51))
 let x4 := (ibin .add .u64 e (ibin .shr .u64 x3 51))
 let x5 := (ibin .add .u64 (ibin .and .u64 a 2251799813685247) (ibin .mul .u64 19 (ibin .shr .u64 x4 51)))
 cond (icmp .leq x5 2251799813685247) (
 let x6 := (ibin .and .u64 x4 2251799813685247)
 cond (icmp .neq x6 2251799813685247) (
 [x5, (ibin .and .u64 x1 2251799813685247), (ibin .and .u64 x2 2251799813685247), (ibin .and .u64 x3 2251799813685247), x6]
 ) (
 (Zgo x5 (ibin .and .u64 x1 2251799813685247) (ibin .and .u64 x2 2251799813685247) (ibin .and .u64 x3 2251799813685247) x6)
 )
 ) (
 (Zgo x5 (ibin .and .u64 x1 2251799813685247) (ibin .and .u64 x2 2251799813685247) (ibin .and .u64 x3 2251799813685247) (ibin .and .u64 x4 2251799813685247))
 )
def ZnU (a : Int) (b : Int) (c : Int) (d : Int) (e : Int) : Option (List Int) :=
 let x1 := (ibin .add .u64 b (ibin .shr .u64 a 51))
 let x2 := (ibin .add .u64 c (ibin .shr .u64 x1 51))
 let x3 := (ibin .add .u64 d (ibin .shr .u64 x2 51))
 let x4 := (ibin .add .u64 e (ibin .shr .u64 x3 51))
 let x5 := (ibin .add .u64 (ibin .and .u64 a 2251799813685247) (ibin .mul .u64 19 (ibin .shr .u64 x4 51)))
 cond (icmp .leq x5 2251799813685247) (
 let x6 := (ibin .and .u64 x4 2251799813685247)
 cond (icmp .neq x6 2251799813685247) (
 some [x5, (ibin .and .u64 x1 2251799813685247), (ibin .and .u64 x2 2251799813685247), (ibin .and .u64 x3 2251799813685247), x6]
 ) (
 some (Zgo x5 (ibin .and .u64 x1 2251799813685247) (ibin .and .u64 x2 2251799813685247) (ibin .and .u64 x3 2251799813685247) x6)
 )
 ) (
 some (Zgo x5 (ibin .and .u64 x1 2251799813685247) (ibin .and .u64 x2 2251799813685247) (ibin .and .u64 x3 2251799813685247) (ibin .and .u64 x4 2251799813685247))
 )
theorem Zz7 (a : Int) (b : Int) (c : Int) (d : Int) (e : Int) : ZnU a b c d e = some (ZbM a b c d e) := by
 unfold ZnU ZbM
 repeat' (first | refine ZiK ?_ ?_ | rfl)
def ZaU (a : List Int) (b : List Int) : List Int :=
 cond (!(ZaW a)) (
 (ZbM (ibin .add .u64 (List.getD (Zaa a) 0 0) (List.getD (Zaa b) 0 0)) (ibin .add .u64 (List.getD (Zaa a) 1 0) (List.getD (Zaa b) 1 0)) (ibin .add .u64 (List.getD (Zaa a) 2 0) (List.getD (Zaa b) 2 0)) (ibin .add .u64 (List.getD (Zaa a) 3 0) (List.getD (Zaa b) 3 0)) (ibin .add .u64 (List.getD (Zaa a) 4 0) (List.getD (Zaa b) 4 0)))
 ) (
 cond (!(ZaW b)) (
 (ZbM (ibin .add .u64 (List.getD (Zaa a) 0 0) (List.getD (Zaa b) 0 0)) (ibin .add .u64 (List.getD (Zaa a) 1 0) (List.getD (Zaa b) 1 0)) (ibin .add .u64 (List.getD (Zaa a) 2 0) (List.getD (Zaa b) 2 0)) (ibin .add .u64 (List.getD (Zaa a) 3 0) (List.getD (Zaa b) 3 0)) (ibin .add .u64 (List.getD (Zaa a) 4 0) (List.getD (Zaa b) 4 0)))
 ) (
 (ZbM (ibin .add .u64 (List.getD a 0 0) (List.getD b 0 0)) (ibin .add .u64 (List.getD a 1 0) (List.getD b 1 0)) (ibin .add .u64 (List.getD a 2 0) (List.getD b 2 0)) (ibin .add .u64 (List.getD a 3 0) (List.getD b 3 0)) (ibin .add .u64 (List.getD a 4 0) (List.getD b 4 0)))
 )
 )
def ZkG (a : List Int) (b : List Int) : Option (List Int) :=
 cond (!(ZaW a)) (
 some (ZbM (ibin .add .u64 (List.getD (Zaa a) 0 0) (List.getD (Zaa b) 0 0)) (ibin .add .u64 (List.getD (Zaa a) 1 0) (List.getD (Zaa b) 1 0)) (ibin .add .u64 (List.getD (Zaa a) 2 0) (List.getD (Zaa b) 2 0)) (ibin .add .u64 (List.getD (Zaa a) 3 0) (List.getD (Zaa b) 3 0)) (ibin .add .u64 (List.getD (Zaa a) 4 0) (List.getD (Zaa b) 4 0)))
 ) (
 cond (!(ZaW b)) (
 some (ZbM (ibin .add .u64 (List.getD (Zaa a) 0 0) (List.getD (Zaa b) 0 0)) (ibin .add .u64 (List.getD (Zaa a) 1 0) (List.getD (Zaa b) 1 0)) (ibin .add .u64 (List.getD (Zaa a) 2 0) (List.getD (Zaa b) 2 0)) (ibin .add .u64 (List.getD (Zaa a) 3 0) (List.getD (Zaa b) 3 0)) (ibin .add .u64 (List.getD (Zaa a) 4 0) (List.getD (Zaa b) 4 0)))
 ) (
 some (ZbM (ibin .add .u64 (List.getD a 0 0) (List.getD b 0 0)) (ibin .add .u64 (List.getD a 1 0) (List.getD b 1 0)) (ibin .add .u64 (List.getD a 2 0) (List.getD b 2 0)) (ibin .add .u64 (List.getD a 3 0) (List.getD b 3 0)) (ibin .add .u64 (List.getD a 4 0) (List.getD b 4 0)))
 )
 )
theorem Zwc (a : List Int) (b : List Int) : ZkG a b = some (ZaU a b) := by
 unfold ZkG ZaU
 repeat' (first | refine ZiK ?_ ?_ | rfl)
def ZaE (a : List Int) (b : List Int) : List Int :=
 cond (!(ZaW a)) (
 (ZbM (ibin .sub .u64 (ibin .add .u64 (List.getD (Zaa a) 0 0) 4503599627370458) (List.getD (Zaa b) 0 0)) (ibin .sub .u64 (ibin .add .u64 (List.getD (Zaa a) 1 0) 4503599627370494) (List.getD (Zaa b) 1 0)) (ibin .sub .u64 (ibin .add .u64 (List.getD (Zaa a) 2 0) 4503599627370494) (List.getD (Zaa b) 2 0)) (ibin .sub .u64 (ibin .add .u64 (List.getD (Zaa a) 3 0) 4503599627370494) (List.getD (Zaa b) 3 0)) (ibin .sub .u64 (ibin .add .u64 (List.getD (Zaa a) 4 0) 4503599627370494) (List.getD (Zaa b) 4 0)))
 ) (
 cond (!(ZaW b)) (
 (ZbM (ibin .sub .u64 (ibin .add .u64 (List.getD (Zaa a) 0 0) 4503599627370458) (List.getD (Zaa b) 0 0)) (ibin .sub .u64 (ibin .add .u64 (List.getD (Zaa a) 1 0) 4503599627370494) (List.getD (Zaa b) 1 0)) (ibin .sub .u64 (ibin .add .u64 (List.getD (Zaa a) 2 0) 4503599627370494) (List.getD (Zaa b) 2 0)) (ibin .sub .u64 (ibin .add .u64 (List.getD (Zaa a) 3 0) 4503599627370494) (List.getD (Zaa b) 3 0)) (ibin .sub .u64 (ibin .add .u64 (List.getD (Zaa a) 4 0) 4503599627370494) (List.getD (Zaa b) 4 0)))
 ) (
 (ZbM (ibin .sub .u64 (ibin .add .u64 (List.getD a 0 0) 4503599627370458) (List.getD b 0 0)) (ibin .sub .u64 (ibin .add .u64 (List.getD a 1 0) 4503599627370494) (List.getD b 1 0)) (ibin .sub .u64 (ibin .add .u64 (List.getD a 2 0) 4503599627370494) (List.getD b 2 0)) (ibin .sub .u64 (ibin .add .u64 (List.getD a 3 0) 4503599627370494) (List.getD b 3 0)) (ibin .sub .u64 (ibin .add .u64 (List.getD a 4 0) 4503599627370494) (List.getD b 4 0)))
 )
 )
def ZkH (a : List Int) (b : List Int) : Option (List Int) :=
 cond (!(ZaW a)) (
 some (ZbM (ibin .sub .u64 (ibin .add .u64 (List.getD (Zaa a) 0 0) 4503599627370458) (List.getD (Zaa b) 0 0)) (ibin .sub .u64 (ibin .add .u64 (List.getD (Zaa a) 1 0) 4503599627370494) (List.getD (Zaa b) 1 0)) (ibin .sub .u64 (ibin .add .u64 (List.getD (Zaa a) 2 0) 4503599627370494) (List.getD (Zaa b) 2 0)) (ibin .sub .u64 (ibin .add .u64 (List.getD (Zaa a) 3 0) 4503599627370494) (List.getD (Zaa b) 3 0)) (ibin .sub .u64 (ibin .add .u64 (List.getD (Zaa a) 4 0) 4503599627370494) (List.getD (Zaa b) 4 0)))
 ) (
 cond (!(ZaW b)) (
 some (ZbM (ibin .sub .u64 (ibin .add .u64 (List.getD (Zaa a) 0 0) 4503599627370458) (List.getD (Zaa b) 0 0)) (ibin .sub .u64 (ibin .add .u64 (List.getD (Zaa a) 1 0) 4503599627370494) (List.getD (Zaa b) 1 0)) (ibin .sub .u64 (ibin .add .u64 (List.getD (Zaa a) 2 0) 4503599627370494) (List.getD (Zaa b) 2 0)) (ibin .sub .u64 (ibin .add .u64 (List.getD (Zaa a) 3 0) 4503599627370494) (List.getD (Zaa b) 3 0)) (ibin .sub .u64 (ibin .add .u64 (List.getD (Zaa a) 4 0) 4503599627370494) (List.getD (Zaa b) 4 0)))
 ) (
 some (ZbM (ibin .sub .u64 (ibin .add .u64 (List.getD a 0 0) 4503599627370458) (List.getD b 0 0)) (ibin .sub .u64 (ibin .add .u64 (List.getD a 1 0) 4503599627370494) (List.getD b 1 0)) (ibin .sub .u64 (ibin .add .u64 (List.getD a 2 0) 4503599627370494) (List.getD b 2 0)) (ibin .sub .u64 (ibin .add .u64 (List.getD a 3 0) 4503599627370494) (List.getD b 3 0)) (ibin .sub .u64 (ibin .add .u64 (List.getD a 4 0) 4503599627370494) (List.getD b 4 0)))
 )
 )
theorem Zwd (a : List Int) (b : List Int) : ZkH a b = some (ZaE a b) := by
 unfold ZkH ZaE
 repeat' (first | refine ZiK ?_ ?_ | rfl)
def ZaS (a : List Int) : List Int :=
 (ZaE [0, 0, 0, 0, 0] a)
def Zgp (a : Int) (b : Int) : (Int × Int) :=
 let x1 := (ibin .add .u64 (ibin .mul .u64 (ibin .shr .u64 a 32) (ibin .and .u64 b 4294967295)) (ibin .shr .u64 (ibin .mul .u64 (ibin .and .u64 a 4294967295) (ibin .and .u64 b 4294967295)) 32))
 ((ibin .add .u64 (ibin .add .u64 (ibin .mul .u64 (ibin .shr .u64 a 32) (ibin .shr .u64 b 32)) (ibin .shr .u64 x1 32)) (ibin .shr .u64 (ibin .add .u64 (ibin .and .u64 x1 4294967295) (ibin .mul .u64 (ibin .and .u64 a 4294967295) (ibin .shr .u64 b 32))) 32)), (ibin .mul .u64 a b))
def Zad (a : (Int × Int)) (b : Int) (c : Int) : Option ((Int × Int)) :=
 mo (Zen a.2 (Zgp b c).2 0) none fun r1 =>
 mo (Zen a.1 (Zgp b c).1 r1.2) none fun r2 =>
 some (r2.1, r1.1)
def Zcq (a : (Int × Int)) : Int :=
 (ibin .or .u64 (ibin .shl .u64 a.1 13) (ibin .shr .u64 a.2 51))
def Zdt (a : (Int × Int)) (b : (Int × Int)) (c : (Int × Int)) (d : (Int × Int)) (e : (Int × Int)) : Option (List Int) :=
 mo (Zad (b.1, b.2) (Zcq (a.1, a.2)) 1) none fun r1 =>
 mo (Zad (c.1, c.2) (Zcq (r1.1, r1.2)) 1) none fun r2 =>
 mo (Zad (d.1, d.2) (Zcq (r2.1, r2.2)) 1) none fun r3 =>
 mo (Zad (e.1, e.2) (Zcq (r3.1, r3.2)) 1) none fun r4 =>
 mo (Zad (0, (ibin .and .u64 a.2 2251799813685247)) (Zcq (r4.1, r4.2)) 19) none fun r5 =>
 some (ZbM (ibin .and .u64 r5.2 2251799813685247) (ibin .add .u64 (ibin .and .u64 r1.2 2251799813685247) (Zcq (r5.1, r5.2))) (ibin .and .u64 r2.2 2251799813685247) (ibin .and .u64 r3.2 2251799813685247) (ibin .and .u64 r4.2 2251799813685247))
def Zan (a : List Int) (b : List Int) : Option (List Int) :=
 cond (!(ZaW a)) (
 mo (Zad (0, 0) (List.getD (Zaa a) 0 0) (List.getD (Zaa b) 0 0)) none fun r1 =>
 mo (Zad (r1.1, r1.2) (ibin .mul .u64 19 (List.getD (Zaa a) 1 0)) (List.getD (Zaa b) 4 0)) none fun r2 =>
 let x1 := (ibin .mul .u64 19 (List.getD (Zaa a) 2 0))
 mo (Zad (r2.1, r2.2) x1 (List.getD (Zaa b) 3 0)) none fun r3 =>
 let x2 := (ibin .mul .u64 19 (List.getD (Zaa a) 3 0))
 mo (Zad (r3.1, r3.2) x2 (List.getD (Zaa b) 2 0)) none fun r4 =>
 let x3 := (ibin .mul .u64 19 (List.getD (Zaa a) 4 0))
 mo (Zad (r4.1, r4.2) x3 (List.getD (Zaa b) 1 0)) none fun r5 =>
 mo (Zad (0, 0) (List.getD (Zaa a) 0 0) (List.getD (Zaa b) 1 0)) none fun r6 =>
 mo (Zad (r6.1, r6.2) (List.getD (Zaa a) 1 0) (List.getD (Zaa b) 0 0)) none fun r7 =>
 mo (Zad (r7.1, r7.2) x1 (List.getD (Zaa b) 4 0)) none fun r8 =>
 mo (Zad (r8.1, r8.2) x2 (List.getD (Zaa b) 3 0)) none fun r9 =>
 mo (Zad (r9.1, r9.2) x3 (List.getD (Zaa b) 2 0)) none fun r10 =>
 mo (Zad (0, 0) (List.getD (Zaa a) 0 0) (List.getD (Zaa b) 2 0)) none fun r11 =>
 mo (Zad (r11.1, r11.2) (List.getD (Zaa a) 1 0) (List.getD (Zaa b) 1 0)) none fun r12 =>
 mo (Zad (r12.1, r12.2) (List.getD (Zaa a) 2 0) (List.getD (Zaa b) 0 0)) none fun r13 =>
 mo (Zad (r13.1, r13.2) x2 (List.getD (Zaa b) 4 0)) none fun r14 =>
 mo (Zad (r14.1, r14.2) x3 (List.getD (Zaa b) 3 0)) none fun r15 =>
 mo (Zad (0, 0) (List.getD (Zaa a) 0 0) (List.getD (Zaa b) 3 0)) none fun r16 =>
 mo (Zad (r16.1, r16.2) (List.getD (Zaa a) 1 0) (List.getD (Zaa b) 2 0)) none fun r17 =>
 mo (Zad (r17.1, r17.2) (List.getD (Zaa a) 2 0) (List.getD (Zaa b) 1 0)) none fun r18 =>
 mo (Zad (r18.1, r18.2) (List.getD (Zaa a) 3 0) (List.getD (Zaa b) 0 0)) none fun r19 =>
 mo (Zad (r19.1, r19.2) x3 (List.getD (Zaa b) 4 0)) none fun r20 =>
 mo (Zad (0, 0) (List.getD (Zaa a) 0 0) (List.getD (Zaa b) 4 0)) none fun r21 =>
 mo (Zad (r21.1, r21.2) (List.getD (Zaa a) 1 0) (List.getD (Zaa b) 3 0)) none fun r22 =>
 mo (Zad (r22.1, r22.2) (List.getD (Zaa a) 2 0) (List.getD (Zaa b) 2 0)) none fun r23 =>
 mo (Zad (r23.1, r23.2) (List.getD (Zaa a) 3 0) (List.getD (Zaa b) 1 0)) none fun r24 =>
 mo (Zad (r24.1, r24.2) (List.getD (Zaa a) 4 0) (List.getD (Zaa b) 0 0)) none fun r25 =>
 mo (Zdt (r5.1, r5.2) (r10.1, r10.2) (r15.1, r15.2) (r20.1, r20.2) (r25.1, r25.2)) none fun r26 =>
 some r26
 ) (
 cond (!(ZaW b)) (
 mo (Zad (0, 0) (List.getD (Zaa a) 0 0) (List.getD (Zaa b) 0 0)) none fun r27 =>
 mo (Zad (r27.1, r27.2) (ibin .mul .u64 19 (List.getD (Zaa a) 1 0)) (List.getD (Zaa b) 4 0)) none fun r28 =>
 let x4 := (ibin .mul .u64 19 (List.getD (Zaa a) 2 0))
 mo (Zad (r28.1, r28.2) x4 (List.getD (Zaa b) 3 0)) none fun r29 =>
 let x5 := (ibin .mul .u64 19 (List.getD (Zaa a) 3 0))
 mo (Zad (r29.1, r29.2) x5 (List.getD (Zaa b) 2 0)) none fun r30 =>
 let x6 := (ibin .mul .u64 19 (List.getD (Zaa a) 4 0))
 mo (Zad (r30.1, r30.2) x6 (List.getD (Zaa b) 1 0)) none fun r31 =>
 mo (Zad (0, 0) (List.getD (Zaa a) 0 0) (List.getD (Zaa b) 1 0)) none fun r32 =>
 mo (Zad (r32.1, r32.2) (List.getD (Zaa a) 1 0) (List.getD (Zaa b) 0 0)) none fun r33 =>
 mo (Zad (r33.1, r33.2) x4 (List.getD (Zaa b) 4 0)) none fun r34 =>
 mo (Zad (r34.1, r34.2) x5 (List.getD (Zaa b) 3 0)) none fun r35 =>
 mo (Zad (r35.1, r35.2) x6 (List.getD (Zaa b) 2 0)) none fun r36 =>
 mo (Zad (0, 0) (List.getD (Zaa a) 0 0) (List.getD (Zaa b) 2 0)) none fun r37 =>
 mo (Zad (r37.1, r37.2) (List.getD (Zaa a) 1 0) (List.getD (Zaa b) 1 0)) none fun r38 =>
 mo (Zad (r38.1, r38.2) (List.getD (Zaa a) 2 0) (List.getD (Zaa b) 0 0)) none fun r39 =>
 mo (Zad (r39.1, r39.2) x5 (List.getD (Zaa b) 4 0)) none fun r40 =>
 mo (Zad (r40.1, r40.2) x6 (List.getD (Zaa b) 3 0)) none fun r41 =>
 mo (Zad (0, 0) (List.getD (Zaa a) 0 0) (List.getD (Zaa b) 3 0)) none fun r42 =>
 mo (Zad (r42.1, r42.2) (List.getD (Zaa a) 1 0) (List.getD (Zaa b) 2 0)) none fun r43 =>
 mo (Zad (r43.1, r43.2) (List.getD (Zaa a) 2 0) (List.getD (Zaa b) 1 0)) none fun r44 =>
 mo (Zad (r44.1, r44.2) (List.getD (Zaa a) 3 0) (List.getD (Zaa b) 0 0)) none fun r45 =>
 mo (Zad (r45.1, r45.2) x6 (List.getD (Zaa b) 4 0)) none fun r46 =>
 mo (Zad (0, 0) (List.getD (Zaa a) 0 0) (List.getD (Zaa b) 4 0)) none fun r47 =>
 mo (Zad (r47.1, r47.2) (List.getD (Zaa a) 1 0) (List.getD (Zaa b) 3 0)) none fun r48 =>
 mo (Zad (r48.1, r48.2) (List.getD (Zaa a) 2 0) (List.getD (Zaa b) 2 0)) none fun r49 =>
 mo (Zad (r49.1, r49.2) (List.getD (Zaa a) 3 0) (List.getD (Zaa b) 1 0)) none fun r50 =>
 mo (Zad (r50.1, r50.2) (List.getD (Zaa a) 4 0) (List.getD (Zaa b) 0 0)) none fun r51 =>
 mo (Zdt (r31.1, r31.2) (r36.1, r36.2) (r41.1, r41.2) (r46.1, r46.2) (r51.1, r51.2)) none fun r52 =>
 some r52
 ) (
 mo (Zad (0, 0) (List.getD a 0 0) (List.getD b 0 0)) none fun r53 =>
 mo (Zad (r53.1, r53.2) (ibin .mul .u64 19 (List.getD a 1 0)) (List.getD b 4 0)) none fun r54 =>
 let x7 := (ibin .mul .u64 19 (List.getD a 2 0))
 mo (Zad (r54.1, r54.2) x7 (List.getD b 3 0)) none fun r55 =>
 let x8 := (ibin .mul .u64 19 (List.getD a 3 0))
 mo (Zad (r55.1, r55.2) x8 (List.getD b 2 0)) none fun r56 =>
 let x9 := (ibin .mul .u64 19 (List.getD a 4 0))
 mo (Zad (r56.1, r56.2) x9 (List.getD b 1 0)) none fun r57 =>
 mo (Zad (0, 0) (List.getD a 0 0) (List.getD b 1 0)) none fun r58 =>
 mo (Zad (r58.1, r58.2) (List.getD a 1 0) (List.getD b 0 0)) none fun r59 =>
 mo (Zad (r59.1, r59.2) x7 (List.getD b 4 0)) none fun r60 =>
 mo (Zad (r60.1, r60.2) x8 (List.getD b 3 0)) none fun r61 =>
 mo (Zad (r61.1, r61.2) x9 (List.getD b 2 0)) none fun r62 =>
 mo (Zad (0, 0) (List.getD a 0 0) (List.getD b 2 0)) none fun r63 =>
 mo (Zad (r63.1, r63.2) (List.getD a 1 0) (List.getD b 1 0)) none fun r64 =>
 mo (Zad (r64.1, r64.2) (List.getD a 2 0) (List.getD b 0 0)) none fun r65 =>
 mo (Zad (r65.1, r65.2) x8 (List.getD b 4 0)) none fun r66 =>
 mo (Zad (r66.1, r66.2) x9 (List.getD b 3 0)) none fun r67 =>
 mo (Zad (0, 0) (List.getD a 0 0) (List.getD b 3 0)) none fun r68 =>
 mo (Zad (r68.1, r68.2) (List.getD a 1 0) (List.getD b 2 0)) none fun r69 =>
 mo (Zad (r69.1, r69.2) (List.getD a 2 0) (List.getD b 1 0)) none fun r70 =>
 mo (Zad (r70.1, r70.2) (List.getD a 3 0) (List.getD b 0 0)) none fun r71 =>
 mo (Zad (r71.1, r71.2) x9 (List.getD b 4 0)) none fun r72 =>
 mo (Zad (0, 0) (List.getD a 0 0) (List.getD b 4 0)) none fun r73 =>
 mo (Zad (r73.1, r73.2) (List.getD a 1 0) (List.getD b 3 0)) none fun r74 =>
 mo (Zad (r74.1, r74.2) (List.getD a 2 0) (List.getD b 2 0)) none fun r75 =>
 mo (Zad (r75.1, r75.2) (List.getD a 3 0) (List.getD b 1 0)) none fun r76 =>
 mo (Zad (r76.1, r76.2) (List.getD a 4 0) (List.getD b 0 0)) none fun r77 =>
 mo (Zdt (r57.1, r57.2) (r62.1, r62.2) (r67.1, r67.2) (r72.1, r72.2) (r77.1, r77.2)) none fun r78 =>
 some r78
 )
 )
def ZaP (a : List Int) : Option (List Int) :=
 cond (!(ZaW a)) (
 mo (Zad (0, 0) (List.getD (Zaa a) 0 0) (List.getD (Zaa a) 0 0)) none fun r1 =>
 mo (Zad (r1.1, r1.2) (ibin .mul .u64 38 (List.getD (Zaa a) 1 0)) (List.getD (Zaa a) 4 0)) none fun r2 =>
 let x1 := (ibin .mul .u64 38 (List.getD (Zaa a) 2 0))
 mo (Zad (r2.1, r2.2) x1 (List.getD (Zaa a) 3 0)) none fun r3 =>
 let x2 := (ibin .mul .u64 2 (List.getD (Zaa a) 0 0))
 mo (Zad (0, 0) x2 (List.getD (Zaa a) 1 0)) none fun r4 =>
 mo (Zad (r4.1, r4.2) x1 (List.getD (Zaa a) 4 0)) none fun r5 =>
 let x3 := (ibin .mul .u64 19 (List.getD (Zaa a) 3 0))
 mo (Zad (r5.1, r5.2) x3 (List.getD (Zaa a) 3 0)) none fun r6 =>
 mo (Zad (0, 0) x2 (List.getD (Zaa a) 2 0)) none fun r7 =>
 mo (Zad (r7.1, r7.2) (List.getD (Zaa a) 1 0) (List.getD (Zaa a) 1 0)) none fun r8 =>
 mo (Zad (r8.1, r8.2) (ibin .mul .u64 2 x3) (List.getD (Zaa a) 4 0)) none fun r9 =>
 mo (Zad (0, 0) x2 (List.getD (Zaa a) 3 0)) none fun r10 =>
 let x4 := (ibin .mul .u64 2 (List.getD (Zaa a) 1 0))
 mo (Zad (r10.1, r10.2) x4 (List.getD (Zaa a) 2 0)) none fun r11 =>
 mo (Zad (r11.1, r11.2) (ibin .mul .u64 19 (List.getD (Zaa a) 4 0)) (List.getD (Zaa a) 4 0)) none fun r12 =>
 mo (Zad (0, 0) x2 (List.getD (Zaa a) 4 0)) none fun r13 =>
 mo (Zad (r13.1, r13.2) x4 (List.getD (Zaa a) 3 0)) none fun r14 =>
 mo (Zad (r14.1, r14.2) (List.getD (Zaa a) 2 0) (List.getD (Zaa a) 2 0)) none fun r15 =>
 mo (Zdt (r3.1, r3.2) (r6.1, r6.2) (r9.1, r9.2) (r12.1, r12.2) (r15.1, r15.2)) none fun r16 =>
 some r16
 ) (
 mo (Zad (0, 0) (List.getD a 0 0) (List.getD a 0 0)) none fun r17 =>
 mo (Zad (r17.1, r17.2) (ibin .mul .u64 38 (List.getD a 1 0)) (List.getD a 4 0)) none fun r18 =>
 let x5 := (ibin .mul .u64 38 (List.getD a 2 0))
 mo (Zad (r18.1, r18.2) x5 (List.getD a 3 0)) none fun r19 =>
 let x6 := (ibin .mul .u64 2 (List.getD a 0 0))
 mo (Zad (0, 0) x6 (List.getD a 1 0)) none fun r20 =>
 mo (Zad (r20.1, r20.2) x5 (List.getD a 4 0)) none fun r21 =>
 let x7 := (ibin .mul .u64 19 (List.getD a 3 0))
 mo (Zad (r21.1, r21.2) x7 (List.getD a 3 0)) none fun r22 =>
 mo (Zad (0, 0) x6 (List.getD a 2 0)) none fun r23 =>
 mo (Zad (r23.1, r23.2) (List.getD a 1 0) (List.getD a 1 0)) none fun r24 =>
 mo (Zad (r24.1, r24.2) (ibin .mul .u64 2 x7) (List.getD a 4 0)) none fun r25 =>
 mo (Zad (0, 0) x6 (List.getD a 3 0)) none fun r26 =>
 let x8 := (ibin .mul .u64 2 (List.getD a 1 0))
 mo (Zad (r26.1, r26.2) x8 (List.getD a 2 0)) none fun r27 =>
 mo (Zad (r27.1, r27.2) (ibin .mul .u64 19 (List.getD a 4 0)) (List.getD a 4 0)) none fun r28 =>
 mo (Zad (0, 0) x6 (List.getD a 4 0)) none fun r29 =>
 mo (Zad (r29.1, r29.2) x8 (List.getD a 3 0)) none fun r30 =>
 mo (Zad (r30.1, r30.2) (List.getD a 2 0) (List.getD a 2 0)) none fun r31 =>
 mo (Zdt (r19.1, r19.2) (r22.1, r22.2) (r25.1, r25.2) (r28.1, r28.2) (r31.1, r31.2)) none fun r32 =>
 some r32
 )
def ZdK (a : List Int) : List Int :=
 let x1 := (ibin .or .u64 (ibin .or .u64 (ibin .or .u64 (ibin .or .u64 (ibin .or .u64 (ibin .or .u64 (ibin .or .u64 (ibin .or .u64 0 (ibin .shl .u64 (IntKind.wrap .u64 (List.getD a 0 0)) 0)) (ibin .shl .u64 (IntKind.wrap .u64 (List.getD a 1 0)) 8)) (ibin .shl .u64 (IntKind.wrap .u64 (List.getD a 2 0)) 16)) (ibin .shl .u64 (IntKind.wrap .u64 (List.getD a 3 0)) 24)) (ibin .shl .u64 (IntKind.wrap .u64 (List.getD a 4 0)) 32)) (ibin .shl .u64 (IntKind.wrap .u64 (List.getD a 5 0)) 40)) (ibin .shl .u64 (IntKind.wrap .u64 (List.getD a 6 0)) 48)) (ibin .shl .u64 (IntKind.wrap .u64 (List.getD a 7 0)) 56))
 let x2 := (ibin .or .u64 (ibin .or .u64 (ibin .or .u64 (ibin .or .u64 (ibin .or .u64 (ibin .or .u64 (ibin .or .u64 (ibin .or .u64 0 (ibin .shl .u64 (IntKind.wrap .u64 (List.getD a 8 0)) 0)) (ibin .shl .u64 (IntKind.wrap .u64 (List.getD a 9 0)) 8)) (ibin .shl .u64 (IntKind.wrap .u64 (List.getD a 10 0)) 16)) (ibin .shl .u64 (IntKind.wrap .u64 (List.getD a 11 0)) 24)) (ibin .shl .u64 (IntKind.wrap .u64 (List.getD a 12 0)) 32)) (ibin .shl .u64 (IntKind.wrap .u64 (List.getD a 13 0)) 40)) (ibin .shl .u64 (IntKind.wrap .u64 (List.getD a 14 0)) 48)) (ibin .shl .u64 (IntKind.wrap .u64 (List.getD a 15 0)) 56))
 let x3 := (ibin .or .u64 (ibin .or .u64 (ibin .or .u64 (ibin .or .u64 (ibin .or .u64 (ibin .or .u64 (ibin .or .u64 (ibin .or .u64 0 (ibin .shl .u64 (IntKind.wrap .u64 (List.getD a 16 0)) 0)) (ibin .shl .u64 (IntKind.wrap .u64 (List.getD a 17 0)) 8)) (ibin .shl .u64 (IntKind.wrap .u64 (List.getD a 18 0)) 16)) (ibin .shl .u64 (IntKind.wrap .u64 (List.getD a 19 0)) 24)) (ibin .shl .u64 (IntKind.wrap .u64 (List.getD a 20 0)) 32)) (ibin .shl .u64 (IntKind.wrap .u64 (List.getD a 21 0)) 40)) (ibin .shl .u64 (IntKind.wrap .u64 (List.getD a 22 0)) 48)) (ibin .shl .u64 (IntKind.wrap .u64 (List.getD a 23 0)) 56))
 let x4 := (ibin .or .u64 (ibin .or .u64 (ibin .or .u64 (ibin .or .u64 (ibin .or .u64 (ibin .or .u64 (ibin .or .u64 (ibin .or .u64 0 (ibin .shl .u64 (IntKind.wrap .u64 (List.getD a 24 0)) 0)) (ibin .shl .u64 (IntKind.wrap .u64 (List.getD a 25 0)) 8)) (ibin .shl .u64 (IntKind.wrap .u64 (List.getD a 26 0)) 16)) (ibin .shl .u64 (IntKind.wrap .u64 (List.getD a 27 0)) 24)) (ibin .shl .u64 (IntKind.wrap .u64 (List.getD a 28 0)) 32)) (ibin .shl .u64 (IntKind.wrap .u64 (List.getD a 29 0)) 40)) (ibin .shl .u64 (IntKind.wrap .u64 (List.getD a 30 0)) 48)) (ibin .shl .u64 (IntKind.wrap .u64 (List.getD a 31 0)) 56))
 [(ibin .and .u64 x1 2251799813685247), (ibin .and .u64 (ibin .or .u64 (ibin .shr .u64 x1 51) (ibin .shl .u64 x2 13)) 2251799813685247), (ibin .and .u64 (ibin .or .u64 (ibin .shr .u64 x2 38) (ibin .shl .u64 x3 26)) 2251799813685247), (ibin .and .u64 (ibin .or .u64 (ibin .shr .u64 x3 25) (ibin .shl .u64 x4 39)) 2251799813685247), (ibin .and .u64 (ibin .shr .u64 x4 12) 2251799813685247)]
def Zbj (a : List Int) : (List Int × Int) :=
 cond (icmp .gtr (List.getD a 31 0) 127) (
 ([0, 0, 0, 0, 0], 3)
 ) (
 cond (!(decide ((ZdK a) = (Zaa (ZdK a))))) (
 ([0, 0, 0, 0, 0], 3)
 ) (
 ((ZdK a), 0)
 )
 )
def ZnV (a : List Int) : Option ((List Int × Int)) :=
 cond (icmp .gtr (List.getD a 31 0) 127) (
 some ([0, 0, 0, 0, 0], 3)
 ) (
 cond (!(decide ((ZdK a) = (Zaa (ZdK a))))) (
 some ([0, 0, 0, 0, 0], 3)
 ) (
 some ((ZdK a), 0)
 )
 )
theorem Zz8 (a : List Int) : ZnV a = some (Zbj a) := by
 unfold ZnV Zbj
 repeat' (first | refine ZiK ?_ ?_ | rfl)
def Zej (a : List Int) : List Int :=
 (Zaa (ZdK a))
def ZaB (a : List Int) : List Int :=
 let x1 := (ibin .or .u64 (List.getD (Zaa a) 0 0) (ibin .shl .u64 (List.getD (Zaa a) 1 0) 51))
 let x2 := (ibin .or .u64 (ibin .shr .u64 (List.getD (Zaa a) 1 0) 13) (ibin .shl .u64 (List.getD (Zaa a) 2 0) 38))
 let x3 := (ibin .or .u64 (ibin .shr .u64 (List.getD (Zaa a) 2 0) 26) (ibin .shl .u64 (List.getD (Zaa a) 3 0) 25))
 let x4 := (ibin .or .u64 (ibin .shr .u64 (List.getD (Zaa a) 3 0) 39) (ibin .shl .u64 (List.getD (Zaa a) 4 0) 12))
 [(IntKind.wrap .u8 (ibin .shr .u64 x1 0)), (IntKind.wrap .u8 (ibin .shr .u64 x1 8)), (IntKind.wrap .u8 (ibin .shr .u64 x1 16)), (IntKind.wrap .u8 (ibin .shr .u64 x1 24)), (IntKind.wrap .u8 (ibin .shr .u64 x1 32)), (IntKind.wrap .u8 (ibin .shr .u64 x1 40)), (IntKind.wrap .u8 (ibin .shr .u64 x1 48)), (IntKind.wrap .u8 (ibin .shr .u64 x1 56)), (IntKind.wrap .u8 (ibin .shr .u64 x2 0)), (IntKind.wrap .u8 (ibin .shr .u64 x2 8)), (IntKind.wrap .u8 (ibin .shr .u64 x2 16)), (IntKind.wrap .u8 (ibin .shr .u64 x2 24)), (IntKind.wrap .u8 (ibin .shr .u64 x2 32)), (IntKind.wrap .u8 (ibin .shr .u64 x2 40)), (IntKind.wrap .u8 (ibin .shr .u64 x2 48)), (IntKind.wrap .u8 (ibin .shr .u64 x2 56)), (IntKind.wrap .u8 (ibin .shr .u64 x3 0)), (IntKind.wrap .u8 (ibin .shr .u64 x3 8)), (IntKind.wrap .u8 (ibin .shr .u64 x3 16)), (IntKind.wrap .u8 (ibin .shr .u64 x3 24)), (IntKind.wrap .u8 (ibin .shr .u64 x3 32)), (IntKind.wrap .u8 (ibin .shr .u64 x3 40)), (IntKind.wrap .u8 (ibin .shr .u64 x3 48)), (IntKind.wrap .u8 (ibin .shr .u64 x3 56)), (IntKind.wrap .u8 (ibin .shr .u64 x4 0)), (IntKind.wrap .u8 (ibin .shr .u64 x4 8)), (IntKind.wrap .u8 (ibin .shr .u64 x4 16)), (IntKind.wrap .u8 (ibin .shr .u64 x4 24)), (IntKind.wrap .u8 (ibin .shr .u64 x4 32)), (IntKind.wrap .u8 (ibin .shr .u64 x4 40)), (IntKind.wrap .u8 (ibin .shr .u64 x4 48)), (IntKind.wrap .u8 (ibin .shr .u64 x4 56))]
def ZcE (N : Nat) (v : (Unit × Unit × Int × Int) × (List Int × Unit)) : Option (((Unit × Unit × Int × Int) × (List Int × Unit)) ⊕ (((Unit × Unit) × (List Int × Unit)) ⊕ (Unit × Unit))) :=
 cond (icmp .lss v.1.2.2.2 v.1.2.2.1) (
 mo (ZaP v.2.1) none fun r6 =>
 some (.inl (((), (), v.1.2.2.1, (ibin .add .i64 v.1.2.2.2 1)), (r6, ())))
 ) (
 some (.inr (.inl (((), ()), (v.2.1, ()))))
 )
def ZaM (N : Nat) (a : List Int) (b : Int) : Option (List Int) :=
 mo (loopF (ZcE N) N (((), (), b, 0), (a, ()))) none fun r7 =>
 match r7 with
 | .inl u8 => (
 some u8.2.1
 )
 | .inr _ => (
 none
 )
def ZfB (N : Nat) (a : List Int) : Option ((List Int × List Int)) :=
 mo (ZaP a) none fun r1 =>
 mo (ZaM N r1 2) none fun r2 =>
 mo (Zan r2 a) none fun r3 =>
 mo (Zan r3 r1) none fun r4 =>
 mo (ZaP r4) none fun r5 =>
 mo (Zan r5 r3) none fun r6 =>
 mo (ZaM N r6 5) none fun r7 =>
 mo (Zan r7 r6) none fun r8 =>
 mo (ZaM N r8 10) none fun r9 =>
 mo (Zan r9 r8) none fun r10 =>
 mo (ZaM N r10 20) none fun r11 =>
 mo (Zan r11 r10) none fun r12 =>
 mo (ZaM N r12 10) none fun r13 =>
 mo (Zan r13 r8) none fun r14 =>
 mo (ZaM N r14 50) none fun r15 =>
 mo (Zan r15 r14) none fun r16 =>
 mo (ZaM N r16 100) none fun r17 =>
 mo (Zan r17 r16) none fun r18 =>
 mo (ZaM N r18 50) none fun r19 =>
 mo (Zan r19 r14) none fun r20 =>
 some (r20, r4)
def Zdg (N : Nat) (a : List Int) : Option (List Int) :=
 mo (ZfB N a) none fun r1 =>
 mo (ZaM N r1.1 5) none fun r2 =>
 mo (Zan r2 r1.2) none fun r3 =>
 some r3
def ZgR (N : Nat) (a : List Int) : Option (List Int) :=
 mo (ZfB N a) none fun r1 =>
 mo (ZaM N r1.1 2) none fun r2 =>
 mo (Zan r2 a) none fun r3 =>
 some r3
def ZbF (a : List Int) : List Int :=
 [1, 0, 0, 0, 0]
def ZcO (a : List Int) : Bool :=
 (decide ((Zaa a) = [0, 0, 0, 0, 0]))
def ZaQ (a : List Int) : Bool :=
 (icmp .eql (ibin .and .u64 (List.getD (Zaa a) 0 0) 1) 1)
def ZbC (a : Int) (b : List Int) (c : List Int) : List Int :=
 let x1 := (ineg .u64 (IntKind.wrap .u64 (ibin .and .i64 a 1)))
 let x2 := (List.set b 0 (ibin .or .u64 (ibin .and .u64 (List.getD b 0 0) x1) (ibin .andNot .u64 (List.getD c 0 0) x1)))
 let x3 := (List.set x2 1 (ibin .or .u64 (ibin .and .u64 (List.getD x2 1 0) x1) (ibin .andNot .u64 (List.getD c 1 0) x1)))
 let x4 := (List.set x3 2 (ibin .or .u64 (ibin .and .u64 (List.getD x3 2 0) x1) (ibin .andNot .u64 (List.getD c 2 0) x1)))
 let x5 := (List.set x4 3 (ibin .or .u64 (ibin .and .u64 (List.getD x4 3 0) x1) (ibin .andNot .u64 (List.getD c 3 0) x1)))
 (Zaa (List.set x5 4 (ibin .or .u64 (ibin .and .u64 (List.getD x5 4 0) x1) (ibin .andNot .u64 (List.getD c 4 0) x1))))
def ZaL (a : List Int) : List Int :=
 (ZbC (IntKind.wrap .i64 (ibin .and .u64 (List.getD (Zaa a) 0 0) 1)) (ZaS a) a)
def ZcB (a : Int) : Option (List Int) :=
 cond (icmp .lss a 0) (
 some [0, 0, 0, 0, 0]
 ) (
 cond (icmp .geq a 7) (
 some [0, 0, 0, 0, 0]
 ) (
 cond (decide (0 ≤ a ∧ a < ((7 : Nat) : Int))) (
 some (Zbe (Int.toNat a))
 ) (
 none
 )
 )
 )
def ZdR (N : Nat) (a : List Int) (b : List Int) : Option ((List Int × Bool)) :=
 mo (ZaP b) none fun r1 =>
 mo (Zan r1 b) none fun r2 =>
 mo (ZaP r2) none fun r3 =>
 mo (Zan r3 b) none fun r4 =>
 mo (Zan (Zaa a) r2) none fun r5 =>
 mo (Zan (Zaa a) r4) none fun r6 =>
 mo (ZgR N r6) none fun r7 =>
 mo (Zan r5 r7) none fun r8 =>
 mo (ZaP r8) none fun r9 =>
 mo (Zan b r9) none fun r10 =>
 let x1 := (decide (r10 = (ZaS (Zaa a))))
 cond x1 (
 mo (Zan r8 (Zbe 1)) none fun r11 =>
 cond (decide (r10 = (Zaa a))) (
 some ((ZaL r11), true)
 ) (
 some ((ZaL r11), x1)
 )
 ) (
 mo (Zan (ZaS (Zaa a)) (Zbe 1)) none fun r12 =>
 cond (decide (r10 = r12)) (
 mo (Zan r8 (Zbe 1)) none fun r13 =>
 cond (decide (r10 = (Zaa a))) (
 some ((ZaL r13), true)
 ) (
 some ((ZaL r13), x1)
 )
 ) (
 cond (decide (r10 = (Zaa a))) (
 some ((ZaL r8), true)
 ) (
 some ((ZaL r8), x1)
 )
 )
 )
def Zas (a : (List Int × List Int × List Int × List Int)) : (List Int × List Int × List Int × List Int) :=
 cond (decide (a.2.2.1 = [0, 0, 0, 0, 0])) (
 ([0, 0, 0, 0, 0], [1, 0, 0, 0, 0], [1, 0, 0, 0, 0], [0, 0, 0, 0, 0])
 ) (
 (a.1, a.2.1, a.2.2.1, a.2.2.2)
 )
def Zia (a : (List Int × List Int × List Int × List Int)) : Option ((List Int × List Int × List Int × List Int)) :=
 cond (decide (a.2.2.1 = [0, 0, 0, 0, 0])) (
 some ([0, 0, 0, 0, 0], [1, 0, 0, 0, 0], [1, 0, 0, 0, 0], [0, 0, 0, 0, 0])
 ) (
 some (a.1, a.2.1, a.2.2.1, a.2.2.2)
 )
theorem ZrJ (a : (List Int × List Int × List Int × List Int)) : Zia a = some (Zas a) := by
 unfold Zia Zas
 repeat' (first | refine ZiK ?_ ?_ | rfl)
def ZAP (a : List Int) (b : List Int) : Option ((List Int × List Int × List Int × List Int)) :=
 mo (Zan a b) none fun r1 =>
 some (a, b, [1, 0, 0, 0, 0], r1)
def ZlC (a : List Int) (b : List Int) (c : List Int) (d : List Int) : Option ((List Int × List Int × List Int × List Int)) :=
 mo (Zan a b) none fun r1 =>
 mo (Zan c d) none fun r2 =>
 mo (Zan b c) none fun r3 =>
 mo (Zan a d) none fun r4 =>
 some (r1, r2, r3, r4)
def ZaC (a : (List Int × List Int × List Int × List Int)) (b : (List Int × List Int × List Int × List Int)) : Option ((List Int × List Int × List Int × List Int)) :=
 mo (Zan (ZaE (Zas (a.1, a.2.1, a.2.2.1, a.2.2.2)).2.1 (Zas (a.1, a.2.1, a.2.2.1, a.2.2.2)).1) (ZaE (Zas (b.1, b.2.1, b.2.2.1, b.2.2.2)).2.1 (Zas (b.1, b.2.1, b.2.2.1, b.2.2.2)).1)) none fun r1 =>
 mo (Zan (ZaU (Zas (a.1, a.2.1, a.2.2.1, a.2.2.2)).2.1 (Zas (a.1, a.2.1, a.2.2.1, a.2.2.2)).1) (ZaU (Zas (b.1, b.2.1, b.2.2.1, b.2.2.2)).2.1 (Zas (b.1, b.2.1, b.2.2.1, b.2.2.2)).1)) none fun r2 =>
 mo (Zan (Zas (a.1, a.2.1, a.2.2.1, a.2.2.2)).2.2.2 [1859910466990425, 932731440258426, 1072319116312658, 1815898335770999, 633789495995903]) none fun r3 =>
 mo (Zan r3 (Zas (b.1, b.2.1, b.2.2.1, b.2.2.2)).2.2.2) none fun r4 =>
 mo (Zan (Zas (a.1, a.2.1, a.2.2.1, a.2.2.2)).2.2.1 (Zas (b.1, b.2.1, b.2.2.1, b.2.2.2)).2.2.1) none fun r5 =>
 mo (ZlC (ZaE r2 r1) (ZaE (ZaU r5 r5) r4) (ZaU (ZaU r5 r5) r4) (ZaU r2 r1)) none fun r6 =>
 some (r6.1, r6.2.1, r6.2.2.1, r6.2.2.2)
def Za8 (a : (List Int × List Int × List Int × List Int)) : (List Int × List Int × List Int × List Int) :=
 ((ZaS (Zas (a.1, a.2.1, a.2.2.1, a.2.2.2)).1), (Zas (a.1, a.2.1, a.2.2.1, a.2.2.2)).2.1, (Zas (a.1, a.2.1, a.2.2.1, a.2.2.2)).2.2.1, (ZaS (Zas (a.1, a.2.1, a.2.2.1, a.2.2.2)).2.2.2))
def Zfx (a : (List Int × List Int × List Int × List Int)) (b : (List Int × List Int × List Int × List Int)) : Option ((List Int × List Int × List Int × List Int)) :=
 mo (ZaC (a.1, a.2.1, a.2.2.1, a.2.2.2) ((Za8 (b.1, b.2.1, b.2.2.1, b.2.2.2)).1, (Za8 (b.1, b.2.1, b.2.2.1, b.2.2.2)).2.1, (Za8 (b.1, b.2.1, b.2.2.1, b.2.2.2)).2.2.1, (Za8 (b.1, b.2.1, b.2.2.1, b.2.2.2)).2.2.2)) none fun r1 =>
 some (r1.1, r1.2.1, r1.2.2.1, r1.2.2.2)
def Zbt (a : (List Int × List Int × List Int × List Int)) : Option ((List Int × List Int × List Int × List Int)) :=
 mo (ZaP (Zas (a.1, a.2.1, a.2.2.1, a.2.2.2)).1) none fun r1 =>
 mo (ZaP (Zas (a.1, a.2.1, a.2.2.1, a.2.2.2)).2.1) none fun r2 =>
 mo (ZaP (Zas (a.1, a.2.1, a.2.2.1, a.2.2.2)).2.2.1) none fun r3 =>
 mo (ZaP (ZaU (Zas (a.1, a.2.1, a.2.2.1, a.2.2.2)).1 (Zas (a.1, a.2.1, a.2.2.1, a.2.2.2)).2.1)) none fun r4 =>
 mo (ZlC (ZaE (ZaE r4 r1) r2) (ZaE (ZaE (ZaE r2 r1) r3) r3) (ZaE r2 r1) (ZaE (ZaS r1) r2)) none fun r5 =>
 some (r5.1, r5.2.1, r5.2.2.1, r5.2.2.2)
def Zcb (a : (List Int × List Int × List Int × List Int)) (b : (List Int × List Int × List Int × List Int)) : Option (Bool) :=
 mo (Zan (Zas (a.1, a.2.1, a.2.2.1, a.2.2.2)).1 (Zas (b.1, b.2.1, b.2.2.1, b.2.2.2)).2.2.1) none fun r1 =>
 mo (Zan (Zas (b.1, b.2.1, b.2.2.1, b.2.2.2)).1 (Zas (a.1, a.2.1, a.2.2.1, a.2.2.2)).2.2.1) none fun r2 =>
 cond (decide (r1 = r2)) (
 mo (Zan (Zas (a.1, a.2.1, a.2.2.1, a.2.2.2)).2.1 (Zas (b.1, b.2.1, b.2.2.1, b.2.2.2)).2.2.1) none fun r3 =>
 mo (Zan (Zas (b.1, b.2.1, b.2.2.1, b.2.2.2)).2.1 (Zas (a.1, a.2.1, a.2.2.1, a.2.2.2)).2.2.1) none fun r4 =>
 some (decide (r3 = r4))
 ) (
 some false
 )
def Zb1 (N : Nat) (a : (List Int × List Int × List Int × List Int)) : Option ((List Int × List Int)) :=
 mo (Zdg N (Zas (a.1, a.2.1, a.2.2.1, a.2.2.2)).2.2.1) none fun r1 =>
 mo (Zan (Zas (a.1, a.2.1, a.2.2.1, a.2.2.2)).1 r1) none fun r2 =>
 mo (Zan (Zas (a.1, a.2.1, a.2.2.1, a.2.2.2)).2.1 r1) none fun r3 =>
 some (r2, r3)
def Zd0 (a : List Int) (b : List Int) : Option (((List Int × List Int × List Int × List Int) × Int)) :=
 mo (ZaP (Zaa a)) none fun r1 =>
 mo (ZaP (Zaa b)) none fun r2 =>
 mo (ZcB 2) none fun r3 =>
 mo (Zan r3 r1) none fun r4 =>
 mo (Zan r4 r2) none fun r5 =>
 cond (!(decide ((ZaE r2 r1) = (ZaU [1, 0, 0, 0, 0] r5)))) (
 some (([0, 0, 0, 0, 0], [0, 0, 0, 0, 0], [0, 0, 0, 0, 0], [0, 0, 0, 0, 0]), 40)
 ) (
 mo (ZAP (Zaa a) (Zaa b)) none fun r6 =>
 some ((r6.1, r6.2.1, r6.2.2.1, r6.2.2.2), 0)
 )
def ZbN  : (List Int × List Int × List Int × List Int) :=
 ([1738742601995546, 1146398526822698, 2070867633025821, 562264141797630, 587772402128613], [1801439850948184, 1351079888211148, 450359962737049, 900719925474099, 1801439850948198], [1, 0, 0, 0, 0], [1841354044333475, 16398895984059, 755974180946558, 900171276175154, 1821297809914039])
def Zbk (N : Nat) (v : (Unit × Unit × Unit × Unit × Int) × ((List Int × List Int × List Int × List Int) × List Int × Unit)) : Option (((Unit × Unit × Unit × Unit × Int) × ((List Int × List Int × List Int × List Int) × List Int × Unit)) ⊕ (((Unit × Unit × Unit × Int) × ((List Int × List Int × List Int × List Int) × List Int × Unit)) ⊕ (Unit × Unit))) :=
 cond (icmp .geq v.1.2.2.2.2 0) (
 let x1 := (decide (0 ≤ v.1.2.2.2.2 ∧ v.1.2.2.2.2 < ((32 : Nat) : Int)))
 cond x1 (
 let x2 := (List.getD v.2.2.1 (Int.toNat v.1.2.2.2.2) 0)
 cond (icmp .neq (ibin .and .u8 (ibin .shr .u8 x2 4) 15) 0) (
 some (.inr (.inl (((), (), (), (ibin .add .i64 (ibin .mul .i64 2 v.1.2.2.2.2) 1)), ((v.2.1.1, v.2.1.2.1, v.2.1.2.2.1, v.2.1.2.2.2), v.2.2.1, ()))))
 ) (
 cond x1 (
 cond (icmp .neq (ibin .and .u8 (ibin .shr .u8 x2 0) 15) 0) (
 some (.inr (.inl (((), (), (), (ibin .add .i64 (ibin .mul .i64 2 v.1.2.2.2.2) 0)), ((v.2.1.1, v.2.1.2.1, v.2.1.2.2.1, v.2.1.2.2.2), v.2.2.1, ()))))
 ) (
 some (.inl (((), (), (), (), (ibin .sub .i64 v.1.2.2.2.2 1)), ((v.2.1.1, v.2.1.2.1, v.2.1.2.2.1, v.2.1.2.2.2), v.2.2.1, ())))
 )
 ) (
 none
 )
 )
 ) (
 none
 )
 ) (
 some (.inr (.inl (((), (), (), (-1)), ((v.2.1.1, v.2.1.2.1, v.2.1.2.2.1, v.2.1.2.2.2), v.2.2.1, ()))))
 )
def ZbK (N : Nat) (v : (Unit × Unit × Unit × Unit × Int) × (List Int × Unit × ((List Int × List Int × List Int × List Int) × (List Int × List Int × List Int × List Int) × (List Int × List Int × List Int × List Int) × (List Int × List Int × List Int × List Int) × (List Int × List Int × List Int × List Int) × (List Int × List Int × List Int × List Int) × (List Int × List Int × List Int × List Int) × (List Int × List Int × List Int × List Int) × (List Int × List Int × List Int × List Int) × (List Int × List Int × List Int × List Int) × (List Int × List Int × List Int × List Int) × (List Int × List Int × List Int × List Int) × (List Int × List Int × List Int × List Int) × (List Int × List Int × List Int × List Int) × (List Int × List Int × List Int × List Int) × (List Int × List Int × List Int × List Int)) × (List Int × List Int × List Int × List Int))) : Option (((Unit × Unit × Unit × Unit × Int) × (List Int × Unit × ((List Int × List Int × List Int × List Int) × (List Int × List Int × List Int × List Int) × (List Int × List Int × List Int × List Int) × (List Int × List Int × List Int × List Int) × (List Int × List Int × List Int × List Int) × (List Int × List Int × List Int × List Int) × (List Int × List Int × List Int × List Int) × (List Int × List Int × List Int × List Int) × (List Int × List Int × List Int × List Int) × (List Int × List Int × List Int × List Int) × (List Int × List Int × List Int × List Int) × (List Int × List Int × List Int × List Int) × (List Int × List Int × List Int × List Int) × (List Int × List Int × List Int × List Int) × (List Int × List Int × List Int × List Int) × (List Int × List Int × List Int × List Int)) × (List Int × List Int × List Int × List Int))) ⊕ (((Unit × Unit) × (Unit × (List Int × List Int × List Int × List Int))) ⊕ (Unit × Unit))) :=
 cond (icmp .geq v.1.2.2.2.2 0) (
 mo (Zbt (v.2.2.2.2.1, v.2.2.2.2.2.1, v.2.2.2.2.2.2.1, v.2.2.2.2.2.2.2)) none fun r165 =>
 mo (Zbt (r165.1, r165.2.1, r165.2.2.1, r165.2.2.2)) none fun r166 =>
 mo (Zbt (r166.1, r166.2.1, r166.2.2.1, r166.2.2.2)) none fun r167 =>
 mo (Zbt (r167.1, r167.2.1, r167.2.2.1, r167.2.2.2)) none fun r168 =>
 let x1 := (ibin .quo .i64 v.1.2.2.2.2 2)
 cond (decide (0 ≤ x1 ∧ x1 < ((32 : Nat) : Int))) (
 let x2 := (ibin .mul .i64 4 (ibin .rem .i64 v.1.2.2.2.2 2))
 cond (decide (0 ≤ x2)) (
 let x3 := (ibin .and .u8 (ibin .shr .u8 (List.getD v.2.1 (Int.toNat x1) 0) x2) 15)
 cond (decide (0 ≤ x3 ∧ x3 < ((16 : Nat) : Int))) (
 mo (ZaC (r168.1, r168.2.1, r168.2.2.1, r168.2.2.2) ((List.getD [v.2.2.2.1.1.1, v.2.2.2.1.2.1.1, v.2.2.2.1.2.2.1.1, v.2.2.2.1.2.2.2.1.1, v.2.2.2.1.2.2.2.2.1.1, v.2.2.2.1.2.2.2.2.2.1.1, v.2.2.2.1.2.2.2.2.2.2.1.1, v.2.2.2.1.2.2.2.2.2.2.2.1.1, v.2.2.2.1.2.2.2.2.2.2.2.2.1.1, v.2.2.2.1.2.2.2.2.2.2.2.2.2.1.1, v.2.2.2.1.2.2.2.2.2.2.2.2.2.2.1.1, v.2.2.2.1.2.2.2.2.2.2.2.2.2.2.2.1.1, v.2.2.2.1.2.2.2.2.2.2.2.2.2.2.2.2.1.1, v.2.2.2.1.2.2.2.2.2.2.2.2.2.2.2.2.2.1.1, v.2.2.2.1.2.2.2.2.2.2.2.2.2.2.2.2.2.2.1.1, v.2.2.2.1.2.2.2.2.2.2.2.2.2.2.2.2.2.2.2.1] (Int.toNat x3) []), (List.getD [v.2.2.2.1.1.2.1, v.2.2.2.1.2.1.2.1, v.2.2.2.1.2.2.1.2.1, v.2.2.2.1.2.2.2.1.2.1, v.2.2.2.1.2.2.2.2.1.2.1, v.2.2.2.1.2.2.2.2.2.1.2.1, v.2.2.2.1.2.2.2.2.2.2.1.2.1, v.2.2.2.1.2.2.2.2.2.2.2.1.2.1, v.2.2.2.1.2.2.2.2.2.2.2.2.1.2.1, v.2.2.2.1.2.2.2.2.2.2.2.2.2.1.2.1, v.2.2.2.1.2.2.2.2.2.2.2.2.2.2.1.2.1, v.2.2.2.1.2.2.2.2.2.2.2.2.2.2.2.1.2.1, v.2.2.2.1.2.2.2.2.2.2.2.2.2.2.2.2.1.2.1, v.2.2.2.1.2.2.2.2.2.2.2.2.2.2.2.2.2.1.2.1, v.2.2.2.1.2.2.2.2.2.2.2.2.2.2.2.2.2.2.1.2.1, v.2.2.2.1.2.2.2.2.2.2.2.2.2.2.2.2.2.2.2.2.1] (Int.toNat x3) []), (List.getD [v.2.2.2.1.1.2.2.1, v.2.2.2.1.2.1.2.2.1, v.2.2.2.1.2.2.1.2.2.1, v.2.2.2.1.2.2.2.1.2.2.1, v.2.2.2.1.2.2.2.2.1.2.2.1, v.2.2.2.1.2.2.2.2.2.1.2.2.1, v.2.2.2.1.2.2.2.2.2.2.1.2.2.1, v.2.2.2.1.2.2.2.2.2.2.2.1.2.2.1, v.2.2.2.1.2.2.2.2.2.2.2.2.1.2.2.1, v.2.2.2.1.2.2.2.2.2.2.2.2.2.1.2.2.1, v.2.2.2.1.2.2.2.2.2.2.2.2.2.2.1.2.2.1, v.2.2.2.1.2.2.2.2.2.2.2.2.2.2.2.1.2.2.1, v.2.2.2.1.2.2.2.2.2.2.2.2.2.2.2.2.1.2.2.1, v.2.2.2.1.2.2.2.2.2.2.2.2.2.2.2.2.2.1.2.2.1, v.2.2.2.1.2.2.2.2.2.2.2.2.2.2.2.2.2.2.1.2.2.1, v.2.2.2.1.2.2.2.2.2.2.2.2.2.2.2.2.2.2.2.2.2.1] (Int.toNat x3) []), (List.getD [v.2.2.2.1.1.2.2.2, v.2.2.2.1.2.1.2.2.2, v.2.2.2.1.2.2.1.2.2.2, v.2.2.2.1.2.2.2.1.2.2.2, v.2.2.2.1.2.2.2.2.1.2.2.2, v.2.2.2.1.2.2.2.2.2.1.2.2.2, v.2.2.2.1.2.2.2.2.2.2.1.2.2.2, v.2.2.2.1.2.2.2.2.2.2.2.1.2.2.2, v.2.2.2.1.2.2.2.2.2.2.2.2.1.2.2.2, v.2.2.2.1.2.2.2.2.2.2.2.2.2.1.2.2.2, v.2.2.2.1.2.2.2.2.2.2.2.2.2.2.1.2.2.2, v.2.2.2.1.2.2.2.2.2.2.2.2.2.2.2.1.2.2.2, v.2.2.2.1.2.2.2.2.2.2.2.2.2.2.2.2.1.2.2.2, v.2.2.2.1.2.2.2.2.2.2.2.2.2.2.2.2.2.1.2.2.2, v.2.2.2.1.2.2.2.2.2.2.2.2.2.2.2.2.2.2.1.2.2.2, v.2.2.2.1.2.2.2.2.2.2.2.2.2.2.2.2.2.2.2.2.2.2] (Int.toNat x3) []))) none fun r169 =>
 some (.inl (((), (), (), (), (ibin .sub .i64 v.1.2.2.2.2 1)), (v.2.1, (), ((v.2.2.2.1.1.1, v.2.2.2.1.1.2.1, v.2.2.2.1.1.2.2.1, v.2.2.2.1.1.2.2.2), (v.2.2.2.1.2.1.1, v.2.2.2.1.2.1.2.1, v.2.2.2.1.2.1.2.2.1, v.2.2.2.1.2.1.2.2.2), (v.2.2.2.1.2.2.1.1, v.2.2.2.1.2.2.1.2.1, v.2.2.2.1.2.2.1.2.2.1, v.2.2.2.1.2.2.1.2.2.2), (v.2.2.2.1.2.2.2.1.1, v.2.2.2.1.2.2.2.1.2.1, v.2.2.2.1.2.2.2.1.2.2.1, v.2.2.2.1.2.2.2.1.2.2.2), (v.2.2.2.1.2.2.2.2.1.1, v.2.2.2.1.2.2.2.2.1.2.1, v.2.2.2.1.2.2.2.2.1.2.2.1, v.2.2.2.1.2.2.2.2.1.2.2.2), (v.2.2.2.1.2.2.2.2.2.1.1, v.2.2.2.1.2.2.2.2.2.1.2.1, v.2.2.2.1.2.2.2.2.2.1.2.2.1, v.2.2.2.1.2.2.2.2.2.1.2.2.2), (v.2.2.2.1.2.2.2.2.2.2.1.1, v.2.2.2.1.2.2.2.2.2.2.1.2.1, v.2.2.2.1.2.2.2.2.2.2.1.2.2.1, v.2.2.2.1.2.2.2.2.2.2.1.2.2.2), (v.2.2.2.1.2.2.2.2.2.2.2.1.1, v.2.2.2.1.2.2.2.2.2.2.2.1.2.1, v.2.2.2.1.2.2.2.2.2.2.2.1.2.2.1, v.2.2.2.1.2.2.2.2.2.2.2.1.2.2.2), (v.2.2.2.1.2.2.2.2.2.2.2.2.1.1, v.2.2.2.1.2.2.2.2.2.2.2.2.1.2.1, v.2.2.2.1.2.2.2.2.2.2.2.2.1.2.2.1, v.2.2.2.1.2.2.2.2.2.2.2.2.1.2.2.2), (v.2.2.2.1.2.2.2.2.2.2.2.2.2.1.1, v.2.2.2.1.2.2.2.2.2.2.2.2.2.1.2.1, v.2.2.2.1.2.2.2.2.2.2.2.2.2.1.2.2.1, v.2.2.2.1.2.2.2.2.2.2.2.2.2.1.2.2.2), (v.2.2.2.1.2.2.2.2.2.2.2.2.2.2.1.1, v.2.2.2.1.2.2.2.2.2.2.2.2.2.2.1.2.1, v.2.2.2.1.2.2.2.2.2.2.2.2.2.2.1.2.2.1, v.2.2.2.1.2.2.2.2.2.2.2.2.2.2.1.2.2.2), (v.2.2.2.1.2.2.2.2.2.2.2.2.2.2.2.1.1, v.2.2.2.1.2.2.2.2.2.2.2.2.2.2.2.1.2.1, v.2.2.2.1.2.2.2.2.2.2.2.2.2.2.2.1.2.2.1, v.2.2.2.1.2.2.2.2.2.2.2.2.2.2.2.1.2.2.2), (v.2.2.2.1.2.2.2.2.2.2.2.2.2.2.2.2.1.1, v.2.2.2.1.2.2.2.2.2.2.2.2.2.2.2.2.1.2.1, v.2.2.2.1.2.2.2.2.2.2.2.2.2.2.2.2.1.2.2.1, v.2.2.2.1.2.2.2.2.2.2.2.2.2.2.2.2.1.2.2.2), (v.2.2.2.1.2.2.2.2.2.2.2.2.2.2.2.2.2.1.1, v.2.2.2.1.2.2.2.2.2.2.2.2.2.2.2.2.2.1.2.1, v.2.2.2.1.2.2.2.2.2.2.2.2.2.2.2.2.2.1.2.2.1, v.2.2.2.1.2.2.2.2.2.2.2.2.2.2.2.2.2.1.2.2.2), (v.2.2.2.1.2.2.2.2.2.2.2.2.2.2.2.2.2.2.1.1, v.2.2.2.1.2.2.2.2.2.2.2.2.2.2.2.2.2.2.1.2.1, v.2.2.2.1.2.2.2.2.2.2.2.2.2.2.2.2.2.2.1.2.2.1, v.2.2.2.1.2.2.2.2.2.2.2.2.2.2.2.2.2.2.1.2.2.2), (v.2.2.2.1.2.2.2.2.2.2.2.2.2.2.2.2.2.2.2.1, v.2.2.2.1.2.2.2.2.2.2.2.2.2.2.2.2.2.2.2.2.1, v.2.2.2.1.2.2.2.2.2.2.2.2.2.2.2.2.2.2.2.2.2.1, v.2.2.2.1.2.2.2.2.2.2.2.2.2.2.2.2.2.2.2.2.2.2)), (r169.1, r169.2.1, r169.2.2.1, r169.2.2.2))))
 ) (
 none
 )
 ) (
 none
 )
 ) (
 none
 )
 ) (
 some (.inr (.inl (((), ()), ((), (v.2.2.2.2.1, v.2.2.2.2.2.1, v.2.2.2.2.2.2.1, v.2.2.2.2.2.2.2)))))
 )
def Zcu (N : Nat) (a : (List Int × List Int × List Int × List Int)) (b : List Int) : Option ((List Int × List Int × List Int × List Int)) :=
 mo (loopF (Zbk N) N (((), (), (), (), 31), ((a.1, a.2.1, a.2.2.1, a.2.2.2), b, ()))) none fun r12 =>
 match r12 with
 | .inl u13 => (
 mo (ZaC ([0, 0, 0, 0, 0], [0, 0, 0, 0, 0], [0, 0, 0, 0, 0], [0, 0, 0, 0, 0]) (u13.2.1.1, u13.2.1.2.1, u13.2.1.2.2.1, u13.2.1.2.2.2)) none fun r14 =>
 mo (ZaC (r14.1, r14.2.1, r14.2.2.1, r14.2.2.2) (u13.2.1.1, u13.2.1.2.1, u13.2.1.2.2.1, u13.2.1.2.2.2)) none fun r15 =>
 mo (ZaC (r15.1, r15.2.1, r15.2.2.1, r15.2.2.2) (u13.2.1.1, u13.2.1.2.1, u13.2.1.2.2.1, u13.2.1.2.2.2)) none fun r16 =>
 mo (ZaC (r16.1, r16.2.1, r16.2.2.1, r16.2.2.2) (u13.2.1.1, u13.2.1.2.1, u13.2.1.2.2.1, u13.2.1.2.2.2)) none fun r17 =>
 mo (ZaC (r17.1, r17.2.1, r17.2.2.1, r17.2.2.2) (u13.2.1.1, u13.2.1.2.1, u13.2.1.2.2.1, u13.2.1.2.2.2)) none fun r18 =>
 mo (ZaC (r18.1, r18.2.1, r18.2.2.1, r18.2.2.2) (u13.2.1.1, u13.2.1.2.1, u13.2.1.2.2.1, u13.2.1.2.2.2)) none fun r19 =>
 mo (ZaC (r19.1, r19.2.1, r19.2.2.1, r19.2.2.2) (u13.2.1.1, u13.2.1.2.1, u13.2.1.2.2.1, u13.2.1.2.2.2)) none fun r20 =>
 mo (ZaC (r20.1, r20.2.1, r20.2.2.1, r20.2.2.2) (u13.2.1.1, u13.2.1.2.1, u13.2.1.2.2.1, u13.2.1.2.2.2)) none fun r21 =>
 mo (ZaC (r21.1, r21.2.1, r21.2.2.1, r21.2.2.2) (u13.2.1.1, u13.2.1.2.1, u13.2.1.2.2.1, u13.2.1.2.2.2)) none fun r22 =>
 mo (ZaC (r22.1, r22.2.1, r22.2.2.1, r22.2.2.2) (u13.2.1.1, u13.2.1.2.1, u13.2.1.2.2.1, u13.2.1.2.2.2)) none fun r23 =>
 mo (ZaC (r23.1, r23.2.1, r23.2.2.1, r23.2.2.2) (u13.2.1.1, u13.2.1.2.1, u13.2.1.2.2.1, u13.2.1.2.2.2)) none fun r24 =>
 mo (ZaC (r24.1, r24.2.1, r24.2.2.1, r24.2.2.2) (u13.2.1.1, u13.2.1.2.1, u13.2.1.2.2.1, u13.2.1.2.2.2)) none fun r25 =>
 mo (ZaC (r25.1, r25.2.1, r25.2.2.1, r25.2.2.2) (u13.2.1.1, u13.2.1.2.1, u13.2.1.2.2.1, u13.2.1.2.2.2)) none fun r26 =>
 mo (ZaC (r26.1, r26.2.1, r26.2.2.1, r26.2.2.2) (u13.2.1.1, u13.2.1.2.1, u13.2.1.2.2.1, u13.2.1.2.2.2)) none fun r27 =>
 mo (ZaC (r27.1, r27.2.1, r27.2.2.1, r27.2.2.2) (u13.2.1.1, u13.2.1.2.1, u13.2.1.2.2.1, u13.2.1.2.2.2)) none fun r28 =>
 mo (loopF (ZbK N) N (((), (), (), (), u13.1.2.2.2), (u13.2.2.1, (), (([0, 0, 0, 0, 0], [0, 0, 0, 0, 0], [0, 0, 0, 0, 0], [0, 0, 0, 0, 0]), (r14.1, r14.2.1, r14.2.2.1, r14.2.2.2), (r15.1, r15.2.1, r15.2.2.1, r15.2.2.2), (r16.1, r16.2.1, r16.2.2.1, r16.2.2.2), (r17.1, r17.2.1, r17.2.2.1, r17.2.2.2), (r18.1, r18.2.1, r18.2.2.1, r18.2.2.2), (r19.1, r19.2.1, r19.2.2.1, r19.2.2.2), (r20.1, r20.2.1, r20.2.2.1, r20.2.2.2), (r21.1, r21.2.1, r21.2.2.1, r21.2.2.2), (r22.1, r22.2.1, r22.2.2.1, r22.2.2.2), (r23.1, r23.2.1, r23.2.2.1, r23.2.2.2), (r24.1, r24.2.1, r24.2.2.1, r24.2.2.2), (r25.1, r25.2.1, r25.2.2.1, r25.2.2.2), (r26.1, r26.2.1, r26.2.2.1, r26.2.2.2), (r27.1, r27.2.1, r27.2.2.1, r27.2.2.2), (r28.1, r28.2.1, r28.2.2.1, r28.2.2.2)), ([0, 0, 0, 0, 0], [0, 0, 0, 0, 0], [0, 0, 0, 0, 0], [0, 0, 0, 0, 0])))) none fun r170 =>
 match r170 with
 | .inl u171 => (
 some (u171.2.2.1, u171.2.2.2.1, u171.2.2.2.2.1, u171.2.2.2.2.2)
 )
 | .inr _ => (
 none
 )
 )
 | .inr _ => (
 none
 )
def ZeT (N : Nat) (a : (List Int × List Int × List Int × List Int)) : Option (Bool) :=
 mo (Zcu N (a.1, a.2.1, a.2.2.1, a.2.2.2) [237, 211, 245, 92, 26, 99, 18, 88, 214, 156, 247, 162, 222, 249, 222, 20, 0, 0, 0, 0, 0, 0, 0, 0, 0, 0, 0, 0, 0, 0, 0, 16]) none fun r1 =>
 mo (Zcb (r1.1, r1.2.1, r1.2.2.1, r1.2.2.2) ([0, 0, 0, 0, 0], [0, 0, 0, 0, 0], [0, 0, 0, 0, 0], [0, 0, 0, 0, 0])) none fun r2 =>
 some r2
def Zbn (N : Nat) (a : (List Int × List Int × List Int × List Int)) : Option (List Int) :=
 mo (Zb1 N (a.1, a.2.1, a.2.2.1, a.2.2.2)) none fun r1 =>
 cond (ZaQ r1.1) (
 some (List.set (ZaB r1.2) 31 (ibin .or .u8 (List.getD (ZaB r1.2) 31 0) 128))
 ) (
 some (ZaB r1.2)
 )
def Zb9 (a : Int) : Option ((List Int × List Int × List Int × List Int)) :=
 cond (decide (0 ≤ (ibin .and .i64 a 7) ∧ (ibin .and .i64 a 7) < ((8 : Nat) : Int))) (
 some ((List.getD [[0, 0, 0, 0, 0], [358744748052810, 1691584618240980, 977650209285361, 1429865912637724, 560044844278676], [1718705420411056, 234908883556509, 2233514472574048, 2117202627021982, 765476049583133], [358744748052810, 1691584618240980, 977650209285361, 1429865912637724, 560044844278676], [0, 0, 0, 0, 0], [1893055065632419, 560215195444267, 1274149604399886, 821933901047523, 1691754969406571], [533094393274173, 2016890930128738, 18285341111199, 134597186663265, 1486323764102114], [1893055065632419, 560215195444267, 1274149604399886, 821933901047523, 1691754969406571]] (Int.toNat (ibin .and .i64 a 7)) []), (List.getD [[0, 0, 0, 0, 0], [2166873539340326, 1778179147085316, 1886209374839743, 1223329526802818, 105300633354275], [0, 0, 0, 0, 0], [84926274344903, 473620666599931, 365590438845504, 1028470286882429, 2146499180330972], [2251799813685228, 2251799813685247, 2251799813685247, 2251799813685247, 2251799813685247], [84926274344903, 473620666599931, 365590438845504, 1028470286882429, 2146499180330972], [0, 0, 0, 0, 0], [2166873539340326, 1778179147085316, 1886209374839743, 1223329526802818, 105300633354275]] (Int.toNat (ibin .and .i64 a 7)) []), (List.getD [[0, 0, 0, 0, 0], [1, 0, 0, 0, 0], [1, 0, 0, 0, 0], [1, 0, 0, 0, 0], [1, 0, 0, 0, 0], [1, 0, 0, 0, 0], [1, 0, 0, 0, 0], [1, 0, 0, 0, 0]] (Int.toNat (ibin .and .i64 a 7)) []), (List.getD [[0, 0, 0, 0, 0], [803472979097708, 393902981724766, 1158077081819914, 574391322974006, 336294660666841], [0, 0, 0, 0, 0], [1448326834587521, 1857896831960481, 1093722731865333, 1677408490711241, 1915505153018406], [0, 0, 0, 0, 0], [803472979097708, 393902981724766, 1158077081819914, 574391322974006, 336294660666841], [0, 0, 0, 0, 0], [1448326834587521, 1857896831960481, 1093722731865333, 1677408490711241, 1915505153018406]] (Int.toNat (ibin .and .i64 a 7)) []))
 ) (
 none
 )
def Zcd (a : Bool) : Int :=
 cond a (
 1
 ) (
 0
 )
def ZrK (a : Bool) : Option (Int) :=
 cond a (
 some 1
 ) (
 some 0
 )
theorem ZCs (a : Bool) : ZrK a = some (Zcd a) := by
 unfold ZrK Zcd
 repeat' (first | refine ZiK ?_ ?_ | rfl)
def ZbB  : (List Int × List Int × List Int × List Int) :=
 (ZbN.1, ZbN.2.1, ZbN.2.2.1, ZbN.2.2.2)
def ZaR (N : Nat) (a : (List Int × List Int × List Int × List Int)) : Option (List Int) :=
 mo (Zb1 N (a.1, a.2.1, a.2.2.1, a.2.2.2)) none fun r1 =>
 mo (Zan r1.1 r1.2) none fun r2 =>
 mo (Zan (ZaU (ZbF r1.1) r1.2) (ZaE (ZbF r1.1) r1.2)) none fun r3 =>
 mo (ZaP r2) none fun r4 =>
 mo (Zan r3 r4) none fun r5 =>
 mo (ZdR N (ZbF r1.1) r5) none fun r6 =>
 mo (Zan r6.1 r3) none fun r7 =>
 mo (Zan r6.1 r2) none fun r8 =>
 mo (Zan r7 r8) none fun r9 =>
 mo (Zan r9 r2) none fun r10 =>
 mo (Zan r2 r10) none fun r11 =>
 mo (ZcB 1) none fun r12 =>
 mo (Zan r1.1 r12) none fun r13 =>
 mo (Zan r1.2 r12) none fun r14 =>
 mo (ZcB 4) none fun r15 =>
 mo (Zan r7 r15) none fun r16 =>
 mo (Zan (ZbC (Zcd (ZaQ r11)) r14 r1.1) r10) none fun r17 =>
 let x1 := (ZbC (Zcd (ZaQ r11)) r13 r1.2)
 mo (Zan (ZbC (Zcd (ZaQ r11)) r16 r8) (ZaE (ZbF r1.1) (ZbC (Zcd (ZaQ r17)) (ZaS x1) x1))) none fun r18 =>
 some (ZaB (ZaL r18))
def ZeY (N : Nat) (a : List Int) : Option ((List Int × List Int × List Int × List Int)) :=
 mo (ZcB 1) none fun r1 =>
 mo (ZcB 2) none fun r2 =>
 mo (ZaP a) none fun r3 =>
 mo (Zan r1 r3) none fun r4 =>
 mo (ZcB 5) none fun r5 =>
 mo (Zan (ZaU r4 (ZbF a)) r5) none fun r6 =>
 mo (Zan r4 r2) none fun r7 =>
 mo (Zan (ZaE (ZaS (ZbF a)) r7) (ZaU r4 r2)) none fun r8 =>
 mo (ZdR N r6 r8) none fun r9 =>
 mo (Zan r9.1 a) none fun r10 =>
 mo (Zan (ZbC (Zcd r9.2) (ZaS (ZbF a)) r4) (ZaE r4 (ZbF a))) none fun r11 =>
 mo (ZcB 6) none fun r12 =>
 mo (Zan r11 r12) none fun r13 =>
 let x1 := (ZbC (Zcd r9.2) r9.1 (ZaS (ZaL r10)))
 mo (ZaP x1) none fun r14 =>
 mo (Zan (ZaU x1 x1) r8) none fun r15 =>
 mo (ZcB 3) none fun r16 =>
 mo (Zan (ZaE r13 r8) r16) none fun r17 =>
 mo (Zdg N r17) none fun r18 =>
 mo (Zan r15 r18) none fun r19 =>
 mo (Zdg N (ZaU (ZbF a) r14)) none fun r20 =>
 mo (Zan (ZaE (ZbF a) r14) r20) none fun r21 =>
 mo (Zd0 r19 r21) none fun r22 =>
 some (r22.1.1, r22.1.2.1, r22.1.2.2.1, r22.1.2.2.2)
def ZcA (a : (List Int × List Int × List Int × List Int)) (b : (List Int × List Int × List Int × List Int)) : Option ((List Int × List Int × List Int × List Int)) :=
 mo (ZaC (a.1, a.2.1, a.2.2.1, a.2.2.2) (b.1, b.2.1, b.2.2.1, b.2.2.2)) none fun r1 =>
 some (r1.1, r1.2.1, r1.2.2.1, r1.2.2.2)
def Zry (N : Nat) (a : List Int) : Option ((List Int × List Int × List Int × List Int)) :=
 mo (ZeY N (Zej (List.take 32 (List.drop 0 a)))) none fun r1 =>
 mo (ZeY N (Zej (List.take 32 (List.drop 32 a)))) none fun r2 =>
 mo (ZcA (r1.1, r1.2.1, r1.2.2.1, r1.2.2.2) (r2.1, r2.2.1, r2.2.2.1, r2.2.2.2)) none fun r3 =>
 some (r3.1, r3.2.1, r3.2.2.1, r3.2.2.2)
def Zeu (a : (List Int × List Int × List Int × List Int)) : (List Int × List Int × List Int × List Int) :=
 ((Za8 (a.1, a.2.1, a.2.2.1, a.2.2.2)).1, (Za8 (a.1, a.2.1, a.2.2.1, a.2.2.2)).2.1, (Za8 (a.1, a.2.1, a.2.2.1, a.2.2.2)).2.2.1, (Za8 (a.1, a.2.1, a.2.2.1, a.2.2.2)).2.2.2)
def ZeZ (a : (List Int × List Int × List Int × List Int)) : Option ((List Int × List Int × List Int × List Int)) :=
 mo (Zbt (a.1, a.2.1, a.2.2.1, a.2.2.2)) none fun r1 =>
 some (r1.1, r1.2.1, r1.2.2.1, r1.2.2.2)
def ZdZ (a : (List Int × List Int × List Int × List Int)) (b : (List Int × List Int × List Int × List Int)) : Option (Bool) :=
 mo (Zfx (a.1, a.2.1, a.2.2.1, a.2.2.2) (b.1, b.2.1, b.2.2.1, b.2.2.2)) none fun r1 =>
 mo (Zbt (r1.1, r1.2.1, r1.2.2.1, r1.2.2.2)) none fun r2 =>
 mo (Zbt (r2.1, r2.2.1, r2.2.2.1, r2.2.2.2)) none fun r3 =>
 mo (Zcb (r3.1, r3.2.1, r3.2.2.1, r3.2.2.2) ([0, 0, 0, 0, 0], [0, 0, 0, 0, 0], [0, 0, 0, 0, 0], [0, 0, 0, 0, 0])) none fun r4 =>
 some r4
def Zb0 (N : Nat) (a : (List Int × List Int × List Int × List Int)) (b : List Int) : Option (((List Int × List Int × List Int × List Int) × Int)) :=
 cond (icmp .neq (Zbj b).2 0) (
 some (([0, 0, 0, 0, 0], [0, 0, 0, 0, 0], [0, 0, 0, 0, 0], [0, 0, 0, 0, 0]), 3)
 ) (
 cond (ZaQ (Zbj b).1) (
 some (([0, 0, 0, 0, 0], [0, 0, 0, 0, 0], [0, 0, 0, 0, 0], [0, 0, 0, 0, 0]), 3)
 ) (
 mo (ZaP (Zbj b).1) none fun r1 =>
 mo (ZcB 2) none fun r2 =>
 let x1 := (ZbF (Zbj b).1)
 let x2 := (ZaE x1 r1)
 mo (ZaP x2) none fun r3 =>
 mo (Zan r2 r3) none fun r4 =>
 let x3 := (ZaU x1 r1)
 let x4 := (ZaP x3)
 mo x4 none fun r5 =>
 mo x4 none fun r6 =>
 let x5 := (ZaE (ZaS r4) r5)
 mo (Zan x5 r6) none fun r7 =>
 mo (ZdR N x1 r7) none fun r8 =>
 let x6 := (Zan r8.1 x3)
 mo x6 none fun r9 =>
 mo (Zan (ZaU (Zbj b).1 (Zbj b).1) r9) none fun r10 =>
 mo (Zan x2 r8.1) none fun r11 =>
 mo x6 none fun r12 =>
 mo (Zan r11 r12) none fun r13 =>
 mo (Zan r13 x5) none fun r14 =>
 cond (!r8.2) (
 some (([0, 0, 0, 0, 0], [0, 0, 0, 0, 0], [0, 0, 0, 0, 0], [0, 0, 0, 0, 0]), 50)
 ) (
 mo (Zan (ZaL r10) r14) none fun r15 =>
 cond (ZaQ r15) (
 some (([0, 0, 0, 0, 0], [0, 0, 0, 0, 0], [0, 0, 0, 0, 0], [0, 0, 0, 0, 0]), 50)
 ) (
 cond (ZcO r14) (
 some (([0, 0, 0, 0, 0], [0, 0, 0, 0, 0], [0, 0, 0, 0, 0], [0, 0, 0, 0, 0]), 50)
 ) (
 mo (Zd0 (ZaL r10) r14) none fun r16 =>
 cond (icmp .neq r16.2 0) (
 some (([0, 0, 0, 0, 0], [0, 0, 0, 0, 0], [0, 0, 0, 0, 0], [0, 0, 0, 0, 0]), 50)
 ) (
 some ((r16.1.1, r16.1.2.1, r16.1.2.2.1, r16.1.2.2.2), 0)
 )
 )
 )
 )
 )
 )
def Zdq (a : List Int) (b : List Int) : Bool :=
 cond (icmp .neq (List.getD a 9 0) (List.getD b 9 0)) (
 (icmp .lss (List.getD a 9 0) (List.getD b 9 0))
 ) (
 cond (icmp .neq (List.getD a 8 0) (List.getD b 8 0)) (
 (icmp .lss (List.getD a 8 0) (List.getD b 8 0))
 ) (
 cond (icmp .neq (List.getD a 7 0) (List.getD b 7 0)) (
 (icmp .lss (List.getD a 7 0) (List.getD b 7 0))
 ) (
 cond (icmp .neq (List.getD a 6 0) (List.getD b 6 0)) (
 (icmp .lss (List.getD a 6 0) (List.getD b 6 0))
 ) (
 cond (icmp .neq (List.getD a 5 0) (List.getD b 5 0)) (
 (icmp .lss (List.getD a 5 0) (List.getD b 5 0))
 ) (
 cond (icmp .neq (List.getD a 4 0) (List.getD b 4 0)) (
 (icmp .lss (List.getD a 4 0) (List.getD b 4 0))
 ) (
 cond (icmp .neq (List.getD a 3 0) (List.getD b 3 0)) (
 (icmp .lss (List.getD a 3 0) (List.getD b 3 0))
 ) (
 cond (icmp .neq (List.getD a 2 0) (List.getD b 2 0)) (
 (icmp .lss (List.getD a 2 0) (List.getD b 2 0))
 ) (
 cond (icmp .neq (List.getD a 1 0) (List.getD b 1 0)) (
 (icmp .lss (List.getD a 1 0) (List.getD b 1 0))
 ) (
 cond (icmp .neq (List.getD a 0 0) (List.getD b 0 0)) (
 (icmp .lss (List.getD a 0 0) (List.getD b 0 0))
 ) (
 false
 )
 )
 )
 )
 )
 )
 )
 )
 )
 )
def ZjG (a : List Int) (b : List Int) : Option (Bool) :=
 cond (icmp .neq (List.getD a 9 0) (List.getD b 9 0)) (
 some (icmp .lss (List.getD a 9 0) (List.getD b 9 0))
 ) (
 cond (icmp .neq (List.getD a 8 0) (List.getD b 8 0)) (
 some (icmp .lss (List.getD a 8 0) (List.getD b 8 0))
 ) (
 cond (icmp .neq (List.getD a 7 0) (List.getD b 7 0)) (
 some (icmp .lss (List.getD a 7 0) (List.getD b 7 0))
 ) (
 cond (icmp .neq (List.getD a 6 0) (List.getD b 6 0)) (
 some (icmp .lss (List.getD a 6 0) (List.getD b 6 0))
 ) (
 cond (icmp .neq (List.getD a 5 0) (List.getD b 5 0)) (
 some (icmp .lss (List.getD a 5 0) (List.getD b 5 0))
 ) (
 cond (icmp .neq (List.getD a 4 0) (List.getD b 4 0)) (
 some (icmp .lss (List.getD a 4 0) (List.getD b 4 0))
 ) (
 cond (icmp .neq (List.getD a 3 0) (List.getD b 3 0)) (
 some (icmp .lss (List.getD a 3 0) (List.getD b 3 0))
 ) (
 cond (icmp .neq (List.getD a 2 0) (List.getD b 2 0)) (
 some (icmp .lss (List.getD a 2 0) (List.getD b 2 0))
 ) (
 cond (icmp .neq (List.getD a 1 0) (List.getD b 1 0)) (
 some (icmp .lss (List.getD a 1 0) (List.getD b 1 0))
 ) (
 cond (icmp .neq (List.getD a 0 0) (List.getD b 0 0)) (
 some (icmp .lss (List.getD a 0 0) (List.getD b 0 0))
 ) (
 some false
 )
 )
 )
 )
 )
 )
 )
 )
 )
 )
theorem ZuA (a : List Int) (b : List Int) : ZjG a b = some (Zdq a b) := by
 unfold ZjG Zdq
 repeat' (first | refine ZiK ?_ ?_ | rfl)
def Zcm (a : List Int) (b : List Int) : List Int :=
 let x1 := (ibin .sub .i64 (ibin .add .i64 0 (List.getD a 0 0)) (List.getD b 0 0))
 let x2 := (ibin .sub .i64 (ibin .add .i64 (ibin .shr .i64 x1 26) (List.getD a 1 0)) (List.getD b 1 0))
 let x3 := (ibin .sub .i64 (ibin .add .i64 (ibin .shr .i64 x2 26) (List.getD a 2 0)) (List.getD b 2 0))
 let x4 := (ibin .sub .i64 (ibin .add .i64 (ibin .shr .i64 x3 26) (List.getD a 3 0)) (List.getD b 3 0))
 let x5 := (ibin .sub .i64 (ibin .add .i64 (ibin .shr .i64 x4 26) (List.getD a 4 0)) (List.getD b 4 0))
 let x6 := (ibin .sub .i64 (ibin .add .i64 (ibin .shr .i64 x5 26) (List.getD a 5 0)) (List.getD b 5 0))
 let x7 := (ibin .sub .i64 (ibin .add .i64 (ibin .shr .i64 x6 26) (List.getD a 6 0)) (List.getD b 6 0))
 let x8 := (ibin .sub .i64 (ibin .add .i64 (ibin .shr .i64 x7 26) (List.getD a 7 0)) (List.getD b 7 0))
 let x9 := (ibin .sub .i64 (ibin .add .i64 (ibin .shr .i64 x8 26) (List.getD a 8 0)) (List.getD b 8 0))
 [(ibin .and .i64 x1 67108863), (ibin .and .i64 x2 67108863), (ibin .and .i64 x3 67108863), (ibin .and .i64 x4 67108863), (ibin .and .i64 x5 67108863), (ibin .and .i64 x6 67108863), (ibin .and .i64 x7 67108863), (ibin .and .i64 x8 67108863), (ibin .and .i64 x9 67108863), (ibin .and .i64 (ibin .sub .i64 (ibin .add .i64 (ibin .shr .i64 x9 26) (List.getD a 9 0)) (List.getD b 9 0)) 67108863)]
def ZbO (N : Nat) (v : (Unit × Int × Unit × Bool) × (Unit × Unit × List Int)) : Option (((Unit × Int × Unit × Bool) × (Unit × Unit × List Int)) ⊕ (((Unit × Unit) × (Unit × Unit × List Int)) ⊕ (Unit × Unit))) :=
 cond v.1.2.2.2 (
 let x1 := (List.set v.2.2.2 0 (ibin .add .i64 (List.getD v.2.2.2 0 0) v.1.2.1))
 let x2 := (ibin .add .i64 0 (List.getD x1 0 0))
 let x3 := (List.set x1 0 (ibin .and .i64 x2 67108863))
 let x4 := (ibin .add .i64 (ibin .shr .i64 x2 26) (List.getD x3 1 0))
 let x5 := (List.set x3 1 (ibin .and .i64 x4 67108863))
 let x6 := (ibin .add .i64 (ibin .shr .i64 x4 26) (List.getD x5 2 0))
 let x7 := (List.set x5 2 (ibin .and .i64 x6 67108863))
 let x8 := (ibin .add .i64 (ibin .shr .i64 x6 26) (List.getD x7 3 0))
 let x9 := (List.set x7 3 (ibin .and .i64 x8 67108863))
 let x10 := (ibin .add .i64 (ibin .shr .i64 x8 26) (List.getD x9 4 0))
 let x11 := (List.set x9 4 (ibin .and .i64 x10 67108863))
 let x12 := (ibin .add .i64 (ibin .shr .i64 x10 26) (List.getD x11 5 0))
 let x13 := (List.set x11 5 (ibin .and .i64 x12 67108863))
 let x14 := (ibin .add .i64 (ibin .shr .i64 x12 26) (List.getD x13 6 0))
 let x15 := (List.set x13 6 (ibin .and .i64 x14 67108863))
 let x16 := (ibin .add .i64 (ibin .shr .i64 x14 26) (List.getD x15 7 0))
 let x17 := (List.set x15 7 (ibin .and .i64 x16 67108863))
 let x18 := (ibin .add .i64 (ibin .shr .i64 x16 26) (List.getD x17 8 0))
 let x19 := (List.set x17 8 (ibin .and .i64 x18 67108863))
 let x20 := (ibin .add .i64 (ibin .shr .i64 x18 26) (List.getD x19 9 0))
 let x21 := (List.set x19 9 (ibin .and .i64 x20 67108863))
 let x22 := (List.getD x21 9 0)
 let x23 := (ibin .add .i64 (ibin .mul .i64 608 (ibin .shr .i64 x20 26)) (ibin .mul .i64 19 (ibin .quo .i64 x22 2097152)))
 some (.inl (((), x23, (), (icmp .gtr x23 0)), ((), (), (List.set x21 9 (ibin .rem .i64 x22 2097152)))))
 ) (
 some (.inr (.inl (((), ()), ((), (), v.2.2.2))))
 )
def ZbS (N : Nat) (a : List Int) : Option (List Int) :=
 let x1 := (ibin .add .i64 0 (List.getD a 0 0))
 let x2 := (List.set a 0 (ibin .and .i64 x1 67108863))
 let x3 := (ibin .add .i64 (ibin .shr .i64 x1 26) (List.getD x2 1 0))
 let x4 := (List.set x2 1 (ibin .and .i64 x3 67108863))
 let x5 := (ibin .add .i64 (ibin .shr .i64 x3 26) (List.getD x4 2 0))
 let x6 := (List.set x4 2 (ibin .and .i64 x5 67108863))
 let x7 := (ibin .add .i64 (ibin .shr .i64 x5 26) (List.getD x6 3 0))
 let x8 := (List.set x6 3 (ibin .and .i64 x7 67108863))
 let x9 := (ibin .add .i64 (ibin .shr .i64 x7 26) (List.getD x8 4 0))
 let x10 := (List.set x8 4 (ibin .and .i64 x9 67108863))
 let x11 := (ibin .add .i64 (ibin .shr .i64 x9 26) (List.getD x10 5 0))
 let x12 := (List.set x10 5 (ibin .and .i64 x11 67108863))
 let x13 := (ibin .add .i64 (ibin .shr .i64 x11 26) (List.getD x12 6 0))
 let x14 := (List.set x12 6 (ibin .and .i64 x13 67108863))
 let x15 := (ibin .add .i64 (ibin .shr .i64 x13 26) (List.getD x14 7 0))
 let x16 := (List.set x14 7 (ibin .and .i64 x15 67108863))
 let x17 := (ibin .add .i64 (ibin .shr .i64 x15 26) (List.getD x16 8 0))
 let x18 := (List.set x16 8 (ibin .and .i64 x17 67108863))
 let x19 := (ibin .add .i64 (ibin .shr .i64 x17 26) (List.getD x18 9 0))
 let x20 := (List.set x18 9 (ibin .and .i64 x19 67108863))
 let x21 := (ibin .add .i64 (ibin .shr .i64 x19 26) (List.getD x20 10 0))
 let x22 := (List.set x20 10 (ibin .and .i64 x21 67108863))
 let x23 := (ibin .add .i64 (ibin .shr .i64 x21 26) (List.getD x22 11 0))
 let x24 := (List.set x22 11 (ibin .and .i64 x23 67108863))
 let x25 := (ibin .add .i64 (ibin .shr .i64 x23 26) (List.getD x24 12 0))
 let x26 := (List.set x24 12 (ibin .and .i64 x25 67108863))
 let x27 := (ibin .add .i64 (ibin .shr .i64 x25 26) (List.getD x26 13 0))
 let x28 := (List.set x26 13 (ibin .and .i64 x27 67108863))
 let x29 := (ibin .add .i64 (ibin .shr .i64 x27 26) (List.getD x28 14 0))
 let x30 := (List.set x28 14 (ibin .and .i64 x29 67108863))
 let x31 := (ibin .add .i64 (ibin .shr .i64 x29 26) (List.getD x30 15 0))
 let x32 := (List.set x30 15 (ibin .and .i64 x31 67108863))
 let x33 := (ibin .add .i64 (ibin .shr .i64 x31 26) (List.getD x32 16 0))
 let x34 := (List.set x32 16 (ibin .and .i64 x33 67108863))
 let x35 := (ibin .add .i64 (ibin .shr .i64 x33 26) (List.getD x34 17 0))
 let x36 := (List.set x34 17 (ibin .and .i64 x35 67108863))
 let x37 := (ibin .add .i64 (ibin .shr .i64 x35 26) (List.getD x36 18 0))
 let x38 := (List.set x36 18 (ibin .and .i64 x37 67108863))
 let x39 := (List.set x38 19 (ibin .and .i64 (ibin .add .i64 (ibin .shr .i64 x37 26) (List.getD x38 19 0)) 67108863))
 mo (loopF (ZbO N) N (((), 0, (), true), ((), (), [(ibin .add .i64 (List.getD x39 0 0) (ibin .mul .i64 608 (List.getD x39 10 0))), (ibin .add .i64 (List.getD x39 1 0) (ibin .mul .i64 608 (List.getD x39 11 0))), (ibin .add .i64 (List.getD x39 2 0) (ibin .mul .i64 608 (List.getD x39 12 0))), (ibin .add .i64 (List.getD x39 3 0) (ibin .mul .i64 608 (List.getD x39 13 0))), (ibin .add .i64 (List.getD x39 4 0) (ibin .mul .i64 608 (List.getD x39 14 0))), (ibin .add .i64 (List.getD x39 5 0) (ibin .mul .i64 608 (List.getD x39 15 0))), (ibin .add .i64 (List.getD x39 6 0) (ibin .mul .i64 608 (List.getD x39 16 0))), (ibin .add .i64 (List.getD x39 7 0) (ibin .mul .i64 608 (List.getD x39 17 0))), (ibin .add .i64 (List.getD x39 8 0) (ibin .mul .i64 608 (List.getD x39 18 0))), (ibin .add .i64 (List.getD x39 9 0) (ibin .mul .i64 608 (List.getD x39 19 0)))]))) none fun r5 =>
 match r5 with
 | .inl u6 => (
 cond (!(Zdq u6.2.2.2 [67108845, 67108863, 67108863, 67108863, 67108863, 67108863, 67108863, 67108863, 67108863, 2097151])) (
 some (Zcm u6.2.2.2 [67108845, 67108863, 67108863, 67108863, 67108863, 67108863, 67108863, 67108863, 67108863, 2097151])
 ) (
 some u6.2.2.2
 )
 )
 | .inr _ => (
 none
 )
def Zew (N : Nat) (v : (Unit × Unit × Unit × Int × Int) × (List Int × Unit × List Int)) : Option (((Unit × Unit × Unit × Int × Int) × (List Int × Unit × List Int)) ⊕ (((Unit × Unit × Unit × Int) × (List Int × Unit × List Int)) ⊕ (Unit × Unit))) :=
 cond (icmp .lss v.1.2.2.2.2 64) (
 cond (decide (0 ≤ v.1.2.2.2.1 ∧ v.1.2.2.2.1 < ((5 : Nat) : Int))) (
 cond (decide (0 ≤ v.1.2.2.2.2)) (
 cond (icmp .eql (ibin .and .u64 (ibin .shr .u64 (List.getD v.2.1 (Int.toNat v.1.2.2.2.1) 0) v.1.2.2.2.2) 1) 1) (
 let x1 := (ibin .add .i64 (ibin .mul .i64 51 v.1.2.2.2.1) v.1.2.2.2.2)
 let x2 := (ibin .quo .i64 x1 26)
 let x3 := (decide (0 ≤ x2 ∧ x2 < ((20 : Nat) : Int)))
 cond x3 (
 let x4 := (ibin .rem .i64 x1 26)
 cond (decide (0 ≤ x4)) (
 cond x3 (
 some (.inl (((), (), (), v.1.2.2.2.1, (ibin .add .i64 v.1.2.2.2.2 1)), (v.2.1, (), (List.set v.2.2.2 (Int.toNat x2) (ibin .add .i64 (List.getD v.2.2.2 (Int.toNat x2) 0) (ibin .shl .i64 1 x4))))))
 ) (
 none
 )
 ) (
 none
 )
 ) (
 none
 )
 ) (
 some (.inl (((), (), (), v.1.2.2.2.1, (ibin .add .i64 v.1.2.2.2.2 1)), (v.2.1, (), v.2.2.2)))
 )
 ) (
 none
 )
 ) (
 none
 )
 ) (
 some (.inr (.inl (((), (), (), v.1.2.2.2.1), (v.2.1, (), v.2.2.2))))
 )
def Zdr (N : Nat) (v : (Unit × Unit × Unit × Int) × (List Int × Unit × List Int)) : Option (((Unit × Unit × Unit × Int) × (List Int × Unit × List Int)) ⊕ (((Unit × Unit) × (Unit × List Int)) ⊕ (Unit × Unit))) :=
 cond (icmp .lss v.1.2.2.2 5) (
 mo (loopF (Zew N) N (((), (), (), v.1.2.2.2, 0), (v.2.1, (), v.2.2.2))) none fun r12 =>
 match r12 with
 | .inl u13 => (
 some (.inl (((), (), (), (ibin .add .i64 u13.1.2.2.2 1)), (u13.2.1, (), u13.2.2.2)))
 )
 | .inr w14 => (
 some (.inr (.inr ((), ())))
 )
 ) (
 some (.inr (.inl (((), ()), ((), v.2.2.2))))
 )
def Zj5 (N : Nat) (a : List Int) : Option (List Int) :=
 mo (loopF (Zdr N) N (((), (), (), 0), (a, (), [0, 0, 0, 0, 0, 0, 0, 0, 0, 0, 0, 0, 0, 0, 0, 0, 0, 0, 0, 0]))) none fun r15 =>
 match r15 with
 | .inl u16 => (
 mo (ZbS N u16.2.2) none fun r17 =>
 some r17
 )
 | .inr _ => (
 none
 )
def Zaf (N : Nat) (a : Int) : Option (List Int) :=
 mo (ZbS N [(IntKind.wrap .i64 (ibin .and .u64 a 67108863)), (IntKind.wrap .i64 (ibin .and .u64 (ibin .shr .u64 a 26) 67108863)), (IntKind.wrap .i64 (ibin .shr .u64 a 52)), 0, 0, 0, 0, 0, 0, 0, 0, 0, 0, 0, 0, 0, 0, 0, 0, 0]) none fun r1 =>
 some r1
def Zac (N : Nat) (a : List Int) (b : List Int) : Option (List Int) :=
 mo (ZbS N [(ibin .add .i64 (List.getD a 0 0) (List.getD b 0 0)), (ibin .add .i64 (List.getD a 1 0) (List.getD b 1 0)), (ibin .add .i64 (List.getD a 2 0) (List.getD b 2 0)), (ibin .add .i64 (List.getD a 3 0) (List.getD b 3 0)), (ibin .add .i64 (List.getD a 4 0) (List.getD b 4 0)), (ibin .add .i64 (List.getD a 5 0) (List.getD b 5 0)), (ibin .add .i64 (List.getD a 6 0) (List.getD b 6 0)), (ibin .add .i64 (List.getD a 7 0) (List.getD b 7 0)), (ibin .add .i64 (List.getD a 8 0) (List.getD b 8 0)), (ibin .add .i64 (List.getD a 9 0) (List.getD b 9 0)), 0, 0, 0, 0, 0, 0, 0, 0, 0, 0]) none fun r1 =>
 some r1
def Zax (a : List Int) : List Int :=
 cond (decide (a = [0, 0, 0, 0, 0, 0, 0, 0, 0, 0])) (
 a
 ) (
 (Zcm [67108845, 67108863, 67108863, 67108863, 67108863, 67108863, 67108863, 67108863, 67108863, 2097151] a)
 )
def ZjH (a : List Int) : Option (List Int) :=
 cond (decide (a = [0, 0, 0, 0, 0, 0, 0, 0, 0, 0])) (
 some a
 ) (
 some (Zcm [67108845, 67108863, 67108863, 67108863, 67108863, 67108863, 67108863, 67108863, 67108863, 2097151] a)
 )
theorem ZuB (a : List Int) : ZjH a = some (Zax a) := by
 unfold ZjH Zax
 repeat' (first | refine ZiK ?_ ?_ | rfl)
def ZaI (N : Nat) (a : List Int) (b : List Int) : Option (List Int) :=
 mo (Zac N a (Zax b)) none fun r1 =>
 some r1
def Zab (N : Nat) (a : List Int) (b : List Int) : Option (List Int) :=
 mo (ZbS N [(ibin .add .i64 0 (ibin .mul .i64 (List.getD a 0 0) (List.getD b 0 0))), (ibin .add .i64 (ibin .add .i64 0 (ibin .mul .i64 (List.getD a 0 0) (List.getD b 1 0))) (ibin .mul .i64 (List.getD a 1 0) (List.getD b 0 0))), (ibin .add .i64 (ibin .add .i64 (ibin .add .i64 0 (ibin .mul .i64 (List.getD a 0 0) (List.getD b 2 0))) (ibin .mul .i64 (List.getD a 1 0) (List.getD b 1 0))) (ibin .mul .i64 (List.getD a 2 0) (List.getD b 0 0))), (ibin .add .i64 (ibin .add .i64 (ibin .add .i64 (ibin .add .i64 0 (ibin .mul .i64 (List.getD a 0 0) (List.getD b 3 0))) (ibin .mul .i64 (List.getD a 1 0) (List.getD b 2 0))) (ibin .mul .i64 (List.getD a 2 0) (List.getD b 1 0))) (ibin .mul .i64 (List.getD a 3 0) (List.getD b 0 0))), (ibin .add .i64 (ibin .add .i64 (ibin .add .i64 (ibin .add .i64 (ibin .add .i64 0 (ibin .mul .i64 (List.getD a 0 0) (List.getD b 4 0))) (ibin .mul .i64 (List.getD a 1 0) (List.getD b 3 0))) (ibin .mul .i64 (List.getD a 2 0) (List.getD b 2 0))) (ibin .mul .i64 (List.getD a 3 0) (List.getD b 1 0))) (ibin .mul .i64 (List.getD a 4 0) (List.getD b 0 0))), (ibin .add .i64 (ibin .add .i64 (ibin .add .i64 (ibin .add .i64 (ibin .add .i64 (ibin .add .i64 0 (ibin .mul .i64 (List.getD a 0 0) (List.getD b 5 0))) (ibin .mul .i64 (List.getD a 1 0) (List.getD b 4 0))) (ibin .mul .i64 (List.getD a 2 0) (List.getD b 3 0))) (ibin .mul .i64 (List.getD a 3 0) (List.getD b 2 0))) (ibin .mul .i64 (List.getD a 4 0) (List.getD b 1 0))) (ibin .mul .i64 (List.getD a 5 0) (List.getD b 0 0))), (ibin .add .i64 (ibin .add .i64 (ibin .add .i64 (ibin .add .i64 (ibin .add .i64 (ibin .add .i64 (ibin .add .i64 0 (ibin .mul .i64 (List.getD a 0 0) (List.getD b 6 0))) (ibin .mul .i64 (List.getD a 1 0) (List.getD b 5 0))) (ibin .mul .i64 (List.getD a 2 0) (List.getD b 4 0))) (ibin .mul .i64 (List.getD a 3 0) (List.getD b 3 0))) (ibin .mul .i64 (List.getD a 4 0) (List.getD b 2 0))) (ibin .mul .i64 (List.getD a 5 0) (List.getD b 1 0))) (ibin .mul .i64 (List.getD a 6 0) (List.getD b 0 0))), (ibin .add .i64 (ibin .add .i64 (ibin .add .i64 (ibin .add .i64 (ibin .add .i64 (ibin .add .i64 (ibin .add .i64 (ibin .add .i64 0 (ibin .mul .i64 (List.getD a 0 0) (List.getD b 7 0))) (ibin .mul .i64 (List.getD a 1 0) (List.getD b 6 0))) (ibin .mul .i64 (List.getD a 2 0) (List.getD b 5 0))) (ibin .mul .i64 (List.getD a 3 0) (List.getD b 4 0))) (ibin .mul .i64 (List.getD a 4 0) (List.getD b 3 0))) (ibin .mul .i64 (List.getD a 5 0) (List.getD b 2 0))) (ibin .mul .i64 (List.getD a 6 0) (List.getD b 1 0))) (ibin .mul .i64 (List.getD a 7 0) (List.getD b 0 0))), (ibin .add .i64 (ibin .add .i64 (ibin .add .i64 (ibin .add .i64 (ibin .add .i64 (ibin .add .i64 (ibin .add .i64 (ibin .add .i64 (ibin .add .i64 0 (ibin .mul .i64 (List.getD a 0 0) (List.getD b 8 0))) (ibin .mul .i64 (List.getD a 1 0) (List.getD b 7 0))) (ibin .mul .i64 (List.getD a 2 0) (List.getD b 6 0))) (ibin .mul .i64 (List.getD a 3 0) (List.getD b 5 0))) (ibin .mul .i64 (List.getD a 4 0) (List.getD b 4 0))) (ibin .mul .i64 (List.getD a 5 0) (List.getD b 3 0))) (ibin .mul .i64 (List.getD a 6 0) (List.getD b 2 0))) (ibin .mul .i64 (List.getD a 7 0) (List.getD b 1 0))) (ibin .mul .i64 (List.getD a 8 0) (List.getD b 0 0))), (ibin .add .i64 (ibin .add .i64 (ibin .add .i64 (ibin .add .i64 (ibin .add .i64 (ibin .add .i64 (ibin .add .i64 (ibin .add .i64 (ibin .add .i64 (ibin .add .i64 0 (ibin .mul .i64 (List.getD a 0 0) (List.getD b 9 0))) (ibin .mul .i64 (List.getD a 1 0) (List.getD b 8 0))) (ibin .mul .i64 (List.getD a 2 0) (List.getD b 7 0))) (ibin .mul .i64 (List.getD a 3 0) (List.getD b 6 0))) (ibin .mul .i64 (List.getD a 4 0) (List.getD b 5 0))) (ibin .mul .i64 (List.getD a 5 0) (List.getD b 4 0))) (ibin .mul .i64 (List.getD a 6 0) (List.getD b 3 0))) (ibin .mul .i64 (List.getD a 7 0) (List.getD b 2 0))) (ibin .mul .i64 (List.getD a 8 0) (List.getD b 1 0))) (ibin .mul .i64 (List.getD a 9 0) (List.getD b 0 0))), (ibin .add .i64 (ibin .add .i64 (ibin .add .i64 (ibin .add .i64 (ibin .add .i64 (ibin .add .i64 (ibin .add .i64 (ibin .add .i64 (ibin .add .i64 0 (ibin .mul .i64 (List.getD a 1 0) (List.getD b 9 0))) (ibin .mul .i64 (List.getD a 2 0) (List.getD b 8 0))) (ibin .mul .i64 (List.getD a 3 0) (List.getD b 7 0))) (ibin .mul .i64 (List.getD a 4 0) (List.getD b 6 0))) (ibin .mul .i64 (List.getD a 5 0) (List.getD b 5 0))) (ibin .mul .i64 (List.getD a 6 0) (List.getD b 4 0))) (ibin .mul .i64 (List.getD a 7 0) (List.getD b 3 0))) (ibin .mul .i64 (List.getD a 8 0) (List.getD b 2 0))) (ibin .mul .i64 (List.getD a 9 0) (List.getD b 1 0))), (ibin .add .i64 (ibin .add .i64 (ibin .add .i64 (ibin .add .i64 (ibin .add .i64 (ibin .add .i64 (ibin .add .i64 (ibin .add .i64 0 (ibin .mul .i64 (List.getD a 2 0) (List.getD b 9 0))) (ibin .mul .i64 (List.getD a 3 0) (List.getD b 8 0))) (ibin .mul .i64 (List.getD a 4 0) (List.getD b 7 0))) (ibin .mul .i64 (List.getD a 5 0) (List.getD b 6 0))) (ibin .mul .i64 (List.getD a 6 0) (List.getD b 5 0))) (ibin .mul .i64 (List.getD a 7 0) (List.getD b 4 0))) (ibin .mul .i64 (List.getD a 8 0) (List.getD b 3 0))) (ibin .mul .i64 (List.getD a 9 0) (List.getD b 2 0))), (ibin .add .i64 (ibin .add .i64 (ibin .add .i64 (ibin .add .i64 (ibin .add .i64 (ibin .add .i64 (ibin .add .i64 0 (ibin .mul .i64 (List.getD a 3 0) (List.getD b 9 0))) (ibin .mul .i64 (List.getD a 4 0) (List.getD b 8 0))) (ibin .mul .i64 (List.getD a 5 0) (List.getD b 7 0))) (ibin .mul .i64 (List.getD a 6 0) (List.getD b 6 0))) (ibin .mul .i64 (List.getD a 7 0) (List.getD b 5 0))) (ibin .mul .i64 (List.getD a 8 0) (List.getD b 4 0))) (ibin .mul .i64 (List.getD a 9 0) (List.getD b 3 0))), (ibin .add .i64 (ibin .add .i64 (ibin .add .i64 (ibin .add .i64 (ibin .add .i64 (ibin .add .i64 0 (ibin .mul .i64 (List.getD a 4 0) (List.getD b 9 0))) (ibin .mul .i64 (List.getD a 5 0) (List.getD b 8 0))) (ibin .mul .i64 (List.getD a 6 0) (List.getD b 7 0))) (ibin .mul .i64 (List.getD a 7 0) (List.getD b 6 0))) (ibin .mul .i64 (List.getD a 8 0) (List.getD b 5 0))) (ibin .mul .i64 (List.getD a 9 0) (List.getD b 4 0))), (ibin .add .i64 (ibin .add .i64 (ibin .add .i64 (ibin .add .i64 (ibin .add .i64 0 (ibin .mul .i64 (List.getD a 5 0) (List.getD b 9 0))) (ibin .mul .i64 (List.getD a 6 0) (List.getD b 8 0))) (ibin .mul .i64 (List.getD a 7 0) (List.getD b 7 0))) (ibin .mul .i64 (List.getD a 8 0) (List.getD b 6 0))) (ibin .mul .i64 (List.getD a 9 0) (List.getD b 5 0))), (ibin .add .i64 (ibin .add .i64 (ibin .add .i64 (ibin .add .i64 0 (ibin .mul .i64 (List.getD a 6 0) (List.getD b 9 0))) (ibin .mul .i64 (List.getD a 7 0) (List.getD b 8 0))) (ibin .mul .i64 (List.getD a 8 0) (List.getD b 7 0))) (ibin .mul .i64 (List.getD a 9 0) (List.getD b 6 0))), (ibin .add .i64 (ibin .add .i64 (ibin .add .i64 0 (ibin .mul .i64 (List.getD a 7 0) (List.getD b 9 0))) (ibin .mul .i64 (List.getD a 8 0) (List.getD b 8 0))) (ibin .mul .i64 (List.getD a 9 0) (List.getD b 7 0))), (ibin .add .i64 (ibin .add .i64 0 (ibin .mul .i64 (List.getD a 8 0) (List.getD b 9 0))) (ibin .mul .i64 (List.getD a 9 0) (List.getD b 8 0))), (ibin .add .i64 0 (ibin .mul .i64 (List.getD a 9 0) (List.getD b 9 0))), 0]) none fun r1 =>
 some r1
def ZcD (N : Nat) (v : (Int × Unit × Unit × Unit × Unit × Int) × (List Int × Unit × List Int × List Int)) : Option (((Int × Unit × Unit × Unit × Unit × Int) × (List Int × Unit × List Int × List Int)) ⊕ (((Int × Unit × Unit × Unit × Unit) × (List Int × Unit × List Int × List Int)) ⊕ (Unit × Unit))) :=
 cond (icmp .lss v.1.2.2.2.2.2 (ibin .quo .i64 v.1.1 2)) (
 mo (Zab N v.2.2.2.2 v.2.2.2.2) none fun r11 =>
 some (.inl ((v.1.1, (), (), (), (), (ibin .add .i64 v.1.2.2.2.2.2 1)), (v.2.1, (), v.2.2.2.1, r11)))
 ) (
 some (.inr (.inl ((v.1.1, (), (), (), ()), (v.2.1, (), v.2.2.2.1, v.2.2.2.2))))
 )
def ZdS (rec : List Int → Int → Option (List Int)) (N : Nat) (a : List Int) (b : Int) : Option (List Int) :=
 cond (icmp .eql b 1) (
 some a
 ) (
 mo (rec a (ibin .quo .i64 b 2)) none fun r1 =>
 mo (loopF (ZcD N) N ((b, (), (), (), (), 0), (a, (), r1, r1))) none fun r12 =>
 match r12 with
 | .inl u13 => (
 mo (Zab N u13.2.2.2.2 u13.2.2.2.1) none fun r14 =>
 cond (icmp .eql (ibin .rem .i64 u13.1.1 2) 1) (
 mo (Zab N r14 r14) none fun r15 =>
 mo (Zab N r15 u13.2.1) none fun r16 =>
 some r16
 ) (
 some r14
 )
 )
 | .inr _ => (
 none
 )
 )
def ZdJ (N : Nat) : Nat → List Int → Int → Option (List Int)
 | 0 => fun _ _ => none
 | m + 1 => ZdS (ZdJ N m) N
def Zgk (N : Nat) (a : List Int) (b : Int) : Option (List Int) := ZdJ N N a b
def Za3 (N : Nat) (a : List Int) : Option (List Int) :=
 mo (Zgk N a 250) none fun r1 =>
 mo (Zab N r1 r1) none fun r2 =>
 mo (Zab N r2 r2) none fun r3 =>
 mo (Zab N r3 r3) none fun r4 =>
 mo (Zab N r4 r4) none fun r5 =>
 mo (Zab N r5 r5) none fun r6 =>
 mo (Zab N a a) none fun r7 =>
 mo (Zab N r7 r7) none fun r8 =>
 mo (Zab N r8 r7) none fun r9 =>
 mo (Zab N r9 r7) none fun r10 =>
 mo (Zab N r6 r10) none fun r11 =>
 mo (Zab N r11 r7) none fun r12 =>
 mo (Zab N r12 a) none fun r13 =>
 some r13
def Zbc (a : List Int) : Bool :=
 (icmp .eql (ibin .and .i64 (List.getD a 0 0) 1) 1)
def Zbm (a : List Int) : List Int :=
 cond (icmp .eql (ibin .and .i64 (List.getD a 0 0) 1) 1) (
 (Zax a)
 ) (
 a
 )
def ZjI (a : List Int) : Option (List Int) :=
 cond (icmp .eql (ibin .and .i64 (List.getD a 0 0) 1) 1) (
 some (Zax a)
 ) (
 some a
 )
theorem ZuC (a : List Int) : ZjI a = some (Zbm a) := by
 unfold ZjI Zbm
 repeat' (first | refine ZiK ?_ ?_ | rfl)
def ZdI  : List Int :=
 [34513072, 59165138, 38243406, 1750207, 53429016, 58652137, 13633939, 58469549, 8409025, 712905]
def Za0  : List Int :=
 [56195235, 47411844, 25868126, 20251911, 28682, 31357478, 7604119, 66702899, 15608687, 1343707]
def ZdN (N : Nat) (a : List Int) : Option ((List Int × Bool)) :=
 mo (Zgk N a 251) none fun r1 =>
 mo (Zab N r1 r1) none fun r2 =>
 mo (Zab N r2 r2) none fun r3 =>
 cond (decide (r3 = a)) (
 some ((Zbm r2), true)
 ) (
 mo (Zab N r2 ZdI) none fun r4 =>
 mo (Zab N r4 r4) none fun r5 =>
 cond (decide (r5 = a)) (
 some ((Zbm r4), true)
 ) (
 mo (Zab N r4 ZdI) none fun r6 =>
 some ([0, 0, 0, 0, 0, 0, 0, 0, 0, 0], false)
 )
 )
def Zby (N : Nat) (a : List Int) (b : List Int) : Option ((List Int × Bool)) :=
 cond (decide (a = [0, 0, 0, 0, 0, 0, 0, 0, 0, 0])) (
 some ([0, 0, 0, 0, 0, 0, 0, 0, 0, 0], true)
 ) (
 cond (decide (b = [0, 0, 0, 0, 0, 0, 0, 0, 0, 0])) (
 some ([0, 0, 0, 0, 0, 0, 0, 0, 0, 0], false)
 ) (
 mo (Za3 N b) none fun r1 =>
 mo (Zab N a r1) none fun r2 =>
 mo (ZdN N r2) none fun r3 =>
 cond r3.2 (
 some (r3.1, true)
 ) (
 mo (Zab N r2 ZdI) none fun r4 =>
 mo (ZdN N r4) none fun r5 =>
 some (r5.1, false)
 )
 )
 )
def Zev (N : Nat) (a : Int) : Option (List Int) :=
 cond (icmp .eql a 1) (
 some ZdI
 ) (
 cond (icmp .eql a 2) (
 some Za0
 ) (
 cond (icmp .eql a 3) (
 mo (ZaI N (Zax Za0) [1, 0, 0, 0, 0, 0, 0, 0, 0, 0]) none fun r1 =>
 mo (ZdN N r1) none fun r2 =>
 some (Zax r2.1)
 ) (
 cond (icmp .eql a 4) (
 mo (ZaI N (Zax [1, 0, 0, 0, 0, 0, 0, 0, 0, 0]) Za0) none fun r3 =>
 mo (ZdN N r3) none fun r4 =>
 mo (Za3 N r4.1) none fun r5 =>
 some (Zbm r5)
 ) (
 cond (icmp .eql a 5) (
 mo (Zab N Za0 Za0) none fun r6 =>
 mo (ZaI N [1, 0, 0, 0, 0, 0, 0, 0, 0, 0] r6) none fun r7 =>
 some r7
 ) (
 cond (icmp .eql a 6) (
 mo (ZaI N Za0 [1, 0, 0, 0, 0, 0, 0, 0, 0, 0]) none fun r8 =>
 mo (Zab N r8 r8) none fun r9 =>
 some r9
 ) (
 some [0, 0, 0, 0, 0, 0, 0, 0, 0, 0]
 )
 )
 )
 )
 )
 )
def ZcC (N : Nat) (v : (Unit × Unit × Unit × Int) × (List Int × Unit × List Int)) : Option (((Unit × Unit × Unit × Int) × (List Int × Unit × List Int)) ⊕ (((Unit × Unit) × (Unit × List Int)) ⊕ (Unit × Unit))) :=
 cond (icmp .lss v.1.2.2.2 255) (
 let x1 := (ibin .quo .i64 v.1.2.2.2 26)
 cond (decide (0 ≤ x1 ∧ x1 < ((10 : Nat) : Int))) (
 let x2 := (ibin .rem .i64 v.1.2.2.2 26)
 cond (decide (0 ≤ x2)) (
 cond (icmp .eql (ibin .and .i64 (ibin .shr .i64 (List.getD v.2.1 (Int.toNat x1) 0) x2) 1) 1) (
 let x3 := (ibin .quo .i64 v.1.2.2.2 8)
 let x4 := (decide (0 ≤ x3 ∧ x3 < ((32 : Nat) : Int)))
 cond x4 (
 let x5 := (ibin .rem .i64 v.1.2.2.2 8)
 cond (decide (0 ≤ x5)) (
 cond x4 (
 some (.inl (((), (), (), (ibin .add .i64 v.1.2.2.2 1)), (v.2.1, (), (List.set v.2.2.2 (Int.toNat x3) (ibin .add .u8 (List.getD v.2.2.2 (Int.toNat x3) 0) (ibin .shl .u8 1 x5))))))
 ) (
 none
 )
 ) (
 none
 )
 ) (
 none
 )
 ) (
 some (.inl (((), (), (), (ibin .add .i64 v.1.2.2.2 1)), (v.2.1, (), v.2.2.2)))
 )
 ) (
 none
 )
 ) (
 none
 )
 ) (
 some (.inr (.inl (((), ()), ((), v.2.2.2))))
 )
def Zbb (N : Nat) (a : List Int) : Option (List Int) :=
 mo (loopF (ZcC N) N (((), (), (), 0), (a, (), [0, 0, 0, 0, 0, 0, 0, 0, 0, 0, 0, 0, 0, 0, 0, 0, 0, 0, 0, 0, 0, 0, 0, 0, 0, 0, 0, 0, 0, 0, 0, 0]))) none fun r5 =>
 match r5 with
 | .inl u6 => (
 some u6.2.2
 )
 | .inr _ => (
 none
 )
def Zb5 (N : Nat) (v : (Nat × Unit × Unit × Int) × ((Nat × List Int) × Unit × List Int)) : Option (((Nat × Unit × Unit × Int) × ((Nat × List Int) × Unit × List Int)) ⊕ (((Unit × Unit) × (Unit × List Int)) ⊕ (Unit × Unit))) :=
 cond (icmp .lss v.1.2.2.2 (ibin .mul .i64 8 ((v.1.1 : Nat) : Int))) (
 let x1 := (ibin .quo .i64 v.1.2.2.2 8)
 cond (decide (0 ≤ x1 ∧ x1 < ((v.1.1 : Nat) : Int))) (
 let x2 := (ibin .rem .i64 v.1.2.2.2 8)
 cond (decide (0 ≤ x2)) (
 cond (icmp .eql (ibin .and .u8 (ibin .shr .u8 (List.getD v.2.1.2 (Int.toNat x1) 0) x2) 1) 1) (
 let x3 := (ibin .quo .i64 v.1.2.2.2 26)
 let x4 := (decide (0 ≤ x3 ∧ x3 < ((20 : Nat) : Int)))
 cond x4 (
 let x5 := (ibin .rem .i64 v.1.2.2.2 26)
 cond (decide (0 ≤ x5)) (
 cond x4 (
 some (.inl ((v.1.1, (), (), (ibin .add .i64 v.1.2.2.2 1)), ((v.2.1.1, v.2.1.2), (), (List.set v.2.2.2 (Int.toNat x3) (ibin .add .i64 (List.getD v.2.2.2 (Int.toNat x3) 0) (ibin .shl .i64 1 x5))))))
 ) (
 none
 )
 ) (
 none
 )
 ) (
 none
 )
 ) (
 some (.inl ((v.1.1, (), (), (ibin .add .i64 v.1.2.2.2 1)), ((v.2.1.1, v.2.1.2), (), v.2.2.2)))
 )
 ) (
 none
 )
 ) (
 none
 )
 ) (
 some (.inr (.inl (((), ()), ((), v.2.2.2))))
 )
def Zd1 (N : Nat) (a : ((Nat × List Int) × Unit)) : Option (List Int) :=
 mo (loopF (Zb5 N) N ((a.1.1, (), (), 0), ((a.1.1, a.1.2), (), [0, 0, 0, 0, 0, 0, 0, 0, 0, 0, 0, 0, 0, 0, 0, 0, 0, 0, 0, 0]))) none fun r9 =>
 match r9 with
 | .inl u10 => (
 mo (ZbS N u10.2.2) none fun r11 =>
 some r11
 )
 | .inr _ => (
 none
 )
def ZeU (N : Nat) (a : List Int) : Option ((List Int × Int)) :=
 mo (Zd1 N ((32, a), ())) none fun r1 =>
 mo (Zbb N r1) none fun r2 =>
 cond (!(decide (r2 = a))) (
 some ([0, 0, 0, 0, 0, 0, 0, 0, 0, 0], 3)
 ) (
 some (r1, 0)
 )
def ZdC (N : Nat) (a : List Int) : Option (List Int) :=
 mo (Zd1 N ((32, (List.set a 31 (ibin .and .u8 (List.getD a 31 0) 127))), ())) none fun r1 =>
 some r1
def Zam  : (List Int × List Int) :=
 ([0, 0, 0, 0, 0, 0, 0, 0, 0, 0], [1, 0, 0, 0, 0, 0, 0, 0, 0, 0])
def Zbw (N : Nat) (a : (List Int × List Int)) (b : (List Int × List Int)) : Option ((List Int × List Int)) :=
 mo (Zab N a.1 b.2) none fun r1 =>
 mo (Zab N a.2 b.1) none fun r2 =>
 mo (Zab N a.1 b.1) none fun r3 =>
 mo (Zab N a.2 b.2) none fun r4 =>
 mo (Zab N Za0 r3) none fun r5 =>
 mo (Zab N r5 r4) none fun r6 =>
 mo (Zac N [1, 0, 0, 0, 0, 0, 0, 0, 0, 0] r6) none fun r7 =>
 mo (ZaI N [1, 0, 0, 0, 0, 0, 0, 0, 0, 0] r6) none fun r8 =>
 mo (Zab N r7 r8) none fun r9 =>
 mo (Za3 N r9) none fun r10 =>
 mo (Zac N r1 r2) none fun r11 =>
 mo (Zab N r11 r8) none fun r12 =>
 mo (Zab N r12 r10) none fun r13 =>
 mo (Zac N r4 r3) none fun r14 =>
 mo (Zab N r14 r7) none fun r15 =>
 mo (Zab N r15 r10) none fun r16 =>
 some (r13, r16)
def Zlt (N : Nat) (a : List Int) : Option ((List Int × Bool)) :=
 mo (Zab N a a) none fun r1 =>
 mo (ZaI N r1 [1, 0, 0, 0, 0, 0, 0, 0, 0, 0]) none fun r2 =>
 mo (Zab N Za0 r1) none fun r3 =>
 mo (Zac N r3 [1, 0, 0, 0, 0, 0, 0, 0, 0, 0]) none fun r4 =>
 mo (Zby N r2 r4) none fun r5 =>
 some (r5.1, r5.2)
def Zff (N : Nat)  : Option ((List Int × List Int)) :=
 mo (Zaf N 4) none fun r1 =>
 mo (Zaf N 5) none fun r2 =>
 mo (Za3 N r2) none fun r3 =>
 mo (Zab N r1 r3) none fun r4 =>
 mo (Zlt N r4) none fun r5 =>
 some (r5.1, r4)
def ZaT  : (List Int × List Int) :=
 (Zam.1, Zam.2)
def Zap (a : (List Int × List Int)) : (List Int × List Int) :=
 cond ((decide (a.1 = [0, 0, 0, 0, 0, 0, 0, 0, 0, 0])) && ((decide (a.2 = [0, 0, 0, 0, 0, 0, 0, 0, 0, 0])) && true)) (
 (Zam.1, Zam.2)
 ) (
 (a.1, a.2)
 )
def Zhw (a : (List Int × List Int)) : Option ((List Int × List Int)) :=
 cond ((decide (a.1 = [0, 0, 0, 0, 0, 0, 0, 0, 0, 0])) && ((decide (a.2 = [0, 0, 0, 0, 0, 0, 0, 0, 0, 0])) && true)) (
 some (Zam.1, Zam.2)
 ) (
 some (a.1, a.2)
 )
theorem ZqU (a : (List Int × List Int)) : Zhw a = some (Zap a) := by
 unfold Zhw Zap
 repeat' (first | refine ZiK ?_ ?_ | rfl)
def Zcy (N : Nat) (a : (List Int × List Int)) : Option (((List Int × List Int) × (List Int × List Int) × (List Int × List Int) × (List Int × List Int))) :=
 mo (Zab N a.2 ZdI) none fun r1 =>
 mo (Zab N a.1 ZdI) none fun r2 =>
 some ((a.1, a.2), (r1, r2), ((Zax a.1), (Zax a.2)), ((Zax r1), (Zax r2)))
def ZbU (N : Nat) (a : (List Int × List Int)) (b : (List Int × List Int)) : Option (Bool) :=
 mo (Zcy N ((Zap (b.1, b.2)).1, (Zap (b.1, b.2)).2)) none fun r1 =>
 cond ((decide (r1.1.1 = (Zap (a.1, a.2)).1)) && ((decide (r1.1.2 = (Zap (a.1, a.2)).2)) && true)) (
 some true
 ) (
 cond ((decide (r1.2.1.1 = (Zap (a.1, a.2)).1)) && ((decide (r1.2.1.2 = (Zap (a.1, a.2)).2)) && true)) (
 some true
 ) (
 cond ((decide (r1.2.2.1.1 = (Zap (a.1, a.2)).1)) && ((decide (r1.2.2.1.2 = (Zap (a.1, a.2)).2)) && true)) (
 some true
 ) (
 cond ((decide (r1.2.2.2.1 = (Zap (a.1, a.2)).1)) && ((decide (r1.2.2.2.2 = (Zap (a.1, a.2)).2)) && true)) (
 some true
 ) (
 some false
 )
 )
 )
 )
def Zcc (N : Nat) (a : List Int) : Option (((List Int × List Int) × Bool)) :=
 mo (Zab N a a) none fun r1 =>
 mo (ZaI N [1, 0, 0, 0, 0, 0, 0, 0, 0, 0] r1) none fun r2 =>
 mo (Zac N [1, 0, 0, 0, 0, 0, 0, 0, 0, 0] r1) none fun r3 =>
 mo (Zab N r2 r2) none fun r4 =>
 mo (Zab N (Zax Za0) r4) none fun r5 =>
 mo (Zab N r3 r3) none fun r6 =>
 mo (ZaI N r5 r6) none fun r7 =>
 cond (decide (r3 = [0, 0, 0, 0, 0, 0, 0, 0, 0, 0])) (
 some ((Zam.1, Zam.2), false)
 ) (
 cond (decide (r7 = [0, 0, 0, 0, 0, 0, 0, 0, 0, 0])) (
 some ((Zam.1, Zam.2), false)
 ) (
 mo (Zby N r7 [1, 0, 0, 0, 0, 0, 0, 0, 0, 0]) none fun r8 =>
 cond (!r8.2) (
 some ((Zam.1, Zam.2), false)
 ) (
 mo (Za3 N r3) none fun r9 =>
 mo (Zab N r2 r9) none fun r10 =>
 mo (Zac N r1 r1) none fun r11 =>
 mo (Zac N r11 r1) none fun r12 =>
 mo (Zac N r12 r1) none fun r13 =>
 mo (Zby N r13 r7) none fun r14 =>
 cond (decide (r10 = [0, 0, 0, 0, 0, 0, 0, 0, 0, 0])) (
 some ((Zam.1, Zam.2), false)
 ) (
 mo (Zab N r14.1 r10) none fun r15 =>
 cond (Zbc r15) (
 some ((Zam.1, Zam.2), false)
 ) (
 some ((r14.1, r10), true)
 )
 )
 )
 )
 )
def Zc6 (N : Nat) (a : List Int) : Option (((List Int × List Int) × Int)) :=
 mo (ZeU N a) none fun r1 =>
 cond (icmp .neq r1.2 0) (
 some ((ZaT.1, ZaT.2), 3)
 ) (
 cond (Zbc r1.1) (
 some ((ZaT.1, ZaT.2), 3)
 ) (
 mo (Zcc N r1.1) none fun r2 =>
 cond (!r2.2) (
 some ((ZaT.1, ZaT.2), 50)
 ) (
 some ((r2.1.1, r2.1.2), 0)
 )
 )
 )
def ZbL (N : Nat) (v : (Unit × Unit × Unit × Int) × (Unit × (List Int × List Int) × Unit × ((List Int × List Int) × (List Int × List Int) × (List Int × List Int) × (List Int × List Int)))) : Option (((Unit × Unit × Unit × Int) × (Unit × (List Int × List Int) × Unit × ((List Int × List Int) × (List Int × List Int) × (List Int × List Int) × (List Int × List Int)))) ⊕ ((Unit × (Unit × Unit)) ⊕ (Unit × (Unit × List Int)))) :=
 cond (icmp .lss v.1.2.2.2 4) (
 let x1 := (decide (0 ≤ v.1.2.2.2 ∧ v.1.2.2.2 < ((4 : Nat) : Int)))
 cond x1 (
 let x2 := (List.getD [v.2.2.2.2.1.2, v.2.2.2.2.2.1.2, v.2.2.2.2.2.2.1.2, v.2.2.2.2.2.2.2.2] (Int.toNat v.1.2.2.2) [])
 mo (ZaI N [1, 0, 0, 0, 0, 0, 0, 0, 0, 0] x2) none fun r23 =>
 cond x1 (
 mo (Zac N [1, 0, 0, 0, 0, 0, 0, 0, 0, 0] x2) none fun r24 =>
 mo (Zby N r23 r24) none fun r25 =>
 cond r25.2 (
 mo (Zcc N r25.1) none fun r26 =>
 cond r26.2 (
 mo (ZbU N (v.2.2.1.1, v.2.2.1.2) (r26.1.1, r26.1.2)) none fun r27 =>
 cond r27 (
 mo (Zbb N r25.1) none fun r28 =>
 some (.inr (.inr ((), ((), r28))))
 ) (
 some (.inl (((), (), (), (ibin .add .i64 v.1.2.2.2 1)), ((), (v.2.2.1.1, v.2.2.1.2), (), ((v.2.2.2.2.1.1, v.2.2.2.2.1.2), (v.2.2.2.2.2.1.1, v.2.2.2.2.2.1.2), (v.2.2.2.2.2.2.1.1, v.2.2.2.2.2.2.1.2), (v.2.2.2.2.2.2.2.1, v.2.2.2.2.2.2.2.2)))))
 )
 ) (
 some (.inl (((), (), (), (ibin .add .i64 v.1.2.2.2 1)), ((), (v.2.2.1.1, v.2.2.1.2), (), ((v.2.2.2.2.1.1, v.2.2.2.2.1.2), (v.2.2.2.2.2.1.1, v.2.2.2.2.2.1.2), (v.2.2.2.2.2.2.1.1, v.2.2.2.2.2.2.1.2), (v.2.2.2.2.2.2.2.1, v.2.2.2.2.2.2.2.2)))))
 )
 ) (
 some (.inl (((), (), (), (ibin .add .i64 v.1.2.2.2 1)), ((), (v.2.2.1.1, v.2.2.1.2), (), ((v.2.2.2.2.1.1, v.2.2.2.2.1.2), (v.2.2.2.2.2.1.1, v.2.2.2.2.2.1.2), (v.2.2.2.2.2.2.1.1, v.2.2.2.2.2.2.1.2), (v.2.2.2.2.2.2.2.1, v.2.2.2.2.2.2.2.2)))))
 )
 ) (
 none
 )
 ) (
 none
 )
 ) (
 some (.inr (.inl ((), ((), ()))))
 )
def Za2 (N : Nat) (a : (List Int × List Int)) : Option (List Int) :=
 mo (Zcy N ((Zap (a.1, a.2)).1, (Zap (a.1, a.2)).2)) none fun r1 =>
 mo (loopF (ZbL N) N (((), (), (), 0), ((), (a.1, a.2), (), ((r1.1.1, r1.1.2), (r1.2.1.1, r1.2.1.2), (r1.2.2.1.1, r1.2.2.1.2), (r1.2.2.2.1, r1.2.2.2.2))))) none fun r29 =>
 match r29 with
 | .inl u30 => (
 some [0, 0, 0, 0, 0, 0, 0, 0, 0, 0, 0, 0, 0, 0, 0, 0, 0, 0, 0, 0, 0, 0, 0, 0, 0, 0, 0, 0, 0, 0, 0, 0]
 )
 | .inr w31 => (
 some w31.2.2
 )
def Zbx (N : Nat) (a : (List Int × List Int)) (b : (List Int × List Int)) : Option ((List Int × List Int)) :=
 mo (Zbw N ((Zap (a.1, a.2)).1, (Zap (a.1, a.2)).2) ((Zap (b.1, b.2)).1, (Zap (b.1, b.2)).2)) none fun r1 =>
 some (r1.1, r1.2)
def Zco (N : Nat) (a : List Int) : Option ((List Int × List Int)) :=
 mo (Zab N ZdI a) none fun r1 =>
 mo (Zab N r1 a) none fun r2 =>
 mo (Zac N r2 [1, 0, 0, 0, 0, 0, 0, 0, 0, 0]) none fun r3 =>
 mo (Zab N Za0 Za0) none fun r4 =>
 mo (ZaI N [1, 0, 0, 0, 0, 0, 0, 0, 0, 0] r4) none fun r5 =>
 mo (Zab N r3 r5) none fun r6 =>
 mo (Zab N r2 Za0) none fun r7 =>
 let x1 := (Zax [1, 0, 0, 0, 0, 0, 0, 0, 0, 0])
 mo (ZaI N x1 r7) none fun r8 =>
 mo (Zac N r2 Za0) none fun r9 =>
 mo (Zab N r8 r9) none fun r10 =>
 mo (Zby N r6 r10) none fun r11 =>
 cond (!r11.2) (
 mo (Zab N r11.1 a) none fun r12 =>
 mo (ZaI N Za0 [1, 0, 0, 0, 0, 0, 0, 0, 0, 0]) none fun r13 =>
 mo (ZaI N r2 [1, 0, 0, 0, 0, 0, 0, 0, 0, 0]) none fun r14 =>
 mo (Zab N r2 r14) none fun r15 =>
 mo (Zab N r15 r13) none fun r16 =>
 mo (Zab N r16 r13) none fun r17 =>
 mo (ZaI N r17 r10) none fun r18 =>
 mo (Zev N 3) none fun r19 =>
 mo (Zab N (Zax (Zbm r12)) (Zax (Zbm r12))) none fun r20 =>
 mo (Zac N (Zax (Zbm r12)) (Zax (Zbm r12))) none fun r21 =>
 mo (Zab N r21 r10) none fun r22 =>
 mo (Zab N r18 r19) none fun r23 =>
 mo (Za3 N r23) none fun r24 =>
 mo (Zab N r22 r24) none fun r25 =>
 mo (ZaI N [1, 0, 0, 0, 0, 0, 0, 0, 0, 0] r20) none fun r26 =>
 mo (Zac N [1, 0, 0, 0, 0, 0, 0, 0, 0, 0] r20) none fun r27 =>
 mo (Za3 N r27) none fun r28 =>
 mo (Zab N r26 r28) none fun r29 =>
 some (r25, r29)
 ) (
 mo (ZaI N Za0 [1, 0, 0, 0, 0, 0, 0, 0, 0, 0]) none fun r30 =>
 mo (ZaI N r2 [1, 0, 0, 0, 0, 0, 0, 0, 0, 0]) none fun r31 =>
 mo (Zab N x1 r31) none fun r32 =>
 mo (Zab N r32 r30) none fun r33 =>
 mo (Zab N r33 r30) none fun r34 =>
 mo (ZaI N r34 r10) none fun r35 =>
 mo (Zev N 3) none fun r36 =>
 mo (Zab N r11.1 r11.1) none fun r37 =>
 mo (Zac N r11.1 r11.1) none fun r38 =>
 mo (Zab N r38 r10) none fun r39 =>
 mo (Zab N r35 r36) none fun r40 =>
 mo (Za3 N r40) none fun r41 =>
 mo (Zab N r39 r41) none fun r42 =>
 mo (ZaI N [1, 0, 0, 0, 0, 0, 0, 0, 0, 0] r37) none fun r43 =>
 mo (Zac N [1, 0, 0, 0, 0, 0, 0, 0, 0, 0] r37) none fun r44 =>
 mo (Za3 N r44) none fun r45 =>
 mo (Zab N r43 r45) none fun r46 =>
 some (r42, r46)
 )
def Zc5 (N : Nat) (v : (Unit × Unit × Unit × Unit × Int) × (List Int × Unit × List Int × List Int)) : Option (((Unit × Unit × Unit × Unit × Int) × (List Int × Unit × List Int × List Int)) ⊕ (((Unit × Unit × Unit) × (Unit × List Int × List Int)) ⊕ (Unit × Unit))) :=
 cond (icmp .lss v.1.2.2.2.2 32) (
 cond (decide (0 ≤ v.1.2.2.2.2 ∧ v.1.2.2.2.2 < ((64 : Nat) : Int))) (
 let x1 := (decide (0 ≤ v.1.2.2.2.2 ∧ v.1.2.2.2.2 < ((32 : Nat) : Int)))
 cond x1 (
 let x2 := (ibin .add .i64 32 v.1.2.2.2.2)
 cond (decide (0 ≤ x2 ∧ x2 < ((64 : Nat) : Int))) (
 cond x1 (
 some (.inl (((), (), (), (), (ibin .add .i64 v.1.2.2.2.2 1)), (v.2.1, (), (List.set v.2.2.2.1 (Int.toNat v.1.2.2.2.2) (List.getD v.2.1 (Int.toNat v.1.2.2.2.2) 0)), (List.set v.2.2.2.2 (Int.toNat v.1.2.2.2.2) (List.getD v.2.1 (Int.toNat x2) 0)))))
 ) (
 none
 )
 ) (
 none
 )
 ) (
 none
 )
 ) (
 none
 )
 ) (
 some (.inr (.inl (((), (), ()), ((), v.2.2.2.1, v.2.2.2.2))))
 )
def Zhh (N : Nat) (a : List Int) : Option ((List Int × List Int)) :=
 mo (loopF (Zc5 N) N (((), (), (), (), 0), (a, (), [0, 0, 0, 0, 0, 0, 0, 0, 0, 0, 0, 0, 0, 0, 0, 0, 0, 0, 0, 0, 0, 0, 0, 0, 0, 0, 0, 0, 0, 0, 0, 0], [0, 0, 0, 0, 0, 0, 0, 0, 0, 0, 0, 0, 0, 0, 0, 0, 0, 0, 0, 0, 0, 0, 0, 0, 0, 0, 0, 0, 0, 0, 0, 0]))) none fun r6 =>
 match r6 with
 | .inl u7 => (
 mo (ZdC N u7.2.2.1) none fun r8 =>
 mo (Zco N r8) none fun r9 =>
 mo (ZdC N u7.2.2.2) none fun r10 =>
 mo (Zco N r10) none fun r11 =>
 mo (Zbx N (r9.1, r9.2) (r11.1, r11.2)) none fun r12 =>
 some (r12.1, r12.2)
 )
 | .inr _ => (
 none
 )
def ZhX (N : Nat)  : Option ((List Int × List Int)) :=
 mo (Zff N) none fun r1 =>
 some (r1.1, r1.2)
def Zcl (N : Nat) (a : (List Int × List Int × List Int × List Int)) : Option (((List Int × List Int × List Int × List Int) × Int)) :=
 mo (Zbt (a.1, a.2.1, a.2.2.1, a.2.2.2)) none fun r1 =>
 mo (Zbt (r1.1, r1.2.1, r1.2.2.1, r1.2.2.2)) none fun r2 =>
 mo (ZeT N (r2.1, r2.2.1, r2.2.2.1, r2.2.2.2)) none fun r3 =>
 cond (!r3) (
 some (([0, 0, 0, 0, 0], [0, 0, 0, 0, 0], [0, 0, 0, 0, 0], [0, 0, 0, 0, 0]), 50)
 ) (
 some ((a.1, a.2.1, a.2.2.1, a.2.2.2), 0)
 )
def ZpU (a : ((Nat × List Int) × Unit)) (b : ((Nat × List Int) × Unit)) : Int :=
 (ZgS ((a.1.1, a.1.2), ()) ((b.1.1, b.1.2), ()))
def ZaF (N : Nat) (a : (List Int × List Int × List Int × List Int)) (b : (List Int × List Int × List Int × List Int)) : Option (Int) :=
 mo (Zbn N (a.1, a.2.1, a.2.2.1, a.2.2.2)) none fun r1 =>
 mo (Zbn N (b.1, b.2.1, b.2.2.1, b.2.2.2)) none fun r2 =>
 some (ZpU ((32, r1), ()) ((32, r2), ()))
def Zem (N : Nat) (a : (List Int × List Int × List Int × List Int)) : Option (((List Int × List Int × List Int × List Int) × (List Int × List Int × List Int × List Int) × (List Int × List Int × List Int × List Int) × (List Int × List Int × List Int × List Int))) :=
 mo (Zb9 0) none fun r1 =>
 mo (ZaC (a.1, a.2.1, a.2.2.1, a.2.2.2) (r1.1, r1.2.1, r1.2.2.1, r1.2.2.2)) none fun r2 =>
 mo (Zb9 2) none fun r3 =>
 mo (ZaC (a.1, a.2.1, a.2.2.1, a.2.2.2) (r3.1, r3.2.1, r3.2.2.1, r3.2.2.2)) none fun r4 =>
 mo (Zb9 4) none fun r5 =>
 mo (ZaC (a.1, a.2.1, a.2.2.1, a.2.2.2) (r5.1, r5.2.1, r5.2.2.1, r5.2.2.2)) none fun r6 =>
 mo (Zb9 6) none fun r7 =>
 mo (ZaC (a.1, a.2.1, a.2.2.1, a.2.2.2) (r7.1, r7.2.1, r7.2.2.1, r7.2.2.2)) none fun r8 =>
 mo (ZaF N (r4.1, r4.2.1, r4.2.2.1, r4.2.2.2) (r2.1, r2.2.1, r2.2.2.1, r2.2.2.2)) none fun r9 =>
 cond (icmp .lss r9 0) (
 mo (ZaF N (r6.1, r6.2.1, r6.2.2.1, r6.2.2.2) (r2.1, r2.2.1, r2.2.2.1, r2.2.2.2)) none fun r10 =>
 cond (icmp .lss r10 0) (
 mo (ZaF N (r6.1, r6.2.1, r6.2.2.1, r6.2.2.2) (r4.1, r4.2.1, r4.2.2.1, r4.2.2.2)) none fun r11 =>
 cond (icmp .lss r11 0) (
 mo (ZaF N (r8.1, r8.2.1, r8.2.2.1, r8.2.2.2) (r2.1, r2.2.1, r2.2.2.1, r2.2.2.2)) none fun r12 =>
 cond (icmp .lss r12 0) (
 mo (ZaF N (r8.1, r8.2.1, r8.2.2.1, r8.2.2.2) (r4.1, r4.2.1, r4.2.2.1, r4.2.2.2)) none fun r13 =>
 cond (icmp .lss r13 0) (
 mo (ZaF N (r8.1, r8.2.1, r8.2.2.1, r8.2.2.2) (r6.1, r6.2.1, r6.2.2.1, r6.2.2.2)) none fun r14 =>
 cond (icmp .lss r14 0) (
 some ((r8.1, r8.2.1, r8.2.2.1, r8.2.2.2), (r6.1, r6.2.1, r6.2.2.1, r6.2.2.2), (r4.1, r4.2.1, r4.2.2.1, r4.2.2.2), (r2.1, r2.2.1, r2.2.2.1, r2.2.2.2))
 ) (
 some ((r6.1, r6.2.1, r6.2.2.1, r6.2.2.2), (r8.1, r8.2.1, r8.2.2.1, r8.2.2.2), (r4.1, r4.2.1, r4.2.2.1, r4.2.2.2), (r2.1, r2.2.1, r2.2.2.1, r2.2.2.2))
 )
 ) (
 some ((r6.1, r6.2.1, r6.2.2.1, r6.2.2.2), (r4.1, r4.2.1, r4.2.2.1, r4.2.2.2), (r8.1, r8.2.1, r8.2.2.1, r8.2.2.2), (r2.1, r2.2.1, r2.2.2.1, r2.2.2.2))
 )
 ) (
 some ((r6.1, r6.2.1, r6.2.2.1, r6.2.2.2), (r4.1, r4.2.1, r4.2.2.1, r4.2.2.2), (r2.1, r2.2.1, r2.2.2.1, r2.2.2.2), (r8.1, r8.2.1, r8.2.2.1, r8.2.2.2))
 )
 ) (
 mo (ZaF N (r8.1, r8.2.1, r8.2.2.1, r8.2.2.2) (r2.1, r2.2.1, r2.2.2.1, r2.2.2.2)) none fun r15 =>
 cond (icmp .lss r15 0) (
 mo (ZaF N (r8.1, r8.2.1, r8.2.2.1, r8.2.2.2) (r6.1, r6.2.1, r6.2.2.1, r6.2.2.2)) none fun r16 =>
 cond (icmp .lss r16 0) (
 mo (ZaF N (r8.1, r8.2.1, r8.2.2.1, r8.2.2.2) (r4.1, r4.2.1, r4.2.2.1, r4.2.2.2)) none fun r17 =>
 cond (icmp .lss r17 0) (
 some ((r8.1, r8.2.1, r8.2.2.1, r8.2.2.2), (r4.1, r4.2.1, r4.2.2.1, r4.2.2.2), (r6.1, r6.2.1, r6.2.2.1, r6.2.2.2), (r2.1, r2.2.1, r2.2.2.1, r2.2.2.2))
 ) (
 some ((r4.1, r4.2.1, r4.2.2.1, r4.2.2.2), (r8.1, r8.2.1, r8.2.2.1, r8.2.2.2), (r6.1, r6.2.1, r6.2.2.1, r6.2.2.2), (r2.1, r2.2.1, r2.2.2.1, r2.2.2.2))
 )
 ) (
 some ((r4.1, r4.2.1, r4.2.2.1, r4.2.2.2), (r6.1, r6.2.1, r6.2.2.1, r6.2.2.2), (r8.1, r8.2.1, r8.2.2.1, r8.2.2.2), (r2.1, r2.2.1, r2.2.2.1, r2.2.2.2))
 )
 ) (
 some ((r4.1, r4.2.1, r4.2.2.1, r4.2.2.2), (r6.1, r6.2.1, r6.2.2.1, r6.2.2.2), (r2.1, r2.2.1, r2.2.2.1, r2.2.2.2), (r8.1, r8.2.1, r8.2.2.1, r8.2.2.2))
 )
 )
 ) (
 mo (ZaF N (r8.1, r8.2.1, r8.2.2.1, r8.2.2.2) (r6.1, r6.2.1, r6.2.2.1, r6.2.2.2)) none fun r18 =>
 cond (icmp .lss r18 0) (
 mo (ZaF N (r8.1, r8.2.1, r8.2.2.1, r8.2.2.2) (r2.1, r2.2.1, r2.2.2.1, r2.2.2.2)) none fun r19 =>
 cond (icmp .lss r19 0) (
 mo (ZaF N (r8.1, r8.2.1, r8.2.2.1, r8.2.2.2) (r4.1, r4.2.1, r4.2.2.1, r4.2.2.2)) none fun r20 =>
 cond (icmp .lss r20 0) (
 some ((r8.1, r8.2.1, r8.2.2.1, r8.2.2.2), (r4.1, r4.2.1, r4.2.2.1, r4.2.2.2), (r2.1, r2.2.1, r2.2.2.1, r2.2.2.2), (r6.1, r6.2.1, r6.2.2.1, r6.2.2.2))
 ) (
 some ((r4.1, r4.2.1, r4.2.2.1, r4.2.2.2), (r8.1, r8.2.1, r8.2.2.1, r8.2.2.2), (r2.1, r2.2.1, r2.2.2.1, r2.2.2.2), (r6.1, r6.2.1, r6.2.2.1, r6.2.2.2))
 )
 ) (
 some ((r4.1, r4.2.1, r4.2.2.1, r4.2.2.2), (r2.1, r2.2.1, r2.2.2.1, r2.2.2.2), (r8.1, r8.2.1, r8.2.2.1, r8.2.2.2), (r6.1, r6.2.1, r6.2.2.1, r6.2.2.2))
 )
 ) (
 some ((r4.1, r4.2.1, r4.2.2.1, r4.2.2.2), (r2.1, r2.2.1, r2.2.2.1, r2.2.2.2), (r6.1, r6.2.1, r6.2.2.1, r6.2.2.2), (r8.1, r8.2.1, r8.2.2.1, r8.2.2.2))
 )
 )
 ) (
 mo (ZaF N (r6.1, r6.2.1, r6.2.2.1, r6.2.2.2) (r4.1, r4.2.1, r4.2.2.1, r4.2.2.2)) none fun r21 =>
 cond (icmp .lss r21 0) (
 mo (ZaF N (r6.1, r6.2.1, r6.2.2.1, r6.2.2.2) (r2.1, r2.2.1, r2.2.2.1, r2.2.2.2)) none fun r22 =>
 cond (icmp .lss r22 0) (
 mo (ZaF N (r8.1, r8.2.1, r8.2.2.1, r8.2.2.2) (r4.1, r4.2.1, r4.2.2.1, r4.2.2.2)) none fun r23 =>
 cond (icmp .lss r23 0) (
 mo (ZaF N (r8.1, r8.2.1, r8.2.2.1, r8.2.2.2) (r2.1, r2.2.1, r2.2.2.1, r2.2.2.2)) none fun r24 =>
 cond (icmp .lss r24 0) (
 mo (ZaF N (r8.1, r8.2.1, r8.2.2.1, r8.2.2.2) (r6.1, r6.2.1, r6.2.2.1, r6.2.2.2)) none fun r25 =>
 cond (icmp .lss r25 0) (
 some ((r8.1, r8.2.1, r8.2.2.1, r8.2.2.2), (r6.1, r6.2.1, r6.2.2.1, r6.2.2.2), (r2.1, r2.2.1, r2.2.2.1, r2.2.2.2), (r4.1, r4.2.1, r4.2.2.1, r4.2.2.2))
 ) (
 some ((r6.1, r6.2.1, r6.2.2.1, r6.2.2.2), (r8.1, r8.2.1, r8.2.2.1, r8.2.2.2), (r2.1, r2.2.1, r2.2.2.1, r2.2.2.2), (r4.1, r4.2.1, r4.2.2.1, r4.2.2.2))
 )
 ) (
 some ((r6.1, r6.2.1, r6.2.2.1, r6.2.2.2), (r2.1, r2.2.1, r2.2.2.1, r2.2.2.2), (r8.1, r8.2.1, r8.2.2.1, r8.2.2.2), (r4.1, r4.2.1, r4.2.2.1, r4.2.2.2))
 )
 ) (
 some ((r6.1, r6.2.1, r6.2.2.1, r6.2.2.2), (r2.1, r2.2.1, r2.2.2.1, r2.2.2.2), (r4.1, r4.2.1, r4.2.2.1, r4.2.2.2), (r8.1, r8.2.1, r8.2.2.1, r8.2.2.2))
 )
 ) (
 mo (ZaF N (r8.1, r8.2.1, r8.2.2.1, r8.2.2.2) (r4.1, r4.2.1, r4.2.2.1, r4.2.2.2)) none fun r26 =>
 cond (icmp .lss r26 0) (
 mo (ZaF N (r8.1, r8.2.1, r8.2.2.1, r8.2.2.2) (r6.1, r6.2.1, r6.2.2.1, r6.2.2.2)) none fun r27 =>
 cond (icmp .lss r27 0) (
 mo (ZaF N (r8.1, r8.2.1, r8.2.2.1, r8.2.2.2) (r2.1, r2.2.1, r2.2.2.1, r2.2.2.2)) none fun r28 =>
 cond (icmp .lss r28 0) (
 some ((r8.1, r8.2.1, r8.2.2.1, r8.2.2.2), (r2.1, r2.2.1, r2.2.2.1, r2.2.2.2), (r6.1, r6.2.1, r6.2.2.1, r6.2.2.2), (r4.1, r4.2.1, r4.2.2.1, r4.2.2.2))
 ) (
 some ((r2.1, r2.2.1, r2.2.2.1, r2.2.2.2), (r8.1, r8.2.1, r8.2.2.1, r8.2.2.2), (r6.1, r6.2.1, r6.2.2.1, r6.2.2.2), (r4.1, r4.2.1, r4.2.2.1, r4.2.2.2))
 )
 ) (
 some ((r2.1, r2.2.1, r2.2.2.1, r2.2.2.2), (r6.1, r6.2.1, r6.2.2.1, r6.2.2.2), (r8.1, r8.2.1, r8.2.2.1, r8.2.2.2), (r4.1, r4.2.1, r4.2.2.1, r4.2.2.2))
 )
 ) (
 some ((r2.1, r2.2.1, r2.2.2.1, r2.2.2.2), (r6.1, r6.2.1, r6.2.2.1, r6.2.2.2), (r4.1, r4.2.1, r4.2.2.1, r4.2.2.2), (r8.1, r8.2.1, r8.2.2.1, r8.2.2.2))
 )
 )
 ) (
 mo (ZaF N (r8.1, r8.2.1, r8.2.2.1, r8.2.2.2) (r6.1, r6.2.1, r6.2.2.1, r6.2.2.2)) none fun r29 =>
 cond (icmp .lss r29 0) (
 mo (ZaF N (r8.1, r8.2.1, r8.2.2.1, r8.2.2.2) (r4.1, r4.2.1, r4.2.2.1, r4.2.2.2)) none fun r30 =>
 cond (icmp .lss r30 0) (
 mo (ZaF N (r8.1, r8.2.1, r8.2.2.1, r8.2.2.2) (r2.1, r2.2.1, r2.2.2.1, r2.2.2.2)) none fun r31 =>
 cond (icmp .lss r31 0) (
 some ((r8.1, r8.2.1, r8.2.2.1, r8.2.2.2), (r2.1, r2.2.1, r2.2.2.1, r2.2.2.2), (r4.1, r4.2.1, r4.2.2.1, r4.2.2.2), (r6.1, r6.2.1, r6.2.2.1, r6.2.2.2))
 ) (
 some ((r2.1, r2.2.1, r2.2.2.1, r2.2.2.2), (r8.1, r8.2.1, r8.2.2.1, r8.2.2.2), (r4.1, r4.2.1, r4.2.2.1, r4.2.2.2), (r6.1, r6.2.1, r6.2.2.1, r6.2.2.2))
 )
 ) (
 some ((r2.1, r2.2.1, r2.2.2.1, r2.2.2.2), (r4.1, r4.2.1, r4.2.2.1, r4.2.2.2), (r8.1, r8.2.1, r8.2.2.1, r8.2.2.2), (r6.1, r6.2.1, r6.2.2.1, r6.2.2.2))
 )
 ) (
 some ((r2.1, r2.2.1, r2.2.2.1, r2.2.2.2), (r4.1, r4.2.1, r4.2.2.1, r4.2.2.2), (r6.1, r6.2.1, r6.2.2.1, r6.2.2.2), (r8.1, r8.2.1, r8.2.2.1, r8.2.2.2))
 )
 )
 )
def ZcS (N : Nat) (v : (Unit × Unit × Unit × Int) × (List Int × Unit × List Int)) : Option (((Unit × Unit × Unit × Int) × (List Int × Unit × List Int)) ⊕ (((Unit × Unit) × (Unit × List Int)) ⊕ (Unit × Unit))) :=
 cond (icmp .lss v.1.2.2.2 255) (
 let x1 := (ibin .quo .i64 v.1.2.2.2 26)
 cond (decide (0 ≤ x1 ∧ x1 < ((10 : Nat) : Int))) (
 let x2 := (ibin .rem .i64 v.1.2.2.2 26)
 cond (decide (0 ≤ x2)) (
 cond (icmp .eql (ibin .and .i64 (ibin .shr .i64 (List.getD v.2.1 (Int.toNat x1) 0) x2) 1) 1) (
 let x3 := (ibin .quo .i64 v.1.2.2.2 51)
 let x4 := (decide (0 ≤ x3 ∧ x3 < ((5 : Nat) : Int)))
 cond x4 (
 let x5 := (ibin .rem .i64 v.1.2.2.2 51)
 cond (decide (0 ≤ x5)) (
 cond x4 (
 some (.inl (((), (), (), (ibin .add .i64 v.1.2.2.2 1)), (v.2.1, (), (List.set v.2.2.2 (Int.toNat x3) (ibin .add .u64 (List.getD v.2.2.2 (Int.toNat x3) 0) (ibin .shl .u64 1 x5))))))
 ) (
 none
 )
 ) (
 none
 )
 ) (
 none
 )
 ) (
 some (.inl (((), (), (), (ibin .add .i64 v.1.2.2.2 1)), (v.2.1, (), v.2.2.2)))
 )
 ) (
 none
 )
 ) (
 none
 )
 ) (
 some (.inr (.inl (((), ()), ((), v.2.2.2))))
 )
def ZcM (N : Nat) (a : List Int) : Option (List Int) :=
 mo (loopF (ZcS N) N (((), (), (), 0), (a, (), [0, 0, 0, 0, 0]))) none fun r5 =>
 match r5 with
 | .inl u6 => (
 some u6.2.2
 )
 | .inr _ => (
 none
 )
def ZbR (N : Nat) (v : (Unit × Unit × Unit × Int) × (List Int × List Int)) : Option (((Unit × Unit × Unit × Int) × (List Int × List Int)) ⊕ ((Unit × Unit) ⊕ (Bool × Unit))) :=
 cond (icmp .lss v.1.2.2.2 32) (
 let x1 := (decide (0 ≤ v.1.2.2.2 ∧ v.1.2.2.2 < ((32 : Nat) : Int)))
 cond x1 (
 cond x1 (
 let x2 := (List.getD v.2.1 (Int.toNat v.1.2.2.2) 0)
 let x3 := (List.getD v.2.2 (Int.toNat v.1.2.2.2) 0)
 cond (icmp .neq x2 x3) (
 cond x1 (
 cond x1 (
 some (.inr (.inr ((icmp .lss x2 x3), ())))
 ) (
 none
 )
 ) (
 none
 )
 ) (
 some (.inl (((), (), (), (ibin .add .i64 v.1.2.2.2 1)), (v.2.1, v.2.2)))
 )
 ) (
 none
 )
 ) (
 none
 )
 ) (
 some (.inr (.inl ((), ())))
 )
def ZaN (N : Nat) (a : List Int) (b : List Int) : Option (Bool) :=
 mo (loopF (ZbR N) N (((), (), (), 0), (a, b))) none fun r6 =>
 match r6 with
 | .inl u7 => (
 some false
 )
 | .inr w8 => (
 some w8.1
 )
def ZaV (N : Nat) (a : (List Int × List Int)) : Option (List Int) :=
 mo (Zbb N a.2) none fun r1 =>
 cond (Zbc a.1) (
 some (List.set r1 31 (ibin .add .u8 (List.getD r1 31 0) 128))
 ) (
 some r1
 )
def ZbH (N : Nat) (a : (List Int × List Int)) : Option (((List Int × List Int) × (List Int × List Int) × (List Int × List Int) × (List Int × List Int))) :=
 mo (Zcy N ((Zap (a.1, a.2)).1, (Zap (a.1, a.2)).2)) none fun r1 =>
 let x1 := (ZaV N (r1.2.1.1, r1.2.1.2))
 mo x1 none fun r2 =>
 let x2 := (ZaV N (r1.1.1, r1.1.2))
 mo x2 none fun r3 =>
 mo (ZaN N r2 r3) none fun r4 =>
 cond r4 (
 let x3 := (ZaV N (r1.2.2.1.1, r1.2.2.1.2))
 mo x3 none fun r5 =>
 mo x2 none fun r6 =>
 mo (ZaN N r5 r6) none fun r7 =>
 cond r7 (
 mo x3 none fun r8 =>
 mo x1 none fun r9 =>
 mo (ZaN N r8 r9) none fun r10 =>
 cond r10 (
 let x4 := (ZaV N (r1.2.2.2.1, r1.2.2.2.2))
 mo x4 none fun r11 =>
 mo x2 none fun r12 =>
 mo (ZaN N r11 r12) none fun r13 =>
 cond r13 (
 mo x4 none fun r14 =>
 mo x1 none fun r15 =>
 mo (ZaN N r14 r15) none fun r16 =>
 cond r16 (
 mo x4 none fun r17 =>
 mo x3 none fun r18 =>
 mo (ZaN N r17 r18) none fun r19 =>
 cond r19 (
 some ((r1.2.2.2.1, r1.2.2.2.2), (r1.2.2.1.1, r1.2.2.1.2), (r1.2.1.1, r1.2.1.2), (r1.1.1, r1.1.2))
 ) (
 some ((r1.2.2.1.1, r1.2.2.1.2), (r1.2.2.2.1, r1.2.2.2.2), (r1.2.1.1, r1.2.1.2), (r1.1.1, r1.1.2))
 )
 ) (
 some ((r1.2.2.1.1, r1.2.2.1.2), (r1.2.1.1, r1.2.1.2), (r1.2.2.2.1, r1.2.2.2.2), (r1.1.1, r1.1.2))
 )
 ) (
 some ((r1.2.2.1.1, r1.2.2.1.2), (r1.2.1.1, r1.2.1.2), (r1.1.1, r1.1.2), (r1.2.2.2.1, r1.2.2.2.2))
 )
 ) (
 let x5 := (ZaV N (r1.2.2.2.1, r1.2.2.2.2))
 mo x5 none fun r20 =>
 mo x2 none fun r21 =>
 mo (ZaN N r20 r21) none fun r22 =>
 cond r22 (
 mo x5 none fun r23 =>
 mo x3 none fun r24 =>
 mo (ZaN N r23 r24) none fun r25 =>
 cond r25 (
 mo x5 none fun r26 =>
 mo x1 none fun r27 =>
 mo (ZaN N r26 r27) none fun r28 =>
 cond r28 (
 some ((r1.2.2.2.1, r1.2.2.2.2), (r1.2.1.1, r1.2.1.2), (r1.2.2.1.1, r1.2.2.1.2), (r1.1.1, r1.1.2))
 ) (
 some ((r1.2.1.1, r1.2.1.2), (r1.2.2.2.1, r1.2.2.2.2), (r1.2.2.1.1, r1.2.2.1.2), (r1.1.1, r1.1.2))
 )
 ) (
 some ((r1.2.1.1, r1.2.1.2), (r1.2.2.1.1, r1.2.2.1.2), (r1.2.2.2.1, r1.2.2.2.2), (r1.1.1, r1.1.2))
 )
 ) (
 some ((r1.2.1.1, r1.2.1.2), (r1.2.2.1.1, r1.2.2.1.2), (r1.1.1, r1.1.2), (r1.2.2.2.1, r1.2.2.2.2))
 )
 )
 ) (
 let x6 := (ZaV N (r1.2.2.2.1, r1.2.2.2.2))
 mo x6 none fun r29 =>
 mo x3 none fun r30 =>
 mo (ZaN N r29 r30) none fun r31 =>
 cond r31 (
 mo x6 none fun r32 =>
 mo x2 none fun r33 =>
 mo (ZaN N r32 r33) none fun r34 =>
 cond r34 (
 mo x6 none fun r35 =>
 mo x1 none fun r36 =>
 mo (ZaN N r35 r36) none fun r37 =>
 cond r37 (
 some ((r1.2.2.2.1, r1.2.2.2.2), (r1.2.1.1, r1.2.1.2), (r1.1.1, r1.1.2), (r1.2.2.1.1, r1.2.2.1.2))
 ) (
 some ((r1.2.1.1, r1.2.1.2), (r1.2.2.2.1, r1.2.2.2.2), (r1.1.1, r1.1.2), (r1.2.2.1.1, r1.2.2.1.2))
 )
 ) (
 some ((r1.2.1.1, r1.2.1.2), (r1.1.1, r1.1.2), (r1.2.2.2.1, r1.2.2.2.2), (r1.2.2.1.1, r1.2.2.1.2))
 )
 ) (
 some ((r1.2.1.1, r1.2.1.2), (r1.1.1, r1.1.2), (r1.2.2.1.1, r1.2.2.1.2), (r1.2.2.2.1, r1.2.2.2.2))
 )
 )
 ) (
 let x7 := (ZaV N (r1.2.2.1.1, r1.2.2.1.2))
 mo x7 none fun r38 =>
 mo x1 none fun r39 =>
 mo (ZaN N r38 r39) none fun r40 =>
 cond r40 (
 mo x7 none fun r41 =>
 mo x2 none fun r42 =>
 mo (ZaN N r41 r42) none fun r43 =>
 cond r43 (
 let x8 := (ZaV N (r1.2.2.2.1, r1.2.2.2.2))
 mo x8 none fun r44 =>
 mo x1 none fun r45 =>
 mo (ZaN N r44 r45) none fun r46 =>
 cond r46 (
 mo x8 none fun r47 =>
 mo x2 none fun r48 =>
 mo (ZaN N r47 r48) none fun r49 =>
 cond r49 (
 mo x8 none fun r50 =>
 mo x7 none fun r51 =>
 mo (ZaN N r50 r51) none fun r52 =>
 cond r52 (
 some ((r1.2.2.2.1, r1.2.2.2.2), (r1.2.2.1.1, r1.2.2.1.2), (r1.1.1, r1.1.2), (r1.2.1.1, r1.2.1.2))
 ) (
 some ((r1.2.2.1.1, r1.2.2.1.2), (r1.2.2.2.1, r1.2.2.2.2), (r1.1.1, r1.1.2), (r1.2.1.1, r1.2.1.2))
 )
 ) (
 some ((r1.2.2.1.1, r1.2.2.1.2), (r1.1.1, r1.1.2), (r1.2.2.2.1, r1.2.2.2.2), (r1.2.1.1, r1.2.1.2))
 )
 ) (
 some ((r1.2.2.1.1, r1.2.2.1.2), (r1.1.1, r1.1.2), (r1.2.1.1, r1.2.1.2), (r1.2.2.2.1, r1.2.2.2.2))
 )
 ) (
 let x9 := (ZaV N (r1.2.2.2.1, r1.2.2.2.2))
 mo x9 none fun r53 =>
 mo x1 none fun r54 =>
 mo (ZaN N r53 r54) none fun r55 =>
 cond r55 (
 mo x9 none fun r56 =>
 mo x7 none fun r57 =>
 mo (ZaN N r56 r57) none fun r58 =>
 cond r58 (
 mo x9 none fun r59 =>
 mo x2 none fun r60 =>
 mo (ZaN N r59 r60) none fun r61 =>
 cond r61 (
 some ((r1.2.2.2.1, r1.2.2.2.2), (r1.1.1, r1.1.2), (r1.2.2.1.1, r1.2.2.1.2), (r1.2.1.1, r1.2.1.2))
 ) (
 some ((r1.1.1, r1.1.2), (r1.2.2.2.1, r1.2.2.2.2), (r1.2.2.1.1, r1.2.2.1.2), (r1.2.1.1, r1.2.1.2))
 )
 ) (
 some ((r1.1.1, r1.1.2), (r1.2.2.1.1, r1.2.2.1.2), (r1.2.2.2.1, r1.2.2.2.2), (r1.2.1.1, r1.2.1.2))
 )
 ) (
 some ((r1.1.1, r1.1.2), (r1.2.2.1.1, r1.2.2.1.2), (r1.2.1.1, r1.2.1.2), (r1.2.2.2.1, r1.2.2.2.2))
 )
 )
 ) (
 let x10 := (ZaV N (r1.2.2.2.1, r1.2.2.2.2))
 mo x10 none fun r62 =>
 mo x7 none fun r63 =>
 mo (ZaN N r62 r63) none fun r64 =>
 cond r64 (
 mo x10 none fun r65 =>
 mo x1 none fun r66 =>
 mo (ZaN N r65 r66) none fun r67 =>
 cond r67 (
 mo x10 none fun r68 =>
 mo x2 none fun r69 =>
 mo (ZaN N r68 r69) none fun r70 =>
 cond r70 (
 some ((r1.2.2.2.1, r1.2.2.2.2), (r1.1.1, r1.1.2), (r1.2.1.1, r1.2.1.2), (r1.2.2.1.1, r1.2.2.1.2))
 ) (
 some ((r1.1.1, r1.1.2), (r1.2.2.2.1, r1.2.2.2.2), (r1.2.1.1, r1.2.1.2), (r1.2.2.1.1, r1.2.2.1.2))
 )
 ) (
 some ((r1.1.1, r1.1.2), (r1.2.1.1, r1.2.1.2), (r1.2.2.2.1, r1.2.2.2.2), (r1.2.2.1.1, r1.2.2.1.2))
 )
 ) (
 some ((r1.1.1, r1.1.2), (r1.2.1.1, r1.2.1.2), (r1.2.2.1.1, r1.2.2.1.2), (r1.2.2.2.1, r1.2.2.2.2))
 )
 )
 )
def Zdm (N : Nat) (a : (List Int × List Int × List Int × List Int)) (b : (List Int × List Int)) : Option (Bool) :=
 mo (Zb1 N (a.1, a.2.1, a.2.2.1, a.2.2.2)) none fun r1 =>
 mo (ZcM N b.1) none fun r2 =>
 cond (decide (r1.1 = r2)) (
 mo (ZcM N b.2) none fun r3 =>
 some (decide (r1.2 = r3))
 ) (
 some false
 )
def ZgN (a : List Int) (b : List Int) : Option ((List Int × Int)) :=
 mo (Zgm (List.getD a 0 0) (List.getD b 0 0) 0) none fun r1 =>
 mo (Zgm (List.getD a 1 0) (List.getD b 1 0) r1.2) none fun r2 =>
 mo (Zgm (List.getD a 2 0) (List.getD b 2 0) r2.2) none fun r3 =>
 mo (Zgm (List.getD a 3 0) (List.getD b 3 0) r3.2) none fun r4 =>
 some ([r1.1, r2.1, r3.1, r4.1], r4.2)
def ZjD (a : List Int) (b : List Int) : Option ((List Int × Int)) :=
 mo (Zen (List.getD a 0 0) (List.getD b 0 0) 0) none fun r1 =>
 mo (Zen (List.getD a 1 0) (List.getD b 1 0) r1.2) none fun r2 =>
 mo (Zen (List.getD a 2 0) (List.getD b 2 0) r2.2) none fun r3 =>
 mo (Zen (List.getD a 3 0) (List.getD b 3 0) r3.2) none fun r4 =>
 some ([r1.1, r2.1, r3.1, r4.1], r4.2)
def Zec (a : Int) (b : List Int) (c : List Int) : List Int :=
 let x1 := (List.set b 0 (ibin .or .u64 (ibin .and .u64 (List.getD b 0 0) a) (ibin .andNot .u64 (List.getD c 0 0) a)))
 let x2 := (List.set x1 1 (ibin .or .u64 (ibin .and .u64 (List.getD x1 1 0) a) (ibin .andNot .u64 (List.getD c 1 0) a)))
 let x3 := (List.set x2 2 (ibin .or .u64 (ibin .and .u64 (List.getD x2 2 0) a) (ibin .andNot .u64 (List.getD c 2 0) a)))
 (List.set x3 3 (ibin .or .u64 (ibin .and .u64 (List.getD x3 3 0) a) (ibin .andNot .u64 (List.getD c 3 0) a)))
def Zj4 (a : List Int) : Option (List Int) :=
 mo (ZgN a [6346243789798364141, 1503914060200516822, 0, 1152921504606846976]) none fun r1 =>
 some (Zec (ineg .u64 r1.2) a r1.1)
def Zcj (a : List Int) : Option (List Int) :=
 cond (icmp .lss (List.getD a 3 0) 1152921504606846976) (
 some a
 ) (
 mo (Zen (Zgp (ibin .shr .u64 (List.getD a 3 0) 60) 1503914060200516822).2 (Zgp (ibin .shr .u64 (List.getD a 3 0) 60) 6346243789798364141).1 0) none fun r1 =>
 mo (ZgN (List.set a 3 (ibin .and .u64 (List.getD a 3 0) 1152921504606846975)) [(Zgp (ibin .shr .u64 (List.getD a 3 0) 60) 6346243789798364141).2, r1.1, (ibin .add .u64 (Zgp (ibin .shr .u64 (List.getD a 3 0) 60) 1503914060200516822).1 r1.2), 0]) none fun r2 =>
 mo (ZjD r2.1 [6346243789798364141, 1503914060200516822, 0, 1152921504606846976]) none fun r3 =>
 mo (Zj4 (Zec (ineg .u64 r2.2) r3.1 r2.1)) none fun r4 =>
 some r4
 )
def Zdp (N : Nat) (v : (Unit × Unit × Unit × Int) × (List Int × Unit × List Int)) : Option (((Unit × Unit × Unit × Int) × (List Int × Unit × List Int)) ⊕ (((Unit × Unit) × (Unit × List Int)) ⊕ (Unit × Unit))) :=
 cond (icmp .lss v.1.2.2.2 32) (
 let x1 := (ibin .quo .i64 v.1.2.2.2 8)
 cond (decide (0 ≤ x1 ∧ x1 < ((4 : Nat) : Int))) (
 let x2 := (ibin .mul .i64 8 (ibin .rem .i64 v.1.2.2.2 8))
 cond (decide (0 ≤ x2)) (
 cond (decide (0 ≤ v.1.2.2.2 ∧ v.1.2.2.2 < ((32 : Nat) : Int))) (
 some (.inl (((), (), (), (ibin .add .i64 v.1.2.2.2 1)), (v.2.1, (), (List.set v.2.2.2 (Int.toNat v.1.2.2.2) (IntKind.wrap .u8 (ibin .shr .u64 (List.getD v.2.1 (Int.toNat x1) 0) x2))))))
 ) (
 none
 )
 ) (
 none
 )
 ) (
 none
 )
 ) (
 some (.inr (.inl (((), ()), ((), v.2.2.2))))
 )
def Zd6 (N : Nat) (a : List Int) : Option (List Int) :=
 mo (Zcj a) none fun r1 =>
 mo (loopF (Zdp N) N (((), (), (), 0), (r1, (), [0, 0, 0, 0, 0, 0, 0, 0, 0, 0, 0, 0, 0, 0, 0, 0, 0, 0, 0, 0, 0, 0, 0, 0, 0, 0, 0, 0, 0, 0, 0, 0]))) none fun r6 =>
 match r6 with
 | .inl u7 => (
 some u7.2.2
 )
 | .inr _ => (
 none
 )
def Zdh (N : Nat) (a : (List Int × List Int × List Int × List Int)) (b : List Int) : Option ((List Int × List Int × List Int × List Int)) :=
 mo (Zd6 N b) none fun r1 =>
 mo (Zcu N (a.1, a.2.1, a.2.2.1, a.2.2.2) r1) none fun r2 =>
 some (r2.1, r2.2.1, r2.2.2.1, r2.2.2.2)
def Zfy (a : List Int) (b : List Int) : Option (List Int) :=
 mo (Zcj a) none fun r1 =>
 mo (Zcj b) none fun r2 =>
 mo (ZgN r1 r2) none fun r3 =>
 mo (ZjD r3.1 [6346243789798364141, 1503914060200516822, 0, 1152921504606846976]) none fun r4 =>
 some (Zec (ineg .u64 r3.2) r4.1 r3.1)
def Zfz (a : List Int) : Option (List Int) :=
 mo (Zfy [0, 0, 0, 0] a) none fun r1 =>
 some r1
def Zog (a : List Int) : Bool :=
 (icmp .eql (ibin .or .u64 (List.getD a 2 0) (List.getD a 3 0)) 0)
def ZfA (N : Nat) (a : (List Int × List Int × List Int × List Int)) (b : List Int) : Option ((List Int × List Int × List Int × List Int)) :=
 mo (Zcj b) none fun r1 =>
 mo (Zfz r1) none fun r2 =>
 cond (!(Zog r1)) (
 cond (Zog r2) (
 mo (Zdh N (a.1, a.2.1, a.2.2.1, a.2.2.2) r2) none fun r3 =>
 some ((Za8 (r3.1, r3.2.1, r3.2.2.1, r3.2.2.2)).1, (Za8 (r3.1, r3.2.1, r3.2.2.1, r3.2.2.2)).2.1, (Za8 (r3.1, r3.2.1, r3.2.2.1, r3.2.2.2)).2.2.1, (Za8 (r3.1, r3.2.1, r3.2.2.1, r3.2.2.2)).2.2.2)
 ) (
 mo (Zdh N (a.1, a.2.1, a.2.2.1, a.2.2.2) r1) none fun r4 =>
 some (r4.1, r4.2.1, r4.2.2.1, r4.2.2.2)
 )
 ) (
 mo (Zdh N (a.1, a.2.1, a.2.2.1, a.2.2.2) r1) none fun r5 =>
 some (r5.1, r5.2.1, r5.2.2.1, r5.2.2.2)
 )
def Zer (a : (List Int × List Int)) : (List Int × List Int) :=
 ((Zax a.1), a.2)
def Zb3 (N : Nat) (a : (List Int × List Int × List Int)) (b : (List Int × List Int × List Int)) (c : List Int) : Option ((List Int × List Int × List Int)) :=
 mo (Zab N a.2.2 b.2.2) none fun r1 =>
 mo (Zab N r1 r1) none fun r2 =>
 mo (Zab N a.1 b.1) none fun r3 =>
 mo (Zab N a.2.1 b.2.1) none fun r4 =>
 mo (Zab N c r3) none fun r5 =>
 mo (Zab N r5 r4) none fun r6 =>
 mo (ZaI N r2 r6) none fun r7 =>
 mo (Zac N r2 r6) none fun r8 =>
 mo (Zab N a.1 b.2.1) none fun r9 =>
 mo (Zab N a.2.1 b.1) none fun r10 =>
 mo (Zac N r9 r10) none fun r11 =>
 mo (Zac N r4 r3) none fun r12 =>
 mo (Zab N r1 r7) none fun r13 =>
 mo (Zab N r13 r11) none fun r14 =>
 mo (Zab N r1 r8) none fun r15 =>
 mo (Zab N r15 r12) none fun r16 =>
 mo (Zab N r7 r8) none fun r17 =>
 some (r14, r16, r17)
def Zbr (N : Nat) (v : (Unit × Unit × Unit × Unit × Unit × Bool × Int) × (Unit × List Int × Unit × List Int × (List Int × List Int × List Int) × (List Int × List Int × List Int))) : Option (((Unit × Unit × Unit × Unit × Unit × Bool × Int) × (Unit × List Int × Unit × List Int × (List Int × List Int × List Int) × (List Int × List Int × List Int))) ⊕ (((Unit × Unit) × (Unit × Unit × (List Int × List Int × List Int))) ⊕ (Unit × Unit))) :=
 cond (icmp .geq v.1.2.2.2.2.2.2 0) (
 cond v.1.2.2.2.2.2.1 (
 mo (Zb3 N (v.2.2.2.2.2.2.1, v.2.2.2.2.2.2.2.1, v.2.2.2.2.2.2.2.2) (v.2.2.2.2.2.2.1, v.2.2.2.2.2.2.2.1, v.2.2.2.2.2.2.2.2) v.2.2.2.2.1) none fun r16 =>
 let x1 := (ibin .quo .i64 v.1.2.2.2.2.2.2 8)
 cond (decide (0 ≤ x1 ∧ x1 < ((32 : Nat) : Int))) (
 let x2 := (ibin .rem .i64 v.1.2.2.2.2.2.2 8)
 cond (decide (0 ≤ x2)) (
 cond (icmp .eql (ibin .and .u8 (ibin .shr .u8 (List.getD v.2.2.1 (Int.toNat x1) 0) x2) 1) 1) (
 mo (Zb3 N (r16.1, r16.2.1, r16.2.2) (v.2.2.2.2.2.1.1, v.2.2.2.2.2.1.2.1, v.2.2.2.2.2.1.2.2) v.2.2.2.2.1) none fun r17 =>
 some (.inl (((), (), (), (), (), true, (ibin .sub .i64 v.1.2.2.2.2.2.2 1)), ((), v.2.2.1, (), v.2.2.2.2.1, (v.2.2.2.2.2.1.1, v.2.2.2.2.2.1.2.1, v.2.2.2.2.2.1.2.2), (r17.1, r17.2.1, r17.2.2))))
 ) (
 some (.inl (((), (), (), (), (), v.1.2.2.2.2.2.1, (ibin .sub .i64 v.1.2.2.2.2.2.2 1)), ((), v.2.2.1, (), v.2.2.2.2.1, (v.2.2.2.2.2.1.1, v.2.2.2.2.2.1.2.1, v.2.2.2.2.2.1.2.2), (r16.1, r16.2.1, r16.2.2))))
 )
 ) (
 none
 )
 ) (
 none
 )
 ) (
 let x3 := (ibin .quo .i64 v.1.2.2.2.2.2.2 8)
 cond (decide (0 ≤ x3 ∧ x3 < ((32 : Nat) : Int))) (
 let x4 := (ibin .rem .i64 v.1.2.2.2.2.2.2 8)
 cond (decide (0 ≤ x4)) (
 cond (icmp .eql (ibin .and .u8 (ibin .shr .u8 (List.getD v.2.2.1 (Int.toNat x3) 0) x4) 1) 1) (
 mo (Zb3 N (v.2.2.2.2.2.2.1, v.2.2.2.2.2.2.2.1, v.2.2.2.2.2.2.2.2) (v.2.2.2.2.2.1.1, v.2.2.2.2.2.1.2.1, v.2.2.2.2.2.1.2.2) v.2.2.2.2.1) none fun r18 =>
 some (.inl (((), (), (), (), (), true, (ibin .sub .i64 v.1.2.2.2.2.2.2 1)), ((), v.2.2.1, (), v.2.2.2.2.1, (v.2.2.2.2.2.1.1, v.2.2.2.2.2.1.2.1, v.2.2.2.2.2.1.2.2), (r18.1, r18.2.1, r18.2.2))))
 ) (
 some (.inl (((), (), (), (), (), v.1.2.2.2.2.2.1, (ibin .sub .i64 v.1.2.2.2.2.2.2 1)), ((), v.2.2.1, (), v.2.2.2.2.1, (v.2.2.2.2.2.1.1, v.2.2.2.2.2.1.2.1, v.2.2.2.2.2.1.2.2), (v.2.2.2.2.2.2.1, v.2.2.2.2.2.2.2.1, v.2.2.2.2.2.2.2.2))))
 )
 ) (
 none
 )
 ) (
 none
 )
 )
 ) (
 some (.inr (.inl (((), ()), ((), (), (v.2.2.2.2.2.2.1, v.2.2.2.2.2.2.2.1, v.2.2.2.2.2.2.2.2)))))
 )
def Zcg (N : Nat) (a : (List Int × List Int)) (b : List Int) : Option ((List Int × List Int)) :=
 mo (loopF (Zbr N) N (((), (), (), (), (), false, 255), ((), b, (), Za0, (a.1, a.2, [1, 0, 0, 0, 0, 0, 0, 0, 0, 0]), ([0, 0, 0, 0, 0, 0, 0, 0, 0, 0], [1, 0, 0, 0, 0, 0, 0, 0, 0, 0], [1, 0, 0, 0, 0, 0, 0, 0, 0, 0])))) none fun r19 =>
 match r19 with
 | .inl u20 => (
 mo (Za3 N u20.2.2.2.2.2) none fun r21 =>
 mo (Zab N u20.2.2.2.1 r21) none fun r22 =>
 mo (Zab N u20.2.2.2.2.1 r21) none fun r23 =>
 some (r22, r23)
 )
 | .inr _ => (
 none
 )
def ZgM  : List Int :=
 [237, 211, 245, 92, 26, 99, 18, 88, 214, 156, 247, 162, 222, 249, 222, 20, 0, 0, 0, 0, 0, 0, 0, 0, 0, 0, 0, 0, 0, 0, 0, 16]
def Zdy (N : Nat) (a : (List Int × List Int)) : Option (Bool) :=
 mo (Zcg N (a.1, a.2) ZgM) none fun r1 =>
 some ((decide (r1.1 = Zam.1)) && ((decide (r1.2 = Zam.2)) && true))
def ZbG (N : Nat) (v : (Int × Unit × Unit × Unit × Int) × (Unit × Unit × (List Int × List Int) × (List Int × List Int))) : Option (((Int × Unit × Unit × Unit × Int) × (Unit × Unit × (List Int × List Int) × (List Int × List Int))) ⊕ (((Unit × Unit) × (Unit × Unit × (List Int × List Int))) ⊕ (Unit × Unit))) :=
 cond (icmp .lss v.1.2.2.2.2 (ibin .rem .i64 (ibin .add .i64 (ibin .rem .i64 v.1.1 8) 8) 8)) (
 mo (Zbw N (v.2.2.2.2.1, v.2.2.2.2.2) (v.2.2.2.1.1, v.2.2.2.1.2)) none fun r473 =>
 some (.inl ((v.1.1, (), (), (), (ibin .add .i64 v.1.2.2.2.2 1)), ((), (), (v.2.2.2.1.1, v.2.2.2.1.2), (r473.1, r473.2))))
 ) (
 some (.inr (.inl (((), ()), ((), (), (v.2.2.2.2.1, v.2.2.2.2.2)))))
 )
set_option maxRecDepth 100000 in
def Zfv (N : Nat) (a : Int) : Option ((List Int × List Int)) :=
 mo (Zaf N 10) none fun r1 =>
 mo (Zab N [0, 0, 0, 0, 0, 0, 0, 0, 0, 0] r1) none fun r2 =>
 mo (Zaf N 1) none fun r3 =>
 mo (Zac N r2 r3) none fun r4 =>
 mo (Zab N r4 r1) none fun r5 =>
 mo (Zaf N 4) none fun r6 =>
 mo (Zac N r5 r6) none fun r7 =>
 mo (Zab N r7 r1) none fun r8 =>
 mo (Zaf N 3) none fun r9 =>
 mo (Zac N r8 r9) none fun r10 =>
 mo (Zab N r10 r1) none fun r11 =>
 mo (Zaf N 9) none fun r12 =>
 mo (Zac N r11 r12) none fun r13 =>
 mo (Zab N r13 r1) none fun r14 =>
 mo (Zaf N 9) none fun r15 =>
 mo (Zac N r14 r15) none fun r16 =>
 mo (Zab N r16 r1) none fun r17 =>
 mo (Zaf N 3) none fun r18 =>
 mo (Zac N r17 r18) none fun r19 =>
 mo (Zab N r19 r1) none fun r20 =>
 mo (Zaf N 1) none fun r21 =>
 mo (Zac N r20 r21) none fun r22 =>
 mo (Zab N r22 r1) none fun r23 =>
 mo (Zaf N 7) none fun r24 =>
 mo (Zac N r23 r24) none fun r25 =>
 mo (Zab N r25 r1) none fun r26 =>
 mo (Zaf N 8) none fun r27 =>
 mo (Zac N r26 r27) none fun r28 =>
 mo (Zab N r28 r1) none fun r29 =>
 mo (Zaf N 6) none fun r30 =>
 mo (Zac N r29 r30) none fun r31 =>
 mo (Zab N r31 r1) none fun r32 =>
 mo (Zaf N 8) none fun r33 =>
 mo (Zac N r32 r33) none fun r34 =>
 mo (Zab N r34 r1) none fun r35 =>
 mo (Zaf N 2) none fun r36 =>
 mo (Zac N r35 r36) none fun r37 =>
 mo (Zab N r37 r1) none fun r38 =>
 mo (Zaf N 0) none fun r39 =>
 mo (Zac N r38 r39) none fun r40 =>
 mo (Zab N r40 r1) none fun r41 =>
 mo (Zaf N 0) none fun r42 =>
 mo (Zac N r41 r42) none fun r43 =>
 mo (Zab N r43 r1) none fun r44 =>
 mo (Zaf N 1) none fun r45 =>
 mo (Zac N r44 r45) none fun r46 =>
 mo (Zab N r46 r1) none fun r47 =>
 mo (Zaf N 1) none fun r48 =>
 mo (Zac N r47 r48) none fun r49 =>
 mo (Zab N r49 r1) none fun r50 =>
 mo (Zaf N 8) none fun r51 =>
 mo (Zac N r50 r51) none fun r52 =>
 mo (Zab N r52 r1) none fun r53 =>
 mo (Zaf N 2) none fun r54 =>
 mo (Zac N r53 r54) none fun r55 =>
 mo (Zab N r55 r1) none fun r56 =>
 mo (Zaf N 6) none fun r57 =>
 mo (Zac N r56 r57) none fun r58 =>
 mo (Zab N r58 r1) none fun r59 =>
 mo (Zaf N 0) none fun r60 =>
 mo (Zac N r59 r60) none fun r61 =>
 mo (Zab N r61 r1) none fun r62 =>
 mo (Zaf N 3) none fun r63 =>
 mo (Zac N r62 r63) none fun r64 =>
 mo (Zab N r64 r1) none fun r65 =>
 mo (Zaf N 4) none fun r66 =>
 mo (Zac N r65 r66) none fun r67 =>
 mo (Zab N r67 r1) none fun r68 =>
 mo (Zaf N 7) none fun r69 =>
 mo (Zac N r68 r69) none fun r70 =>
 mo (Zab N r70 r1) none fun r71 =>
 mo (Zaf N 9) none fun r72 =>
 mo (Zac N r71 r72) none fun r73 =>
 mo (Zab N r73 r1) none fun r74 =>
 mo (Zaf N 3) none fun r75 =>
 mo (Zac N r74 r75) none fun r76 =>
 mo (Zab N r76 r1) none fun r77 =>
 mo (Zaf N 4) none fun r78 =>
 mo (Zac N r77 r78) none fun r79 =>
 mo (Zab N r79 r1) none fun r80 =>
 mo (Zaf N 3) none fun r81 =>
 mo (Zac N r80 r81) none fun r82 =>
 mo (Zab N r82 r1) none fun r83 =>
 mo (Zaf N 2) none fun r84 =>
 mo (Zac N r83 r84) none fun r85 =>
 mo (Zab N r85 r1) none fun r86 =>
 mo (Zaf N 0) none fun r87 =>
 mo (Zac N r86 r87) none fun r88 =>
 mo (Zab N r88 r1) none fun r89 =>
 mo (Zaf N 5) none fun r90 =>
 mo (Zac N r89 r90) none fun r91 =>
 mo (Zab N r91 r1) none fun r92 =>
 mo (Zaf N 2) none fun r93 =>
 mo (Zac N r92 r93) none fun r94 =>
 mo (Zab N r94 r1) none fun r95 =>
 mo (Zaf N 7) none fun r96 =>
 mo (Zac N r95 r96) none fun r97 =>
 mo (Zab N r97 r1) none fun r98 =>
 mo (Zaf N 2) none fun r99 =>
 mo (Zac N r98 r99) none fun r100 =>
 mo (Zab N r100 r1) none fun r101 =>
 mo (Zaf N 3) none fun r102 =>
 mo (Zac N r101 r102) none fun r103 =>
 mo (Zab N r103 r1) none fun r104 =>
 mo (Zaf N 2) none fun r105 =>
 mo (Zac N r104 r105) none fun r106 =>
 mo (Zab N r106 r1) none fun r107 =>
 mo (Zaf N 5) none fun r108 =>
 mo (Zac N r107 r108) none fun r109 =>
 mo (Zab N r109 r1) none fun r110 =>
 mo (Zaf N 8) none fun r111 =>
 mo (Zac N r110 r111) none fun r112 =>
 mo (Zab N r112 r1) none fun r113 =>
 mo (Zaf N 0) none fun r114 =>
 mo (Zac N r113 r114) none fun r115 =>
 mo (Zab N r115 r1) none fun r116 =>
 mo (Zaf N 6) none fun r117 =>
 mo (Zac N r116 r117) none fun r118 =>
 mo (Zab N r118 r1) none fun r119 =>
 mo (Zaf N 1) none fun r120 =>
 mo (Zac N r119 r120) none fun r121 =>
 mo (Zab N r121 r1) none fun r122 =>
 mo (Zaf N 8) none fun r123 =>
 mo (Zac N r122 r123) none fun r124 =>
 mo (Zab N r124 r1) none fun r125 =>
 mo (Zaf N 8) none fun r126 =>
 mo (Zac N r125 r126) none fun r127 =>
 mo (Zab N r127 r1) none fun r128 =>
 mo (Zaf N 2) none fun r129 =>
 mo (Zac N r128 r129) none fun r130 =>
 mo (Zab N r130 r1) none fun r131 =>
 mo (Zaf N 3) none fun r132 =>
 mo (Zac N r131 r132) none fun r133 =>
 mo (Zab N r133 r1) none fun r134 =>
 mo (Zaf N 9) none fun r135 =>
 mo (Zac N r134 r135) none fun r136 =>
 mo (Zab N r136 r1) none fun r137 =>
 mo (Zaf N 7) none fun r138 =>
 mo (Zac N r137 r138) none fun r139 =>
 mo (Zab N r139 r1) none fun r140 =>
 mo (Zaf N 1) none fun r141 =>
 mo (Zac N r140 r141) none fun r142 =>
 mo (Zab N r142 r1) none fun r143 =>
 mo (Zaf N 1) none fun r144 =>
 mo (Zac N r143 r144) none fun r145 =>
 mo (Zab N r145 r1) none fun r146 =>
 mo (Zaf N 9) none fun r147 =>
 mo (Zac N r146 r147) none fun r148 =>
 mo (Zab N r148 r1) none fun r149 =>
 mo (Zaf N 4) none fun r150 =>
 mo (Zac N r149 r150) none fun r151 =>
 mo (Zab N r151 r1) none fun r152 =>
 mo (Zaf N 3) none fun r153 =>
 mo (Zac N r152 r153) none fun r154 =>
 mo (Zab N r154 r1) none fun r155 =>
 mo (Zaf N 4) none fun r156 =>
 mo (Zac N r155 r156) none fun r157 =>
 mo (Zab N r157 r1) none fun r158 =>
 mo (Zaf N 5) none fun r159 =>
 mo (Zac N r158 r159) none fun r160 =>
 mo (Zab N r160 r1) none fun r161 =>
 mo (Zaf N 2) none fun r162 =>
 mo (Zac N r161 r162) none fun r163 =>
 mo (Zab N r163 r1) none fun r164 =>
 mo (Zaf N 6) none fun r165 =>
 mo (Zac N r164 r165) none fun r166 =>
 mo (Zab N r166 r1) none fun r167 =>
 mo (Zaf N 1) none fun r168 =>
 mo (Zac N r167 r168) none fun r169 =>
 mo (Zab N r169 r1) none fun r170 =>
 mo (Zaf N 2) none fun r171 =>
 mo (Zac N r170 r171) none fun r172 =>
 mo (Zab N r172 r1) none fun r173 =>
 mo (Zaf N 1) none fun r174 =>
 mo (Zac N r173 r174) none fun r175 =>
 mo (Zab N r175 r1) none fun r176 =>
 mo (Zaf N 4) none fun r177 =>
 mo (Zac N r176 r177) none fun r178 =>
 mo (Zab N r178 r1) none fun r179 =>
 mo (Zaf N 2) none fun r180 =>
 mo (Zac N r179 r180) none fun r181 =>
 mo (Zab N r181 r1) none fun r182 =>
 mo (Zaf N 1) none fun r183 =>
 mo (Zac N r182 r183) none fun r184 =>
 mo (Zab N r184 r1) none fun r185 =>
 mo (Zaf N 7) none fun r186 =>
 mo (Zac N r185 r186) none fun r187 =>
 mo (Zab N r187 r1) none fun r188 =>
 mo (Zaf N 5) none fun r189 =>
 mo (Zac N r188 r189) none fun r190 =>
 mo (Zab N r190 r1) none fun r191 =>
 mo (Zaf N 7) none fun r192 =>
 mo (Zac N r191 r192) none fun r193 =>
 mo (Zab N r193 r1) none fun r194 =>
 mo (Zaf N 5) none fun r195 =>
 mo (Zac N r194 r195) none fun r196 =>
 mo (Zab N r196 r1) none fun r197 =>
 mo (Zaf N 4) none fun r198 =>
 mo (Zac N r197 r198) none fun r199 =>
 mo (Zab N r199 r1) none fun r200 =>
 mo (Zaf N 1) none fun r201 =>
 mo (Zac N r200 r201) none fun r202 =>
 mo (Zab N r202 r1) none fun r203 =>
 mo (Zaf N 6) none fun r204 =>
 mo (Zac N r203 r204) none fun r205 =>
 mo (Zab N r205 r1) none fun r206 =>
 mo (Zaf N 7) none fun r207 =>
 mo (Zac N r206 r207) none fun r208 =>
 mo (Zab N r208 r1) none fun r209 =>
 mo (Zaf N 8) none fun r210 =>
 mo (Zac N r209 r210) none fun r211 =>
 mo (Zab N r211 r1) none fun r212 =>
 mo (Zaf N 8) none fun r213 =>
 mo (Zac N r212 r213) none fun r214 =>
 mo (Zab N r214 r1) none fun r215 =>
 mo (Zaf N 7) none fun r216 =>
 mo (Zac N r215 r216) none fun r217 =>
 mo (Zab N r217 r1) none fun r218 =>
 mo (Zaf N 9) none fun r219 =>
 mo (Zac N r218 r219) none fun r220 =>
 mo (Zab N r220 r1) none fun r221 =>
 mo (Zaf N 9) none fun r222 =>
 mo (Zac N r221 r222) none fun r223 =>
 mo (Zab N r223 r1) none fun r224 =>
 mo (Zaf N 8) none fun r225 =>
 mo (Zac N r224 r225) none fun r226 =>
 mo (Zab N r226 r1) none fun r227 =>
 mo (Zaf N 1) none fun r228 =>
 mo (Zac N r227 r228) none fun r229 =>
 mo (Zab N r229 r1) none fun r230 =>
 mo (Zaf N 8) none fun r231 =>
 mo (Zac N r230 r231) none fun r232 =>
 mo (Zaf N 10) none fun r233 =>
 mo (Zab N [0, 0, 0, 0, 0, 0, 0, 0, 0, 0] r233) none fun r234 =>
 mo (Zaf N 2) none fun r235 =>
 mo (Zac N r234 r235) none fun r236 =>
 mo (Zab N r236 r233) none fun r237 =>
 mo (Zaf N 7) none fun r238 =>
 mo (Zac N r237 r238) none fun r239 =>
 mo (Zab N r239 r233) none fun r240 =>
 mo (Zaf N 0) none fun r241 =>
 mo (Zac N r240 r241) none fun r242 =>
 mo (Zab N r242 r233) none fun r243 =>
 mo (Zaf N 7) none fun r244 =>
 mo (Zac N r243 r244) none fun r245 =>
 mo (Zab N r245 r233) none fun r246 =>
 mo (Zaf N 3) none fun r247 =>
 mo (Zac N r246 r247) none fun r248 =>
 mo (Zab N r248 r233) none fun r249 =>
 mo (Zaf N 8) none fun r250 =>
 mo (Zac N r249 r250) none fun r251 =>
 mo (Zab N r251 r233) none fun r252 =>
 mo (Zaf N 5) none fun r253 =>
 mo (Zac N r252 r253) none fun r254 =>
 mo (Zab N r254 r233) none fun r255 =>
 mo (Zaf N 5) none fun r256 =>
 mo (Zac N r255 r256) none fun r257 =>
 mo (Zab N r257 r233) none fun r258 =>
 mo (Zaf N 0) none fun r259 =>
 mo (Zac N r258 r259) none fun r260 =>
 mo (Zab N r260 r233) none fun r261 =>
 mo (Zaf N 1) none fun r262 =>
 mo (Zac N r261 r262) none fun r263 =>
 mo (Zab N r263 r233) none fun r264 =>
 mo (Zaf N 1) none fun r265 =>
 mo (Zac N r264 r265) none fun r266 =>
 mo (Zab N r266 r233) none fun r267 =>
 mo (Zaf N 4) none fun r268 =>
 mo (Zac N r267 r268) none fun r269 =>
 mo (Zab N r269 r233) none fun r270 =>
 mo (Zaf N 4) none fun r271 =>
 mo (Zac N r270 r271) none fun r272 =>
 mo (Zab N r272 r233) none fun r273 =>
 mo (Zaf N 8) none fun r274 =>
 mo (Zac N r273 r274) none fun r275 =>
 mo (Zab N r275 r233) none fun r276 =>
 mo (Zaf N 4) none fun r277 =>
 mo (Zac N r276 r277) none fun r278 =>
 mo (Zab N r278 r233) none fun r279 =>
 mo (Zaf N 0) none fun r280 =>
 mo (Zac N r279 r280) none fun r281 =>
 mo (Zab N r281 r233) none fun r282 =>
 mo (Zaf N 6) none fun r283 =>
 mo (Zac N r282 r283) none fun r284 =>
 mo (Zab N r284 r233) none fun r285 =>
 mo (Zaf N 4) none fun r286 =>
 mo (Zac N r285 r286) none fun r287 =>
 mo (Zab N r287 r233) none fun r288 =>
 mo (Zaf N 9) none fun r289 =>
 mo (Zac N r288 r289) none fun r290 =>
 mo (Zab N r290 r233) none fun r291 =>
 mo (Zaf N 3) none fun r292 =>
 mo (Zac N r291 r292) none fun r293 =>
 mo (Zab N r293 r233) none fun r294 =>
 mo (Zaf N 1) none fun r295 =>
 mo (Zac N r294 r295) none fun r296 =>
 mo (Zab N r296 r233) none fun r297 =>
 mo (Zaf N 8) none fun r298 =>
 mo (Zac N r297 r298) none fun r299 =>
 mo (Zab N r299 r233) none fun r300 =>
 mo (Zaf N 2) none fun r301 =>
 mo (Zac N r300 r301) none fun r302 =>
 mo (Zab N r302 r233) none fun r303 =>
 mo (Zaf N 2) none fun r304 =>
 mo (Zac N r303 r304) none fun r305 =>
 mo (Zab N r305 r233) none fun r306 =>
 mo (Zaf N 5) none fun r307 =>
 mo (Zac N r306 r307) none fun r308 =>
 mo (Zab N r308 r233) none fun r309 =>
 mo (Zaf N 2) none fun r310 =>
 mo (Zac N r309 r310) none fun r311 =>
 mo (Zab N r311 r233) none fun r312 =>
 mo (Zaf N 8) none fun r313 =>
 mo (Zac N r312 r313) none fun r314 =>
 mo (Zab N r314 r233) none fun r315 =>
 mo (Zaf N 7) none fun r316 =>
 mo (Zac N r315 r316) none fun r317 =>
 mo (Zab N r317 r233) none fun r318 =>
 mo (Zaf N 2) none fun r319 =>
 mo (Zac N r318 r319) none fun r320 =>
 mo (Zab N r320 r233) none fun r321 =>
 mo (Zaf N 2) none fun r322 =>
 mo (Zac N r321 r322) none fun r323 =>
 mo (Zab N r323 r233) none fun r324 =>
 mo (Zaf N 5) none fun r325 =>
 mo (Zac N r324 r325) none fun r326 =>
 mo (Zab N r326 r233) none fun r327 =>
 mo (Zaf N 6) none fun r328 =>
 mo (Zac N r327 r328) none fun r329 =>
 mo (Zab N r329 r233) none fun r330 =>
 mo (Zaf N 5) none fun r331 =>
 mo (Zac N r330 r331) none fun r332 =>
 mo (Zab N r332 r233) none fun r333 =>
 mo (Zaf N 8) none fun r334 =>
 mo (Zac N r333 r334) none fun r335 =>
 mo (Zab N r335 r233) none fun r336 =>
 mo (Zaf N 7) none fun r337 =>
 mo (Zac N r336 r337) none fun r338 =>
 mo (Zab N r338 r233) none fun r339 =>
 mo (Zaf N 8) none fun r340 =>
 mo (Zac N r339 r340) none fun r341 =>
 mo (Zab N r341 r233) none fun r342 =>
 mo (Zaf N 8) none fun r343 =>
 mo (Zac N r342 r343) none fun r344 =>
 mo (Zab N r344 r233) none fun r345 =>
 mo (Zaf N 9) none fun r346 =>
 mo (Zac N r345 r346) none fun r347 =>
 mo (Zab N r347 r233) none fun r348 =>
 mo (Zaf N 3) none fun r349 =>
 mo (Zac N r348 r349) none fun r350 =>
 mo (Zab N r350 r233) none fun r351 =>
 mo (Zaf N 6) none fun r352 =>
 mo (Zac N r351 r352) none fun r353 =>
 mo (Zab N r353 r233) none fun r354 =>
 mo (Zaf N 8) none fun r355 =>
 mo (Zac N r354 r355) none fun r356 =>
 mo (Zab N r356 r233) none fun r357 =>
 mo (Zaf N 0) none fun r358 =>
 mo (Zac N r357 r358) none fun r359 =>
 mo (Zab N r359 r233) none fun r360 =>
 mo (Zaf N 4) none fun r361 =>
 mo (Zac N r360 r361) none fun r362 =>
 mo (Zab N r362 r233) none fun r363 =>
 mo (Zaf N 2) none fun r364 =>
 mo (Zac N r363 r364) none fun r365 =>
 mo (Zab N r365 r233) none fun r366 =>
 mo (Zaf N 6) none fun r367 =>
 mo (Zac N r366 r367) none fun r368 =>
 mo (Zab N r368 r233) none fun r369 =>
 mo (Zaf N 7) none fun r370 =>
 mo (Zac N r369 r370) none fun r371 =>
 mo (Zab N r371 r233) none fun r372 =>
 mo (Zaf N 5) none fun r373 =>
 mo (Zac N r372 r373) none fun r374 =>
 mo (Zab N r374 r233) none fun r375 =>
 mo (Zaf N 7) none fun r376 =>
 mo (Zac N r375 r376) none fun r377 =>
 mo (Zab N r377 r233) none fun r378 =>
 mo (Zaf N 5) none fun r379 =>
 mo (Zac N r378 r379) none fun r380 =>
 mo (Zab N r380 r233) none fun r381 =>
 mo (Zaf N 3) none fun r382 =>
 mo (Zac N r381 r382) none fun r383 =>
 mo (Zab N r383 r233) none fun r384 =>
 mo (Zaf N 1) none fun r385 =>
 mo (Zac N r384 r385) none fun r386 =>
 mo (Zab N r386 r233) none fun r387 =>
 mo (Zaf N 3) none fun r388 =>
 mo (Zac N r387 r388) none fun r389 =>
 mo (Zab N r389 r233) none fun r390 =>
 mo (Zaf N 5) none fun r391 =>
 mo (Zac N r390 r391) none fun r392 =>
 mo (Zab N r392 r233) none fun r393 =>
 mo (Zaf N 1) none fun r394 =>
 mo (Zac N r393 r394) none fun r395 =>
 mo (Zab N r395 r233) none fun r396 =>
 mo (Zaf N 9) none fun r397 =>
 mo (Zac N r396 r397) none fun r398 =>
 mo (Zab N r398 r233) none fun r399 =>
 mo (Zaf N 4) none fun r400 =>
 mo (Zac N r399 r400) none fun r401 =>
 mo (Zab N r401 r233) none fun r402 =>
 mo (Zaf N 6) none fun r403 =>
 mo (Zac N r402 r403) none fun r404 =>
 mo (Zab N r404 r233) none fun r405 =>
 mo (Zaf N 3) none fun r406 =>
 mo (Zac N r405 r406) none fun r407 =>
 mo (Zab N r407 r233) none fun r408 =>
 mo (Zaf N 7) none fun r409 =>
 mo (Zac N r408 r409) none fun r410 =>
 mo (Zab N r410 r233) none fun r411 =>
 mo (Zaf N 4) none fun r412 =>
 mo (Zac N r411 r412) none fun r413 =>
 mo (Zab N r413 r233) none fun r414 =>
 mo (Zaf N 3) none fun r415 =>
 mo (Zac N r414 r415) none fun r416 =>
 mo (Zab N r416 r233) none fun r417 =>
 mo (Zaf N 6) none fun r418 =>
 mo (Zac N r417 r418) none fun r419 =>
 mo (Zab N r419 r233) none fun r420 =>
 mo (Zaf N 0) none fun r421 =>
 mo (Zac N r420 r421) none fun r422 =>
 mo (Zab N r422 r233) none fun r423 =>
 mo (Zaf N 9) none fun r424 =>
 mo (Zac N r423 r424) none fun r425 =>
 mo (Zab N r425 r233) none fun r426 =>
 mo (Zaf N 7) none fun r427 =>
 mo (Zac N r426 r427) none fun r428 =>
 mo (Zab N r428 r233) none fun r429 =>
 mo (Zaf N 5) none fun r430 =>
 mo (Zac N r429 r430) none fun r431 =>
 mo (Zab N r431 r233) none fun r432 =>
 mo (Zaf N 0) none fun r433 =>
 mo (Zac N r432 r433) none fun r434 =>
 mo (Zab N r434 r233) none fun r435 =>
 mo (Zaf N 3) none fun r436 =>
 mo (Zac N r435 r436) none fun r437 =>
 mo (Zab N r437 r233) none fun r438 =>
 mo (Zaf N 0) none fun r439 =>
 mo (Zac N r438 r439) none fun r440 =>
 mo (Zab N r440 r233) none fun r441 =>
 mo (Zaf N 3) none fun r442 =>
 mo (Zac N r441 r442) none fun r443 =>
 mo (Zab N r443 r233) none fun r444 =>
 mo (Zaf N 4) none fun r445 =>
 mo (Zac N r444 r445) none fun r446 =>
 mo (Zab N r446 r233) none fun r447 =>
 mo (Zaf N 0) none fun r448 =>
 mo (Zac N r447 r448) none fun r449 =>
 mo (Zab N r449 r233) none fun r450 =>
 mo (Zaf N 2) none fun r451 =>
 mo (Zac N r450 r451) none fun r452 =>
 mo (Zab N r452 r233) none fun r453 =>
 mo (Zaf N 0) none fun r454 =>
 mo (Zac N r453 r454) none fun r455 =>
 mo (Zab N r455 r233) none fun r456 =>
 mo (Zaf N 2) none fun r457 =>
 mo (Zac N r456 r457) none fun r458 =>
 mo (Zab N r458 r233) none fun r459 =>
 mo (Zaf N 2) none fun r460 =>
 mo (Zac N r459 r460) none fun r461 =>
 mo (loopF (ZbG N) N ((a, (), (), (), 0), ((), (), (r232, r461), (Zam.1, Zam.2)))) none fun r474 =>
 match r474 with
 | .inl u475 => (
 some (u475.2.2.2.1, u475.2.2.2.2)
 )
 | .inr _ => (
 none
 )
def Zcz  : List Int :=
 [6346243789798364141, 1503914060200516822, 0, 1152921504606846976]
def Zdo (a : List Int) (b : List Int) : Bool :=
 cond (icmp .neq (List.getD a 3 0) (List.getD b 3 0)) (
 (icmp .lss (List.getD a 3 0) (List.getD b 3 0))
 ) (
 cond (icmp .neq (List.getD a 2 0) (List.getD b 2 0)) (
 (icmp .lss (List.getD a 2 0) (List.getD b 2 0))
 ) (
 cond (icmp .neq (List.getD a 1 0) (List.getD b 1 0)) (
 (icmp .lss (List.getD a 1 0) (List.getD b 1 0))
 ) (
 cond (icmp .neq (List.getD a 0 0) (List.getD b 0 0)) (
 (icmp .lss (List.getD a 0 0) (List.getD b 0 0))
 ) (
 false
 )
 )
 )
 )
def ZjJ (a : List Int) (b : List Int) : Option (Bool) :=
 cond (icmp .neq (List.getD a 3 0) (List.getD b 3 0)) (
 some (icmp .lss (List.getD a 3 0) (List.getD b 3 0))
 ) (
 cond (icmp .neq (List.getD a 2 0) (List.getD b 2 0)) (
 some (icmp .lss (List.getD a 2 0) (List.getD b 2 0))
 ) (
 cond (icmp .neq (List.getD a 1 0) (List.getD b 1 0)) (
 some (icmp .lss (List.getD a 1 0) (List.getD b 1 0))
 ) (
 cond (icmp .neq (List.getD a 0 0) (List.getD b 0 0)) (
 some (icmp .lss (List.getD a 0 0) (List.getD b 0 0))
 ) (
 some false
 )
 )
 )
 )
theorem ZuD (a : List Int) (b : List Int) : ZjJ a b = some (Zdo a b) := by
 unfold ZjJ Zdo
 repeat' (first | refine ZiK ?_ ?_ | rfl)
def Zdd (N : Nat) (v : (Unit × Unit × Unit × Unit × Unit × Int × Int) × (List Int × List Int × Unit × List Int)) : Option (((Unit × Unit × Unit × Unit × Unit × Int × Int) × (List Int × List Int × Unit × List Int)) ⊕ (((Unit × Unit × Int) × (Unit × List Int)) ⊕ (Unit × Unit))) :=
 cond (icmp .lss v.1.2.2.2.2.2.2 4) (
 let x1 := (decide (0 ≤ v.1.2.2.2.2.2.2 ∧ v.1.2.2.2.2.2.2 < ((4 : Nat) : Int)))
 cond x1 (
 cond x1 (
 cond x1 (
 let x2 := (List.getD v.2.1 (Int.toNat v.1.2.2.2.2.2.2) 0)
 let x3 := (ibin .add .u64 x2 (List.getD v.2.2.1 (Int.toNat v.1.2.2.2.2.2.2) 0))
 cond (icmp .lss x3 x2) (
 let x4 := (ibin .add .u64 x3 v.1.2.2.2.2.2.1)
 cond (icmp .lss x4 x3) (
 cond x1 (
 some (.inl (((), (), (), (), (), 1, (ibin .add .i64 v.1.2.2.2.2.2.2 1)), (v.2.1, v.2.2.1, (), (List.set v.2.2.2.2 (Int.toNat v.1.2.2.2.2.2.2) x4))))
 ) (
 none
 )
 ) (
 cond x1 (
 some (.inl (((), (), (), (), (), 1, (ibin .add .i64 v.1.2.2.2.2.2.2 1)), (v.2.1, v.2.2.1, (), (List.set v.2.2.2.2 (Int.toNat v.1.2.2.2.2.2.2) x4))))
 ) (
 none
 )
 )
 ) (
 let x5 := (ibin .add .u64 x3 v.1.2.2.2.2.2.1)
 cond (icmp .lss x5 x3) (
 cond x1 (
 some (.inl (((), (), (), (), (), 1, (ibin .add .i64 v.1.2.2.2.2.2.2 1)), (v.2.1, v.2.2.1, (), (List.set v.2.2.2.2 (Int.toNat v.1.2.2.2.2.2.2) x5))))
 ) (
 none
 )
 ) (
 cond x1 (
 some (.inl (((), (), (), (), (), 0, (ibin .add .i64 v.1.2.2.2.2.2.2 1)), (v.2.1, v.2.2.1, (), (List.set v.2.2.2.2 (Int.toNat v.1.2.2.2.2.2.2) x5))))
 ) (
 none
 )
 )
 )
 ) (
 none
 )
 ) (
 none
 )
 ) (
 none
 )
 ) (
 some (.inr (.inl (((), (), v.1.2.2.2.2.2.1), ((), v.2.2.2.2))))
 )
def ZhU (N : Nat) (a : List Int) (b : List Int) : Option ((List Int × Int)) :=
 mo (loopF (Zdd N) N (((), (), (), (), (), 0, 0), (a, b, (), [0, 0, 0, 0]))) none fun r8 =>
 match r8 with
 | .inl u9 => (
 some (u9.2.2, u9.1.2.2)
 )
 | .inr _ => (
 none
 )
def ZcY (N : Nat) (v : (Unit × Unit × Unit × Unit × Unit × Int × Int) × (List Int × List Int × Unit × List Int)) : Option (((Unit × Unit × Unit × Unit × Unit × Int × Int) × (List Int × List Int × Unit × List Int)) ⊕ (((Unit × Unit × Int) × (Unit × List Int)) ⊕ (Unit × Unit))) :=
 cond (icmp .lss v.1.2.2.2.2.2.2 4) (
 let x1 := (decide (0 ≤ v.1.2.2.2.2.2.2 ∧ v.1.2.2.2.2.2.2 < ((4 : Nat) : Int)))
 cond x1 (
 cond x1 (
 cond x1 (
 cond x1 (
 let x2 := (List.getD v.2.1 (Int.toNat v.1.2.2.2.2.2.2) 0)
 let x3 := (List.getD v.2.2.1 (Int.toNat v.1.2.2.2.2.2.2) 0)
 cond (icmp .lss x2 x3) (
 let x4 := (ibin .sub .u64 x2 x3)
 cond (icmp .lss x4 v.1.2.2.2.2.2.1) (
 cond x1 (
 some (.inl (((), (), (), (), (), 1, (ibin .add .i64 v.1.2.2.2.2.2.2 1)), (v.2.1, v.2.2.1, (), (List.set v.2.2.2.2 (Int.toNat v.1.2.2.2.2.2.2) (ibin .sub .u64 x4 v.1.2.2.2.2.2.1)))))
 ) (
 none
 )
 ) (
 cond x1 (
 some (.inl (((), (), (), (), (), 1, (ibin .add .i64 v.1.2.2.2.2.2.2 1)), (v.2.1, v.2.2.1, (), (List.set v.2.2.2.2 (Int.toNat v.1.2.2.2.2.2.2) (ibin .sub .u64 x4 v.1.2.2.2.2.2.1)))))
 ) (
 none
 )
 )
 ) (
 let x5 := (ibin .sub .u64 x2 x3)
 cond (icmp .lss x5 v.1.2.2.2.2.2.1) (
 cond x1 (
 some (.inl (((), (), (), (), (), 1, (ibin .add .i64 v.1.2.2.2.2.2.2 1)), (v.2.1, v.2.2.1, (), (List.set v.2.2.2.2 (Int.toNat v.1.2.2.2.2.2.2) (ibin .sub .u64 x5 v.1.2.2.2.2.2.1)))))
 ) (
 none
 )
 ) (
 cond x1 (
 some (.inl (((), (), (), (), (), 0, (ibin .add .i64 v.1.2.2.2.2.2.2 1)), (v.2.1, v.2.2.1, (), (List.set v.2.2.2.2 (Int.toNat v.1.2.2.2.2.2.2) (ibin .sub .u64 x5 v.1.2.2.2.2.2.1)))))
 ) (
 none
 )
 )
 )
 ) (
 none
 )
 ) (
 none
 )
 ) (
 none
 )
 ) (
 none
 )
 ) (
 some (.inr (.inl (((), (), v.1.2.2.2.2.2.1), ((), v.2.2.2.2))))
 )
def Zes (N : Nat) (a : List Int) (b : List Int) : Option ((List Int × Int)) :=
 mo (loopF (ZcY N) N (((), (), (), (), (), 0, 0), (a, b, (), [0, 0, 0, 0]))) none fun r8 =>
 match r8 with
 | .inl u9 => (
 some (u9.2.2, u9.1.2.2)
 )
 | .inr _ => (
 none
 )
def ZhV (N : Nat) (a : List Int) (b : Int) : Option (List Int) :=
 let x1 := (ibin .shr .u64 (List.getD a 3 0) 44)
 let x2 := (ibin .add .u64 (ibin .mul .u64 (ibin .and .u64 (List.getD Zcz 0 0) 4294967295) x1) 0)
 let x3 := (ibin .add .u64 (ibin .mul .u64 (ibin .shr .u64 (List.getD Zcz 0 0) 32) x1) (ibin .shr .u64 x2 32))
 let x4 := (ibin .add .u64 (ibin .mul .u64 (ibin .and .u64 (List.getD Zcz 1 0) 4294967295) x1) (ibin .shr .u64 x3 32))
 let x5 := (ibin .add .u64 (ibin .mul .u64 (ibin .shr .u64 (List.getD Zcz 1 0) 32) x1) (ibin .shr .u64 x4 32))
 mo (Zes N [(ibin .or .u64 (ibin .shl .u64 (List.getD a 0 0) 16) b), (ibin .or .u64 (ibin .shl .u64 (List.getD a 1 0) 16) (ibin .shr .u64 (List.getD a 0 0) 48)), (ibin .or .u64 (ibin .shl .u64 (List.getD a 2 0) 16) (ibin .shr .u64 (List.getD a 1 0) 48)), (ibin .and .u64 (ibin .or .u64 (ibin .shl .u64 (List.getD a 3 0) 16) (ibin .shr .u64 (List.getD a 2 0) 48)) 1152921504606846975)] [(ibin .or .u64 (ibin .and .u64 x2 4294967295) (ibin .shl .u64 (ibin .and .u64 x3 4294967295) 32)), (ibin .or .u64 (ibin .and .u64 x4 4294967295) (ibin .shl .u64 (ibin .and .u64 x5 4294967295) 32)), (ibin .shr .u64 x5 32), 0]) none fun r1 =>
 cond (icmp .eql r1.2 1) (
 mo (ZhU N r1.1 Zcz) none fun r2 =>
 cond (!(Zdo r2.1 Zcz)) (
 mo (Zes N r2.1 Zcz) none fun r3 =>
 some r3.1
 ) (
 some r2.1
 )
 ) (
 cond (!(Zdo r1.1 Zcz)) (
 mo (Zes N r1.1 Zcz) none fun r4 =>
 some r4.1
 ) (
 some r1.1
 )
 )
def ZbZ (N : Nat) (v : (Nat × Unit × Unit × Int) × ((Nat × List Int) × Unit × List Int)) : Option (((Nat × Unit × Unit × Int) × ((Nat × List Int) × Unit × List Int)) ⊕ (((Unit × Unit) × (Unit × List Int)) ⊕ (Unit × Unit))) :=
 cond (icmp .geq v.1.2.2.2 0) (
 cond (decide (0 ≤ v.1.2.2.2 ∧ v.1.2.2.2 < ((v.1.1 : Nat) : Int))) (
 mo (ZhV N v.2.2.2 (List.getD v.2.1.2 (Int.toNat v.1.2.2.2) 0)) none fun r10 =>
 some (.inl ((v.1.1, (), (), (ibin .sub .i64 v.1.2.2.2 1)), ((v.2.1.1, v.2.1.2), (), r10)))
 ) (
 none
 )
 ) (
 some (.inr (.inl (((), ()), ((), v.2.2.2))))
 )
def ZiG (N : Nat) (a : ((Nat × List Int) × Unit)) : Option (List Int) :=
 mo (loopF (ZbZ N) N ((a.1.1, (), (), (ibin .sub .i64 ((a.1.1 : Nat) : Int) 1)), ((a.1.1, a.1.2), (), [0, 0, 0, 0]))) none fun r11 =>
 match r11 with
 | .inl u12 => (
 some u12.2.2
 )
 | .inr _ => (
 none
 )
def Zfw (N : Nat) (a : List Int) : Option (List Int) :=
 cond (decide ((0 + 4) * 8 ≤ 140737488355328 ∧ (0 + 4) ≤ 9223372036854775807)) (
 let x1 := ((0 + 4) + 4)
 cond (decide (x1 * 8 ≤ 140737488355328 ∧ x1 ≤ 9223372036854775807)) (
 let x2 := (x1 + 4)
 cond (decide (x2 * 8 ≤ 140737488355328 ∧ x2 ≤ 9223372036854775807)) (
 let x3 := (x2 + 4)
 cond (decide (x3 * 8 ≤ 140737488355328 ∧ x3 ≤ 9223372036854775807)) (
 mo (ZiG N ((x3, ((([(ibin .and .u64 (List.getD a 0 0) 65535), (ibin .and .u64 (ibin .shr .u64 (List.getD a 0 0) 16) 65535), (ibin .and .u64 (ibin .shr .u64 (List.getD a 0 0) 32) 65535), (ibin .shr .u64 (List.getD a 0 0) 48)] ++ [(ibin .and .u64 (List.getD a 1 0) 65535), (ibin .and .u64 (ibin .shr .u64 (List.getD a 1 0) 16) 65535), (ibin .and .u64 (ibin .shr .u64 (List.getD a 1 0) 32) 65535), (ibin .shr .u64 (List.getD a 1 0) 48)]) ++ [(ibin .and .u64 (List.getD a 2 0) 65535), (ibin .and .u64 (ibin .shr .u64 (List.getD a 2 0) 16) 65535), (ibin .and .u64 (ibin .shr .u64 (List.getD a 2 0) 32) 65535), (ibin .shr .u64 (List.getD a 2 0) 48)]) ++ [(ibin .and .u64 (List.getD a 3 0) 65535), (ibin .and .u64 (ibin .shr .u64 (List.getD a 3 0) 16) 65535), (ibin .and .u64 (ibin .shr .u64 (List.getD a 3 0) 32) 65535), (ibin .shr .u64 (List.getD a 3 0) 48)])), ())) none fun r1 =>
 some r1
 ) (
 none
 )
 ) (
 none
 )
 ) (
 none
 )
 ) (
 none
 )
def ZcR (N : Nat) (v : (Unit × Unit × Unit × Int) × (List Int × Unit × List Int)) : Option (((Unit × Unit × Unit × Int) × (List Int × Unit × List Int)) ⊕ (((Unit × Unit) × (Unit × List Int)) ⊕ (Unit × Unit))) :=
 cond (icmp .lss v.1.2.2.2 32) (
 let x1 := (ibin .quo .i64 v.1.2.2.2 8)
 cond (decide (0 ≤ x1 ∧ x1 < ((4 : Nat) : Int))) (
 let x2 := (ibin .mul .i64 8 (ibin .rem .i64 v.1.2.2.2 8))
 cond (decide (0 ≤ x2)) (
 cond (decide (0 ≤ v.1.2.2.2 ∧ v.1.2.2.2 < ((32 : Nat) : Int))) (
 some (.inl (((), (), (), (ibin .add .i64 v.1.2.2.2 1)), (v.2.1, (), (List.set v.2.2.2 (Int.toNat v.1.2.2.2) (IntKind.wrap .u8 (ibin .shr .u64 (List.getD v.2.1 (Int.toNat x1) 0) x2))))))
 ) (
 none
 )
 ) (
 none
 )
 ) (
 none
 )
 ) (
 some (.inr (.inl (((), ()), ((), v.2.2.2))))
 )
def ZcN (N : Nat) (a : List Int) : Option (List Int) :=
 mo (loopF (ZcR N) N (((), (), (), 0), (a, (), [0, 0, 0, 0, 0, 0, 0, 0, 0, 0, 0, 0, 0, 0, 0, 0, 0, 0, 0, 0, 0, 0, 0, 0, 0, 0, 0, 0, 0, 0, 0, 0]))) none fun r5 =>
 match r5 with
 | .inl u6 => (
 some u6.2.2
 )
 | .inr _ => (
 none
 )
def Zet (a : (List Int × List Int)) : (List Int × List Int) :=
 ((Zer ((Zap (a.1, a.2)).1, (Zap (a.1, a.2)).2)).1, (Zer ((Zap (a.1, a.2)).1, (Zap (a.1, a.2)).2)).2)
def ZdF (N : Nat) (a : (List Int × List Int)) : Option ((List Int × List Int)) :=
 mo (Zbx N (a.1, a.2) (a.1, a.2)) none fun r1 =>
 some (r1.1, r1.2)
def Zde (N : Nat) (a : (List Int × List Int)) (b : List Int) : Option ((List Int × List Int)) :=
 mo (ZcN N b) none fun r1 =>
 mo (Zcg N ((Zap (a.1, a.2)).1, (Zap (a.1, a.2)).2) r1) none fun r2 =>
 some (r2.1, r2.2)
def ZbX (N : Nat) (v : (Nat × Unit × Unit × Int) × (List ((List Int × List Int)) × Unit × (List Int × List Int))) : Option (((Nat × Unit × Unit × Int) × (List ((List Int × List Int)) × Unit × (List Int × List Int))) ⊕ (((Unit × Unit) × (Unit × (List Int × List Int))) ⊕ (Unit × Unit))) :=
 cond (icmp .lss v.1.2.2.2 ((v.1.1 : Nat) : Int)) (
 cond (decide (0 ≤ v.1.2.2.2 ∧ v.1.2.2.2 < ((v.1.1 : Nat) : Int))) (
 let x1 := (List.getD v.2.1 (Int.toNat v.1.2.2.2) ([0, 0, 0, 0, 0, 0, 0, 0, 0, 0], [0, 0, 0, 0, 0, 0, 0, 0, 0, 0]))
 mo (Zbx N (v.2.2.2.1, v.2.2.2.2) (x1.1, x1.2)) none fun r10 =>
 some (.inl ((v.1.1, (), (), (ibin .add .i64 v.1.2.2.2 1)), (v.2.1, (), (r10.1, r10.2))))
 ) (
 none
 )
 ) (
 some (.inr (.inl (((), ()), ((), (v.2.2.2.1, v.2.2.2.2)))))
 )
def ZiH (N : Nat) (a : (List ((List Int × List Int)) × Unit)) : Option ((List Int × List Int)) :=
 mo (loopF (ZbX N) N (((List.length a.1), (), (), 0), (a.1, (), (ZaT.1, ZaT.2)))) none fun r11 =>
 match r11 with
 | .inl u12 => (
 some (u12.2.2.1, u12.2.2.2)
 )
 | .inr _ => (
 none
 )
def Zb4 (N : Nat) (a : (List Int × List Int)) : Option (((List Int × List Int) × Int)) :=
 mo (Zbw N (a.1, a.2) (a.1, a.2)) none fun r1 =>
 mo (Zbw N (r1.1, r1.2) (r1.1, r1.2)) none fun r2 =>
 mo (Zdy N (r2.1, r2.2)) none fun r3 =>
 cond (!r3) (
 some ((ZaT.1, ZaT.2), 50)
 ) (
 some ((a.1, a.2), 0)
 )
def Zdf (N : Nat) (v : (Unit × Unit × Nat × Int × Int) × (List ((List Int × List Int × List Int × List Int)) × Unit × (List Int × List Int × List Int × List Int))) : Option (((Unit × Unit × Nat × Int × Int) × (List ((List Int × List Int × List Int × List Int)) × Unit × (List Int × List Int × List Int × List Int))) ⊕ (((Unit × Unit) × (Unit × (List Int × List Int × List Int × List Int))) ⊕ (Unit × Unit))) :=
 cond (icmp .lss v.1.2.2.2.2 v.1.2.2.2.1) (
 cond (decide (0 ≤ v.1.2.2.2.2 ∧ v.1.2.2.2.2 < ((v.1.2.2.1 : Nat) : Int))) (
 let x1 := (List.getD v.2.1 (Int.toNat v.1.2.2.2.2) ([0, 0, 0, 0, 0], [0, 0, 0, 0, 0], [0, 0, 0, 0, 0], [0, 0, 0, 0, 0]))
 mo (ZcA (v.2.2.2.1, v.2.2.2.2.1, v.2.2.2.2.2.1, v.2.2.2.2.2.2) (x1.1, x1.2.1, x1.2.2.1, x1.2.2.2)) none fun r12 =>
 some (.inl (((), (), v.1.2.2.1, v.1.2.2.2.1, (ibin .add .i64 v.1.2.2.2.2 1)), (v.2.1, (), (r12.1, r12.2.1, r12.2.2.1, r12.2.2.2))))
 ) (
 none
 )
 ) (
 some (.inr (.inl (((), ()), ((), (v.2.2.2.1, v.2.2.2.2.1, v.2.2.2.2.2.1, v.2.2.2.2.2.2)))))
 )
def Zru (N : Nat) (a : (List ((List Int × List Int × List Int × List Int)) × Unit)) : Option ((List Int × List Int × List Int × List Int)) :=
 mo (loopF (Zdf N) N (((), (), (List.length a.1), (((List.length a.1) : Nat) : Int), 0), (a.1, (), ([0, 0, 0, 0, 0], [0, 0, 0, 0, 0], [0, 0, 0, 0, 0], [0, 0, 0, 0, 0])))) none fun r13 =>
 match r13 with
 | .inl u14 => (
 some (u14.2.2.1, u14.2.2.2.1, u14.2.2.2.2.1, u14.2.2.2.2.2)
 )
 | .inr _ => (
 none
 )
def ZeS (a : (List (((List Int × List Int × List Int × List Int) × (List Int × List Int))) × Unit)) (b : Int) : Option (((List Int × List Int × List Int × List Int) × (List Int × List Int))) :=
 let x1 := (((List.length a.1) : Nat) : Int)
 cond (x1 == 0) (
 none
 ) (
 let x2 := (ibin .rem .i64 b x1)
 cond (icmp .lss x2 0) (
 let x3 := (ibin .add .i64 x2 x1)
 cond (decide (0 ≤ x3 ∧ x3 < (((List.length a.1) : Nat) : Int))) (
 let x4 := (List.getD a.1 (Int.toNat x3) (([0, 0, 0, 0, 0], [0, 0, 0, 0, 0], [0, 0, 0, 0, 0], [0, 0, 0, 0, 0]), ([0, 0, 0, 0, 0, 0, 0, 0, 0, 0], [0, 0, 0, 0, 0, 0, 0, 0, 0, 0])))
 some ((x4.1.1, x4.1.2.1, x4.1.2.2.1, x4.1.2.2.2), (x4.2.1, x4.2.2))
 ) (
 none
 )
 ) (
 cond (decide (0 ≤ x2 ∧ x2 < (((List.length a.1) : Nat) : Int))) (
 let x5 := (List.getD a.1 (Int.toNat x2) (([0, 0, 0, 0, 0], [0, 0, 0, 0, 0], [0, 0, 0, 0, 0], [0, 0, 0, 0, 0]), ([0, 0, 0, 0, 0, 0, 0, 0, 0, 0], [0, 0, 0, 0, 0, 0, 0, 0, 0, 0])))
 some ((x5.1.1, x5.1.2.1, x5.1.2.2.1, x5.1.2.2.2), (x5.2.1, x5.2.2))
 ) (
 none
 )
 )
 )
def ZeR (N : Nat) (a : (List (((List Int × List Int × List Int × List Int) × (List Int × List Int))) × Unit)) (b : (Int × Int × Int × List Int × List Int × List Int)) : Option ((((List Int × List Int × List Int × List Int) × (List Int × List Int)) × Bool)) :=
 mo (Zdh N (ZbN.1, ZbN.2.1, ZbN.2.2.1, ZbN.2.2.2) b.2.2.2.1) none fun r1 =>
 mo (Zb9 b.2.1) none fun r2 =>
 mo (ZaC (r1.1, r1.2.1, r1.2.2.1, r1.2.2.2) (r2.1, r2.2.1, r2.2.2.1, r2.2.2.2)) none fun r3 =>
 mo (Zff N) none fun r4 =>
 mo (Zfw N b.2.2.2.1) none fun r5 =>
 mo (ZcN N r5) none fun r6 =>
 mo (Zcg N (r4.1, r4.2) r6) none fun r7 =>
 mo (Zfv N b.2.1) none fun r8 =>
 mo (Zbw N (r7.1, r7.2) (r8.1, r8.2)) none fun r9 =>
 mo (Zcl N (r3.1, r3.2.1, r3.2.2.1, r3.2.2.2)) none fun r10 =>
 mo (Zb4 N (r9.1, r9.2)) none fun r11 =>
 cond (icmp .eql r10.2 r11.2) (
 mo (Zdm N (r3.1, r3.2.1, r3.2.2.1, r3.2.2.2) (r9.1, r9.2)) none fun r12 =>
 some (((r10.1.1, r10.1.2.1, r10.1.2.2.1, r10.1.2.2.2), (r11.1.1, r11.1.2)), r12)
 ) (
 some (((r10.1.1, r10.1.2.1, r10.1.2.2.1, r10.1.2.2.2), (r11.1.1, r11.1.2)), false)
 )
def ZhW (N : Nat) (a : (List (((List Int × List Int × List Int × List Int) × (List Int × List Int))) × Unit)) (b : (Int × Int × Int × List Int × List Int × List Int)) : Option ((((List Int × List Int × List Int × List Int) × (List Int × List Int)) × Bool)) :=
 mo (ZeS (a.1, ()) b.2.1) none fun r1 =>
 mo (ZeS (a.1, ()) b.2.2.1) none fun r2 =>
 cond (icmp .eql b.1 1) (
 some ((((Zeu (r1.1.1, r1.1.2.1, r1.1.2.2.1, r1.1.2.2.2)).1, (Zeu (r1.1.1, r1.1.2.1, r1.1.2.2.1, r1.1.2.2.2)).2.1, (Zeu (r1.1.1, r1.1.2.1, r1.1.2.2.1, r1.1.2.2.2)).2.2.1, (Zeu (r1.1.1, r1.1.2.1, r1.1.2.2.1, r1.1.2.2.2)).2.2.2), ((Zet (r1.2.1, r1.2.2)).1, (Zet (r1.2.1, r1.2.2)).2)), true)
 ) (
 cond (icmp .eql b.1 2) (
 mo (ZeZ (r1.1.1, r1.1.2.1, r1.1.2.2.1, r1.1.2.2.2)) none fun r3 =>
 mo (ZdF N (r1.2.1, r1.2.2)) none fun r4 =>
 some (((r3.1, r3.2.1, r3.2.2.1, r3.2.2.2), (r4.1, r4.2)), true)
 ) (
 cond (icmp .eql b.1 3) (
 mo (ZfA N (r1.1.1, r1.1.2.1, r1.1.2.2.1, r1.1.2.2.2) b.2.2.2.1) none fun r5 =>
 mo (Zfw N b.2.2.2.1) none fun r6 =>
 mo (Zde N (r1.2.1, r1.2.2) r6) none fun r7 =>
 some (((r5.1, r5.2.1, r5.2.2.1, r5.2.2.2), (r7.1, r7.2)), true)
 ) (
 cond (icmp .eql b.1 4) (
 mo (ZeY N b.2.2.2.2.1) none fun r8 =>
 mo (Zj5 N b.2.2.2.2.1) none fun r9 =>
 mo (Zco N r9) none fun r10 =>
 some (((r8.1, r8.2.1, r8.2.2.1, r8.2.2.2), (r10.1, r10.2)), true)
 ) (
 cond (icmp .eql b.1 5) (
 mo (Zry N b.2.2.2.2.2) none fun r11 =>
 mo (Zhh N b.2.2.2.2.2) none fun r12 =>
 some (((r11.1, r11.2.1, r11.2.2.1, r11.2.2.2), (r12.1, r12.2)), true)
 ) (
 cond (icmp .eql b.1 6) (
 mo (ZaR N (r1.1.1, r1.1.2.1, r1.1.2.2.1, r1.1.2.2.2)) none fun r13 =>
 mo (Zb0 N (r2.1.1, r2.1.2.1, r2.1.2.2.1, r2.1.2.2.2) r13) none fun r14 =>
 mo (Za2 N (r1.2.1, r1.2.2)) none fun r15 =>
 mo (Zc6 N r15) none fun r16 =>
 some (((r14.1.1, r14.1.2.1, r14.1.2.2.1, r14.1.2.2.2), (r16.1.1, r16.1.2)), (icmp .eql r14.2 r16.2))
 ) (
 cond (icmp .eql b.1 7) (
 mo (Zem N (r1.1.1, r1.1.2.1, r1.1.2.2.1, r1.1.2.2.2)) none fun r17 =>
 mo (ZbH N (r1.2.1, r1.2.2)) none fun r18 =>
 mo (Zdm N (r17.1.1, r17.1.2.1, r17.1.2.2.1, r17.1.2.2.2) (r18.1.1, r18.1.2)) none fun r19 =>
 cond (!r19) (
 some (((r1.1.1, r1.1.2.1, r1.1.2.2.1, r1.1.2.2.2), (r1.2.1, r1.2.2)), false)
 ) (
 mo (Zdm N (r17.2.1.1, r17.2.1.2.1, r17.2.1.2.2.1, r17.2.1.2.2.2) (r18.2.1.1, r18.2.1.2)) none fun r20 =>
 cond (!r20) (
 some (((r1.1.1, r1.1.2.1, r1.1.2.2.1, r1.1.2.2.2), (r1.2.1, r1.2.2)), false)
 ) (
 mo (Zdm N (r17.2.2.1.1, r17.2.2.1.2.1, r17.2.2.1.2.2.1, r17.2.2.1.2.2.2) (r18.2.2.1.1, r18.2.2.1.2)) none fun r21 =>
 cond (!r21) (
 some (((r1.1.1, r1.1.2.1, r1.1.2.2.1, r1.1.2.2.2), (r1.2.1, r1.2.2)), false)
 ) (
 mo (Zdm N (r17.2.2.2.1, r17.2.2.2.2.1, r17.2.2.2.2.2.1, r17.2.2.2.2.2.2) (r18.2.2.2.1, r18.2.2.2.2)) none fun r22 =>
 cond (!r22) (
 some (((r1.1.1, r1.1.2.1, r1.1.2.2.1, r1.1.2.2.2), (r1.2.1, r1.2.2)), false)
 ) (
 let x1 := (ibin .and .i64 b.2.2.1 3)
 let x2 := (decide (0 ≤ x1 ∧ x1 < ((4 : Nat) : Int)))
 cond x2 (
 mo (Zcl N ((List.getD [r17.1.1, r17.2.1.1, r17.2.2.1.1, r17.2.2.2.1] (Int.toNat x1) []), (List.getD [r17.1.2.1, r17.2.1.2.1, r17.2.2.1.2.1, r17.2.2.2.2.1] (Int.toNat x1) []), (List.getD [r17.1.2.2.1, r17.2.1.2.2.1, r17.2.2.1.2.2.1, r17.2.2.2.2.2.1] (Int.toNat x1) []), (List.getD [r17.1.2.2.2, r17.2.1.2.2.2, r17.2.2.1.2.2.2, r17.2.2.2.2.2.2] (Int.toNat x1) []))) none fun r23 =>
 cond x2 (
 mo (Zb4 N ((List.getD [r18.1.1, r18.2.1.1, r18.2.2.1.1, r18.2.2.2.1] (Int.toNat x1) []), (List.getD [r18.1.2, r18.2.1.2, r18.2.2.1.2, r18.2.2.2.2] (Int.toNat x1) []))) none fun r24 =>
 some (((r23.1.1, r23.1.2.1, r23.1.2.2.1, r23.1.2.2.2), (r24.1.1, r24.1.2)), (icmp .eql r23.2 r24.2))
 ) (
 none
 )
 ) (
 none
 )
 )
 )
 )
 )
 ) (
 cond (icmp .eql b.1 8) (
 mo (Zru N ([(r1.1.1, r1.1.2.1, r1.1.2.2.1, r1.1.2.2.2), (r2.1.1, r2.1.2.1, r2.1.2.2.1, r2.1.2.2.2), (r1.1.1, r1.1.2.1, r1.1.2.2.1, r1.1.2.2.2)], ())) none fun r25 =>
 mo (ZiH N ([(r1.2.1, r1.2.2), (r2.2.1, r2.2.2), (r1.2.1, r1.2.2)], ())) none fun r26 =>
 some (((r25.1, r25.2.1, r25.2.2.1, r25.2.2.2), (r26.1, r26.2)), true)
 ) (
 cond (icmp .eql b.1 9) (
 mo (ZeR N (a.1, ()) (b.1, b.2.1, b.2.2.1, b.2.2.2.1, b.2.2.2.2.1, b.2.2.2.2.2)) none fun r27 =>
 some (((r27.1.1.1, r27.1.1.2.1, r27.1.1.2.2.1, r27.1.1.2.2.2), (r27.1.2.1, r27.1.2.2)), r27.2)
 ) (
 mo (ZcA (r1.1.1, r1.1.2.1, r1.1.2.2.1, r1.1.2.2.2) (r2.1.1, r2.1.2.1, r2.1.2.2.1, r2.1.2.2.2)) none fun r28 =>
 mo (Zbx N (r1.2.1, r1.2.2) (r2.2.1, r2.2.2)) none fun r29 =>
 some (((r28.1, r28.2.1, r28.2.2.1, r28.2.2.2), (r29.1, r29.2)), true)
 )
 )
 )
 )
 )
 )
 )
 )
 )
def Zgj (N : Nat)  : Option ((List (((List Int × List Int × List Int × List Int) × (List Int × List Int))) × Unit)) :=
 mo (ZhX N) none fun r1 =>
 some ([(([0, 0, 0, 0, 0], [0, 0, 0, 0, 0], [0, 0, 0, 0, 0], [0, 0, 0, 0, 0]), ([0, 0, 0, 0, 0, 0, 0, 0, 0, 0], [0, 0, 0, 0, 0, 0, 0, 0, 0, 0])), ((ZbB.1, ZbB.2.1, ZbB.2.2.1, ZbB.2.2.2), (r1.1, r1.2))], ())
def ZbJ (N : Nat) (v : (Nat × Unit × Nat × Nat × Int) × (List ((Int × Int × Int × List Int × List Int × List Int)) × List (List Int) × List (((List Int × List Int × List Int × List Int) × (List Int × List Int))))) : Option (((Nat × Unit × Nat × Nat × Int) × (List ((Int × Int × Int × List Int × List Int × List Int)) × List (List Int) × List (((List Int × List Int × List Int × List Int) × (List Int × List Int))))) ⊕ (((Nat × Nat × Nat) × (List ((Int × Int × Int × List Int × List Int × List Int)) × List (List Int) × List (((List Int × List Int × List Int × List Int) × (List Int × List Int))))) ⊕ (Unit × Unit))) :=
 cond (icmp .lss v.1.2.2.2.2 ((v.1.2.2.1 : Nat) : Int)) (
 let x1 := (decide (0 ≤ v.1.2.2.2.2 ∧ v.1.2.2.2.2 < ((v.1.2.2.1 : Nat) : Int)))
 cond x1 (
 let x2 := (List.getD v.2.2.2 (Int.toNat v.1.2.2.2.2) (([0, 0, 0, 0, 0], [0, 0, 0, 0, 0], [0, 0, 0, 0, 0], [0, 0, 0, 0, 0]), ([0, 0, 0, 0, 0, 0, 0, 0, 0, 0], [0, 0, 0, 0, 0, 0, 0, 0, 0, 0])))
 mo (Za2 N (x2.2.1, x2.2.2)) none fun r19 =>
 let x3 := (v.2.2.1 ++ [r19])
 let x4 := (List.length x3)
 cond (decide (x4 * 32 ≤ 140737488355328 ∧ x4 ≤ 9223372036854775807)) (
 cond x1 (
 mo (ZaR N (x2.1.1, x2.1.2.1, x2.1.2.2.1, x2.1.2.2.2)) none fun r20 =>
 cond (decide (0 ≤ v.1.2.2.2.2 ∧ v.1.2.2.2.2 < ((x4 : Nat) : Int))) (
 cond (!(decide (r20 = (List.getD x3 (Int.toNat v.1.2.2.2.2) (List.replicate 32 0))))) (
 some (.inr (.inr ((), ())))
 ) (
 some (.inl ((v.1.1, (), v.1.2.2.1, x4, (ibin .add .i64 v.1.2.2.2.2 1)), (v.2.1, x3, v.2.2.2)))
 )
 ) (
 none
 )
 ) (
 none
 )
 ) (
 none
 )
 ) (
 none
 )
 ) (
 some (.inr (.inl ((v.1.1, v.1.2.2.1, v.1.2.2.2.1), (v.2.1, v.2.2.1, v.2.2.2))))
 )
def ZbI (N : Nat) (v : (Nat × Nat × Nat × Int × Unit × Int × Int × Int × Bool) × (List ((Int × Int × Int × List Int × List Int × List Int)) × ((List Int × List Int × List Int × List Int) × (List Int × List Int)) × List (((List Int × List Int × List Int × List Int) × (List Int × List Int))) × List (List Int))) : Option (((Nat × Nat × Nat × Int × Unit × Int × Int × Int × Bool) × (List ((Int × Int × Int × List Int × List Int × List Int)) × ((List Int × List Int × List Int × List Int) × (List Int × List Int)) × List (((List Int × List Int × List Int × List Int) × (List Int × List Int))) × List (List Int))) ⊕ (((Nat × Nat × Nat × Int × Int × Bool) × (List ((Int × Int × Int × List Int × List Int × List Int)) × List (((List Int × List Int × List Int × List Int) × (List Int × List Int))) × List (List Int))) ⊕ (Unit × Unit))) :=
 cond (icmp .leq v.1.2.2.2.2.2.2.1 v.1.2.2.2.2.2.1) (
 let x1 := (decide (0 ≤ v.1.2.2.2.2.2.2.1 ∧ v.1.2.2.2.2.2.2.1 < ((v.1.2.1 : Nat) : Int)))
 cond x1 (
 mo (ZdZ (v.2.2.1.1.1, v.2.2.1.1.2.1, v.2.2.1.1.2.2.1, v.2.2.1.1.2.2.2) ((List.getD v.2.2.2.1 (Int.toNat v.1.2.2.2.2.2.2.1) (([0, 0, 0, 0, 0], [0, 0, 0, 0, 0], [0, 0, 0, 0, 0], [0, 0, 0, 0, 0]), ([0, 0, 0, 0, 0, 0, 0, 0, 0, 0], [0, 0, 0, 0, 0, 0, 0, 0, 0, 0]))).1.1, (List.getD v.2.2.2.1 (Int.toNat v.1.2.2.2.2.2.2.1) (([0, 0, 0, 0, 0], [0, 0, 0, 0, 0], [0, 0, 0, 0, 0], [0, 0, 0, 0, 0]), ([0, 0, 0, 0, 0, 0, 0, 0, 0, 0], [0, 0, 0, 0, 0, 0, 0, 0, 0, 0]))).1.2.1, (List.getD v.2.2.2.1 (Int.toNat v.1.2.2.2.2.2.2.1) (([0, 0, 0, 0, 0], [0, 0, 0, 0, 0], [0, 0, 0, 0, 0], [0, 0, 0, 0, 0]), ([0, 0, 0, 0, 0, 0, 0, 0, 0, 0], [0, 0, 0, 0, 0, 0, 0, 0, 0, 0]))).1.2.2.1, (List.getD v.2.2.2.1 (Int.toNat v.1.2.2.2.2.2.2.1) (([0, 0, 0, 0, 0], [0, 0, 0, 0, 0], [0, 0, 0, 0, 0], [0, 0, 0, 0, 0]), ([0, 0, 0, 0, 0, 0, 0, 0, 0, 0], [0, 0, 0, 0, 0, 0, 0, 0, 0, 0]))).1.2.2.2)) none fun r72 =>
 let x2 := (decide (0 ≤ v.1.2.2.2.2.2.1 ∧ v.1.2.2.2.2.2.1 < ((v.1.2.2.1 : Nat) : Int)))
 cond x2 (
 let x3 := (decide (0 ≤ v.1.2.2.2.2.2.2.1 ∧ v.1.2.2.2.2.2.2.1 < ((v.1.2.2.1 : Nat) : Int)))
 cond x3 (
 let x4 := (decide ((List.getD v.2.2.2.2 (Int.toNat v.1.2.2.2.2.2.1) (List.replicate 32 0)) = (List.getD v.2.2.2.2 (Int.toNat v.1.2.2.2.2.2.2.1) (List.replicate 32 0))))
 cond (!(r72 == x4)) (
 some (.inr (.inr ((), ())))
 ) (
 cond x1 (
 mo (ZdZ ((List.getD v.2.2.2.1 (Int.toNat v.1.2.2.2.2.2.2.1) (([0, 0, 0, 0, 0], [0, 0, 0, 0, 0], [0, 0, 0, 0, 0], [0, 0, 0, 0, 0]), ([0, 0, 0, 0, 0, 0, 0, 0, 0, 0], [0, 0, 0, 0, 0, 0, 0, 0, 0, 0]))).1.1, (List.getD v.2.2.2.1 (Int.toNat v.1.2.2.2.2.2.2.1) (([0, 0, 0, 0, 0], [0, 0, 0, 0, 0], [0, 0, 0, 0, 0], [0, 0, 0, 0, 0]), ([0, 0, 0, 0, 0, 0, 0, 0, 0, 0], [0, 0, 0, 0, 0, 0, 0, 0, 0, 0]))).1.2.1, (List.getD v.2.2.2.1 (Int.toNat v.1.2.2.2.2.2.2.1) (([0, 0, 0, 0, 0], [0, 0, 0, 0, 0], [0, 0, 0, 0, 0], [0, 0, 0, 0, 0]), ([0, 0, 0, 0, 0, 0, 0, 0, 0, 0], [0, 0, 0, 0, 0, 0, 0, 0, 0, 0]))).1.2.2.1, (List.getD v.2.2.2.1 (Int.toNat v.1.2.2.2.2.2.2.1) (([0, 0, 0, 0, 0], [0, 0, 0, 0, 0], [0, 0, 0, 0, 0], [0, 0, 0, 0, 0]), ([0, 0, 0, 0, 0, 0, 0, 0, 0, 0], [0, 0, 0, 0, 0, 0, 0, 0, 0, 0]))).1.2.2.2) (v.2.2.1.1.1, v.2.2.1.1.2.1, v.2.2.1.1.2.2.1, v.2.2.1.1.2.2.2)) none fun r73 =>
 cond x2 (
 cond x3 (
 cond (!(r73 == x4)) (
 some (.inr (.inr ((), ())))
 ) (
 some (.inl ((v.1.1, v.1.2.1, v.1.2.2.1, v.1.2.2.2.1, (), v.1.2.2.2.2.2.1, (ibin .add .i64 v.1.2.2.2.2.2.2.1 1), v.1.2.2.2.2.2.2.2.1, v.1.2.2.2.2.2.2.2.2), (v.2.1, ((v.2.2.1.1.1, v.2.2.1.1.2.1, v.2.2.1.1.2.2.1, v.2.2.1.1.2.2.2), (v.2.2.1.2.1, v.2.2.1.2.2)), v.2.2.2.1, v.2.2.2.2)))
 )
 ) (
 none
 )
 ) (
 none
 )
 ) (
 none
 )
 )
 ) (
 none
 )
 ) (
 none
 )
 ) (
 none
 )
 ) (
 some (.inr (.inl ((v.1.1, v.1.2.1, v.1.2.2.1, v.1.2.2.2.1, v.1.2.2.2.2.2.2.2.1, v.1.2.2.2.2.2.2.2.2), (v.2.1, v.2.2.2.1, v.2.2.2.2))))
 )
def Zbo (N : Nat) (v : (Nat × Nat × Nat × Int) × (List ((Int × Int × Int × List Int × List Int × List Int)) × List (List Int) × List (((List Int × List Int × List Int × List Int) × (List Int × List Int))))) : Option (((Nat × Nat × Nat × Int) × (List ((Int × Int × Int × List Int × List Int × List Int)) × List (List Int) × List (((List Int × List Int × List Int × List Int) × (List Int × List Int))))) ⊕ ((Unit × Unit) ⊕ (Unit × Unit))) :=
 cond (icmp .lss v.1.2.2.2 ((v.1.1 : Nat) : Int)) (
 let x1 := (icmp .lss v.1.2.2.2 64)
 cond x1 (
 cond (decide (0 ≤ v.1.2.2.2 ∧ v.1.2.2.2 < ((v.1.1 : Nat) : Int))) (
 let x2 := (List.getD v.2.1 (Int.toNat v.1.2.2.2) (0, 0, 0, [0, 0, 0, 0], [0, 0, 0, 0, 0], (List.replicate 64 0)))
 mo (ZhW N (v.2.2.2, ()) (x2.1, x2.2.1, x2.2.2.1, x2.2.2.2.1, x2.2.2.2.2.1, x2.2.2.2.2.2)) none fun r36 =>
 cond (!r36.2) (
 some (.inr (.inr ((), ())))
 ) (
 let x3 := (v.2.2.2 ++ [((r36.1.1.1, r36.1.1.2.1, r36.1.1.2.2.1, r36.1.1.2.2.2), (r36.1.2.1, r36.1.2.2))])
 let x4 := (List.length x3)
 cond (decide (x4 * 320 ≤ 140737488355328 ∧ x4 ≤ 9223372036854775807)) (
 mo (Za2 N (r36.1.2.1, r36.1.2.2)) none fun r37 =>
 let x5 := (v.2.2.1 ++ [r37])
 let x6 := (List.length x5)
 cond (decide (x6 * 32 ≤ 140737488355328 ∧ x6 ≤ 9223372036854775807)) (
 mo (ZaR N (r36.1.1.1, r36.1.1.2.1, r36.1.1.2.2.1, r36.1.1.2.2.2)) none fun r38 =>
 let x7 := (ibin .sub .i64 ((x4 : Nat) : Int) 1)
 cond (decide (0 ≤ x7 ∧ x7 < ((x6 : Nat) : Int))) (
 cond (!(decide (r38 = (List.getD x5 (Int.toNat x7) (List.replicate 32 0))))) (
 some (.inr (.inr ((), ())))
 ) (
 mo (loopF (ZbI N) N ((v.1.1, x4, x6, v.1.2.2.2, (), x7, 0, v.1.2.2.2, x1), (v.2.1, ((r36.1.1.1, r36.1.1.2.1, r36.1.1.2.2.1, r36.1.1.2.2.2), (r36.1.2.1, r36.1.2.2)), x3, x5))) none fun r74 =>
 match r74 with
 | .inl u75 => (
 some (.inl ((u75.1.1, u75.1.2.1, u75.1.2.2.1, (ibin .add .i64 u75.1.2.2.2.1 1)), (u75.2.1, u75.2.2.2, u75.2.2.1)))
 )
 | .inr w76 => (
 some (.inr (.inr ((), ())))
 )
 )
 ) (
 none
 )
 ) (
 none
 )
 ) (
 none
 )
 )
 ) (
 none
 )
 ) (
 some (.inr (.inl ((), ())))
 )
 ) (
 some (.inr (.inl ((), ())))
 )
def ZeW (N : Nat) (a : (List ((Int × Int × Int × List Int × List Int × List Int)) × Unit)) : Option (Bool) :=
 mo (Zgj N) none fun r1 =>
 mo (loopF (ZbJ N) N (((List.length a.1), (), (List.length r1.1), 0, 0), (a.1, [], r1.1))) none fun r21 =>
 match r21 with
 | .inl u22 => (
 mo (loopF (Zbo N) N ((u22.1.1, u22.1.2.1, u22.1.2.2, 0), (u22.2.1, u22.2.2.1, u22.2.2.2))) none fun r77 =>
 match r77 with
 | .inl u78 => (
 some true
 )
 | .inr w79 => (
 some false
 )
 )
 | .inr w80 => (
 some false
 )
end Go.Vx
