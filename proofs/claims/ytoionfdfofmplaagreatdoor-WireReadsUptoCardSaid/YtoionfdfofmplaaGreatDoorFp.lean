import Derived.Test.YtoionfdfofmplaaGreatDoorVxR2
set_option autoImplicit false
set_option linter.unusedVariables false
set_option linter.unusedSimpArgs false
namespace Go.Vx
open Go
def ZcA(i:Nat):LI:=List.getD [[0,0,0,0,0],[1718705420411056,234908883556509,2233514472574048,2117202627021982,765476049583133],[929955233495203,466365720129213,1662059464998953,2033849074728123,1442794654840575],[2241493124984347,425987919032274,2207028919301688,1220490630685848,974799131293748],[278908739862762,821645201101625,8113234426968,1777959178193151,2118520810568447],[1136626929484150,1998550399581263,496427632559748,118527312129759,45110755273534],[1507062230895904,1572317787530805,683053064812840,317374165784489,1572899562415810]] i [0,0,0,0,0]
def Zbn(a:LI):LI:=
 [(ibin .add .u64 (ibin .and .u64 (List.getD a 0 0) 2251799813685247) (ibin .mul .u64 19 (ibin .shr .u64 (List.getD a 4 0) 51))),(ibin .add .u64 (ibin .and .u64 (List.getD a 1 0) 2251799813685247) (ibin .shr .u64 (List.getD a 0 0) 51)),(ibin .add .u64 (ibin .and .u64 (List.getD a 2 0) 2251799813685247) (ibin .shr .u64 (List.getD a 1 0) 51)),(ibin .add .u64 (ibin .and .u64 (List.getD a 3 0) 2251799813685247) (ibin .shr .u64 (List.getD a 2 0) 51)),(ibin .add .u64 (ibin .and .u64 (List.getD a 4 0) 2251799813685247) (ibin .shr .u64 (List.getD a 3 0) 51))]
def Zaa(a:LI):LI:=
 let x1:=(Zbn (Zbn (Zbn a)))
 let x2:=(List.getD x1 0 0)
 let x3:=(List.set x1 0 (ibin .add .u64 x2 (ibin .mul .u64 19 (ibin .shr .u64 (ibin .add .u64 (List.getD x1 4 0) (ibin .shr .u64 (ibin .add .u64 (List.getD x1 3 0) (ibin .shr .u64 (ibin .add .u64 (List.getD x1 2 0) (ibin .shr .u64 (ibin .add .u64 (List.getD x1 1 0) (ibin .shr .u64 (ibin .add .u64 x2 19) 51)) 51)) 51)) 51)) 51))))
 let x4:=(List.set x3 1 (ibin .add .u64 (List.getD x3 1 0) (ibin .shr .u64 (List.getD x3 0 0) 51)))
 let x5:=(List.set x4 0 (ibin .and .u64 (List.getD x4 0 0) 2251799813685247))
 let x6:=(List.set x5 2 (ibin .add .u64 (List.getD x5 2 0) (ibin .shr .u64 (List.getD x5 1 0) 51)))
 let x7:=(List.set x6 1 (ibin .and .u64 (List.getD x6 1 0) 2251799813685247))
 let x8:=(List.set x7 3 (ibin .add .u64 (List.getD x7 3 0) (ibin .shr .u64 (List.getD x7 2 0) 51)))
 let x9:=(List.set x8 2 (ibin .and .u64 (List.getD x8 2 0) 2251799813685247))
 let x10:=(List.set x9 4 (ibin .add .u64 (List.getD x9 4 0) (ibin .shr .u64 (List.getD x9 3 0) 51)))
 let x11:=(List.set x10 3 (ibin .and .u64 (List.getD x10 3 0) 2251799813685247))
 (List.set x11 4 (ibin .and .u64 (List.getD x11 4 0) 2251799813685247))
def ZaC(a:LI):Bool:=
 (icmp .eql (ibin .shr .u64 (ibin .or .u64 (ibin .or .u64 (ibin .or .u64 (ibin .or .u64 (List.getD a 0 0) (List.getD a 1 0)) (List.getD a 2 0)) (List.getD a 3 0)) (List.getD a 4 0)) 51) 0)
def ZgS(a:Int)(b:Int)(c:Int)(d:Int)(e:Int):LI:=
 let x1:=(ibin .add .u64 a (ibin .mul .u64 19 (ibin .shr .u64 (ibin .add .u64 e (ibin .shr .u64 (ibin .add .u64 d (ibin .shr .u64 (ibin .add .u64 c (ibin .shr .u64 (ibin .add .u64 b (ibin .shr .u64 (ibin .add .u64 a 19) 51)) 51)) 51)) 51)) 51)))
 let x2:=(ibin .add .u64 b (ibin .shr .u64 x1 51))
 let x3:=(ibin .add .u64 c (ibin .shr .u64 x2 51))
 let x4:=(ibin .add .u64 d (ibin .shr .u64 x3 51))
 [(ibin .and .u64 x1 2251799813685247),(ibin .and .u64 x2 2251799813685247),(ibin .and .u64 x3 2251799813685247),(ibin .and .u64 x4 2251799813685247),(ibin .and .u64 (ibin .add .u64 e (ibin .shr .u64 x4 51)) 2251799813685247)]
def Zbj(a:Int)(b:Int)(c:Int)(d:Int)(e:Int):LI:=
 let x1:=(ibin .add .u64 b (ibin .shr .u64 a 51))
 let x2:=(ibin .add .u64 c (ibin .shr .u64 x1 51))
 let x3:=(ibin .add .u64 d (ibin .shr .u64 x2 51))
 let x4:=(ibin .add .u64 e (ibin .shr .u64 x3 51))
 let x5:=(ibin .add .u64 (ibin .and .u64 a 2251799813685247) (ibin .mul .u64 19 (ibin .shr .u64 x4 51)))
 cond (icmp .leq x5 2251799813685247) (
 let x6:=(ibin .and .u64 x4 2251799813685247)
 cond (icmp .neq x6 2251799813685247) (
 [x5,(ibin .and .u64 x1 2251799813685247),(ibin .and .u64 x2 2251799813685247),(ibin .and .u64 x3 2251799813685247),x6]
 ) (
 (ZgS x5 (ibin .and .u64 x1 2251799813685247) (ibin .and .u64 x2 2251799813685247) (ibin .and .u64 x3 2251799813685247) x6)
 )
 ) (
 (ZgS x5 (ibin .and .u64 x1 2251799813685247) (ibin .and .u64 x2 2251799813685247) (ibin .and .u64 x3 2251799813685247) (ibin .and .u64 x4 2251799813685247))
 )
def Zqz(a:Int)(b:Int)(c:Int)(d:Int)(e:Int):Option (LI):=
 let x1:=(ibin .add .u64 b (ibin .shr .u64 a 51))
 let x2:=(ibin .add .u64 c (ibin .shr .u64 x1 51))
 let x3:=(ibin .add .u64 d (ibin .shr .u64 x2 51))
 let x4:=(ibin .add .u64 e (ibin .shr .u64 x3 51))
 let x5:=(ibin .add .u64 (ibin .and .u64 a 2251799813685247) (ibin .mul .u64 19 (ibin .shr .u64 x4 51)))
 cond (icmp .leq x5 2251799813685247) (
 let x6:=(ibin .and .u64 x4 2251799813685247)
 cond (icmp .neq x6 2251799813685247) (
 some [x5,(ibin .and .u64 x1 2251799813685247),(ibin .and .u64 x2 2251799813685247),(ibin .and .u64 x3 2251799813685247),x6]
 ) (
 some (ZgS x5 (ibin .and .u64 x1 2251799813685247) (ibin .and .u64 x2 2251799813685247) (ibin .and .u64 x3 2251799813685247) x6)
 )
 ) (
 some (ZgS x5 (ibin .and .u64 x1 2251799813685247) (ibin .and .u64 x2 2251799813685247) (ibin .and .u64 x3 2251799813685247) (ibin .and .u64 x4 2251799813685247))
 )
theorem ZyQ(a:Int)(b:Int)(c:Int)(d:Int)(e:Int):Zqz a b c d e=some (Zbj a b c d e):=by
 unfold Zqz Zbj
 repeat' (first|refine Zlp ?_ ?_|rfl)
def Zbw(a:LI)(b:LI):LI:=
 cond (!(ZaC a)) (
 (Zbj (ibin .add .u64 (List.getD (Zaa a) 0 0) (List.getD (Zaa b) 0 0)) (ibin .add .u64 (List.getD (Zaa a) 1 0) (List.getD (Zaa b) 1 0)) (ibin .add .u64 (List.getD (Zaa a) 2 0) (List.getD (Zaa b) 2 0)) (ibin .add .u64 (List.getD (Zaa a) 3 0) (List.getD (Zaa b) 3 0)) (ibin .add .u64 (List.getD (Zaa a) 4 0) (List.getD (Zaa b) 4 0)))
 ) (
 cond (!(ZaC b)) (
 (Zbj (ibin .add .u64 (List.getD (Zaa a) 0 0) (List.getD (Zaa b) 0 0)) (ibin .add .u64 (List.getD (Zaa a) 1 0) (List.getD (Zaa b) 1 0)) (ibin .add .u64 (List.getD (Zaa a) 2 0) (List.getD (Zaa b) 2 0)) (ibin .add .u64 (List.getD (Zaa a) 3 0) (List.getD (Zaa b) 3 0)) (ibin .add .u64 (List.getD (Zaa a) 4 0) (List.getD (Zaa b) 4 0)))
 ) (
 (Zbj (ibin .add .u64 (List.getD a 0 0) (List.getD b 0 0)) (ibin .add .u64 (List.getD a 1 0) (List.getD b 1 0)) (ibin .add .u64 (List.getD a 2 0) (List.getD b 2 0)) (ibin .add .u64 (List.getD a 3 0) (List.getD b 3 0)) (ibin .add .u64 (List.getD a 4 0) (List.getD b 4 0)))
 )
 )
def Zm0(a:LI)(b:LI):Option (LI):=
 cond (!(ZaC a)) (
 some (Zbj (ibin .add .u64 (List.getD (Zaa a) 0 0) (List.getD (Zaa b) 0 0)) (ibin .add .u64 (List.getD (Zaa a) 1 0) (List.getD (Zaa b) 1 0)) (ibin .add .u64 (List.getD (Zaa a) 2 0) (List.getD (Zaa b) 2 0)) (ibin .add .u64 (List.getD (Zaa a) 3 0) (List.getD (Zaa b) 3 0)) (ibin .add .u64 (List.getD (Zaa a) 4 0) (List.getD (Zaa b) 4 0)))
 ) (
 cond (!(ZaC b)) (
 some (Zbj (ibin .add .u64 (List.getD (Zaa a) 0 0) (List.getD (Zaa b) 0 0)) (ibin .add .u64 (List.getD (Zaa a) 1 0) (List.getD (Zaa b) 1 0)) (ibin .add .u64 (List.getD (Zaa a) 2 0) (List.getD (Zaa b) 2 0)) (ibin .add .u64 (List.getD (Zaa a) 3 0) (List.getD (Zaa b) 3 0)) (ibin .add .u64 (List.getD (Zaa a) 4 0) (List.getD (Zaa b) 4 0)))
 ) (
 some (Zbj (ibin .add .u64 (List.getD a 0 0) (List.getD b 0 0)) (ibin .add .u64 (List.getD a 1 0) (List.getD b 1 0)) (ibin .add .u64 (List.getD a 2 0) (List.getD b 2 0)) (ibin .add .u64 (List.getD a 3 0) (List.getD b 3 0)) (ibin .add .u64 (List.getD a 4 0) (List.getD b 4 0)))
 )
 )
theorem Zwh(a:LI)(b:LI):Zm0 a b=some (Zbw a b):=by
 unfold Zm0 Zbw
 repeat' (first|refine Zlp ?_ ?_|rfl)
def Za3(a:LI)(b:LI):LI:=
 cond (!(ZaC a)) (
 (Zbj (ibin .sub .u64 (ibin .add .u64 (List.getD (Zaa a) 0 0) 4503599627370458) (List.getD (Zaa b) 0 0)) (ibin .sub .u64 (ibin .add .u64 (List.getD (Zaa a) 1 0) 4503599627370494) (List.getD (Zaa b) 1 0)) (ibin .sub .u64 (ibin .add .u64 (List.getD (Zaa a) 2 0) 4503599627370494) (List.getD (Zaa b) 2 0)) (ibin .sub .u64 (ibin .add .u64 (List.getD (Zaa a) 3 0) 4503599627370494) (List.getD (Zaa b) 3 0)) (ibin .sub .u64 (ibin .add .u64 (List.getD (Zaa a) 4 0) 4503599627370494) (List.getD (Zaa b) 4 0)))
 ) (
 cond (!(ZaC b)) (
 (Zbj (ibin .sub .u64 (ibin .add .u64 (List.getD (Zaa a) 0 0) 4503599627370458) (List.getD (Zaa b) 0 0)) (ibin .sub .u64 (ibin .add .u64 (List.getD (Zaa a) 1 0) 4503599627370494) (List.getD (Zaa b) 1 0)) (ibin .sub .u64 (ibin .add .u64 (List.getD (Zaa a) 2 0) 4503599627370494) (List.getD (Zaa b) 2 0)) (ibin .sub .u64 (ibin .add .u64 (List.getD (Zaa a) 3 0) 4503599627370494) (List.getD (Zaa b) 3 0)) (ibin .sub .u64 (ibin .add .u64 (List.getD (Zaa a) 4 0) 4503599627370494) (List.getD (Zaa b) 4 0)))
 ) (
 (Zbj (ibin .sub .u64 (ibin .add .u64 (List.getD a 0 0) 4503599627370458) (List.getD b 0 0)) (ibin .sub .u64 (ibin .add .u64 (List.getD a 1 0) 4503599627370494) (List.getD b 1 0)) (ibin .sub .u64 (ibin .add .u64 (List.getD a 2 0) 4503599627370494) (List.getD b 2 0)) (ibin .sub .u64 (ibin .add .u64 (List.getD a 3 0) 4503599627370494) (List.getD b 3 0)) (ibin .sub .u64 (ibin .add .u64 (List.getD a 4 0) 4503599627370494) (List.getD b 4 0)))
 )
 )
def Zm2(a:LI)(b:LI):Option (LI):=
 cond (!(ZaC a)) (
 some (Zbj (ibin .sub .u64 (ibin .add .u64 (List.getD (Zaa a) 0 0) 4503599627370458) (List.getD (Zaa b) 0 0)) (ibin .sub .u64 (ibin .add .u64 (List.getD (Zaa a) 1 0) 4503599627370494) (List.getD (Zaa b) 1 0)) (ibin .sub .u64 (ibin .add .u64 (List.getD (Zaa a) 2 0) 4503599627370494) (List.getD (Zaa b) 2 0)) (ibin .sub .u64 (ibin .add .u64 (List.getD (Zaa a) 3 0) 4503599627370494) (List.getD (Zaa b) 3 0)) (ibin .sub .u64 (ibin .add .u64 (List.getD (Zaa a) 4 0) 4503599627370494) (List.getD (Zaa b) 4 0)))
 ) (
 cond (!(ZaC b)) (
 some (Zbj (ibin .sub .u64 (ibin .add .u64 (List.getD (Zaa a) 0 0) 4503599627370458) (List.getD (Zaa b) 0 0)) (ibin .sub .u64 (ibin .add .u64 (List.getD (Zaa a) 1 0) 4503599627370494) (List.getD (Zaa b) 1 0)) (ibin .sub .u64 (ibin .add .u64 (List.getD (Zaa a) 2 0) 4503599627370494) (List.getD (Zaa b) 2 0)) (ibin .sub .u64 (ibin .add .u64 (List.getD (Zaa a) 3 0) 4503599627370494) (List.getD (Zaa b) 3 0)) (ibin .sub .u64 (ibin .add .u64 (List.getD (Zaa a) 4 0) 4503599627370494) (List.getD (Zaa b) 4 0)))
 ) (
 some (Zbj (ibin .sub .u64 (ibin .add .u64 (List.getD a 0 0) 4503599627370458) (List.getD b 0 0)) (ibin .sub .u64 (ibin .add .u64 (List.getD a 1 0) 4503599627370494) (List.getD b 1 0)) (ibin .sub .u64 (ibin .add .u64 (List.getD a 2 0) 4503599627370494) (List.getD b 2 0)) (ibin .sub .u64 (ibin .add .u64 (List.getD a 3 0) 4503599627370494) (List.getD b 3 0)) (ibin .sub .u64 (ibin .add .u64 (List.getD a 4 0) 4503599627370494) (List.getD b 4 0)))
 )
 )
theorem Zwi(a:LI)(b:LI):Zm2 a b=some (Za3 a b):=by
 unfold Zm2 Za3
 repeat' (first|refine Zlp ?_ ?_|rfl)
def Za4(a:LI):LI:=
 (Za3 [0,0,0,0,0] a)
def ZgT(a:Int)(b:Int):(Int×Int):=
 let x1:=(ibin .add .u64 (ibin .mul .u64 (ibin .shr .u64 a 32) (ibin .and .u64 b 4294967295)) (ibin .shr .u64 (ibin .mul .u64 (ibin .and .u64 a 4294967295) (ibin .and .u64 b 4294967295)) 32))
 ((ibin .add .u64 (ibin .add .u64 (ibin .mul .u64 (ibin .shr .u64 a 32) (ibin .shr .u64 b 32)) (ibin .shr .u64 x1 32)) (ibin .shr .u64 (ibin .add .u64 (ibin .and .u64 x1 4294967295) (ibin .mul .u64 (ibin .and .u64 a 4294967295) (ibin .shr .u64 b 32))) 32)),(ibin .mul .u64 a b))
def Zab(a:(Int×Int))(b:Int)(c:Int):Option ((Int×Int)):=
 mo (Zec a.2 (ZgT b c).2 0) none fun r1=>
 mo (Zec a.1 (ZgT b c).1 r1.2) none fun r2=>
 some (r2.1,r1.1)
def ZbZ(a:(Int×Int)):Int:=
 (ibin .or .u64 (ibin .shl .u64 a.1 13) (ibin .shr .u64 a.2 51))
def ZcL(a:(Int×Int))(b:(Int×Int))(c:(Int×Int))(d:(Int×Int))(e:(Int×Int)):Option (LI):=
 mo (Zab (b.1,b.2) (ZbZ (a.1,a.2)) 1) none fun r1=>
 mo (Zab (c.1,c.2) (ZbZ (r1.1,r1.2)) 1) none fun r2=>
 mo (Zab (d.1,d.2) (ZbZ (r2.1,r2.2)) 1) none fun r3=>
 mo (Zab (e.1,e.2) (ZbZ (r3.1,r3.2)) 1) none fun r4=>
 mo (Zab (0,(ibin .and .u64 a.2 2251799813685247)) (ZbZ (r4.1,r4.2)) 19) none fun r5=>
 some (Zbj (ibin .and .u64 r5.2 2251799813685247) (ibin .add .u64 (ibin .and .u64 r1.2 2251799813685247) (ZbZ (r5.1,r5.2))) (ibin .and .u64 r2.2 2251799813685247) (ibin .and .u64 r3.2 2251799813685247) (ibin .and .u64 r4.2 2251799813685247))
def Zad(a:LI)(b:LI):Option (LI):=
 cond (!(ZaC a)) (
 mo (Zab (0,0) (List.getD (Zaa a) 0 0) (List.getD (Zaa b) 0 0)) none fun r1=>
 mo (Zab (r1.1,r1.2) (ibin .mul .u64 19 (List.getD (Zaa a) 1 0)) (List.getD (Zaa b) 4 0)) none fun r2=>
 let x1:=(ibin .mul .u64 19 (List.getD (Zaa a) 2 0))
 mo (Zab (r2.1,r2.2) x1 (List.getD (Zaa b) 3 0)) none fun r3=>
 let x2:=(ibin .mul .u64 19 (List.getD (Zaa a) 3 0))
 mo (Zab (r3.1,r3.2) x2 (List.getD (Zaa b) 2 0)) none fun r4=>
 let x3:=(ibin .mul .u64 19 (List.getD (Zaa a) 4 0))
 mo (Zab (r4.1,r4.2) x3 (List.getD (Zaa b) 1 0)) none fun r5=>
 mo (Zab (0,0) (List.getD (Zaa a) 0 0) (List.getD (Zaa b) 1 0)) none fun r6=>
 mo (Zab (r6.1,r6.2) (List.getD (Zaa a) 1 0) (List.getD (Zaa b) 0 0)) none fun r7=>
 mo (Zab (r7.1,r7.2) x1 (List.getD (Zaa b) 4 0)) none fun r8=>
 mo (Zab (r8.1,r8.2) x2 (List.getD (Zaa b) 3 0)) none fun r9=>
 mo (Zab (r9.1,r9.2) x3 (List.getD (Zaa b) 2 0)) none fun r10=>
 mo (Zab (0,0) (List.getD (Zaa a) 0 0) (List.getD (Zaa b) 2 0)) none fun r11=>
 mo (Zab (r11.1,r11.2) (List.getD (Zaa a) 1 0) (List.getD (Zaa b) 1 0)) none fun r12=>
 mo (Zab (r12.1,r12.2) (List.getD (Zaa a) 2 0) (List.getD (Zaa b) 0 0)) none fun r13=>
 mo (Zab (r13.1,r13.2) x2 (List.getD (Zaa b) 4 0)) none fun r14=>
 mo (Zab (r14.1,r14.2) x3 (List.getD (Zaa b) 3 0)) none fun r15=>
 mo (Zab (0,0) (List.getD (Zaa a) 0 0) (List.getD (Zaa b) 3 0)) none fun r16=>
 mo (Zab (r16.1,r16.2) (List.getD (Zaa a) 1 0) (List.getD (Zaa b) 2 0)) none fun r17=>
 mo (Zab (r17.1,r17.2) (List.getD (Zaa a) 2 0) (List.getD (Zaa b) 1 0)) none fun r18=>
 mo (Zab (r18.1,r18.2) (List.getD (Zaa a) 3 0) (List.getD (Zaa b) 0 0)) none fun r19=>
 mo (Zab (r19.1,r19.2) x3 (List.getD (Zaa b) 4 0)) none fun r20=>
 mo (Zab (0,0) (List.getD (Zaa a) 0 0) (List.getD (Zaa b) 4 0)) none fun r21=>
 mo (Zab (r21.1,r21.2) (List.getD (Zaa a) 1 0) (List.getD (Zaa b) 3 0)) none fun r22=>
 mo (Zab (r22.1,r22.2) (List.getD (Zaa a) 2 0) (List.getD (Zaa b) 2 0)) none fun r23=>
 mo (Zab (r23.1,r23.2) (List.getD (Zaa a) 3 0) (List.getD (Zaa b) 1 0)) none fun r24=>
 mo (Zab (r24.1,r24.2) (List.getD (Zaa a) 4 0) (List.getD (Zaa b) 0 0)) none fun r25=>
 mo (ZcL (r5.1,r5.2) (r10.1,r10.2) (r15.1,r15.2) (r20.1,r20.2) (r25.1,r25.2)) none fun r26=>
 some r26
 ) (
 cond (!(ZaC b)) (
 mo (Zab (0,0) (List.getD (Zaa a) 0 0) (List.getD (Zaa b) 0 0)) none fun r27=>
 mo (Zab (r27.1,r27.2) (ibin .mul .u64 19 (List.getD (Zaa a) 1 0)) (List.getD (Zaa b) 4 0)) none fun r28=>
 let x4:=(ibin .mul .u64 19 (List.getD (Zaa a) 2 0))
 mo (Zab (r28.1,r28.2) x4 (List.getD (Zaa b) 3 0)) none fun r29=>
 let x5:=(ibin .mul .u64 19 (List.getD (Zaa a) 3 0))
 mo (Zab (r29.1,r29.2) x5 (List.getD (Zaa b) 2 0)) none fun r30=>
 let x6:=(ibin .mul .u64 19 (List.getD (Zaa a) 4 0))
 mo (Zab (r30.1,r30.2) x6 (List.getD (Zaa b) 1 0)) none fun r31=>
 mo (Zab (0,0) (List.getD (Zaa a) 0 0) (List.getD (Zaa b) 1 0)) none fun r32=>
 mo (Zab (r32.1,r32.2) (List.getD (Zaa a) 1 0) (List.getD (Zaa b) 0 0)) none fun r33=>
 mo (Zab (r33.1,r33.2) x4 (List.getD (Zaa b) 4 0)) none fun r34=>
 mo (Zab (r34.1,r34.2) x5 (List.getD (Zaa b) 3 0)) none fun r35=>
 mo (Zab (r35.1,r35.2) x6 (List.getD (Zaa b) 2 0)) none fun r36=>
 mo (Zab (0,0) (List.getD (Zaa a) 0 0) (List.getD (Zaa b) 2 0)) none fun r37=>
 mo (Zab (r37.1,r37.2) (List.getD (Zaa a) 1 0) (List.getD (Zaa b) 1 0)) none fun r38=>
 mo (Zab (r38.1,r38.2) (List.getD (Zaa a) 2 0) (List.getD (Zaa b) 0 0)) none fun r39=>
 mo (Zab (r39.1,r39.2) x5 (List.getD (Zaa b) 4 0)) none fun r40=>
 mo (Zab (r40.1,r40.2) x6 (List.getD (Zaa b) 3 0)) none fun r41=>
 mo (Zab (0,0) (List.getD (Zaa a) 0 0) (List.getD (Zaa b) 3 0)) none fun r42=>
 mo (Zab (r42.1,r42.2) (List.getD (Zaa a) 1 0) (List.getD (Zaa b) 2 0)) none fun r43=>
 mo (Zab (r43.1,r43.2) (List.getD (Zaa a) 2 0) (List.getD (Zaa b) 1 0)) none fun r44=>
 mo (Zab (r44.1,r44.2) (List.getD (Zaa a) 3 0) (List.getD (Zaa b) 0 0)) none fun r45=>
 mo (Zab (r45.1,r45.2) x6 (List.getD (Zaa b) 4 0)) none fun r46=>
 mo (Zab (0,0) (List.getD (Zaa a) 0 0) (List.getD (Zaa b) 4 0)) none fun r47=>
 mo (Zab (r47.1,r47.2) (List.getD (Zaa a) 1 0) (List.getD (Zaa b) 3 0)) none fun r48=>
 mo (Zab (r48.1,r48.2) (List.getD (Zaa a) 2 0) (List.getD (Zaa b) 2 0)) none fun r49=>
 mo (Zab (r49.1,r49.2) (List.getD (Zaa a) 3 0) (List.getD (Zaa b) 1 0)) none fun r50=>
 mo (Zab (r50.1,r50.2) (List.getD (Zaa a) 4 0) (List.getD (Zaa b) 0 0)) none fun r51=>
 mo (ZcL (r31.1,r31.2) (r36.1,r36.2) (r41.1,r41.2) (r46.1,r46.2) (r51.1,r51.2)) none fun r52=>
 some r52
 ) (
 mo (Zab (0,0) (List.getD a 0 0) (List.getD b 0 0)) none fun r53=>
 mo (Zab (r53.1,r53.2) (ibin .mul .u64 19 (List.getD a 1 0)) (List.getD b 4 0)) none fun r54=>
 let x7:=(ibin .mul .u64 19 (List.getD a 2 0))
 mo (Zab (r54.1,r54.2) x7 (List.getD b 3 0)) none fun r55=>
 let x8:=(ibin .mul .u64 19 (List.getD a 3 0))
 mo (Zab (r55.1,r55.2) x8 (List.getD b 2 0)) none fun r56=>
 let x9:=(ibin .mul .u64 19 (List.getD a 4 0))
 mo (Zab (r56.1,r56.2) x9 (List.getD b 1 0)) none fun r57=>
 mo (Zab (0,0) (List.getD a 0 0) (List.getD b 1 0)) none fun r58=>
 mo (Zab (r58.1,r58.2) (List.getD a 1 0) (List.getD b 0 0)) none fun r59=>
 mo (Zab (r59.1,r59.2) x7 (List.getD b 4 0)) none fun r60=>
 mo (Zab (r60.1,r60.2) x8 (List.getD b 3 0)) none fun r61=>
 mo (Zab (r61.1,r61.2) x9 (List.getD b 2 0)) none fun r62=>
 mo (Zab (0,0) (List.getD a 0 0) (List.getD b 2 0)) none fun r63=>
 mo (Zab (r63.1,r63.2) (List.getD a 1 0) (List.getD b 1 0)) none fun r64=>
 mo (Zab (r64.1,r64.2) (List.getD a 2 0) (List.getD b 0 0)) none fun r65=>
 mo (Zab (r65.1,r65.2) x8 (List.getD b 4 0)) none fun r66=>
 mo (Zab (r66.1,r66.2) x9 (List.getD b 3 0)) none fun r67=>
 mo (Zab (0,0) (List.getD a 0 0) (List.getD b 3 0)) none fun r68=>
 mo (Zab (r68.1,r68.2) (List.getD a 1 0) (List.getD b 2 0)) none fun r69=>
 mo (Zab (r69.1,r69.2) (List.getD a 2 0) (List.getD b 1 0)) none fun r70=>
 mo (Zab (r70.1,r70.2) (List.getD a 3 0) (List.getD b 0 0)) none fun r71=>
 mo (Zab (r71.1,r71.2) x9 (List.getD b 4 0)) none fun r72=>
 mo (Zab (0,0) (List.getD a 0 0) (List.getD b 4 0)) none fun r73=>
 mo (Zab (r73.1,r73.2) (List.getD a 1 0) (List.getD b 3 0)) none fun r74=>
 mo (Zab (r74.1,r74.2) (List.getD a 2 0) (List.getD b 2 0)) none fun r75=>
 mo (Zab (r75.1,r75.2) (List.getD a 3 0) (List.getD b 1 0)) none fun r76=>
 mo (Zab (r76.1,r76.2) (List.getD a 4 0) (List.getD b 0 0)) none fun r77=>
 mo (ZcL (r57.1,r57.2) (r62.1,r62.2) (r67.1,r67.2) (r72.1,r72.2) (r77.1,r77.2)) none fun r78=>
 some r78
 )
 )
def ZaB(a:LI):Option (LI):=
 cond (!(ZaC a)) (
 mo (Zab (0,0) (List.getD (Zaa a) 0 0) (List.getD (Zaa a) 0 0)) none fun r1=>
 mo (Zab (r1.1,r1.2) (ibin .mul .u64 38 (List.getD (Zaa a) 1 0)) (List.getD (Zaa a) 4 0)) none fun r2=>
 let x1:=(ibin .mul .u64 38 (List.getD (Zaa a) 2 0))
 mo (Zab (r2.1,r2.2) x1 (List.getD (Zaa a) 3 0)) none fun r3=>
 let x2:=(ibin .mul .u64 2 (List.getD (Zaa a) 0 0))
 mo (Zab (0,0) x2 (List.getD (Zaa a) 1 0)) none fun r4=>
 mo (Zab (r4.1,r4.2) x1 (List.getD (Zaa a) 4 0)) none fun r5=>
 let x3:=(ibin .mul .u64 19 (List.getD (Zaa a) 3 0))
 mo (Zab (r5.1,r5.2) x3 (List.getD (Zaa a) 3 0)) none fun r6=>
 mo (Zab (0,0) x2 (List.getD (Zaa a) 2 0)) none fun r7=>
 mo (Zab (r7.1,r7.2) (List.getD (Zaa a) 1 0) (List.getD (Zaa a) 1 0)) none fun r8=>
 mo (Zab (r8.1,r8.2) (ibin .mul .u64 2 x3) (List.getD (Zaa a) 4 0)) none fun r9=>
 mo (Zab (0,0) x2 (List.getD (Zaa a) 3 0)) none fun r10=>
 let x4:=(ibin .mul .u64 2 (List.getD (Zaa a) 1 0))
 mo (Zab (r10.1,r10.2) x4 (List.getD (Zaa a) 2 0)) none fun r11=>
 mo (Zab (r11.1,r11.2) (ibin .mul .u64 19 (List.getD (Zaa a) 4 0)) (List.getD (Zaa a) 4 0)) none fun r12=>
 mo (Zab (0,0) x2 (List.getD (Zaa a) 4 0)) none fun r13=>
 mo (Zab (r13.1,r13.2) x4 (List.getD (Zaa a) 3 0)) none fun r14=>
 mo (Zab (r14.1,r14.2) (List.getD (Zaa a) 2 0) (List.getD (Zaa a) 2 0)) none fun r15=>
 mo (ZcL (r3.1,r3.2) (r6.1,r6.2) (r9.1,r9.2) (r12.1,r12.2) (r15.1,r15.2)) none fun r16=>
 some r16
 ) (
 mo (Zab (0,0) (List.getD a 0 0) (List.getD a 0 0)) none fun r17=>
 mo (Zab (r17.1,r17.2) (ibin .mul .u64 38 (List.getD a 1 0)) (List.getD a 4 0)) none fun r18=>
 let x5:=(ibin .mul .u64 38 (List.getD a 2 0))
 mo (Zab (r18.1,r18.2) x5 (List.getD a 3 0)) none fun r19=>
 let x6:=(ibin .mul .u64 2 (List.getD a 0 0))
 mo (Zab (0,0) x6 (List.getD a 1 0)) none fun r20=>
 mo (Zab (r20.1,r20.2) x5 (List.getD a 4 0)) none fun r21=>
 let x7:=(ibin .mul .u64 19 (List.getD a 3 0))
 mo (Zab (r21.1,r21.2) x7 (List.getD a 3 0)) none fun r22=>
 mo (Zab (0,0) x6 (List.getD a 2 0)) none fun r23=>
 mo (Zab (r23.1,r23.2) (List.getD a 1 0) (List.getD a 1 0)) none fun r24=>
 mo (Zab (r24.1,r24.2) (ibin .mul .u64 2 x7) (List.getD a 4 0)) none fun r25=>
 mo (Zab (0,0) x6 (List.getD a 3 0)) none fun r26=>
 let x8:=(ibin .mul .u64 2 (List.getD a 1 0))
 mo (Zab (r26.1,r26.2) x8 (List.getD a 2 0)) none fun r27=>
 mo (Zab (r27.1,r27.2) (ibin .mul .u64 19 (List.getD a 4 0)) (List.getD a 4 0)) none fun r28=>
 mo (Zab (0,0) x6 (List.getD a 4 0)) none fun r29=>
 mo (Zab (r29.1,r29.2) x8 (List.getD a 3 0)) none fun r30=>
 mo (Zab (r30.1,r30.2) (List.getD a 2 0) (List.getD a 2 0)) none fun r31=>
 mo (ZcL (r19.1,r19.2) (r22.1,r22.2) (r25.1,r25.2) (r28.1,r28.2) (r31.1,r31.2)) none fun r32=>
 some r32
 )
def Zdb(a:LI):LI:=
 let x1:=(ibin .or .u64 (ibin .or .u64 (ibin .or .u64 (ibin .or .u64 (ibin .or .u64 (ibin .or .u64 (ibin .or .u64 (ibin .or .u64 0 (ibin .shl .u64 (IntKind.wrap .u64 (List.getD a 0 0)) 0)) (ibin .shl .u64 (IntKind.wrap .u64 (List.getD a 1 0)) 8)) (ibin .shl .u64 (IntKind.wrap .u64 (List.getD a 2 0)) 16)) (ibin .shl .u64 (IntKind.wrap .u64 (List.getD a 3 0)) 24)) (ibin .shl .u64 (IntKind.wrap .u64 (List.getD a 4 0)) 32)) (ibin .shl .u64 (IntKind.wrap .u64 (List.getD a 5 0)) 40)) (ibin .shl .u64 (IntKind.wrap .u64 (List.getD a 6 0)) 48)) (ibin .shl .u64 (IntKind.wrap .u64 (List.getD a 7 0)) 56))
 let x2:=(ibin .or .u64 (ibin .or .u64 (ibin .or .u64 (ibin .or .u64 (ibin .or .u64 (ibin .or .u64 (ibin .or .u64 (ibin .or .u64 0 (ibin .shl .u64 (IntKind.wrap .u64 (List.getD a 8 0)) 0)) (ibin .shl .u64 (IntKind.wrap .u64 (List.getD a 9 0)) 8)) (ibin .shl .u64 (IntKind.wrap .u64 (List.getD a 10 0)) 16)) (ibin .shl .u64 (IntKind.wrap .u64 (List.getD a 11 0)) 24)) (ibin .shl .u64 (IntKind.wrap .u64 (List.getD a 12 0)) 32)) (ibin .shl .u64 (IntKind.wrap .u64 (List.getD a 13 0)) 40)) (ibin .shl .u64 (IntKind.wrap .u64 (List.getD a 14 0)) 48)) (ibin .shl .u64 (IntKind.wrap .u64 (List.getD a 15 0)) 56))
 let x3:=(ibin .or .u64 (ibin .or .u64 (ibin .or .u64 (ibin .or .u64 (ibin .or .u64 (ibin .or .u64 (ibin .or .u64 (ibin .or .u64 0 (ibin .shl .u64 (IntKind.wrap .u64 (List.getD a 16 0)) 0)) (ibin .shl .u64 (IntKind.wrap .u64 (List.getD a 17 0)) 8)) (ibin .shl .u64 (IntKind.wrap .u64 (List.getD a 18 0)) 16)) (ibin .shl .u64 (IntKind.wrap .u64 (List.getD a 19 0)) 24)) (ibin .shl .u64 (IntKind.wrap .u64 (List.getD a 20 0)) 32)) (ibin .shl .u64 (IntKind.wrap .u64 (List.getD a 21 0)) 40)) (ibin .shl .u64 (IntKind.wrap .u64 (List.getD a 22 0)) 48)) (ibin .shl .u64 (IntKind.wrap .u64 (List.getD a 23 0)) 56))
 let x4:=(ibin .or .u64 (ibin .or .u64 (ibin .or .u64 (ibin .or .u64 (ibin .or .u64 (ibin .or .u64 (ibin .or .u64 (ibin .or .u64 0 (ibin .shl .u64 (IntKind.wrap .u64 (List.getD a 24 0)) 0)) (ibin .shl .u64 (IntKind.wrap .u64 (List.getD a 25 0)) 8)) (ibin .shl .u64 (IntKind.wrap .u64 (List.getD a 26 0)) 16)) (ibin .shl .u64 (IntKind.wrap .u64 (List.getD a 27 0)) 24)) (ibin .shl .u64 (IntKind.wrap .u64 (List.getD a 28 0)) 32)) (ibin .shl .u64 (IntKind.wrap .u64 (List.getD a 29 0)) 40)) (ibin .shl .u64 (IntKind.wrap .u64 (List.getD a 30 0)) 48)) (ibin .shl .u64 (IntKind.wrap .u64 (List.getD a 31 0)) 56))
 [(ibin .and .u64 x1 2251799813685247),(ibin .and .u64 (ibin .or .u64 (ibin .shr .u64 x1 51) (ibin .shl .u64 x2 13)) 2251799813685247),(ibin .and .u64 (ibin .or .u64 (ibin .shr .u64 x2 38) (ibin .shl .u64 x3 26)) 2251799813685247),(ibin .and .u64 (ibin .or .u64 (ibin .shr .u64 x3 25) (ibin .shl .u64 x4 39)) 2251799813685247),(ibin .and .u64 (ibin .shr .u64 x4 12) 2251799813685247)]
def ZaG(a:LI):(LI×Int):=
 cond (icmp .gtr (List.getD a 31 0) 127) (
 ([0,0,0,0,0],3)
 ) (
 cond (!(decide ((Zdb a)=(Zaa (Zdb a))))) (
 ([0,0,0,0,0],3)
 ) (
 ((Zdb a),0)
 )
 )
def ZqB(a:LI):Option ((LI×Int)):=
 cond (icmp .gtr (List.getD a 31 0) 127) (
 some ([0,0,0,0,0],3)
 ) (
 cond (!(decide ((Zdb a)=(Zaa (Zdb a))))) (
 some ([0,0,0,0,0],3)
 ) (
 some ((Zdb a),0)
 )
 )
theorem ZyZ(a:LI):ZqB a=some (ZaG a):=by
 unfold ZqB ZaG
 repeat' (first|refine Zlp ?_ ?_|rfl)
def Zb0(a:LI):LI:=
 let x1:=(ibin .or .u64 (List.getD (Zaa a) 0 0) (ibin .shl .u64 (List.getD (Zaa a) 1 0) 51))
 let x2:=(ibin .or .u64 (ibin .shr .u64 (List.getD (Zaa a) 1 0) 13) (ibin .shl .u64 (List.getD (Zaa a) 2 0) 38))
 let x3:=(ibin .or .u64 (ibin .shr .u64 (List.getD (Zaa a) 2 0) 26) (ibin .shl .u64 (List.getD (Zaa a) 3 0) 25))
 let x4:=(ibin .or .u64 (ibin .shr .u64 (List.getD (Zaa a) 3 0) 39) (ibin .shl .u64 (List.getD (Zaa a) 4 0) 12))
 [(IntKind.wrap .u8 (ibin .shr .u64 x1 0)),(IntKind.wrap .u8 (ibin .shr .u64 x1 8)),(IntKind.wrap .u8 (ibin .shr .u64 x1 16)),(IntKind.wrap .u8 (ibin .shr .u64 x1 24)),(IntKind.wrap .u8 (ibin .shr .u64 x1 32)),(IntKind.wrap .u8 (ibin .shr .u64 x1 40)),(IntKind.wrap .u8 (ibin .shr .u64 x1 48)),(IntKind.wrap .u8 (ibin .shr .u64 x1 56)),(IntKind.wrap .u8 (ibin .shr .u64 x2 0)),(IntKind.wrap .u8 (ibin .shr .u64 x2 8)),(IntKind.wrap .u8 (ibin .shr .u64 x2 16)),(IntKind.wrap .u8 (ibin .shr .u64 x2 24)),(IntKind.wrap .u8 (ibin .shr .u64 x2 32)),(IntKind.wrap .u8 (ibin .shr .u64 x2 40)),(IntKind.wrap .u8 (ibin .shr .u64 x2 48)),(IntKind.wrap .u8 (ibin .shr .u64 x2 56)),(IntKind.wrap .u8 (ibin .shr .u64 x3 0)),(IntKind.wrap .u8 (ibin .shr .u64 x3 8)),(IntKind.wrap .u8 (ibin .shr .u64 x3 16)),(IntKind.wrap .u8 (ibin .shr .u64 x3 24)),(IntKind.wrap .u8 (ibin .shr .u64 x3 32)),(IntKind.wrap .u8 (ibin .shr .u64 x3 40)),(IntKind.wrap .u8 (ibin .shr .u64 x3 48)),(IntKind.wrap .u8 (ibin .shr .u64 x3 56)),(IntKind.wrap .u8 (ibin .shr .u64 x4 0)),(IntKind.wrap .u8 (ibin .shr .u64 x4 8)),(IntKind.wrap .u8 (ibin .shr .u64 x4 16)),(IntKind.wrap .u8 (ibin .shr .u64 x4 24)),(IntKind.wrap .u8 (ibin .shr .u64 x4 32)),(IntKind.wrap .u8 (ibin .shr .u64 x4 40)),(IntKind.wrap .u8 (ibin .shr .u64 x4 48)),(IntKind.wrap .u8 (ibin .shr .u64 x4 56))]
def Zbk(N:Nat)(v:(Unit×Unit×Int×Int)×(LI×Unit)):Option (((Unit×Unit×Int×Int)×(LI×Unit)) ⊕ (((Unit×Unit)×(LI×Unit)) ⊕ (Unit×Unit))):=
 cond (icmp .lss v.1.2.2.2 v.1.2.2.1) (
 mo (ZaB v.2.1) none fun r6=>
 some (.inl (((),(),v.1.2.2.1,(ibin .add .i64 v.1.2.2.2 1)),(r6,())))
 ) (
 some (.inr (.inl (((),()),(v.2.1,()))))
 )
def Zap(N:Nat)(a:LI)(b:Int):Option (LI):=
 mo (loopF (Zbk N) N (((),(),b,0),(a,()))) none fun r7=>
 match r7 with
 | .inl u8=>(
 some u8.2.1
 )
 | .inr _=>(
 none
 )
def ZcM(N:Nat)(a:LI):Option ((LI×LI)):=
 mo (ZaB a) none fun r1=>
 mo (Zap N r1 2) none fun r2=>
 mo (Zad r2 a) none fun r3=>
 mo (Zad r3 r1) none fun r4=>
 mo (ZaB r4) none fun r5=>
 mo (Zad r5 r3) none fun r6=>
 mo (Zap N r6 5) none fun r7=>
 mo (Zad r7 r6) none fun r8=>
 mo (Zap N r8 10) none fun r9=>
 mo (Zad r9 r8) none fun r10=>
 mo (Zap N r10 20) none fun r11=>
 mo (Zad r11 r10) none fun r12=>
 mo (Zap N r12 10) none fun r13=>
 mo (Zad r13 r8) none fun r14=>
 mo (Zap N r14 50) none fun r15=>
 mo (Zad r15 r14) none fun r16=>
 mo (Zap N r16 100) none fun r17=>
 mo (Zad r17 r16) none fun r18=>
 mo (Zap N r18 50) none fun r19=>
 mo (Zad r19 r14) none fun r20=>
 some (r20,r4)
def Zce(N:Nat)(a:LI):Option (LI):=
 mo (ZcM N a) none fun r1=>
 mo (Zap N r1.1 5) none fun r2=>
 mo (Zad r2 r1.2) none fun r3=>
 some r3
def Zc7(N:Nat)(a:LI):Option (LI):=
 mo (ZcM N a) none fun r1=>
 mo (Zap N r1.1 2) none fun r2=>
 mo (Zad r2 a) none fun r3=>
 some r3
def Zbx(a:LI):LI:=
 [1,0,0,0,0]
def Zb1(a:LI):Bool:=
 (decide ((Zaa a)=[0,0,0,0,0]))
def Zaq(a:LI):Bool:=
 (icmp .eql (ibin .and .u64 (List.getD (Zaa a) 0 0) 1) 1)
def Zbb(a:Int)(b:LI)(c:LI):LI:=
 let x1:=(ineg .u64 (IntKind.wrap .u64 (ibin .and .i64 a 1)))
 let x2:=(List.set b 0 (ibin .or .u64 (ibin .and .u64 (List.getD b 0 0) x1) (ibin .andNot .u64 (List.getD c 0 0) x1)))
 let x3:=(List.set x2 1 (ibin .or .u64 (ibin .and .u64 (List.getD x2 1 0) x1) (ibin .andNot .u64 (List.getD c 1 0) x1)))
 let x4:=(List.set x3 2 (ibin .or .u64 (ibin .and .u64 (List.getD x3 2 0) x1) (ibin .andNot .u64 (List.getD c 2 0) x1)))
 let x5:=(List.set x4 3 (ibin .or .u64 (ibin .and .u64 (List.getD x4 3 0) x1) (ibin .andNot .u64 (List.getD c 3 0) x1)))
 (Zaa (List.set x5 4 (ibin .or .u64 (ibin .and .u64 (List.getD x5 4 0) x1) (ibin .andNot .u64 (List.getD c 4 0) x1))))
def Zas(a:LI):LI:=
 (Zbb (IntKind.wrap .i64 (ibin .and .u64 (List.getD (Zaa a) 0 0) 1)) (Za4 a) a)
def Zdh(a:Int):Option (LI):=
 cond (icmp .lss a 0) (
 some [0,0,0,0,0]
 ) (
 cond (icmp .geq a 7) (
 some [0,0,0,0,0]
 ) (
 cond (decide ((0:Int)≤a∧a<((7:Nat):Int))) (
 some (ZcA (Int.toNat a))
 ) (
 none
 )
 )
 )
def ZbT(N:Nat)(a:LI)(b:LI):Option ((LI×Bool)):=
 mo (ZaB b) none fun r1=>
 mo (Zad r1 b) none fun r2=>
 mo (ZaB r2) none fun r3=>
 mo (Zad r3 b) none fun r4=>
 mo (Zad (Zaa a) r2) none fun r5=>
 mo (Zad (Zaa a) r4) none fun r6=>
 mo (Zc7 N r6) none fun r7=>
 mo (Zad r5 r7) none fun r8=>
 mo (ZaB r8) none fun r9=>
 mo (Zad b r9) none fun r10=>
 let x1:=(decide (r10=(Za4 (Zaa a))))
 cond x1 (
 mo (Zad r8 (ZcA 1)) none fun r11=>
 cond (decide (r10=(Zaa a))) (
 some ((Zas r11),true)
 ) (
 some ((Zas r11),x1)
 )
 ) (
 mo (Zad (Za4 (Zaa a)) (ZcA 1)) none fun r12=>
 cond (decide (r10=r12)) (
 mo (Zad r8 (ZcA 1)) none fun r13=>
 cond (decide (r10=(Zaa a))) (
 some ((Zas r13),true)
 ) (
 some ((Zas r13),x1)
 )
 ) (
 cond (decide (r10=(Zaa a))) (
 some ((Zas r8),true)
 ) (
 some ((Zas r8),x1)
 )
 )
 )
def Zb2(a:(LI×LI×LI×LI)):(LI×LI×LI×LI):=
 cond (decide (a.2.2.1=[0,0,0,0,0])) (
 ([0,0,0,0,0],[1,0,0,0,0],[1,0,0,0,0],[0,0,0,0,0])
 ) (
 (a.1,a.2.1,a.2.2.1,a.2.2.2)
 )
def ZjS(a:(LI×LI×LI×LI)):Option ((LI×LI×LI×LI)):=
 cond (decide (a.2.2.1=[0,0,0,0,0])) (
 some ([0,0,0,0,0],[1,0,0,0,0],[1,0,0,0,0],[0,0,0,0,0])
 ) (
 some (a.1,a.2.1,a.2.2.1,a.2.2.2)
 )
theorem Zts(a:(LI×LI×LI×LI)):ZjS a=some (Zb2 a):=by
 unfold ZjS Zb2
 repeat' (first|refine Zlp ?_ ?_|rfl)
def Zzi(a:LI)(b:LI):Option ((LI×LI×LI×LI)):=
 mo (Zad a b) none fun r1=>
 some (a,b,[1,0,0,0,0],r1)
def Zbc(N:Nat)(a:(LI×LI×LI×LI)):Option ((LI×LI)):=
 mo (Zce N (Zb2 (a.1,a.2.1,a.2.2.1,a.2.2.2)).2.2.1) none fun r1=>
 mo (Zad (Zb2 (a.1,a.2.1,a.2.2.1,a.2.2.2)).1 r1) none fun r2=>
 mo (Zad (Zb2 (a.1,a.2.1,a.2.2.1,a.2.2.2)).2.1 r1) none fun r3=>
 some (r2,r3)
def Zdi(a:LI)(b:LI):Option (((LI×LI×LI×LI)×Int)):=
 mo (ZaB (Zaa a)) none fun r1=>
 mo (ZaB (Zaa b)) none fun r2=>
 mo (Zdh 2) none fun r3=>
 mo (Zad r3 r1) none fun r4=>
 mo (Zad r4 r2) none fun r5=>
 cond (!(decide ((Za3 r2 r1)=(Zbw [1,0,0,0,0] r5)))) (
 some (([0,0,0,0,0],[0,0,0,0,0],[0,0,0,0,0],[0,0,0,0,0]),40)
 ) (
 mo (Zzi (Zaa a) (Zaa b)) none fun r6=>
 some ((r6.1,r6.2.1,r6.2.2.1,r6.2.2.2),0)
 )
def ZbM(a:Bool):Int:=
 cond a (
 1
 ) (
 0
 )
def Ztt(a:Bool):Option (Int):=
 cond a (
 some 1
 ) (
 some 0
 )
theorem ZAC(a:Bool):Ztt a=some (ZbM a):=by
 unfold Ztt ZbM
 repeat' (first|refine Zlp ?_ ?_|rfl)
def ZaV(N:Nat)(a:(LI×LI×LI×LI)):Option (LI):=
 mo (Zbc N (a.1,a.2.1,a.2.2.1,a.2.2.2)) none fun r1=>
 mo (Zad r1.1 r1.2) none fun r2=>
 mo (Zad (Zbw (Zbx r1.1) r1.2) (Za3 (Zbx r1.1) r1.2)) none fun r3=>
 mo (ZaB r2) none fun r4=>
 mo (Zad r3 r4) none fun r5=>
 mo (ZbT N (Zbx r1.1) r5) none fun r6=>
 mo (Zad r6.1 r3) none fun r7=>
 mo (Zad r6.1 r2) none fun r8=>
 mo (Zad r7 r8) none fun r9=>
 mo (Zad r9 r2) none fun r10=>
 mo (Zad r2 r10) none fun r11=>
 mo (Zdh 1) none fun r12=>
 mo (Zad r1.1 r12) none fun r13=>
 mo (Zad r1.2 r12) none fun r14=>
 mo (Zdh 4) none fun r15=>
 mo (Zad r7 r15) none fun r16=>
 mo (Zad (Zbb (ZbM (Zaq r11)) r14 r1.1) r10) none fun r17=>
 let x1:=(Zbb (ZbM (Zaq r11)) r13 r1.2)
 mo (Zad (Zbb (ZbM (Zaq r11)) r16 r8) (Za3 (Zbx r1.1) (Zbb (ZbM (Zaq r17)) (Za4 x1) x1))) none fun r18=>
 some (Zb0 (Zas r18))
def ZaW(N:Nat)(a:(LI×LI×LI×LI))(b:LI):Option (((LI×LI×LI×LI)×Int)):=
 cond (icmp .neq (ZaG b).2 0) (
 some (([0,0,0,0,0],[0,0,0,0,0],[0,0,0,0,0],[0,0,0,0,0]),3)
 ) (
 cond (Zaq (ZaG b).1) (
 some (([0,0,0,0,0],[0,0,0,0,0],[0,0,0,0,0],[0,0,0,0,0]),3)
 ) (
 mo (ZaB (ZaG b).1) none fun r1=>
 mo (Zdh 2) none fun r2=>
 let x1:=(Zbx (ZaG b).1)
 let x2:=(Za3 x1 r1)
 mo (ZaB x2) none fun r3=>
 mo (Zad r2 r3) none fun r4=>
 let x3:=(Zbw x1 r1)
 let x4:=(ZaB x3)
 mo x4 none fun r5=>
 mo x4 none fun r6=>
 let x5:=(Za3 (Za4 r4) r5)
 mo (Zad x5 r6) none fun r7=>
 mo (ZbT N x1 r7) none fun r8=>
 let x6:=(Zad r8.1 x3)
 mo x6 none fun r9=>
 mo (Zad (Zbw (ZaG b).1 (ZaG b).1) r9) none fun r10=>
 mo (Zad x2 r8.1) none fun r11=>
 mo x6 none fun r12=>
 mo (Zad r11 r12) none fun r13=>
 mo (Zad r13 x5) none fun r14=>
 cond (!r8.2) (
 some (([0,0,0,0,0],[0,0,0,0,0],[0,0,0,0,0],[0,0,0,0,0]),50)
 ) (
 mo (Zad (Zas r10) r14) none fun r15=>
 cond (Zaq r15) (
 some (([0,0,0,0,0],[0,0,0,0,0],[0,0,0,0,0],[0,0,0,0,0]),50)
 ) (
 cond (Zb1 r14) (
 some (([0,0,0,0,0],[0,0,0,0,0],[0,0,0,0,0],[0,0,0,0,0]),50)
 ) (
 mo (Zdi (Zas r10) r14) none fun r16=>
 cond (icmp .neq r16.2 0) (
 some (([0,0,0,0,0],[0,0,0,0,0],[0,0,0,0,0],[0,0,0,0,0]),50)
 ) (
 some ((r16.1.1,r16.1.2.1,r16.1.2.2.1,r16.1.2.2.2),0)
 )
 )
 )
 )
 )
 )
def Zb9(N:Nat)(a:(LI×LI×LI×LI))(b:Unit)(m:Unit):Option (LI×Unit):=
 mo (Zbc N (a.1,a.2.1,a.2.2.1,a.2.2.2)) none fun r1=>
 mo (Zad r1.1 r1.2) none fun r2=>
 mo (Zad (Zbw (Zbx r1.1) r1.2) (Za3 (Zbx r1.1) r1.2)) none fun r3=>
 mo (ZaB r2) none fun r4=>
 mo (Zad r3 r4) none fun r5=>
 mo (ZbT N (Zbx r1.1) r5) none fun r6=>
 mo (Zad r6.1 r3) none fun r7=>
 mo (Zad r6.1 r2) none fun r8=>
 mo (Zad r7 r8) none fun r9=>
 mo (Zad r9 r2) none fun r10=>
 mo (Zad r2 r10) none fun r11=>
 mo (Zdh 1) none fun r12=>
 mo (Zad r1.1 r12) none fun r13=>
 mo (Zad r1.2 r12) none fun r14=>
 mo (Zdh 4) none fun r15=>
 mo (Zad r7 r15) none fun r16=>
 mo (Zad (Zbb (ZbM (Zaq r11)) r14 r1.1) r10) none fun r17=>
 let x1:=(Zbb (ZbM (Zaq r11)) r13 r1.2)
 mo (Zad (Zbb (ZbM (Zaq r11)) r16 r8) (Za3 (Zbx r1.1) (Zbb (ZbM (Zaq r17)) (Za4 x1) x1))) none fun r18=>
 some ((Zb0 (Zas r18)),())
def Zca(N:Nat)(a:((LI×LI×LI×LI)×LI))(b:Unit)(m:Unit):Option (((LI×LI×LI×LI)×Int)×Unit):=
 cond (icmp .neq (ZaG a.2).2 0) (
 some ((([0,0,0,0,0],[0,0,0,0,0],[0,0,0,0,0],[0,0,0,0,0]),3),())
 ) (
 cond (Zaq (ZaG a.2).1) (
 some ((([0,0,0,0,0],[0,0,0,0,0],[0,0,0,0,0],[0,0,0,0,0]),3),())
 ) (
 mo (ZaB (ZaG a.2).1) none fun r1=>
 mo (Zdh 2) none fun r2=>
 let x1:=(Zbx (ZaG a.2).1)
 let x2:=(Za3 x1 r1)
 mo (ZaB x2) none fun r3=>
 mo (Zad r2 r3) none fun r4=>
 let x3:=(Zbw x1 r1)
 let x4:=(ZaB x3)
 mo x4 none fun r5=>
 mo x4 none fun r6=>
 let x5:=(Za3 (Za4 r4) r5)
 mo (Zad x5 r6) none fun r7=>
 mo (ZbT N x1 r7) none fun r8=>
 let x6:=(Zad r8.1 x3)
 mo x6 none fun r9=>
 mo (Zad (Zbw (ZaG a.2).1 (ZaG a.2).1) r9) none fun r10=>
 mo (Zad x2 r8.1) none fun r11=>
 mo x6 none fun r12=>
 mo (Zad r11 r12) none fun r13=>
 mo (Zad r13 x5) none fun r14=>
 cond (!r8.2) (
 some ((([0,0,0,0,0],[0,0,0,0,0],[0,0,0,0,0],[0,0,0,0,0]),50),())
 ) (
 mo (Zad (Zas r10) r14) none fun r15=>
 cond (Zaq r15) (
 some ((([0,0,0,0,0],[0,0,0,0,0],[0,0,0,0,0],[0,0,0,0,0]),50),())
 ) (
 cond (Zb1 r14) (
 some ((([0,0,0,0,0],[0,0,0,0,0],[0,0,0,0,0],[0,0,0,0,0]),50),())
 ) (
 mo (Zdi (Zas r10) r14) none fun r16=>
 cond (icmp .neq r16.2 0) (
 some ((([0,0,0,0,0],[0,0,0,0,0],[0,0,0,0,0],[0,0,0,0,0]),50),())
 ) (
 some (((r16.1.1,r16.1.2.1,r16.1.2.2.1,r16.1.2.2.2),0),())
 )
 )
 )
 )
 )
 )
def ZcN(a:LI)(b:LI):Bool:=
 cond (icmp .neq (List.getD a 9 0) (List.getD b 9 0)) (
 (icmp .lss (List.getD a 9 0) (List.getD b 9 0))
 ) (
 cond (icmp .neq (List.getD a 8 0) (List.getD b 8 0)) (
 (icmp .lss (List.getD a 8 0) (List.getD b 8 0))
 ) (
 cond (icmp .neq (List.getD a 7 0) (List.getD b 7 0)) (
 (icmp .lss (List.getD a 7 0) (List.getD b 7 0))
 ) (
 cond (icmp .neq (List.getD a 6 0) (List.getD b 6 0)) (
 (icmp .lss (List.getD a 6 0) (List.getD b 6 0))
 ) (
 cond (icmp .neq (List.getD a 5 0) (List.getD b 5 0)) (
 (icmp .lss (List.getD a 5 0) (List.getD b 5 0))
 ) (
 cond (icmp .neq (List.getD a 4 0) (List.getD b 4 0)) (
 (icmp .lss (List.getD a 4 0) (List.getD b 4 0))
 ) (
 cond (icmp .neq (List.getD a 3 0) (List.getD b 3 0)) (
 (icmp .lss (List.getD a 3 0) (List.getD b 3 0))
 ) (
 cond (icmp .neq (List.getD a 2 0) (List.getD b 2 0)) (
 (icmp .lss (List.getD a 2 0) (List.getD b 2 0))
 ) (
 cond (icmp .neq (List.getD a 1 0) (List.getD b 1 0)) (
 (icmp .lss (List.getD a 1 0) (List.getD b 1 0))
 ) (
 cond (icmp .neq (List.getD a 0 0) (List.getD b 0 0)) (
 (icmp .lss (List.getD a 0 0) (List.getD b 0 0))
 ) (
 false
 )
 )
 )
 )
 )
 )
 )
 )
 )
 )
def ZlT(a:LI)(b:LI):Option (Bool):=
 cond (icmp .neq (List.getD a 9 0) (List.getD b 9 0)) (
 some (icmp .lss (List.getD a 9 0) (List.getD b 9 0))
 ) (
 cond (icmp .neq (List.getD a 8 0) (List.getD b 8 0)) (
 some (icmp .lss (List.getD a 8 0) (List.getD b 8 0))
 ) (
 cond (icmp .neq (List.getD a 7 0) (List.getD b 7 0)) (
 some (icmp .lss (List.getD a 7 0) (List.getD b 7 0))
 ) (
 cond (icmp .neq (List.getD a 6 0) (List.getD b 6 0)) (
 some (icmp .lss (List.getD a 6 0) (List.getD b 6 0))
 ) (
 cond (icmp .neq (List.getD a 5 0) (List.getD b 5 0)) (
 some (icmp .lss (List.getD a 5 0) (List.getD b 5 0))
 ) (
 cond (icmp .neq (List.getD a 4 0) (List.getD b 4 0)) (
 some (icmp .lss (List.getD a 4 0) (List.getD b 4 0))
 ) (
 cond (icmp .neq (List.getD a 3 0) (List.getD b 3 0)) (
 some (icmp .lss (List.getD a 3 0) (List.getD b 3 0))
 ) (
 cond (icmp .neq (List.getD a 2 0) (List.getD b 2 0)) (
 some (icmp .lss (List.getD a 2 0) (List.getD b 2 0))
 ) (
 cond (icmp .neq (List.getD a 1 0) (List.getD b 1 0)) (
 some (icmp .lss (List.getD a 1 0) (List.getD b 1 0))
 ) (
 cond (icmp .neq (List.getD a 0 0) (List.getD b 0 0)) (
 some (icmp .lss (List.getD a 0 0) (List.getD b 0 0))
 ) (
 some false
 )
 )
 )
 )
 )
 )
 )
 )
 )
 )
theorem Zvz(a:LI)(b:LI):ZlT a b=some (ZcN a b):=by
 unfold ZlT ZcN
 repeat' (first|refine Zlp ?_ ?_|rfl)
def ZbU(a:LI)(b:LI):LI:=
 let x1:=(ibin .sub .i64 (ibin .add .i64 0 (List.getD a 0 0)) (List.getD b 0 0))
 let x2:=(ibin .sub .i64 (ibin .add .i64 (ibin .shr .i64 x1 26) (List.getD a 1 0)) (List.getD b 1 0))
 let x3:=(ibin .sub .i64 (ibin .add .i64 (ibin .shr .i64 x2 26) (List.getD a 2 0)) (List.getD b 2 0))
 let x4:=(ibin .sub .i64 (ibin .add .i64 (ibin .shr .i64 x3 26) (List.getD a 3 0)) (List.getD b 3 0))
 let x5:=(ibin .sub .i64 (ibin .add .i64 (ibin .shr .i64 x4 26) (List.getD a 4 0)) (List.getD b 4 0))
 let x6:=(ibin .sub .i64 (ibin .add .i64 (ibin .shr .i64 x5 26) (List.getD a 5 0)) (List.getD b 5 0))
 let x7:=(ibin .sub .i64 (ibin .add .i64 (ibin .shr .i64 x6 26) (List.getD a 6 0)) (List.getD b 6 0))
 let x8:=(ibin .sub .i64 (ibin .add .i64 (ibin .shr .i64 x7 26) (List.getD a 7 0)) (List.getD b 7 0))
 let x9:=(ibin .sub .i64 (ibin .add .i64 (ibin .shr .i64 x8 26) (List.getD a 8 0)) (List.getD b 8 0))
 [(ibin .and .i64 x1 67108863),(ibin .and .i64 x2 67108863),(ibin .and .i64 x3 67108863),(ibin .and .i64 x4 67108863),(ibin .and .i64 x5 67108863),(ibin .and .i64 x6 67108863),(ibin .and .i64 x7 67108863),(ibin .and .i64 x8 67108863),(ibin .and .i64 x9 67108863),(ibin .and .i64 (ibin .sub .i64 (ibin .add .i64 (ibin .shr .i64 x9 26) (List.getD a 9 0)) (List.getD b 9 0)) 67108863)]
def ZaS(N:Nat)(v:(Unit×Int×Unit×Bool)×(Unit×Unit×LI)):Option (((Unit×Int×Unit×Bool)×(Unit×Unit×LI)) ⊕ (((Unit×Unit)×(Unit×Unit×LI)) ⊕ (Unit×Unit))):=
 cond v.1.2.2.2 (
 let x1:=(List.set v.2.2.2 0 (ibin .add .i64 (List.getD v.2.2.2 0 0) v.1.2.1))
 let x2:=(ibin .add .i64 0 (List.getD x1 0 0))
 let x3:=(List.set x1 0 (ibin .and .i64 x2 67108863))
 let x4:=(ibin .add .i64 (ibin .shr .i64 x2 26) (List.getD x3 1 0))
 let x5:=(List.set x3 1 (ibin .and .i64 x4 67108863))
 let x6:=(ibin .add .i64 (ibin .shr .i64 x4 26) (List.getD x5 2 0))
 let x7:=(List.set x5 2 (ibin .and .i64 x6 67108863))
 let x8:=(ibin .add .i64 (ibin .shr .i64 x6 26) (List.getD x7 3 0))
 let x9:=(List.set x7 3 (ibin .and .i64 x8 67108863))
 let x10:=(ibin .add .i64 (ibin .shr .i64 x8 26) (List.getD x9 4 0))
 let x11:=(List.set x9 4 (ibin .and .i64 x10 67108863))
 let x12:=(ibin .add .i64 (ibin .shr .i64 x10 26) (List.getD x11 5 0))
 let x13:=(List.set x11 5 (ibin .and .i64 x12 67108863))
 let x14:=(ibin .add .i64 (ibin .shr .i64 x12 26) (List.getD x13 6 0))
 let x15:=(List.set x13 6 (ibin .and .i64 x14 67108863))
 let x16:=(ibin .add .i64 (ibin .shr .i64 x14 26) (List.getD x15 7 0))
 let x17:=(List.set x15 7 (ibin .and .i64 x16 67108863))
 let x18:=(ibin .add .i64 (ibin .shr .i64 x16 26) (List.getD x17 8 0))
 let x19:=(List.set x17 8 (ibin .and .i64 x18 67108863))
 let x20:=(ibin .add .i64 (ibin .shr .i64 x18 26) (List.getD x19 9 0))
 let x21:=(List.set x19 9 (ibin .and .i64 x20 67108863))
 let x22:=(List.getD x21 9 0)
 let x23:=(ibin .add .i64 (ibin .mul .i64 608 (ibin .shr .i64 x20 26)) (ibin .mul .i64 19 (ibin .quo .i64 x22 2097152)))
 some (.inl (((),x23,(),(icmp .gtr x23 0)),((),(),(List.set x21 9 (ibin .rem .i64 x22 2097152)))))
 ) (
 some (.inr (.inl (((),()),((),(),v.2.2.2))))
 )
def Zbg(N:Nat)(a:LI):Option (LI):=
 let x1:=(ibin .add .i64 0 (List.getD a 0 0))
 let x2:=(List.set a 0 (ibin .and .i64 x1 67108863))
 let x3:=(ibin .add .i64 (ibin .shr .i64 x1 26) (List.getD x2 1 0))
 let x4:=(List.set x2 1 (ibin .and .i64 x3 67108863))
 let x5:=(ibin .add .i64 (ibin .shr .i64 x3 26) (List.getD x4 2 0))
 let x6:=(List.set x4 2 (ibin .and .i64 x5 67108863))
 let x7:=(ibin .add .i64 (ibin .shr .i64 x5 26) (List.getD x6 3 0))
 let x8:=(List.set x6 3 (ibin .and .i64 x7 67108863))
 let x9:=(ibin .add .i64 (ibin .shr .i64 x7 26) (List.getD x8 4 0))
 let x10:=(List.set x8 4 (ibin .and .i64 x9 67108863))
 let x11:=(ibin .add .i64 (ibin .shr .i64 x9 26) (List.getD x10 5 0))
 let x12:=(List.set x10 5 (ibin .and .i64 x11 67108863))
 let x13:=(ibin .add .i64 (ibin .shr .i64 x11 26) (List.getD x12 6 0))
 let x14:=(List.set x12 6 (ibin .and .i64 x13 67108863))
 let x15:=(ibin .add .i64 (ibin .shr .i64 x13 26) (List.getD x14 7 0))
 let x16:=(List.set x14 7 (ibin .and .i64 x15 67108863))
 let x17:=(ibin .add .i64 (ibin .shr .i64 x15 26) (List.getD x16 8 0))
 let x18:=(List.set x16 8 (ibin .and .i64 x17 67108863))
 let x19:=(ibin .add .i64 (ibin .shr .i64 x17 26) (List.getD x18 9 0))
 let x20:=(List.set x18 9 (ibin .and .i64 x19 67108863))
 let x21:=(ibin .add .i64 (ibin .shr .i64 x19 26) (List.getD x20 10 0))
 let x22:=(List.set x20 10 (ibin .and .i64 x21 67108863))
 let x23:=(ibin .add .i64 (ibin .shr .i64 x21 26) (List.getD x22 11 0))
 let x24:=(List.set x22 11 (ibin .and .i64 x23 67108863))
 let x25:=(ibin .add .i64 (ibin .shr .i64 x23 26) (List.getD x24 12 0))
 let x26:=(List.set x24 12 (ibin .and .i64 x25 67108863))
 let x27:=(ibin .add .i64 (ibin .shr .i64 x25 26) (List.getD x26 13 0))
 let x28:=(List.set x26 13 (ibin .and .i64 x27 67108863))
 let x29:=(ibin .add .i64 (ibin .shr .i64 x27 26) (List.getD x28 14 0))
 let x30:=(List.set x28 14 (ibin .and .i64 x29 67108863))
 let x31:=(ibin .add .i64 (ibin .shr .i64 x29 26) (List.getD x30 15 0))
 let x32:=(List.set x30 15 (ibin .and .i64 x31 67108863))
 let x33:=(ibin .add .i64 (ibin .shr .i64 x31 26) (List.getD x32 16 0))
 let x34:=(List.set x32 16 (ibin .and .i64 x33 67108863))
 let x35:=(ibin .add .i64 (ibin .shr .i64 x33 26) (List.getD x34 17 0))
 let x36:=(List.set x34 17 (ibin .and .i64 x35 67108863))
 let x37:=(ibin .add .i64 (ibin .shr .i64 x35 26) (List.getD x36 18 0))
 let x38:=(List.set x36 18 (ibin .and .i64 x37 67108863))
 let x39:=(List.set x38 19 (ibin .and .i64 (ibin .add .i64 (ibin .shr .i64 x37 26) (List.getD x38 19 0)) 67108863))
 mo (loopF (ZaS N) N (((),0,(),true),((),(),[(ibin .add .i64 (List.getD x39 0 0) (ibin .mul .i64 608 (List.getD x39 10 0))),(ibin .add .i64 (List.getD x39 1 0) (ibin .mul .i64 608 (List.getD x39 11 0))),(ibin .add .i64 (List.getD x39 2 0) (ibin .mul .i64 608 (List.getD x39 12 0))),(ibin .add .i64 (List.getD x39 3 0) (ibin .mul .i64 608 (List.getD x39 13 0))),(ibin .add .i64 (List.getD x39 4 0) (ibin .mul .i64 608 (List.getD x39 14 0))),(ibin .add .i64 (List.getD x39 5 0) (ibin .mul .i64 608 (List.getD x39 15 0))),(ibin .add .i64 (List.getD x39 6 0) (ibin .mul .i64 608 (List.getD x39 16 0))),(ibin .add .i64 (List.getD x39 7 0) (ibin .mul .i64 608 (List.getD x39 17 0))),(ibin .add .i64 (List.getD x39 8 0) (ibin .mul .i64 608 (List.getD x39 18 0))),(ibin .add .i64 (List.getD x39 9 0) (ibin .mul .i64 608 (List.getD x39 19 0)))]))) none fun r5=>
 match r5 with
 | .inl u6=>(
 cond (!(ZcN u6.2.2.2 [67108845,67108863,67108863,67108863,67108863,67108863,67108863,67108863,67108863,2097151])) (
 some (ZbU u6.2.2.2 [67108845,67108863,67108863,67108863,67108863,67108863,67108863,67108863,67108863,2097151])
 ) (
 some u6.2.2.2
 )
 )
 | .inr _=>(
 none
 )
def ZbB(N:Nat)(a:LI)(b:LI):Option (LI):=
 mo (Zbg N [(ibin .add .i64 (List.getD a 0 0) (List.getD b 0 0)),(ibin .add .i64 (List.getD a 1 0) (List.getD b 1 0)),(ibin .add .i64 (List.getD a 2 0) (List.getD b 2 0)),(ibin .add .i64 (List.getD a 3 0) (List.getD b 3 0)),(ibin .add .i64 (List.getD a 4 0) (List.getD b 4 0)),(ibin .add .i64 (List.getD a 5 0) (List.getD b 5 0)),(ibin .add .i64 (List.getD a 6 0) (List.getD b 6 0)),(ibin .add .i64 (List.getD a 7 0) (List.getD b 7 0)),(ibin .add .i64 (List.getD a 8 0) (List.getD b 8 0)),(ibin .add .i64 (List.getD a 9 0) (List.getD b 9 0)),0,0,0,0,0,0,0,0,0,0]) none fun r1=>
 some r1
def Zat(a:LI):LI:=
 cond (decide (a=[0,0,0,0,0,0,0,0,0,0])) (
 a
 ) (
 (ZbU [67108845,67108863,67108863,67108863,67108863,67108863,67108863,67108863,67108863,2097151] a)
 )
def ZlW(a:LI):Option (LI):=
 cond (decide (a=[0,0,0,0,0,0,0,0,0,0])) (
 some a
 ) (
 some (ZbU [67108845,67108863,67108863,67108863,67108863,67108863,67108863,67108863,67108863,2097151] a)
 )
theorem ZvA(a:LI):ZlW a=some (Zat a):=by
 unfold ZlW Zat
 repeat' (first|refine Zlp ?_ ?_|rfl)
def Zcb(N:Nat)(a:LI)(b:LI):Option (LI):=
 mo (ZbB N a (Zat b)) none fun r1=>
 some r1
def Zam(N:Nat)(a:LI)(b:LI):Option (LI):=
 mo (Zbg N [(ibin .add .i64 0 (ibin .mul .i64 (List.getD a 0 0) (List.getD b 0 0))),(ibin .add .i64 (ibin .add .i64 0 (ibin .mul .i64 (List.getD a 0 0) (List.getD b 1 0))) (ibin .mul .i64 (List.getD a 1 0) (List.getD b 0 0))),(ibin .add .i64 (ibin .add .i64 (ibin .add .i64 0 (ibin .mul .i64 (List.getD a 0 0) (List.getD b 2 0))) (ibin .mul .i64 (List.getD a 1 0) (List.getD b 1 0))) (ibin .mul .i64 (List.getD a 2 0) (List.getD b 0 0))),(ibin .add .i64 (ibin .add .i64 (ibin .add .i64 (ibin .add .i64 0 (ibin .mul .i64 (List.getD a 0 0) (List.getD b 3 0))) (ibin .mul .i64 (List.getD a 1 0) (List.getD b 2 0))) (ibin .mul .i64 (List.getD a 2 0) (List.getD b 1 0))) (ibin .mul .i64 (List.getD a 3 0) (List.getD b 0 0))),(ibin .add .i64 (ibin .add .i64 (ibin .add .i64 (ibin .add .i64 (ibin .add .i64 0 (ibin .mul .i64 (List.getD a 0 0) (List.getD b 4 0))) (ibin .mul .i64 (List.getD a 1 0) (List.getD b 3 0))) (ibin .mul .i64 (List.getD a 2 0) (List.getD b 2 0))) (ibin .mul .i64 (List.getD a 3 0) (List.getD b 1 0))) (ibin .mul .i64 (List.getD a 4 0) (List.getD b 0 0))),(ibin .add .i64 (ibin .add .i64 (ibin .add .i64 (ibin .add .i64 (ibin .add .i64 (ibin .add .i64 0 (ibin .mul .i64 (List.getD a 0 0) (List.getD b 5 0))) (ibin .mul .i64 (List.getD a 1 0) (List.getD b 4 0))) (ibin .mul .i64 (List.getD a 2 0) (List.getD b 3 0))) (ibin .mul .i64 (List.getD a 3 0) (List.getD b 2 0))) (ibin .mul .i64 (List.getD a 4 0) (List.getD b 1 0))) (ibin .mul .i64 (List.getD a 5 0) (List.getD b 0 0))),(ibin .add .i64 (ibin .add .i64 (ibin .add .i64 (ibin .add .i64 (ibin .add .i64 (ibin .add .i64 (ibin .add .i64 0 (ibin .mul .i64 (List.getD a 0 0) (List.getD b 6 0))) (ibin .mul .i64 (List.getD a 1 0) (List.getD b 5 0))) (ibin .mul .i64 (List.getD a 2 0) (List.getD b 4 0))) (ibin .mul .i64 (List.getD a 3 0) (List.getD b 3 0))) (ibin .mul .i64 (List.getD a 4 0) (List.getD b 2 0))) (ibin .mul .i64 (List.getD a 5 0) (List.getD b 1 0))) (ibin .mul .i64 (List.getD a 6 0) (List.getD b 0 0))),(ibin .add .i64 (ibin .add .i64 (ibin .add .i64 (ibin .add .i64 (ibin .add .i64 (ibin .add .i64 (ibin .add .i64 (ibin .add .i64 0 (ibin .mul .i64 (List.getD a 0 0) (List.getD b 7 0))) (ibin .mul .i64 (List.getD a 1 0) (List.getD b 6 0))) (ibin .mul .i64 (List.getD a 2 0) (List.getD b 5 0))) (ibin .mul .i64 (List.getD a 3 0) (List.getD b 4 0))) (ibin .mul .i64 (List.getD a 4 0) (List.getD b 3 0))) (ibin .mul .i64 (List.getD a 5 0) (List.getD b 2 0))) (ibin .mul .i64 (List.getD a 6 0) (List.getD b 1 0))) (ibin .mul .i64 (List.getD a 7 0) (List.getD b 0 0))),(ibin .add .i64 (ibin .add .i64 (ibin .add .i64 (ibin .add .i64 (ibin .add .i64 (ibin .add .i64 (ibin .add .i64 (ibin .add .i64 (ibin .add .i64 0 (ibin .mul .i64 (List.getD a 0 0) (List.getD b 8 0))) (ibin .mul .i64 (List.getD a 1 0) (List.getD b 7 0))) (ibin .mul .i64 (List.getD a 2 0) (List.getD b 6 0))) (ibin .mul .i64 (List.getD a 3 0) (List.getD b 5 0))) (ibin .mul .i64 (List.getD a 4 0) (List.getD b 4 0))) (ibin .mul .i64 (List.getD a 5 0) (List.getD b 3 0))) (ibin .mul .i64 (List.getD a 6 0) (List.getD b 2 0))) (ibin .mul .i64 (List.getD a 7 0) (List.getD b 1 0))) (ibin .mul .i64 (List.getD a 8 0) (List.getD b 0 0))),(ibin .add .i64 (ibin .add .i64 (ibin .add .i64 (ibin .add .i64 (ibin .add .i64 (ibin .add .i64 (ibin .add .i64 (ibin .add .i64 (ibin .add .i64 (ibin .add .i64 0 (ibin .mul .i64 (List.getD a 0 0) (List.getD b 9 0))) (ibin .mul .i64 (List.getD a 1 0) (List.getD b 8 0))) (ibin .mul .i64 (List.getD a 2 0) (List.getD b 7 0))) (ibin .mul .i64 (List.getD a 3 0) (List.getD b 6 0))) (ibin .mul .i64 (List.getD a 4 0) (List.getD b 5 0))) (ibin .mul .i64 (List.getD a 5 0) (List.getD b 4 0))) (ibin .mul .i64 (List.getD a 6 0) (List.getD b 3 0))) (ibin .mul .i64 (List.getD a 7 0) (List.getD b 2 0))) (ibin .mul .i64 (List.getD a 8 0) (List.getD b 1 0))) (ibin .mul .i64 (List.getD a 9 0) (List.getD b 0 0))),(ibin .add .i64 (ibin .add .i64 (ibin .add .i64 (ibin .add .i64 (ibin .add .i64 (ibin .add .i64 (ibin .add .i64 (ibin .add .i64 (ibin .add .i64 0 (ibin .mul .i64 (List.getD a 1 0) (List.getD b 9 0))) (ibin .mul .i64 (List.getD a 2 0) (List.getD b 8 0))) (ibin .mul .i64 (List.getD a 3 0) (List.getD b 7 0))) (ibin .mul .i64 (List.getD a 4 0) (List.getD b 6 0))) (ibin .mul .i64 (List.getD a 5 0) (List.getD b 5 0))) (ibin .mul .i64 (List.getD a 6 0) (List.getD b 4 0))) (ibin .mul .i64 (List.getD a 7 0) (List.getD b 3 0))) (ibin .mul .i64 (List.getD a 8 0) (List.getD b 2 0))) (ibin .mul .i64 (List.getD a 9 0) (List.getD b 1 0))),(ibin .add .i64 (ibin .add .i64 (ibin .add .i64 (ibin .add .i64 (ibin .add .i64 (ibin .add .i64 (ibin .add .i64 (ibin .add .i64 0 (ibin .mul .i64 (List.getD a 2 0) (List.getD b 9 0))) (ibin .mul .i64 (List.getD a 3 0) (List.getD b 8 0))) (ibin .mul .i64 (List.getD a 4 0) (List.getD b 7 0))) (ibin .mul .i64 (List.getD a 5 0) (List.getD b 6 0))) (ibin .mul .i64 (List.getD a 6 0) (List.getD b 5 0))) (ibin .mul .i64 (List.getD a 7 0) (List.getD b 4 0))) (ibin .mul .i64 (List.getD a 8 0) (List.getD b 3 0))) (ibin .mul .i64 (List.getD a 9 0) (List.getD b 2 0))),(ibin .add .i64 (ibin .add .i64 (ibin .add .i64 (ibin .add .i64 (ibin .add .i64 (ibin .add .i64 (ibin .add .i64 0 (ibin .mul .i64 (List.getD a 3 0) (List.getD b 9 0))) (ibin .mul .i64 (List.getD a 4 0) (List.getD b 8 0))) (ibin .mul .i64 (List.getD a 5 0) (List.getD b 7 0))) (ibin .mul .i64 (List.getD a 6 0) (List.getD b 6 0))) (ibin .mul .i64 (List.getD a 7 0) (List.getD b 5 0))) (ibin .mul .i64 (List.getD a 8 0) (List.getD b 4 0))) (ibin .mul .i64 (List.getD a 9 0) (List.getD b 3 0))),(ibin .add .i64 (ibin .add .i64 (ibin .add .i64 (ibin .add .i64 (ibin .add .i64 (ibin .add .i64 0 (ibin .mul .i64 (List.getD a 4 0) (List.getD b 9 0))) (ibin .mul .i64 (List.getD a 5 0) (List.getD b 8 0))) (ibin .mul .i64 (List.getD a 6 0) (List.getD b 7 0))) (ibin .mul .i64 (List.getD a 7 0) (List.getD b 6 0))) (ibin .mul .i64 (List.getD a 8 0) (List.getD b 5 0))) (ibin .mul .i64 (List.getD a 9 0) (List.getD b 4 0))),(ibin .add .i64 (ibin .add .i64 (ibin .add .i64 (ibin .add .i64 (ibin .add .i64 0 (ibin .mul .i64 (List.getD a 5 0) (List.getD b 9 0))) (ibin .mul .i64 (List.getD a 6 0) (List.getD b 8 0))) (ibin .mul .i64 (List.getD a 7 0) (List.getD b 7 0))) (ibin .mul .i64 (List.getD a 8 0) (List.getD b 6 0))) (ibin .mul .i64 (List.getD a 9 0) (List.getD b 5 0))),(ibin .add .i64 (ibin .add .i64 (ibin .add .i64 (ibin .add .i64 0 (ibin .mul .i64 (List.getD a 6 0) (List.getD b 9 0))) (ibin .mul .i64 (List.getD a 7 0) (List.getD b 8 0))) (ibin .mul .i64 (List.getD a 8 0) (List.getD b 7 0))) (ibin .mul .i64 (List.getD a 9 0) (List.getD b 6 0))),(ibin .add .i64 (ibin .add .i64 (ibin .add .i64 0 (ibin .mul .i64 (List.getD a 7 0) (List.getD b 9 0))) (ibin .mul .i64 (List.getD a 8 0) (List.getD b 8 0))) (ibin .mul .i64 (List.getD a 9 0) (List.getD b 7 0))),(ibin .add .i64 (ibin .add .i64 0 (ibin .mul .i64 (List.getD a 8 0) (List.getD b 9 0))) (ibin .mul .i64 (List.getD a 9 0) (List.getD b 8 0))),(ibin .add .i64 0 (ibin .mul .i64 (List.getD a 9 0) (List.getD b 9 0))),0]) none fun r1=>
 some r1
def Zbq(N:Nat)(v:(Int×Unit×Unit×Unit×Unit×Int)×(LI×Unit×LI×LI)):Option (((Int×Unit×Unit×Unit×Unit×Int)×(LI×Unit×LI×LI)) ⊕ (((Int×Unit×Unit×Unit×Unit)×(LI×Unit×LI×LI)) ⊕ (Unit×Unit))):=
 cond (icmp .lss v.1.2.2.2.2.2 (ibin .quo .i64 v.1.1 2)) (
 mo (Zam N v.2.2.2.2 v.2.2.2.2) none fun r11=>
 some (.inl ((v.1.1,(),(),(),(),(ibin .add .i64 v.1.2.2.2.2.2 1)),(v.2.1,(),v.2.2.2.1,r11)))
 ) (
 some (.inr (.inl ((v.1.1,(),(),(),()),(v.2.1,(),v.2.2.2.1,v.2.2.2.2))))
 )
def ZbQ(rec:LI→Int→Option (LI))(N:Nat)(a:LI)(b:Int):Option (LI):=
 cond (icmp .eql b 1) (
 some a
 ) (
 mo (rec a (ibin .quo .i64 b 2)) none fun r1=>
 mo (loopF (Zbq N) N ((b,(),(),(),(),0),(a,(),r1,r1))) none fun r12=>
 match r12 with
 | .inl u13=>(
 mo (Zam N u13.2.2.2.2 u13.2.2.2.1) none fun r14=>
 cond (icmp .eql (ibin .rem .i64 u13.1.1 2) 1) (
 mo (Zam N r14 r14) none fun r15=>
 mo (Zam N r15 u13.2.1) none fun r16=>
 some r16
 ) (
 some r14
 )
 )
 | .inr _=>(
 none
 )
 )
def Zcc(N:Nat):Nat→LI→Int→Option (LI)
 |0=>fun _ _=>none
 |m+1=>ZbQ (Zcc N m) N
def Zdj(N:Nat)(a:LI)(b:Int):Option (LI):=Zcc N N a b
def ZbP(N:Nat)(a:LI):Option (LI):=
 mo (Zdj N a 250) none fun r1=>
 mo (Zam N r1 r1) none fun r2=>
 mo (Zam N r2 r2) none fun r3=>
 mo (Zam N r3 r3) none fun r4=>
 mo (Zam N r4 r4) none fun r5=>
 mo (Zam N r5 r5) none fun r6=>
 mo (Zam N a a) none fun r7=>
 mo (Zam N r7 r7) none fun r8=>
 mo (Zam N r8 r7) none fun r9=>
 mo (Zam N r9 r7) none fun r10=>
 mo (Zam N r6 r10) none fun r11=>
 mo (Zam N r11 r7) none fun r12=>
 mo (Zam N r12 a) none fun r13=>
 some r13
def Zbh(a:LI):Bool:=
 (icmp .eql (ibin .and .i64 (List.getD a 0 0) 1) 1)
def Zcp(a:LI):LI:=
 cond (icmp .eql (ibin .and .i64 (List.getD a 0 0) 1) 1) (
 (Zat a)
 ) (
 a
 )
def ZlX(a:LI):Option (LI):=
 cond (icmp .eql (ibin .and .i64 (List.getD a 0 0) 1) 1) (
 some (Zat a)
 ) (
 some a
 )
theorem ZvB(a:LI):ZlX a=some (Zcp a):=by
 unfold ZlX Zcp
 repeat' (first|refine Zlp ?_ ?_|rfl)
def Zfo:LI:=
 [34513072,59165138,38243406,1750207,53429016,58652137,13633939,58469549,8409025,712905]
def ZlY:LI:=
 [56195235,47411844,25868126,20251911,28682,31357478,7604119,66702899,15608687,1343707]
def ZcJ(N:Nat)(a:LI):Option ((LI×Bool)):=
 mo (Zdj N a 251) none fun r1=>
 mo (Zam N r1 r1) none fun r2=>
 mo (Zam N r2 r2) none fun r3=>
 cond (decide (r3=a)) (
 some ((Zcp r2),true)
 ) (
 mo (Zam N r2 Zfo) none fun r4=>
 mo (Zam N r4 r4) none fun r5=>
 cond (decide (r5=a)) (
 some ((Zcp r4),true)
 ) (
 mo (Zam N r4 Zfo) none fun r6=>
 some ([0,0,0,0,0,0,0,0,0,0],false)
 )
 )
def Zbr(N:Nat)(a:LI)(b:LI):Option ((LI×Bool)):=
 cond (decide (a=[0,0,0,0,0,0,0,0,0,0])) (
 some ([0,0,0,0,0,0,0,0,0,0],true)
 ) (
 cond (decide (b=[0,0,0,0,0,0,0,0,0,0])) (
 some ([0,0,0,0,0,0,0,0,0,0],false)
 ) (
 mo (ZbP N b) none fun r1=>
 mo (Zam N a r1) none fun r2=>
 mo (ZcJ N r2) none fun r3=>
 cond r3.2 (
 some (r3.1,true)
 ) (
 mo (Zam N r2 Zfo) none fun r4=>
 mo (ZcJ N r4) none fun r5=>
 some (r5.1,false)
 )
 )
 )
def Zbl(N:Nat)(v:(Unit×Unit×Unit×Int)×(LI×Unit×LI)):Option (((Unit×Unit×Unit×Int)×(LI×Unit×LI)) ⊕ (((Unit×Unit)×(Unit×LI)) ⊕ (Unit×Unit))):=
 cond (icmp .lss v.1.2.2.2 255) (
 let x1:=(ibin .quo .i64 v.1.2.2.2 26)
 cond (decide ((0:Int)≤x1∧x1<((10:Nat):Int))) (
 let x2:=(ibin .rem .i64 v.1.2.2.2 26)
 cond (decide ((0:Int)≤x2)) (
 cond (icmp .eql (ibin .and .i64 (ibin .shr .i64 (List.getD v.2.1 (Int.toNat x1) 0) x2) 1) 1) (
 let x3:=(ibin .quo .i64 v.1.2.2.2 8)
 let x4:=(decide ((0:Int)≤x3∧x3<((32:Nat):Int)))
 cond x4 (
 let x5:=(ibin .rem .i64 v.1.2.2.2 8)
 cond (decide ((0:Int)≤x5)) (
 cond x4 (
 some (.inl (((),(),(),(ibin .add .i64 v.1.2.2.2 1)),(v.2.1,(),(List.set v.2.2.2 (Int.toNat x3) (ibin .add .u8 (List.getD v.2.2.2 (Int.toNat x3) 0) (ibin .shl .u8 1 x5))))))
 ) (
 none
 )
 ) (
 none
 )
 ) (
 none
 )
 ) (
 some (.inl (((),(),(),(ibin .add .i64 v.1.2.2.2 1)),(v.2.1,(),v.2.2.2)))
 )
 ) (
 none
 )
 ) (
 none
 )
 ) (
 some (.inr (.inl (((),()),((),v.2.2.2))))
 )
def ZaT(N:Nat)(a:LI):Option (LI):=
 mo (loopF (Zbl N) N (((),(),(),0),(a,(),[0,0,0,0,0,0,0,0,0,0,0,0,0,0,0,0,0,0,0,0,0,0,0,0,0,0,0,0,0,0,0,0]))) none fun r5=>
 match r5 with
 | .inl u6=>(
 some u6.2.2
 )
 | .inr _=>(
 none
 )
def Za5(N:Nat)(v:(Nat×Unit×Unit×Int)×((Nat×LI)×Unit×LI)):Option (((Nat×Unit×Unit×Int)×((Nat×LI)×Unit×LI)) ⊕ (((Unit×Unit)×(Unit×LI)) ⊕ (Unit×Unit))):=
 cond (icmp .lss v.1.2.2.2 (ibin .mul .i64 8 ((v.1.1:Nat):Int))) (
 let x1:=(ibin .quo .i64 v.1.2.2.2 8)
 cond (decide ((0:Int)≤x1∧x1<((v.1.1:Nat):Int))) (
 let x2:=(ibin .rem .i64 v.1.2.2.2 8)
 cond (decide ((0:Int)≤x2)) (
 cond (icmp .eql (ibin .and .u8 (ibin .shr .u8 (List.getD v.2.1.2 (Int.toNat x1) 0) x2) 1) 1) (
 let x3:=(ibin .quo .i64 v.1.2.2.2 26)
 let x4:=(decide ((0:Int)≤x3∧x3<((20:Nat):Int)))
 cond x4 (
 let x5:=(ibin .rem .i64 v.1.2.2.2 26)
 cond (decide ((0:Int)≤x5)) (
 cond x4 (
 some (.inl ((v.1.1,(),(),(ibin .add .i64 v.1.2.2.2 1)),((v.2.1.1,v.2.1.2),(),(List.set v.2.2.2 (Int.toNat x3) (ibin .add .i64 (List.getD v.2.2.2 (Int.toNat x3) 0) (ibin .shl .i64 1 x5))))))
 ) (
 none
 )
 ) (
 none
 )
 ) (
 none
 )
 ) (
 some (.inl ((v.1.1,(),(),(ibin .add .i64 v.1.2.2.2 1)),((v.2.1.1,v.2.1.2),(),v.2.2.2)))
 )
 ) (
 none
 )
 ) (
 none
 )
 ) (
 some (.inr (.inl (((),()),((),v.2.2.2))))
 )
def Zcu(N:Nat)(a:((Nat×LI)×Unit)):Option (LI):=
 mo (loopF (Za5 N) N ((a.1.1,(),(),0),((a.1.1,a.1.2),(),[0,0,0,0,0,0,0,0,0,0,0,0,0,0,0,0,0,0,0,0]))) none fun r9=>
 match r9 with
 | .inl u10=>(
 mo (Zbg N u10.2.2) none fun r11=>
 some r11
 )
 | .inr _=>(
 none
 )
def Zcv(N:Nat)(a:LI):Option ((LI×Int)):=
 mo (Zcu N ((32,a),())) none fun r1=>
 mo (ZaT N r1) none fun r2=>
 cond (!(decide (r2=a))) (
 some ([0,0,0,0,0,0,0,0,0,0],3)
 ) (
 some (r1,0)
 )
def Zai:(LI×LI):=
 ([0,0,0,0,0,0,0,0,0,0],[1,0,0,0,0,0,0,0,0,0])
def Zbz:(LI×LI):=
 (Zai.1,Zai.2)
def Zaz(a:(LI×LI)):(LI×LI):=
 cond ((decide (a.1=[0,0,0,0,0,0,0,0,0,0]))&&((decide (a.2=[0,0,0,0,0,0,0,0,0,0]))&&true)) (
 (Zai.1,Zai.2)
 ) (
 (a.1,a.2)
 )
def Zi8(a:(LI×LI)):Option ((LI×LI)):=
 cond ((decide (a.1=[0,0,0,0,0,0,0,0,0,0]))&&((decide (a.2=[0,0,0,0,0,0,0,0,0,0]))&&true)) (
 some (Zai.1,Zai.2)
 ) (
 some (a.1,a.2)
 )
theorem Zs0(a:(LI×LI)):Zi8 a=some (Zaz a):=by
 unfold Zi8 Zaz
 repeat' (first|refine Zlp ?_ ?_|rfl)
def Zcq(N:Nat)(a:(LI×LI)):Option (((LI×LI)×(LI×LI)×(LI×LI)×(LI×LI))):=
 mo (Zam N a.2 Zfo) none fun r1=>
 mo (Zam N a.1 Zfo) none fun r2=>
 some ((a.1,a.2),(r1,r2),((Zat a.1),(Zat a.2)),((Zat r1),(Zat r2)))
def Zbi(N:Nat)(a:(LI×LI))(b:(LI×LI)):Option (Bool):=
 mo (Zcq N ((Zaz (b.1,b.2)).1,(Zaz (b.1,b.2)).2)) none fun r1=>
 cond ((decide (r1.1.1=(Zaz (a.1,a.2)).1))&&((decide (r1.1.2=(Zaz (a.1,a.2)).2))&&true)) (
 some true
 ) (
 cond ((decide (r1.2.1.1=(Zaz (a.1,a.2)).1))&&((decide (r1.2.1.2=(Zaz (a.1,a.2)).2))&&true)) (
 some true
 ) (
 cond ((decide (r1.2.2.1.1=(Zaz (a.1,a.2)).1))&&((decide (r1.2.2.1.2=(Zaz (a.1,a.2)).2))&&true)) (
 some true
 ) (
 cond ((decide (r1.2.2.2.1=(Zaz (a.1,a.2)).1))&&((decide (r1.2.2.2.2=(Zaz (a.1,a.2)).2))&&true)) (
 some true
 ) (
 some false
 )
 )
 )
 )
def ZbA(N:Nat)(a:LI):Option (((LI×LI)×Bool)):=
 mo (Zam N a a) none fun r1=>
 mo (Zcb N [1,0,0,0,0,0,0,0,0,0] r1) none fun r2=>
 mo (ZbB N [1,0,0,0,0,0,0,0,0,0] r1) none fun r3=>
 mo (Zam N r2 r2) none fun r4=>
 mo (Zam N (Zat ZlY) r4) none fun r5=>
 mo (Zam N r3 r3) none fun r6=>
 mo (Zcb N r5 r6) none fun r7=>
 cond (decide (r3=[0,0,0,0,0,0,0,0,0,0])) (
 some ((Zai.1,Zai.2),false)
 ) (
 cond (decide (r7=[0,0,0,0,0,0,0,0,0,0])) (
 some ((Zai.1,Zai.2),false)
 ) (
 mo (Zbr N r7 [1,0,0,0,0,0,0,0,0,0]) none fun r8=>
 cond (!r8.2) (
 some ((Zai.1,Zai.2),false)
 ) (
 mo (ZbP N r3) none fun r9=>
 mo (Zam N r2 r9) none fun r10=>
 mo (ZbB N r1 r1) none fun r11=>
 mo (ZbB N r11 r1) none fun r12=>
 mo (ZbB N r12 r1) none fun r13=>
 mo (Zbr N r13 r7) none fun r14=>
 cond (decide (r10=[0,0,0,0,0,0,0,0,0,0])) (
 some ((Zai.1,Zai.2),false)
 ) (
 mo (Zam N r14.1 r10) none fun r15=>
 cond (Zbh r15) (
 some ((Zai.1,Zai.2),false)
 ) (
 some ((r14.1,r10),true)
 )
 )
 )
 )
 )
def Zbp(N:Nat)(a:LI):Option (((LI×LI)×Int)):=
 mo (Zcv N a) none fun r1=>
 cond (icmp .neq r1.2 0) (
 some ((Zbz.1,Zbz.2),3)
 ) (
 cond (Zbh r1.1) (
 some ((Zbz.1,Zbz.2),3)
 ) (
 mo (ZbA N r1.1) none fun r2=>
 cond (!r2.2) (
 some ((Zbz.1,Zbz.2),50)
 ) (
 some ((r2.1.1,r2.1.2),0)
 )
 )
 )
namespace Ref
def cnd(N:Nat)(p:LI×LI)(y:LI)(K:Option (LI)):Option (LI):=
 mo (Zcb N [1,0,0,0,0,0,0,0,0,0] y) none fun r2=>
 mo (ZbB N [1,0,0,0,0,0,0,0,0,0] y) none fun r3=>
 mo (Zbr N r2 r3) none fun r4=>
 cond r4.2 (
 mo (ZbA N r4.1) none fun r5=>
 cond r5.2 (
 mo (Zbi N (p.1,p.2) (r5.1.1,r5.1.2)) none fun r6=>
 cond r6 (mo (ZaT N r4.1) none fun r7=>some r7) K) K) K
end Ref
def ZaA(N:Nat)(a:(LI×LI)):Option (LI):=
 mo (Zcq N ((Zaz (a.1,a.2)).1,(Zaz (a.1,a.2)).2)) none fun r1=>
 Ref.cnd N a r1.1.2 (Ref.cnd N a r1.2.1.2 (Ref.cnd N a r1.2.2.1.2 (Ref.cnd N a r1.2.2.2.2 (some [0,0,0,0,0,0,0,0,0,0,0,0,0,0,0,0,0,0,0,0,0,0,0,0,0,0,0,0,0,0,0,0]))))
def ZkG(a:LI)(b:LI):Option ((LI×Int)):=
 mo (ZgR (List.getD a 0 0) (List.getD b 0 0) 0) none fun r1=>
 mo (ZgR (List.getD a 1 0) (List.getD b 1 0) r1.2) none fun r2=>
 mo (ZgR (List.getD a 2 0) (List.getD b 2 0) r2.2) none fun r3=>
 mo (ZgR (List.getD a 3 0) (List.getD b 3 0) r3.2) none fun r4=>
 some ([r1.1,r2.1,r3.1,r4.1],r4.2)
def Zoq(a:LI)(b:LI):Option ((LI×Int)):=
 mo (Zec (List.getD a 0 0) (List.getD b 0 0) 0) none fun r1=>
 mo (Zec (List.getD a 1 0) (List.getD b 1 0) r1.2) none fun r2=>
 mo (Zec (List.getD a 2 0) (List.getD b 2 0) r2.2) none fun r3=>
 mo (Zec (List.getD a 3 0) (List.getD b 3 0) r3.2) none fun r4=>
 some ([r1.1,r2.1,r3.1,r4.1],r4.2)
def Zfi(a:Int)(b:LI)(c:LI):LI:=
 let x1:=(List.set b 0 (ibin .or .u64 (ibin .and .u64 (List.getD b 0 0) a) (ibin .andNot .u64 (List.getD c 0 0) a)))
 let x2:=(List.set x1 1 (ibin .or .u64 (ibin .and .u64 (List.getD x1 1 0) a) (ibin .andNot .u64 (List.getD c 1 0) a)))
 let x3:=(List.set x2 2 (ibin .or .u64 (ibin .and .u64 (List.getD x2 2 0) a) (ibin .andNot .u64 (List.getD c 2 0) a)))
 (List.set x3 3 (ibin .or .u64 (ibin .and .u64 (List.getD x3 3 0) a) (ibin .andNot .u64 (List.getD c 3 0) a)))
def ZmE(a:LI):Option (LI):=
 mo (ZkG a [6346243789798364141,1503914060200516822,0,1152921504606846976]) none fun r1=>
 some (Zfi (ineg .u64 r1.2) a r1.1)
def ZcZ(a:LI):Option (LI):=
 cond (icmp .lss (List.getD a 3 0) 1152921504606846976) (
 some a
 ) (
 mo (Zec (ZgT (ibin .shr .u64 (List.getD a 3 0) 60) 1503914060200516822).2 (ZgT (ibin .shr .u64 (List.getD a 3 0) 60) 6346243789798364141).1 0) none fun r1=>
 mo (ZkG (List.set a 3 (ibin .and .u64 (List.getD a 3 0) 1152921504606846975)) [(ZgT (ibin .shr .u64 (List.getD a 3 0) 60) 6346243789798364141).2,r1.1,(ibin .add .u64 (ZgT (ibin .shr .u64 (List.getD a 3 0) 60) 1503914060200516822).1 r1.2),0]) none fun r2=>
 mo (Zoq r2.1 [6346243789798364141,1503914060200516822,0,1152921504606846976]) none fun r3=>
 mo (ZmE (Zfi (ineg .u64 r2.2) r3.1 r2.1)) none fun r4=>
 some r4
 )
def ZhX:LI:=
 [6346243789798364141,1503914060200516822,0,1152921504606846976]
def ZcO(a:LI)(b:LI):Bool:=
 cond (icmp .neq (List.getD a 3 0) (List.getD b 3 0)) (
 (icmp .lss (List.getD a 3 0) (List.getD b 3 0))
 ) (
 cond (icmp .neq (List.getD a 2 0) (List.getD b 2 0)) (
 (icmp .lss (List.getD a 2 0) (List.getD b 2 0))
 ) (
 cond (icmp .neq (List.getD a 1 0) (List.getD b 1 0)) (
 (icmp .lss (List.getD a 1 0) (List.getD b 1 0))
 ) (
 cond (icmp .neq (List.getD a 0 0) (List.getD b 0 0)) (
 (icmp .lss (List.getD a 0 0) (List.getD b 0 0))
 ) (
 false
 )
 )
 )
 )
def Zl0(a:LI)(b:LI):Option (Bool):=
 cond (icmp .neq (List.getD a 3 0) (List.getD b 3 0)) (
 some (icmp .lss (List.getD a 3 0) (List.getD b 3 0))
 ) (
 cond (icmp .neq (List.getD a 2 0) (List.getD b 2 0)) (
 some (icmp .lss (List.getD a 2 0) (List.getD b 2 0))
 ) (
 cond (icmp .neq (List.getD a 1 0) (List.getD b 1 0)) (
 some (icmp .lss (List.getD a 1 0) (List.getD b 1 0))
 ) (
 cond (icmp .neq (List.getD a 0 0) (List.getD b 0 0)) (
 some (icmp .lss (List.getD a 0 0) (List.getD b 0 0))
 ) (
 some false
 )
 )
 )
 )
theorem ZvH(a:LI)(b:LI):Zl0 a b=some (ZcO a b):=by
 unfold Zl0 ZcO
 repeat' (first|refine Zlp ?_ ?_|rfl)
def ZcU(N:Nat)(v:(Unit×Unit×Unit×Int)×(LI×Unit×LI)):Option (((Unit×Unit×Unit×Int)×(LI×Unit×LI)) ⊕ (((Unit×Unit)×(Unit×LI)) ⊕ (Unit×Unit))):=
 cond (icmp .lss v.1.2.2.2 32) (
 let x1:=(ibin .quo .i64 v.1.2.2.2 8)
 cond (decide ((0:Int)≤x1∧x1<((4:Nat):Int))) (
 let x2:=(ibin .mul .i64 8 (ibin .rem .i64 v.1.2.2.2 8))
 cond (decide ((0:Int)≤x2)) (
 cond (decide ((0:Int)≤v.1.2.2.2∧v.1.2.2.2<((32:Nat):Int))) (
 some (.inl (((),(),(),(ibin .add .i64 v.1.2.2.2 1)),(v.2.1,(),(List.set v.2.2.2 (Int.toNat v.1.2.2.2) (IntKind.wrap .u8 (ibin .shr .u64 (List.getD v.2.1 (Int.toNat x1) 0) x2))))))
 ) (
 none
 )
 ) (
 none
 )
 ) (
 none
 )
 ) (
 some (.inr (.inl (((),()),((),v.2.2.2))))
 )
def Zgg(N:Nat)(a:LI):Option (LI):=
 mo (loopF (ZcU N) N (((),(),(),0),(a,(),[0,0,0,0,0,0,0,0,0,0,0,0,0,0,0,0,0,0,0,0,0,0,0,0,0,0,0,0,0,0,0,0]))) none fun r5=>
 match r5 with
 | .inl u6=>(
 some u6.2.2
 )
 | .inr _=>(
 none
 )
def Zei(N:Nat)(v:(Unit×Unit×LI×Int)×(Unit×LI)):Option (((Unit×Unit×LI×Int)×(Unit×LI)) ⊕ (((Unit×Unit)×(Unit×LI)) ⊕ (Unit×Unit))):=
 cond (icmp .lss v.1.2.2.2 32) (
 cond (decide ((0:Int)≤v.1.2.2.2∧v.1.2.2.2<((32:Nat):Int))) (
 let x1:=(ibin .quo .i64 v.1.2.2.2 8)
 let x2:=(decide ((0:Int)≤x1∧x1<((4:Nat):Int)))
 cond x2 (
 let x3:=(ibin .mul .i64 8 (ibin .rem .i64 v.1.2.2.2 8))
 cond (decide ((0:Int)≤x3)) (
 cond x2 (
 some (.inl (((),(),v.1.2.2.1,(ibin .add .i64 v.1.2.2.2 1)),((),(List.set v.2.2 (Int.toNat x1) (ibin .or .u64 (List.getD v.2.2 (Int.toNat x1) 0) (ibin .shl .u64 (IntKind.wrap .u64 (List.getD v.1.2.2.1 (Int.toNat v.1.2.2.2) 0)) x3))))))
 ) (
 none
 )
 ) (
 none
 )
 ) (
 none
 )
 ) (
 none
 )
 ) (
 some (.inr (.inl (((),()),((),v.2.2))))
 )
def ZgF(N:Nat)(a:LI):Option (LI):=
 mo (loopF (Zei N) N (((),(),a,0),((),[0,0,0,0]))) none fun r5=>
 match r5 with
 | .inl u6=>(
 some u6.2.2
 )
 | .inr _=>(
 none
 )
def Zgi(N:Nat)(a:LI):Option ((LI×Int)):=
 mo (ZgF N a) none fun r1=>
 mo (ZcZ r1) none fun r2=>
 cond (!(decide (r2=r1))) (
 some ([0,0,0,0],3)
 ) (
 some (r1,0)
 )
def Zfj(N:Nat)(v:(Unit×Unit×Unit×Int)×(LI×Unit×LI)):Option (((Unit×Unit×Unit×Int)×(LI×Unit×LI)) ⊕ (((Unit×Unit)×(Unit×LI)) ⊕ (Unit×Unit))):=
 cond (icmp .geq v.1.2.2.2 0) (
 let x1:=(ibin .quo .i64 v.1.2.2.2 8)
 let x2:=(decide ((0:Int)≤x1∧x1<((4:Nat):Int)))
 cond x2 (
 cond (decide ((0:Int)≤v.1.2.2.2∧v.1.2.2.2<((32:Nat):Int))) (
 cond x2 (
 some (.inl (((),(),(),(ibin .sub .i64 v.1.2.2.2 1)),(v.2.1,(),(List.set v.2.2.2 (Int.toNat x1) (ibin .or .u64 (ibin .shl .u64 (List.getD v.2.2.2 (Int.toNat x1) 0) 8) (IntKind.wrap .u64 (List.getD v.2.1 (Int.toNat v.1.2.2.2) 0)))))))
 ) (
 none
 )
 ) (
 none
 )
 ) (
 none
 )
 ) (
 some (.inr (.inl (((),()),((),v.2.2.2))))
 )
def Zh1(N:Nat)(a:LI):Option (LI):=
 mo (loopF (Zfj N) N (((),(),(),31),(a,(),[0,0,0,0]))) none fun r5=>
 match r5 with
 | .inl u6=>(
 some u6.2.2
 )
 | .inr _=>(
 none
 )
def Zdk(N:Nat)(a:LI):Option ((LI×Int)):=
 mo (Zh1 N a) none fun r1=>
 cond (!(ZcO r1 ZhX)) (
 some ([0,0,0,0],3)
 ) (
 some (r1,0)
 )
def Zdl(a:LI):(Int×(LI×LI)×LI×Unit):=
 (2,([0,0,0,0,0,0,0,0,0,0],[0,0,0,0,0,0,0,0,0,0]),a,())
def Zh2(a:(LI×LI)):(Int×(LI×LI)×LI×Unit):=
 (1,(a.1,a.2),[0,0,0,0],())
def Zar(a:Int):(Int×(LI×LI)×LI×Unit):=
 (a,([0,0,0,0,0,0,0,0,0,0],[0,0,0,0,0,0,0,0,0,0]),[0,0,0,0],())
def ZcS(N:Nat)(a:Int)(b:LI):Option (((Int×(LI×LI)×LI×Unit)×Int)):=
 cond (icmp .eql a 1) (
 mo (Zbp N b) none fun r1=>
 cond (icmp .neq r1.2 0) (
 some (((Zar a).1,((Zar a).2.1.1,(Zar a).2.1.2),(Zar a).2.2.1,()),r1.2)
 ) (
 some (((Zh2 (r1.1.1,r1.1.2)).1,((Zh2 (r1.1.1,r1.1.2)).2.1.1,(Zh2 (r1.1.1,r1.1.2)).2.1.2),(Zh2 (r1.1.1,r1.1.2)).2.2.1,()),0)
 )
 ) (
 cond (icmp .eql a 2) (
 mo (Zdk N b) none fun r2=>
 cond (icmp .neq r2.2 0) (
 some (((Zar a).1,((Zar a).2.1.1,(Zar a).2.1.2),(Zar a).2.2.1,()),r2.2)
 ) (
 some (((Zdl r2.1).1,((Zdl r2.1).2.1.1,(Zdl r2.1).2.1.2),(Zdl r2.1).2.2.1,()),0)
 )
 ) (
 some (((Zar a).1,((Zar a).2.1.1,(Zar a).2.1.2),(Zar a).2.2.1,()),50)
 )
 )
def Za7(a:((Nat×LI)×Unit)):Option (((Nat×LI)×Unit)):=
 cond (decide ((0+a.1.1)*1≤140737488355328∧0+a.1.1≤9223372036854775807)) (some ((0+a.1.1,List.take a.1.1 (List.drop 0 a.1.2)),())) none
def Ze6(a:Unit)(b:((Bool×(Nat×Nat×Nat)×Int)×(Nat×LI)))(m:Unit):Option (Bool×Unit):=
 some (b.1.1,())
def ZaK(a:Unit)(b:((Bool×(Nat×Nat×Nat)×Int)×(Nat×LI)))(m:Unit):Option (Bool×Unit):=
 mo (Ze6 () b ()) none fun r1=>
 cond r1.1 (
 some ((icmp .eql b.1.2.2 0),())
 ) (
 some (false,())
 )
def Zav(a:(Unit×Int))(b:(Nat×LI))(m:(Bool×(Nat×Nat×Nat)×Int)):Option (Unit×(Bool×(Nat×Nat×Nat)×Int)):=
 mo (ZaK () (m,b) ()) none fun r1=>
 cond r1.1 (
 some ((),(m.1,m.2.1,a.2))
 ) (
 some ((),m)
 )
def Za2(a:Unit)(b:(Nat×LI))(m:(Bool×(Nat×Nat×Nat)×Int)):Option (LI×(Bool×(Nat×Nat×Nat)×Int)):=
 mo (ZaK () (m,b) ()) none fun r1=>
 cond (!r1.1) (
 some ([0,0,0,0,0,0,0,0,0,0,0,0,0,0,0,0,0,0,0,0,0,0,0,0,0,0,0,0,0,0,0,0],m)
 ) (
 cond (icmp .lss ((m.2.1.2.1:Nat):Int) 32) (
 mo (Zav ((),100) b m) none fun r2=>
 some ([0,0,0,0,0,0,0,0,0,0,0,0,0,0,0,0,0,0,0,0,0,0,0,0,0,0,0,0,0,0,0,0],r2.2)
 ) (
 let x1:=(decide ((0:Int)≤32∧32≤((m.2.1.2.1:Nat):Int)))
 cond x1 (
 cond x1 (
 some ((List.take 32 (List.drop m.2.1.1 b.2)),(m.1,((m.2.1.1+32),(m.2.1.2.1-32),m.2.1.1),m.2.2))
 ) (
 none
 )
 ) (
 none
 )
 )
 )
namespace Rd
def dg(x:Int)(i:Nat):Int:=ibin .shl .u64 (IntKind.wrap .u64 (ibin .and .u8 x 127)) ((7*i:Nat):Int)
abbrev MdS:=(Bool×(Nat×Nat×Nat)×Int)
def badF(b:Nat×LI)(m:MdS)(e:Int):Option (Int×MdS):=
 mo (Zav ((),e) (b.1,b.2) (m.1,(m.2.1.1,m.2.1.2.1,m.2.1.2.2),m.2.2)) none fun r=>some (0,(r.2.1,(r.2.2.1.1,r.2.2.1.2.1,r.2.2.1.2.2),r.2.2.2))
def okF(v:Int)(i:Nat)(m:MdS):Option (Int×MdS):=
 cond (decide ((0:Int)≤((i+1:Nat):Int)∧((i+1:Nat):Int)≤((m.2.1.2.1:Nat):Int))) (some (v,(m.1,(m.2.1.1+(i+1),m.2.1.2.1-(i+1),m.2.1.1),m.2.2))) none
def cnt:Nat→Nat→Int→Nat×LI→MdS→Option (Int×MdS)
 |0,_,_,b,m=>badF b m 102
 |f+1,i,v,b,m=>cond (icmp .eql ((i:Nat):Int) ((m.2.1.2.1:Nat):Int)) (badF b m 100) (
 cond (decide ((0:Int)≤((i:Nat):Int)∧((i:Nat):Int)<((m.2.1.2.1:Nat):Int))) (
 let x:=List.getD b.2 (m.2.1.1+Int.toNat ((i:Nat):Int)) 0
 cond (cond (Nat.beq i 9) (icmp .gtr x 1) false) (badF b m 102) (
 cond (icmp .lss x 128) (cond (icmp .eql x 0) (cond (Nat.beq i 0) (okF (ibin .or .u64 v (dg x i)) i m) (badF b m 102)) (okF (ibin .or .u64 v (dg x i)) i m)) (cnt f (i+1) (ibin .or .u64 v (dg x i)) b m))) none)
end Rd
def ZbS(a:Unit)(b:(Nat×LI))(m:(Bool×(Nat×Nat×Nat)×Int)):Option (Int×(Bool×(Nat×Nat×Nat)×Int)):=Rd.cnt 10 0 0 b m
def ZbK(a:(Unit×Int))(b:(Nat×LI))(m:(Bool×(Nat×Nat×Nat)×Int)):Option (Int×(Bool×(Nat×Nat×Nat)×Int)):=
 mo (ZaK () (m,b) ()) none fun r1=>
 cond (!r1.1) (
 some (0,m)
 ) (
 mo (ZbS () b m) none fun r2=>
 cond (icmp .eql r2.2.2.2 0) (
 cond (icmp .gtr r2.1 a.2) (
 mo (Zav ((),102) b (r2.2.1,m.2.1,r2.2.2.2)) none fun r3=>
 some (0,r3.2)
 ) (
 some r2
 )
 ) (
 some r2
 )
 )
def Zbe(a:(Unit×Int))(b:(Nat×LI))(m:(Bool×(Nat×Nat×Nat)×Int)):Option (List (Int)×((Bool×(Nat×Nat×Nat)×Int)×Unit)):=
 mo (ZaK () (m,b) ()) none fun r1=>
 cond (!r1.1) (
 some ([],(m,()))
 ) (
 cond (icmp .lss a.2 0) (
 mo (Zav ((),1) b m) none fun r2=>
 some ([],(r2.2,()))
 ) (
 mo (ZbS () b m) none fun r3=>
 cond (icmp .neq r3.2.2.2 0) (
 some ([],(r3.2,()))
 ) (
 cond (icmp .gtr r3.1 (IntKind.wrap .u64 a.2)) (
 mo (Zav ((),103) b (r3.2.1,m.2.1,r3.2.2.2)) none fun r4=>
 some ([],(r4.2,()))
 ) (
 cond (icmp .gtr r3.1 (IntKind.wrap .u64 ((r3.2.2.1.2.1:Nat):Int))) (
 mo (Zav ((),100) b (r3.2.1,m.2.1,r3.2.2.2)) none fun r5=>
 some ([],(r5.2,()))
 ) (
 let x1:=(decide ((0:Int)≤r3.1∧r3.1≤((r3.2.2.1.2.1:Nat):Int)))
 cond x1 (
 mo (Za7 (((Int.toNat r3.1),(List.take (Int.toNat r3.1) (List.drop r3.2.2.1.1 b.2))),())) none fun r6=>
 cond x1 (
 some (r6.1.2,((r3.2.1,((r3.2.2.1.1+(Int.toNat r3.1)),(r3.2.2.1.2.1-(Int.toNat r3.1)),(cond (Nat.beq (Int.toNat r3.1) 0) r3.2.2.1.2.2 r3.2.2.1.1)),r3.2.2.2),()))
 ) (
 none
 )
 ) (
 none
 )
 )
 )
 )
 )
 )
def Zde(a:Unit)(b:((Bool×(Nat×Nat×Nat)×Int)×(Nat×LI)))(m:Unit):Option (Int×Unit):=
 mo (Ze6 () b ()) none fun r1=>
 cond (!r1.1) (
 some (0,())
 ) (
 some (((b.1.2.1.2.1:Nat):Int),())
 )
def Zby(N:Nat)(a:Unit)(b:(Nat×LI))(m:(Bool×(Nat×Nat×Nat)×Int)):Option (LI×(Bool×(Nat×Nat×Nat)×Int)):=
 mo (ZaK () (m,b) ()) none fun r1=>
 cond (!r1.1) (
 some ([0,0,0,0],m)
 ) (
 mo (Za2 () b m) none fun r2=>
 cond (icmp .neq r2.2.2.2 0) (
 some ([0,0,0,0],r2.2)
 ) (
 mo (Zgi N r2.1) none fun r3=>
 cond (icmp .neq r3.2 0) (
 mo (Zav ((),r3.2) b (r2.2.1,m.2.1,r2.2.2.2)) none fun r4=>
 some (r3.1,r4.2)
 ) (
 some (r3.1,r2.2)
 )
 )
 )
def Zbt(N:Nat)(a:Unit)(b:(Nat×LI))(m:(Bool×(Nat×Nat×Nat)×Int)):Option (LI×(Bool×(Nat×Nat×Nat)×Int)):=
 mo (ZaK () (m,b) ()) none fun r1=>
 cond (!r1.1) (
 some ([0,0,0,0],m)
 ) (
 mo (Za2 () b m) none fun r2=>
 cond (icmp .neq r2.2.2.2 0) (
 some ([0,0,0,0],r2.2)
 ) (
 mo (Zgi N r2.1) none fun r3=>
 cond (icmp .neq r3.2 0) (
 mo (Zav ((),r3.2) b (r2.2.1,m.2.1,r2.2.2.2)) none fun r4=>
 some ([0,0,0,0],r4.2)
 ) (
 some (r3.1,r2.2)
 )
 )
 )
def Za8(N:Nat)(a:Unit)(b:(Nat×LI))(m:(Bool×(Nat×Nat×Nat)×Int)):Option ((LI×LI×LI×LI)×(Bool×(Nat×Nat×Nat)×Int)):=
 mo (ZaK () (m,b) ()) none fun r1=>
 cond (!r1.1) (
 some (([0,0,0,0,0],[0,0,0,0,0],[0,0,0,0,0],[0,0,0,0,0]),m)
 ) (
 mo (Za2 () b m) none fun r2=>
 cond (icmp .neq r2.2.2.2 0) (
 some (([0,0,0,0,0],[0,0,0,0,0],[0,0,0,0,0],[0,0,0,0,0]),r2.2)
 ) (
 mo (Zca N (([0,0,0,0,0],[0,0,0,0,0],[0,0,0,0,0],[0,0,0,0,0]),r2.1) () ()) none fun r3=>
 cond (icmp .neq r3.1.2 0) (
 mo (Zav ((),r3.1.2) b (r2.2.1,m.2.1,r2.2.2.2)) none fun r4=>
 some (([0,0,0,0,0],[0,0,0,0,0],[0,0,0,0,0],[0,0,0,0,0]),r4.2)
 ) (
 some (r3.1.1,r2.2)
 )
 )
 )
def ZbH(a:Unit)(b:(Nat×LI))(m:(Bool×(Nat×Nat×Nat)×Int)):Option (Unit×(Bool×(Nat×Nat×Nat)×Int)):=
 mo (ZaK () (m,b) ()) none fun r1=>
 cond (!r1.1) (
 some ((),m)
 ) (
 mo (Za2 () b m) none fun r2=>
 cond (icmp .neq r2.2.2.2 0) (
 some ((),r2.2)
 ) (
 mo (Zav ((),50) b (r2.2.1,m.2.1,r2.2.2.2)) none fun r3=>
 some ((),r3.2)
 )
 )
def Zbd(a:Unit)(b:((Bool×(Nat×Nat×Nat)×Int)×(Nat×LI)))(m:Unit):Option (Int×Unit):=
 mo (Ze6 () b ()) none fun r1=>
 cond (!r1.1) (
 some (1,())
 ) (
 some (b.1.2.2,())
 )
def Zcg(a:Unit)(b:(Nat×LI))(m:(Bool×(Nat×Nat×Nat)×Int)):Option (Int×(Bool×(Nat×Nat×Nat)×Int)):=
 mo (ZaK () (m,b) ()) none fun r1=>
 cond r1.1 (
 cond (icmp .gtr ((m.2.1.2.1:Nat):Int) 0) (
 mo (Zav ((),101) b m) none fun r2=>
 mo (Zbd () (r2.2,b) ()) none fun r3=>
 some (r3.1,r2.2)
 ) (
 mo (Zbd () (m,b) ()) none fun r4=>
 some (r4.1,m)
 )
 ) (
 mo (Zbd () (m,b) ()) none fun r5=>
 some (r5.1,m)
 )
def ZgU(a:(Nat×Nat×Nat))(b:(Nat×LI))(m:Unit):Option (Unit×((Bool×(Nat×Nat×Nat)×Int)×(Nat×LI))):=
 mo (Za7 ((a.2.1,(List.take a.2.1 (List.drop a.1 b.2))),())) none fun r1=>
 some ((),((true,(0,r1.1.1,0),0),r1.1))
def Za9(a:Unit)(b:((Nat×Int×Int)×(Nat×LI)))(m:Unit):Option (Int×Unit):=
 some ((ibin .sub .i64 ((b.1.1:Nat):Int) b.1.2.1),())
def Zch(a:(Unit×Int))(b:Unit)(m:((Nat×Int×Int)×(Nat×LI))):Option (Unit×((Nat×Int×Int)×(Nat×LI))):=
 cond (icmp .eql m.1.2.2 0) (
 some ((),((m.1.1,m.1.2.1,a.2),m.2))
 ) (
 some ((),m)
 )
def Zbu(a:Unit)(b:Unit)(m:((Nat×Int×Int)×(Nat×LI))):Option (Int×((Nat×Int×Int)×(Nat×LI))):=
 cond (icmp .eql m.1.2.2 0) (
 mo (Za9 () m ()) none fun r1=>
 cond (icmp .gtr r1.1 0) (
 some (101,((m.1.1,m.1.2.1,101),m.2))
 ) (
 some (m.1.2.2,m)
 )
 ) (
 some (m.1.2.2,m)
 )
def ZiC(a:List (Int))(b:Unit)(m:Unit):Option (Unit×((Nat×Int×Int)×(Nat×LI))):=
 let x1:=(0+(List.length a))
 cond (decide (x1*1≤140737488355328∧x1≤9223372036854775807)) (
 some ((),((x1,0,0),(x1,a)))
 ) (
 none
 )
def ZaM(a:Unit)(b:Unit)(m:((Nat×Int×Int)×(Nat×LI))):Option (LI×((Nat×Int×Int)×(Nat×LI))):=
 cond (icmp .neq m.1.2.2 0) (
 some ([0,0,0,0,0,0,0,0,0,0,0,0,0,0,0,0,0,0,0,0,0,0,0,0,0,0,0,0,0,0,0,0],m)
 ) (
 mo (Za9 () m ()) none fun r1=>
 cond (icmp .lss r1.1 32) (
 some ([0,0,0,0,0,0,0,0,0,0,0,0,0,0,0,0,0,0,0,0,0,0,0,0,0,0,0,0,0,0,0,0],((m.1.1,m.1.2.1,100),m.2))
 ) (
 let x1:=(ibin .add .i64 m.1.2.1 32)
 cond (decide ((0:Int)≤x1∧x1≤((m.1.1:Nat):Int))) (
 let x2:=(Int.toNat x1)
 cond (decide ((0:Int)≤m.1.2.1∧m.1.2.1≤((x2:Nat):Int))) (
 let x3:=(Int.toNat m.1.2.1)
 let x4:=(x2-x3)
 some ((List.take 32 (List.take x4 (List.drop x3 m.2.2))++List.drop x4 [0,0,0,0,0,0,0,0,0,0,0,0,0,0,0,0,0,0,0,0,0,0,0,0,0,0,0,0,0,0,0,0]),((m.1.1,x1,m.1.2.2),m.2))
 ) (
 none
 )
 ) (
 none
 )
 )
 )
def ZaQ(N:Nat)(a:Unit)(b:Unit)(m:((Nat×Int×Int)×(Nat×LI))):Option (LI×((Nat×Int×Int)×(Nat×LI))):=
 mo (ZaM () () m) none fun r1=>
 cond (icmp .neq r1.2.1.2.2 0) (
 some ([0,0,0,0],r1.2)
 ) (
 mo (Zdk N r1.1) none fun r2=>
 cond (icmp .neq r2.2 0) (
 some (r2.1,((r1.2.1.1,(ibin .sub .i64 r1.2.1.2.1 32),r2.2),r1.2.2))
 ) (
 some (r2.1,r1.2)
 )
 )
def Zao(N:Nat)(a:(Unit×Int))(b:Unit)(m:((Nat×Int×Int)×(Nat×LI))):Option ((Int×(LI×LI)×LI×Unit)×((Nat×Int×Int)×(Nat×LI))):=
 mo (ZaM () () m) none fun r1=>
 cond (icmp .neq r1.2.1.2.2 0) (
 some (((Zar a.2).1,((Zar a.2).2.1.1,(Zar a.2).2.1.2),(Zar a.2).2.2.1,()),r1.2)
 ) (
 mo (ZcS N a.2 r1.1) none fun r2=>
 cond (icmp .neq r2.2 0) (
 some ((r2.1.1,r2.1.2.1,r2.1.2.2.1,()),((r1.2.1.1,(ibin .sub .i64 r1.2.1.2.1 32),r2.2),r1.2.2))
 ) (
 some ((r2.1.1,r2.1.2.1,r2.1.2.2.1,()),r1.2)
 )
 )
def Zcz(N:Nat)(v:(Int×Unit×Nat)×(Nat×LI)):Option (((Int×Unit×Nat)×(Nat×LI)) ⊕ (((Int×Nat)×(Nat×LI)) ⊕ (Unit×Unit))):=
 cond (icmp .geq v.1.1 128) (
 let x1:=(v.2.1+1)
 cond (decide (x1*1≤140737488355328∧x1≤9223372036854775807)) (
 some (.inl (((ibin .quo .u64 v.1.1 128),(),x1),(x1,(v.2.2++[(ibin .add .u8 (IntKind.wrap .u8 (ibin .rem .u64 v.1.1 128)) 128)]))))
 ) (
 none
 )
 ) (
 some (.inr (.inl ((v.1.1,v.1.2.2),v.2)))
 )
def ZgM(N:Nat)(a:Int):Option (((Nat×LI)×Unit)):=
 mo (loopF (Zcz N) N ((a,(),0),(0,[]))) none fun r10=>
 match r10 with
 | .inl u11=>(
 let x1:=(u11.2.1+1)
 cond (decide (x1*1≤140737488355328∧x1≤9223372036854775807)) (
 some ((x1,(u11.2.2++[(IntKind.wrap .u8 u11.1.1)])),())
 ) (
 none
 )
 )
 | .inr _=>(
 none
 )
namespace Rd
abbrev MdR:=((Nat×Int×Int)×(Nat×LI))
def rnum(N:Nat):Nat→Nat→Int→MdR→Option ((Int×Int×Int)×Unit)
 |0,_,_,_=>some ((0,0,102),())
 |f+1,k,v,b=>
 let x1:=ibin .add .i64 b.1.2.1 ((k:Nat):Int)
 cond (icmp .geq x1 ((b.1.1:Nat):Int)) (some ((0,0,100),())) (
 cond (decide ((0:Int)≤x1∧x1<((b.1.1:Nat):Int))) (
 let x3:=List.getD b.2.2 (Int.toNat x1) 0
 cond (cond (Nat.beq k 9) (icmp .gtr x3 1) false) (some ((0,0,102),())) (
 let x4:=ibin .add .u64 v (dg x3 k)
 cond (icmp .lss x3 128) (mo (ZgM N x4) none fun r1=>cond (icmp .neq ((r1.1.1:Nat):Int) ((k+1:Nat):Int)) (some ((0,0,102),())) (some ((x4,((k+1:Nat):Int),0),()))) (rnum N f (k+1) x4 b))) none)
end Rd
def ZbE(N:Nat)(a:Unit)(b:((Nat×Int×Int)×(Nat×LI)))(m:Unit):Option ((Int×Int×Int)×Unit):=Rd.rnum N 10 0 0 b
def Zba(N:Nat)(a:(Unit×Int))(b:Unit)(m:((Nat×Int×Int)×(Nat×LI))):Option (Int×((Nat×Int×Int)×(Nat×LI))):=
 cond (icmp .neq m.1.2.2 0) (
 some (0,m)
 ) (
 mo (ZbE N () m ()) none fun r1=>
 cond (icmp .eql r1.1.2.2 0) (
 cond (icmp .gtr r1.1.1 a.2) (
 some (0,((m.1.1,m.1.2.1,102),m.2))
 ) (
 cond (icmp .neq r1.1.2.2 0) (
 some (0,((m.1.1,m.1.2.1,r1.1.2.2),m.2))
 ) (
 some (r1.1.1,((m.1.1,(ibin .add .i64 m.1.2.1 r1.1.2.1),m.1.2.2),m.2))
 )
 )
 ) (
 cond (icmp .neq r1.1.2.2 0) (
 some (0,((m.1.1,m.1.2.1,r1.1.2.2),m.2))
 ) (
 some (r1.1.1,((m.1.1,(ibin .add .i64 m.1.2.1 r1.1.2.1),m.1.2.2),m.2))
 )
 )
 )
def Zau(N:Nat)(a:(Unit×Int))(b:Unit)(m:((Nat×Int×Int)×(Nat×LI))):Option ((Int×Int)×((Nat×Int×Int)×(Nat×LI))):=
 cond (icmp .neq m.1.2.2 0) (
 some ((0,0),m)
 ) (
 cond (icmp .lss a.2 0) (
 some ((0,0),((m.1.1,m.1.2.1,1),m.2))
 ) (
 mo (ZbE N () m ()) none fun r1=>
 cond (icmp .eql r1.1.2.2 0) (
 cond (icmp .gtr r1.1.1 (IntKind.wrap .u64 a.2)) (
 some ((0,0),((m.1.1,m.1.2.1,103),m.2))
 ) (
 cond (icmp .neq r1.1.2.2 0) (
 some ((0,0),((m.1.1,m.1.2.1,r1.1.2.2),m.2))
 ) (
 some (((IntKind.wrap .i64 r1.1.1),r1.1.2.1),m)
 )
 )
 ) (
 cond (icmp .neq r1.1.2.2 0) (
 some ((0,0),((m.1.1,m.1.2.1,r1.1.2.2),m.2))
 ) (
 some (((IntKind.wrap .i64 r1.1.1),r1.1.2.1),m)
 )
 )
 )
 )
def ZaJ(N:Nat)(a:(Unit×Int))(b:Unit)(m:((Nat×Int×Int)×(Nat×LI))):Option (List (Int)×((Nat×Int×Int)×Unit×(Nat×LI))):=
 mo (Zau N ((),a.2) () m) none fun r1=>
 cond (icmp .neq r1.2.1.2.2 0) (
 some ([],(r1.2.1,(),r1.2.2))
 ) (
 mo (Za9 () r1.2 ()) none fun r2=>
 cond (icmp .gtr r1.1.1 (ibin .sub .i64 r2.1 r1.1.2)) (
 some ([],((r1.2.1.1,r1.2.1.2.1,100),(),r1.2.2))
 ) (
 let x1:=(ibin .add .i64 r1.2.1.2.1 r1.1.2)
 let x2:=(ibin .add .i64 x1 r1.1.1)
 cond (decide ((0:Int)≤x2∧x2≤((r1.2.1.1:Nat):Int))) (
 let x3:=(Int.toNat x2)
 cond (decide ((0:Int)≤x1∧x1≤((x3:Nat):Int))) (
 let x4:=(Int.toNat x1)
 let x5:=(List.take (x3-x4) (List.drop x4 r1.2.2.2))
 cond (decide ((List.length x5)*1≤140737488355328∧(List.length x5)≤9223372036854775807)) (
 some (x5,((r1.2.1.1,x2,r1.2.1.2.2),(),r1.2.2))
 ) (
 none
 )
 ) (
 none
 )
 ) (
 none
 )
 )
 )
def ZaU(N:Nat)(a:(Unit×Int))(b:Unit)(m:((Nat×Int×Int)×(Nat×LI))):Option (Int×((Nat×Int×Int)×(Nat×LI))):=
 cond (icmp .gtr a.2 1048576) (
 mo (Zau N ((),1048576) () m) none fun r1=>
 some (r1.1.1,((r1.2.1.1,(ibin .add .i64 r1.2.1.2.1 r1.1.2),r1.2.1.2.2),r1.2.2))
 ) (
 mo (Zau N ((),a.2) () m) none fun r2=>
 some (r2.1.1,((r2.2.1.1,(ibin .add .i64 r2.2.1.2.1 r2.1.2),r2.2.1.2.2),r2.2.2))
 )
def ZgO(a:(Unit×Unit))(b:(Nat×LI))(m:((Bool×(Nat×Nat×Nat)×Int)×Int)):Option (List (Int)×((Bool×(Nat×Nat×Nat)×Int)×Int×Unit)):=
 mo (Zbe ((),3) b m.1) none fun r1=>
 some (r1.1,(r1.2.1,(ibin .add .i64 m.2 1),()))
def ZgP(N:Nat)(a:Unit)(b:(Nat×LI))(m:(Bool×(Nat×Nat×Nat)×Int)):Option (LI×(Bool×(Nat×Nat×Nat)×Int)):=
 mo (Zby N () b m) none fun r1=>
 some r1
def ZaY(N:Nat)(v:(Unit×Unit×Unit×Int×List (List (Int))×Int)×((Nat×LI)×(Bool×(Nat×Nat×Nat)×Int)×Int×Unit)):Option (((Unit×Unit×Unit×Int×List (List (Int))×Int)×((Nat×LI)×(Bool×(Nat×Nat×Nat)×Int)×Int×Unit)) ⊕ (((Unit×List (List (Int)))×((Nat×LI)×(Bool×(Nat×Nat×Nat)×Int)×Int×Unit)) ⊕ (Unit×Unit))):=
 cond (icmp .lss v.1.2.2.2.2.2 v.1.2.2.2.1) (
 cond (icmp .eql v.2.2.1.2.2 0) (
 mo (ZgO ((),()) v.2.1 (v.2.2.1,v.2.2.2.1)) none fun r35=>
 let x1:=(v.1.2.2.2.2.1++[r35.1])
 cond (decide ((List.length x1)*24≤140737488355328∧(List.length x1)≤9223372036854775807)) (
 some (.inl (((),(),(),v.1.2.2.2.1,x1,(ibin .add .u64 v.1.2.2.2.2.2 1)),(v.2.1,r35.2.1,r35.2.2.1,())))
 ) (
 none
 )
 ) (
 some (.inr (.inl (((),v.1.2.2.2.2.1),(v.2.1,v.2.2.1,v.2.2.2.1,()))))
 )
 ) (
 some (.inr (.inl (((),v.1.2.2.2.2.1),(v.2.1,v.2.2.1,v.2.2.2.1,()))))
 )
def Zb3(N:Nat)(a:(Unit×Int×Unit))(b:(Nat×LI))(m:((Bool×(Nat×Nat×Nat)×Int)×Int)):Option (List (List (Int))×((Bool×(Nat×Nat×Nat)×Int)×Int×Unit)):=
 mo (ZaK () (m.1,b) ()) none fun r1=>
 cond (!r1.1) (
 some ([],(m.1,m.2,()))
 ) (
 cond (icmp .lss a.2.1 0) (
 mo (Zav ((),1) b m.1) none fun r2=>
 some ([],(r2.2,m.2,()))
 ) (
 mo (ZbS () b m.1) none fun r3=>
 cond (icmp .eql r3.2.2.2 0) (
 cond (icmp .gtr r3.1 (IntKind.wrap .u64 (cond (decide (1048576<a.2.1)) 1048576 a.2.1))) (
 mo (Zav ((),103) b (r3.2.1,m.1.2.1,r3.2.2.2)) none fun r4=>
 mo (loopF (ZaY N) N (((),(),(),r3.1,[],0),(b,r4.2,m.2,()))) none fun r36=>
 match r36 with
 | .inl u37=>(
 cond (icmp .neq u37.2.2.1.2.2 0) (
 some ([],(u37.2.2.1,u37.2.2.2.1,()))
 ) (
 some (u37.1.2,(u37.2.2.1,u37.2.2.2.1,()))
 )
 )
 | .inr _=>(
 none
 )
 ) (
 mo (loopF (ZaY N) N (((),(),(),r3.1,[],0),(b,r3.2,m.2,()))) none fun r70=>
 match r70 with
 | .inl u71=>(
 cond (icmp .neq u71.2.2.1.2.2 0) (
 some ([],(u71.2.2.1,u71.2.2.2.1,()))
 ) (
 some (u71.1.2,(u71.2.2.1,u71.2.2.2.1,()))
 )
 )
 | .inr _=>(
 none
 )
 )
 ) (
 mo (loopF (ZaY N) N (((),(),(),r3.1,[],0),(b,r3.2,m.2,()))) none fun r104=>
 match r104 with
 | .inl u105=>(
 cond (icmp .neq u105.2.2.1.2.2 0) (
 some ([],(u105.2.2.1,u105.2.2.2.1,()))
 ) (
 some (u105.1.2,(u105.2.2.1,u105.2.2.2.1,()))
 )
 )
 | .inr _=>(
 none
 )
 )
 )
 )
def Zaw(N:Nat)(v:(Unit×Unit×Unit×Int×List (LI)×Int)×((Nat×LI)×(Bool×(Nat×Nat×Nat)×Int)×Unit)):Option (((Unit×Unit×Unit×Int×List (LI)×Int)×((Nat×LI)×(Bool×(Nat×Nat×Nat)×Int)×Unit)) ⊕ (((Unit×List (LI))×((Nat×LI)×(Bool×(Nat×Nat×Nat)×Int)×Unit)) ⊕ (Unit×Unit))):=
 cond (icmp .lss v.1.2.2.2.2.2 v.1.2.2.2.1) (
 cond (icmp .eql v.2.2.1.2.2 0) (
 mo (ZgP N () v.2.1 v.2.2.1) none fun r32=>
 let x1:=(v.1.2.2.2.2.1++[r32.1])
 cond (decide ((List.length x1)*32≤140737488355328∧(List.length x1)≤9223372036854775807)) (
 some (.inl (((),(),(),v.1.2.2.2.1,x1,(ibin .add .u64 v.1.2.2.2.2.2 1)),(v.2.1,r32.2,())))
 ) (
 none
 )
 ) (
 some (.inr (.inl (((),v.1.2.2.2.2.1),(v.2.1,v.2.2.1,()))))
 )
 ) (
 some (.inr (.inl (((),v.1.2.2.2.2.1),(v.2.1,v.2.2.1,()))))
 )
def ZaN(N:Nat)(a:(Unit×Int×Unit))(b:(Nat×LI))(m:(Bool×(Nat×Nat×Nat)×Int)):Option (List (LI)×((Bool×(Nat×Nat×Nat)×Int)×Unit)):=
 mo (ZaK () (m,b) ()) none fun r1=>
 cond (!r1.1) (
 some ([],(m,()))
 ) (
 cond (icmp .lss a.2.1 0) (
 mo (Zav ((),1) b m) none fun r2=>
 some ([],(r2.2,()))
 ) (
 mo (ZbS () b m) none fun r3=>
 cond (icmp .eql r3.2.2.2 0) (
 cond (icmp .gtr r3.1 (IntKind.wrap .u64 (cond (decide (1048576<a.2.1)) 1048576 a.2.1))) (
 mo (Zav ((),103) b (r3.2.1,m.2.1,r3.2.2.2)) none fun r4=>
 mo (loopF (Zaw N) N (((),(),(),r3.1,[],0),(b,r4.2,()))) none fun r33=>
 match r33 with
 | .inl u34=>(
 cond (icmp .neq u34.2.2.1.2.2 0) (
 some ([],(u34.2.2.1,()))
 ) (
 some (u34.1.2,(u34.2.2.1,()))
 )
 )
 | .inr _=>(
 none
 )
 ) (
 mo (loopF (Zaw N) N (((),(),(),r3.1,[],0),(b,r3.2,()))) none fun r64=>
 match r64 with
 | .inl u65=>(
 cond (icmp .neq u65.2.2.1.2.2 0) (
 some ([],(u65.2.2.1,()))
 ) (
 some (u65.1.2,(u65.2.2.1,()))
 )
 )
 | .inr _=>(
 none
 )
 )
 ) (
 mo (loopF (Zaw N) N (((),(),(),r3.1,[],0),(b,r3.2,()))) none fun r95=>
 match r95 with
 | .inl u96=>(
 cond (icmp .neq u96.2.2.1.2.2 0) (
 some ([],(u96.2.2.1,()))
 ) (
 some (u96.1.2,(u96.2.2.1,()))
 )
 )
 | .inr _=>(
 none
 )
 )
 )
 )
def Zcy(a:(Unit×Int×Unit))(b:(Nat×LI))(m:(Bool×(Nat×Nat×Nat)×Int)):Option (Unit×(Bool×(Nat×Nat×Nat)×Int)):=
 mo (ZaK () (m,b) ()) none fun r1=>
 cond (!r1.1) (
 some ((),m)
 ) (
 cond (icmp .lss a.2.1 0) (
 mo (Zav ((),1) b m) none fun r2=>
 some ((),r2.2)
 ) (
 mo (Zav ((),1) b m) none fun r3=>
 some ((),r3.2)
 )
 )
def ZfF(a:(List (Int)×List (Int)))(b:Unit)(m:Unit):Option (Bool×Unit):=
 some (((bStr a.1)==(bStr a.2)),())
def ZbN(N:Nat)(v:(Unit×Unit×Unit×List (List (Int))×Int×List (List (Int))×Int×Int)×((Nat×LI)×(Bool×(Nat×Nat×Nat)×Int)×(Nat×Int×Int)×Unit×(Nat×LI)×Unit×Int)):Option (((Unit×Unit×Unit×List (List (Int))×Int×List (List (Int))×Int×Int)×((Nat×LI)×(Bool×(Nat×Nat×Nat)×Int)×(Nat×Int×Int)×Unit×(Nat×LI)×Unit×Int)) ⊕ (((Unit×Unit×List (List (Int))×List (List (Int))×Int)×((Nat×LI)×(Bool×(Nat×Nat×Nat)×Int)×(Nat×Int×Int)×Unit×(Nat×LI)×Unit×Int)) ⊕ (Unit×Unit))):=
 cond (icmp .lss v.1.2.2.2.2.2.2.2 v.1.2.2.2.2.1) (
 cond (icmp .eql v.2.2.2.1.2.2 0) (
 mo (ZaJ N ((),3) () (v.2.2.2.1,v.2.2.2.2.2.1)) none fun r52=>
 let x1:=(v.1.2.2.2.2.2.1++[r52.1])
 cond (decide ((List.length x1)*24≤140737488355328∧(List.length x1)≤9223372036854775807)) (
 some (.inl (((),(),(),v.1.2.2.2.1,v.1.2.2.2.2.1,x1,(ibin .add .i64 v.1.2.2.2.2.2.2.1 1),(ibin .add .i64 v.1.2.2.2.2.2.2.2 1)),(v.2.1,v.2.2.1,r52.2.1,(),r52.2.2.2,(),v.2.2.2.2.2.2.2)))
 ) (
 none
 )
 ) (
 some (.inr (.inl (((),(),v.1.2.2.2.1,v.1.2.2.2.2.2.1,v.1.2.2.2.2.2.2.1),(v.2.1,v.2.2.1,v.2.2.2.1,(),v.2.2.2.2.2.1,(),v.2.2.2.2.2.2.2))))
 )
 ) (
 some (.inr (.inl (((),(),v.1.2.2.2.1,v.1.2.2.2.2.2.1,v.1.2.2.2.2.2.2.1),(v.2.1,v.2.2.1,v.2.2.2.1,(),v.2.2.2.2.2.1,(),v.2.2.2.2.2.2.2))))
 )
def Zb5(N:Nat)(v:(List (List (Int))×List (List (Int))×Int)×((Nat×LI)×(Bool×(Nat×Nat×Nat)×Int)×(Nat×Int×Int)×Unit×(Nat×LI)×Unit)):Option (((List (List (Int))×List (List (Int))×Int)×((Nat×LI)×(Bool×(Nat×Nat×Nat)×Int)×(Nat×Int×Int)×Unit×(Nat×LI)×Unit)) ⊕ ((Unit×((Nat×LI)×(Bool×(Nat×Nat×Nat)×Int)×(Nat×Int×Int)×Unit×(Nat×LI))) ⊕ (Unit×((Nat×LI)×(Bool×(Nat×Nat×Nat)×Int)×(Nat×Int×Int)×Unit×(Nat×LI))))):=
 let x1:=(List.length v.1.1)
 cond (icmp .lss v.1.2.2 ((x1:Nat):Int)) (
 cond (decide ((0:Int)≤v.1.2.2∧v.1.2.2<((x1:Nat):Int))) (
 cond (decide ((0:Int)≤v.1.2.2∧v.1.2.2<(((List.length v.1.2.1):Nat):Int))) (
 mo (ZfF ((List.getD v.1.1 (Int.toNat v.1.2.2) []),(List.getD v.1.2.1 (Int.toNat v.1.2.2) [])) () ()) none fun r84=>
 cond (!r84.1) (
 some (.inr (.inr ((),(v.2.1,v.2.2.1,v.2.2.2.1,(),v.2.2.2.2.2.1))))
 ) (
 some (.inl ((v.1.1,v.1.2.1,(ibin .add .i64 v.1.2.2 1)),(v.2.1,v.2.2.1,v.2.2.2.1,(),v.2.2.2.2.2.1,())))
 )
 ) (
 none
 )
 ) (
 none
 )
 ) (
 some (.inr (.inl ((),(v.2.1,v.2.2.1,v.2.2.2.1,(),v.2.2.2.2.2.1))))
 )
def ZbO(N:Nat)(v:(Unit×Unit×List (LI)×Int×List (LI)×Int)×((Nat×LI)×(Bool×(Nat×Nat×Nat)×Int)×(Nat×Int×Int)×Unit×(Nat×LI)×Unit)):Option (((Unit×Unit×List (LI)×Int×List (LI)×Int)×((Nat×LI)×(Bool×(Nat×Nat×Nat)×Int)×(Nat×Int×Int)×Unit×(Nat×LI)×Unit)) ⊕ (((Unit×List (LI)×List (LI))×((Nat×LI)×(Bool×(Nat×Nat×Nat)×Int)×(Nat×Int×Int)×Unit×(Nat×LI)×Unit)) ⊕ (Unit×Unit))):=
 cond (icmp .lss v.1.2.2.2.2.2 v.1.2.2.2.1) (
 cond (icmp .eql v.2.2.2.1.2.2 0) (
 mo (ZaQ N () () (v.2.2.2.1,v.2.2.2.2.2.1)) none fun r169=>
 let x1:=(v.1.2.2.2.2.1++[r169.1])
 cond (decide ((List.length x1)*32≤140737488355328∧(List.length x1)≤9223372036854775807)) (
 some (.inl (((),(),v.1.2.2.1,v.1.2.2.2.1,x1,(ibin .add .i64 v.1.2.2.2.2.2 1)),(v.2.1,v.2.2.1,r169.2.1,(),r169.2.2,())))
 ) (
 none
 )
 ) (
 some (.inr (.inl (((),v.1.2.2.1,v.1.2.2.2.2.1),(v.2.1,v.2.2.1,v.2.2.2.1,(),v.2.2.2.2.2.1,()))))
 )
 ) (
 some (.inr (.inl (((),v.1.2.2.1,v.1.2.2.2.2.1),(v.2.1,v.2.2.1,v.2.2.2.1,(),v.2.2.2.2.2.1,()))))
 )
def Zb6(N:Nat)(v:(List (LI)×List (LI)×Int)×((Nat×LI)×(Bool×(Nat×Nat×Nat)×Int)×(Nat×Int×Int)×Unit×(Nat×LI)×Unit)):Option (((List (LI)×List (LI)×Int)×((Nat×LI)×(Bool×(Nat×Nat×Nat)×Int)×(Nat×Int×Int)×Unit×(Nat×LI)×Unit)) ⊕ ((Unit×((Nat×LI)×(Bool×(Nat×Nat×Nat)×Int)×(Nat×Int×Int)×Unit×(Nat×LI))) ⊕ (Unit×((Nat×LI)×(Bool×(Nat×Nat×Nat)×Int)×(Nat×Int×Int)×Unit×(Nat×LI))))):=
 let x1:=(List.length v.1.1)
 cond (icmp .lss v.1.2.2 ((x1:Nat):Int)) (
 cond (decide ((0:Int)≤v.1.2.2∧v.1.2.2<((x1:Nat):Int))) (
 cond (decide ((0:Int)≤v.1.2.2∧v.1.2.2<(((List.length v.1.2.1):Nat):Int))) (
 cond (!(decide ((List.getD v.1.1 (Int.toNat v.1.2.2) [0,0,0,0])=(List.getD v.1.2.1 (Int.toNat v.1.2.2) [0,0,0,0])))) (
 some (.inr (.inr ((),(v.2.1,v.2.2.1,v.2.2.2.1,(),v.2.2.2.2.2.1))))
 ) (
 some (.inl ((v.1.1,v.1.2.1,(ibin .add .i64 v.1.2.2 1)),(v.2.1,v.2.2.1,v.2.2.2.1,(),v.2.2.2.2.2.1,())))
 )
 ) (
 none
 )
 ) (
 none
 )
 ) (
 some (.inr (.inl ((),(v.2.1,v.2.2.1,v.2.2.2.1,(),v.2.2.2.2.2.1))))
 )
def ZcK(N:Nat)(a:(Unit×Unit×(Int×Int×Int)))(b:(Nat×LI))(m:((Bool×(Nat×Nat×Nat)×Int)×(Nat×Int×Int)×(Nat×LI))):Option (Bool×((Bool×(Nat×Nat×Nat)×Int)×(Nat×Int×Int)×(Nat×LI))):=
 cond (icmp .eql a.2.2.1 12) (
 mo (Zb3 N ((),a.2.2.2.1,()) b (m.1,0)) none fun r1=>
 mo (ZaU N ((),a.2.2.2.1) () m.2) none fun r2=>
 mo (loopF (ZbN N) N (((),(),(),r1.1,r2.1,[],0,0),(b,r1.2.1,r2.2.1,(),r2.2.2,(),r1.2.2.1))) none fun r53=>
 match r53 with
 | .inl u54=>(
 cond (icmp .neq u54.2.2.2.1.2.2 0) (
 cond (icmp .neq (((List.length u54.1.2.2.1):Nat):Int) 0) (
 some (false,(u54.2.2.1,u54.2.2.2.1,u54.2.2.2.2.2.1))
 ) (
 cond (icmp .neq u54.2.2.2.2.2.2.2 u54.1.2.2.2.2) (
 some (false,(u54.2.2.1,u54.2.2.2.1,u54.2.2.2.2.2.1))
 ) (
 mo (loopF (Zb5 N) N ((u54.1.2.2.1,[],0),(u54.2.1,u54.2.2.1,u54.2.2.2.1,(),u54.2.2.2.2.2.1,()))) none fun r85=>
 match r85 with
 | .inl u86=>(
 some (true,(u86.2.2.1,u86.2.2.2.1,u86.2.2.2.2.2))
 )
 | .inr w87=>(
 some (false,(w87.2.2.1,w87.2.2.2.1,w87.2.2.2.2.2))
 )
 )
 )
 ) (
 cond (icmp .neq (((List.length u54.1.2.2.1):Nat):Int) (((List.length u54.1.2.2.2.1):Nat):Int)) (
 some (false,(u54.2.2.1,u54.2.2.2.1,u54.2.2.2.2.2.1))
 ) (
 cond (icmp .neq u54.2.2.2.2.2.2.2 u54.1.2.2.2.2) (
 some (false,(u54.2.2.1,u54.2.2.2.1,u54.2.2.2.2.2.1))
 ) (
 mo (loopF (Zb5 N) N ((u54.1.2.2.1,u54.1.2.2.2.1,0),(u54.2.1,u54.2.2.1,u54.2.2.2.1,(),u54.2.2.2.2.2.1,()))) none fun r118=>
 match r118 with
 | .inl u119=>(
 some (true,(u119.2.2.1,u119.2.2.2.1,u119.2.2.2.2.2))
 )
 | .inr w120=>(
 some (false,(w120.2.2.1,w120.2.2.2.1,w120.2.2.2.2.2))
 )
 )
 )
 )
 )
 | .inr _=>(
 none
 )
 ) (
 cond (icmp .eql a.2.2.1 13) (
 mo (ZaN N ((),a.2.2.2.1,()) b m.1) none fun r122=>
 mo (ZaU N ((),a.2.2.2.1) () m.2) none fun r123=>
 mo (loopF (ZbO N) N (((),(),r122.1,r123.1,[],0),(b,r122.2.1,r123.2.1,(),r123.2.2,()))) none fun r170=>
 match r170 with
 | .inl u171=>(
 cond (icmp .neq u171.2.2.2.1.2.2 0) (
 cond (icmp .neq (((List.length u171.1.2.1):Nat):Int) 0) (
 some (false,(u171.2.2.1,u171.2.2.2.1,u171.2.2.2.2.2.1))
 ) (
 mo (loopF (Zb6 N) N ((u171.1.2.1,[],0),(u171.2.1,u171.2.2.1,u171.2.2.2.1,(),u171.2.2.2.2.2.1,()))) none fun r201=>
 match r201 with
 | .inl u202=>(
 some (true,(u202.2.2.1,u202.2.2.2.1,u202.2.2.2.2.2))
 )
 | .inr w203=>(
 some (false,(w203.2.2.1,w203.2.2.2.1,w203.2.2.2.2.2))
 )
 )
 ) (
 cond (icmp .neq (((List.length u171.1.2.1):Nat):Int) (((List.length u171.1.2.2):Nat):Int)) (
 some (false,(u171.2.2.1,u171.2.2.2.1,u171.2.2.2.2.2.1))
 ) (
 mo (loopF (Zb6 N) N ((u171.1.2.1,u171.1.2.2,0),(u171.2.1,u171.2.2.1,u171.2.2.2.1,(),u171.2.2.2.2.2.1,()))) none fun r233=>
 match r233 with
 | .inl u234=>(
 some (true,(u234.2.2.1,u234.2.2.2.1,u234.2.2.2.2.2))
 )
 | .inr w235=>(
 some (false,(w235.2.2.1,w235.2.2.2.1,w235.2.2.2.2.2))
 )
 )
 )
 )
 | .inr _=>(
 none
 )
 ) (
 cond (icmp .eql a.2.2.1 14) (
 cond (icmp .eql m.2.1.2.2 0) (
 mo (Zcy ((),a.2.2.2.1,()) b m.1) none fun r237=>
 mo (Zbd () (r237.2,b) ()) none fun r238=>
 some ((icmp .eql r238.1 1),(r237.2,(m.2.1.1,m.2.1.2.1,1),m.2.2))
 ) (
 mo (Zcy ((),a.2.2.2.1,()) b m.1) none fun r239=>
 mo (Zbd () (r239.2,b) ()) none fun r240=>
 some ((icmp .eql r240.1 m.2.1.2.2),(r239.2,m.2))
 )
 ) (
 some (true,m)
 )
 )
 )
def ZcQ(N:Nat)(a:(Int×(LI×LI)×LI×Unit)):Option (LI):=
 cond (icmp .eql a.1 1) (
 mo (ZaA N (a.2.1.1,a.2.1.2)) none fun r1=>
 some r1
 ) (
 cond (icmp .eql a.1 2) (
 mo (Zgg N a.2.2.1) none fun r2=>
 some r2
 ) (
 none
 )
 )
def Zbm(N:Nat)(a:(Unit×Unit×(Int×Int×Int)))(b:(Nat×LI))(m:((Bool×(Nat×Nat×Nat)×Int)×(Nat×Int×Int)×(Nat×LI))):Option (Bool×((Bool×(Nat×Nat×Nat)×Int)×(Nat×Int×Int)×(Nat×LI))):=
 cond (icmp .eql a.2.2.1 1) (
 mo (ZbK ((),(IntKind.wrap .u64 a.2.2.2.1)) b m.1) none fun r1=>
 mo (Zba N ((),(IntKind.wrap .u64 a.2.2.2.1)) () m.2) none fun r2=>
 some ((icmp .eql r1.1 r2.1),(r1.2,r2.2))
 ) (
 cond (icmp .eql a.2.2.1 2) (
 mo (Zbe ((),a.2.2.2.1) b m.1) none fun r3=>
 mo (ZaJ N ((),a.2.2.2.1) () m.2) none fun r4=>
 mo (ZfF (r3.1,r4.1) () ()) none fun r5=>
 some (r5.1,(r3.2.1,r4.2.1,r4.2.2.2))
 ) (
 cond (icmp .eql a.2.2.1 3) (
 mo (Za2 () b m.1) none fun r6=>
 mo (ZaM () () m.2) none fun r7=>
 some ((decide (r6.1=r7.1)),(r6.2,r7.2))
 ) (
 cond (icmp .eql a.2.2.1 4) (
 mo (Zby N () b m.1) none fun r8=>
 mo (ZaQ N () () m.2) none fun r9=>
 some ((decide (r8.1=r9.1)),(r8.2,r9.2))
 ) (
 cond (icmp .eql a.2.2.1 5) (
 mo (Za8 N () b m.1) none fun r10=>
 mo (Zb9 N r10.1 () ()) none fun r11=>
 mo (Zao N ((),1) () m.2) none fun r12=>
 mo (ZcQ N (r12.1.1,r12.1.2.1,r12.1.2.2.1,())) none fun r13=>
 some ((decide (r11.1=r13)),(r10.2,r12.2))
 ) (
 cond (icmp .eql a.2.2.1 6) (
 mo (Zbt N () b m.1) none fun r14=>
 mo (Zao N ((),2) () m.2) none fun r15=>
 some ((decide (r14.1=r15.1.2.2.1)),(r14.2,r15.2))
 ) (
 cond (icmp .eql a.2.2.1 7) (
 mo (ZbH () b m.1) none fun r16=>
 mo (Zao N ((),3) () m.2) none fun r17=>
 some (true,(r16.2,r17.2))
 ) (
 cond (icmp .eql a.2.2.1 8) (
 mo (Zde () (m.1,b) ()) none fun r18=>
 mo (Za9 () m.2 ()) none fun r19=>
 some ((icmp .eql r18.1 r19.1),m)
 ) (
 cond (icmp .eql a.2.2.1 9) (
 mo (Zbd () (m.1,b) ()) none fun r20=>
 some ((icmp .eql r20.1 m.2.1.2.2),m)
 ) (
 cond (icmp .eql a.2.2.1 10) (
 mo (Zcg () b m.1) none fun r21=>
 mo (Zbu () () m.2) none fun r22=>
 some ((icmp .eql r21.1 r22.1),(r21.2,r22.2))
 ) (
 cond (icmp .eql a.2.2.1 11) (
 mo (Zav ((),a.2.2.2.2) b m.1) none fun r23=>
 mo (Zch ((),a.2.2.2.2) () m.2) none fun r24=>
 mo (Zbd () (r23.2,b) ()) none fun r25=>
 some ((icmp .eql r25.1 r24.2.1.2.2),(r23.2,r24.2))
 ) (
 mo (ZcK N ((),(),a.2.2) b m) none fun r26=>
 some r26
 )
 )
 )
 )
 )
 )
 )
 )
 )
 )
 )
def ZbI(N:Nat)(v:(List (Int)×List ((Int×Int×Int))×Unit×Nat×Unit×Int)×((Nat×LI)×(Bool×(Nat×Nat×Nat)×Int)×(Nat×LI))):Option (((List (Int)×List ((Int×Int×Int))×Unit×Nat×Unit×Int)×((Nat×LI)×(Bool×(Nat×Nat×Nat)×Int)×(Nat×LI))) ⊕ (((List (Int)×List ((Int×Int×Int))×Unit)×((Bool×(Nat×Nat×Nat)×Int)×(Nat×LI))) ⊕ (Unit×Unit))):=
 cond (icmp .lss v.1.2.2.2.2.2 ((v.1.2.2.2.1:Nat):Int)) (
 cond (decide ((0:Int)≤v.1.2.2.2.2.2∧v.1.2.2.2.2.2<((v.1.2.2.2.1:Nat):Int))) (
 some (.inl ((v.1.1,v.1.2.1,(),v.1.2.2.2.1,(),(ibin .add .i64 v.1.2.2.2.2.2 1)),((v.2.1.1,(List.set v.2.1.2 (Int.toNat v.1.2.2.2.2.2) 99)),v.2.2)))
 ) (
 none
 )
 ) (
 some (.inr (.inl ((v.1.1,v.1.2.1,()),v.2.2)))
 )
def ZbJ(N:Nat)(v:(List ((Int×Int×Int))×Unit×Unit×Int)×((Bool×(Nat×Nat×Nat)×Int)×(Nat×LI)×(Nat×Int×Int)×(Nat×LI))):Option (((List ((Int×Int×Int))×Unit×Unit×Int)×((Bool×(Nat×Nat×Nat)×Int)×(Nat×LI)×(Nat×Int×Int)×(Nat×LI))) ⊕ (((Unit×Unit)×((Bool×(Nat×Nat×Nat)×Int)×(Nat×LI)×(Nat×Int×Int)×(Nat×LI))) ⊕ (Unit×Unit))):=
 let x1:=(List.length v.1.1)
 cond (icmp .lss v.1.2.2.2 ((x1:Nat):Int)) (
 cond (decide ((0:Int)≤v.1.2.2.2∧v.1.2.2.2<((x1:Nat):Int))) (
 let x2:=(List.getD v.1.1 (Int.toNat v.1.2.2.2) (0,0,0))
 mo (Zbm N ((),(),x2) v.2.2.1 (v.2.1,v.2.2.2)) none fun r57=>
 cond (!r57.1) (
 some (.inr (.inr ((),())))
 ) (
 mo (Zde () (r57.2.1,v.2.2.1) ()) none fun r58=>
 mo (Za9 () r57.2.2 ()) none fun r59=>
 cond (icmp .neq r58.1 r59.1) (
 some (.inr (.inr ((),())))
 ) (
 mo (Zbd () (r57.2.1,v.2.2.1) ()) none fun r60=>
 cond (icmp .neq r60.1 r57.2.2.1.2.2) (
 some (.inr (.inr ((),())))
 ) (
 some (.inl ((v.1.1,(),(),(ibin .add .i64 v.1.2.2.2 1)),(r57.2.1,v.2.2.1,r57.2.2)))
 )
 )
 )
 ) (
 none
 )
 ) (
 some (.inr (.inl (((),()),v.2)))
 )
def Zgz(N:Nat)(a:(List (Int)×List ((Int×Int×Int))))(b:Unit)(m:Unit):Option (Bool×Unit):=
 let x1:=(0+(List.length a.1))
 cond (decide (x1*1≤140737488355328∧x1≤9223372036854775807)) (
 let x2:=(x1+3)
 cond (decide (x2*1≤140737488355328∧x2≤9223372036854775807)) (
 let x3:=(((List.length a.1):Nat):Int)
 let x4:=(decide ((0:Int)≤x3∧x3≤((x2:Nat):Int)))
 cond x4 (
 let x5:=(Int.toNat x3)
 let x6:=(a.1++[201,202,203])
 mo (ZgU (0,x5,0) (x2,x6) ()) none fun r1=>
 cond x4 (
 cond ((bStr (List.take x5 (List.drop 0 x6)))==(bStr a.1)) (
 cond (decide ((0:Int)≤x3∧x3<((x2:Nat):Int))) (
 cond (icmp .eql (List.getD x6 (Int.toNat x3) 0) 201) (
 let x7:=(ibin .add .i64 x3 1)
 cond (decide ((0:Int)≤x7∧x7<((x2:Nat):Int))) (
 cond (icmp .eql (List.getD x6 (Int.toNat x7) 0) 202) (
 let x8:=(ibin .add .i64 x3 2)
 cond (decide ((0:Int)≤x8∧x8<((x2:Nat):Int))) (
 cond (!(icmp .eql (List.getD x6 (Int.toNat x8) 0) 203)) (
 some (false,())
 ) (
 mo (loopF (ZbI N) N ((a.1,a.2,(),x2,(),0),((x2,x6),r1.2))) none fun r27=>
 match r27 with
 | .inl u28=>(
 mo (ZiC u28.1.1 () ()) none fun r29=>
 mo (loopF (ZbJ N) N ((u28.1.2.1,(),(),0),(u28.2.1,u28.2.2,r29.2))) none fun r61=>
 match r61 with
 | .inl u62=>(
 mo (Zcg () u62.2.2.1 u62.2.1) none fun r63=>
 mo (Zbu () () u62.2.2.2) none fun r64=>
 some ((icmp .eql r63.1 r64.1),())
 )
 | .inr w65=>(
 some (false,())
 )
 )
 | .inr _=>(
 none
 )
 )
 ) (
 none
 )
 ) (
 some (false,())
 )
 ) (
 none
 )
 ) (
 some (false,())
 )
 ) (
 none
 )
 ) (
 some (false,())
 )
 ) (
 none
 )
 ) (
 none
 )
 ) (
 none
 )
 ) (
 none
 )
end Go.Vx
