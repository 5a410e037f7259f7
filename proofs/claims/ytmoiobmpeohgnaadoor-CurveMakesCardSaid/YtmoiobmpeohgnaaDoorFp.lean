import Derived.Test.YtmoiobmpeohgnaaDoorVxR
set_option autoImplicit false
set_option linter.unusedVariables false
set_option linter.unusedSimpArgs false
namespace Go.Vx
open Go

def field_tab (i : Nat) : List Int := List.getD [[0, 0, 0, 0, 0], [1718705420411056, 234908883556509, 2233514472574048, 2117202627021982, 765476049583133], [929955233495203, 466365720129213, 1662059464998953, 2033849074728123, 1442794654840575], [2241493124984347, 425987919032274, 2207028919301688, 1220490630685848, 974799131293748], [278908739862762, 821645201101625, 8113234426968, 1777959178193151, 2118520810568447], [1136626929484150, 1998550399581263, 496427632559748, 118527312129759, 45110755273534], [1507062230895904, 1572317787530805, 683053064812840, 317374165784489, 1572899562415810]] i [0, 0, 0, 0, 0]

def field_Elem_light (a : List Int) : List Int :=
  [(ibin .add .u64 (ibin .and .u64 (List.getD a 0 0) 2251799813685247) (ibin .mul .u64 19 (ibin .shr .u64 (List.getD a 4 0) 51))), (ibin .add .u64 (ibin .and .u64 (List.getD a 1 0) 2251799813685247) (ibin .shr .u64 (List.getD a 0 0) 51)), (ibin .add .u64 (ibin .and .u64 (List.getD a 2 0) 2251799813685247) (ibin .shr .u64 (List.getD a 1 0) 51)), (ibin .add .u64 (ibin .and .u64 (List.getD a 3 0) 2251799813685247) (ibin .shr .u64 (List.getD a 2 0) 51)), (ibin .add .u64 (ibin .and .u64 (List.getD a 4 0) 2251799813685247) (ibin .shr .u64 (List.getD a 3 0) 51))]

def field_Elem_Least (a : List Int) : List Int :=
  let x1 := (field_Elem_light (field_Elem_light (field_Elem_light a)))
  let x2 := (List.getD x1 0 0)
  let x3 := (List.set x1 0 (ibin .add .u64 x2 (ibin .mul .u64 19 (ibin .shr .u64 (ibin .add .u64 (List.getD x1 4 0) (ibin .shr .u64 (ibin .add .u64 (List.getD x1 3 0) (ibin .shr .u64 (ibin .add .u64 (List.getD x1 2 0) (ibin .shr .u64 (ibin .add .u64 (List.getD x1 1 0) (ibin .shr .u64 (ibin .add .u64 x2 19) 51)) 51)) 51)) 51)) 51))))
  let x4 := (List.set x3 1 (ibin .add .u64 (List.getD x3 1 0) (ibin .shr .u64 (List.getD x3 0 0) 51)))
  let x5 := (List.set x4 0 (ibin .and .u64 (List.getD x4 0 0) 2251799813685247))
  let x6 := (List.set x5 2 (ibin .add .u64 (List.getD x5 2 0) (ibin .shr .u64 (List.getD x5 1 0) 51)))
  let x7 := (List.set x6 1 (ibin .and .u64 (List.getD x6 1 0) 2251799813685247))
  let x8 := (List.set x7 3 (ibin .add .u64 (List.getD x7 3 0) (ibin .shr .u64 (List.getD x7 2 0) 51)))
  let x9 := (List.set x8 2 (ibin .and .u64 (List.getD x8 2 0) 2251799813685247))
  let x10 := (List.set x9 4 (ibin .add .u64 (List.getD x9 4 0) (ibin .shr .u64 (List.getD x9 3 0) 51)))
  let x11 := (List.set x10 3 (ibin .and .u64 (List.getD x10 3 0) 2251799813685247))
  (List.set x11 4 (ibin .and .u64 (List.getD x11 4 0) 2251799813685247))

def field_Elem_slim (a : List Int) : Bool :=
  (icmp .eql (ibin .shr .u64 (ibin .or .u64 (ibin .or .u64 (ibin .or .u64 (ibin .or .u64 (List.getD a 0 0) (List.getD a 1 0)) (List.getD a 2 0)) (List.getD a 3 0)) (List.getD a 4 0)) 51) 0)

def field_last (a : Int) (b : Int) (c : Int) (d : Int) (e : Int) : List Int :=
  let x1 := (ibin .add .u64 a (ibin .mul .u64 19 (ibin .shr .u64 (ibin .add .u64 e (ibin .shr .u64 (ibin .add .u64 d (ibin .shr .u64 (ibin .add .u64 c (ibin .shr .u64 (ibin .add .u64 b (ibin .shr .u64 (ibin .add .u64 a 19) 51)) 51)) 51)) 51)) 51)))
  let x2 := (ibin .add .u64 b (ibin .shr .u64 x1 51))
  let x3 := (ibin .add .u64 c (ibin .shr .u64 x2 51))
  let x4 := (ibin .add .u64 d (ibin .shr .u64 x3 51))
  [(ibin .and .u64 x1 2251799813685247), (ibin .and .u64 x2 2251799813685247), (ibin .and .u64 x3 2251799813685247), (ibin .and .u64 x4 2251799813685247), (ibin .and .u64 (ibin .add .u64 e (ibin .shr .u64 x4 51)) 2251799813685247)]

def field_closed (a : Int) (b : Int) (c : Int) (d : Int) (e : Int) : List Int :=
  let x1 := (ibin .add .u64 b (ibin .shr .u64 a 51))
  let x2 := (ibin .add .u64 c (ibin .shr .u64 x1 51))
  let x3 := (ibin .add .u64 d (ibin .shr .u64 x2 51))
  let x4 := (ibin .add .u64 e (ibin .shr .u64 x3 51))
  let x5 := (ibin .add .u64 (ibin .and .u64 a 2251799813685247) (ibin .mul .u64 19 (ibin .shr .u64 x4 51)))
  cond (icmp .leq x5 2251799813685247) (
    let x6 := (ibin .and .u64 x4 2251799813685247)
    cond (icmp .neq x6 2251799813685247) (
      [x5, (ibin .and .u64 x1 2251799813685247), (ibin .and .u64 x2 2251799813685247), (ibin .and .u64 x3 2251799813685247), x6]
    ) (
      (field_last x5 (ibin .and .u64 x1 2251799813685247) (ibin .and .u64 x2 2251799813685247) (ibin .and .u64 x3 2251799813685247) x6)
    )
  ) (
    (field_last x5 (ibin .and .u64 x1 2251799813685247) (ibin .and .u64 x2 2251799813685247) (ibin .and .u64 x3 2251799813685247) (ibin .and .u64 x4 2251799813685247))
  )

def field_closed_o (a : Int) (b : Int) (c : Int) (d : Int) (e : Int) : Option (List Int) :=
  let x1 := (ibin .add .u64 b (ibin .shr .u64 a 51))
  let x2 := (ibin .add .u64 c (ibin .shr .u64 x1 51))
  let x3 := (ibin .add .u64 d (ibin .shr .u64 x2 51))
  let x4 := (ibin .add .u64 e (ibin .shr .u64 x3 51))
  let x5 := (ibin .add .u64 (ibin .and .u64 a 2251799813685247) (ibin .mul .u64 19 (ibin .shr .u64 x4 51)))
  cond (icmp .leq x5 2251799813685247) (
    let x6 := (ibin .and .u64 x4 2251799813685247)
    cond (icmp .neq x6 2251799813685247) (
      some [x5, (ibin .and .u64 x1 2251799813685247), (ibin .and .u64 x2 2251799813685247), (ibin .and .u64 x3 2251799813685247), x6]
    ) (
      some (field_last x5 (ibin .and .u64 x1 2251799813685247) (ibin .and .u64 x2 2251799813685247) (ibin .and .u64 x3 2251799813685247) x6)
    )
  ) (
    some (field_last x5 (ibin .and .u64 x1 2251799813685247) (ibin .and .u64 x2 2251799813685247) (ibin .and .u64 x3 2251799813685247) (ibin .and .u64 x4 2251799813685247))
  )

theorem field_closed_tot (a : Int) (b : Int) (c : Int) (d : Int) (e : Int) : field_closed_o a b c d e = some (field_closed a b c d e) := by
  unfold field_closed_o field_closed
  repeat' (first | refine cond_tot ?_ ?_ | rfl)

def field_Elem_Add (a : List Int) (b : List Int) : List Int :=
  cond (!(field_Elem_slim a)) (
    (field_closed (ibin .add .u64 (List.getD (field_Elem_Least a) 0 0) (List.getD (field_Elem_Least b) 0 0)) (ibin .add .u64 (List.getD (field_Elem_Least a) 1 0) (List.getD (field_Elem_Least b) 1 0)) (ibin .add .u64 (List.getD (field_Elem_Least a) 2 0) (List.getD (field_Elem_Least b) 2 0)) (ibin .add .u64 (List.getD (field_Elem_Least a) 3 0) (List.getD (field_Elem_Least b) 3 0)) (ibin .add .u64 (List.getD (field_Elem_Least a) 4 0) (List.getD (field_Elem_Least b) 4 0)))
  ) (
    cond (!(field_Elem_slim b)) (
      (field_closed (ibin .add .u64 (List.getD (field_Elem_Least a) 0 0) (List.getD (field_Elem_Least b) 0 0)) (ibin .add .u64 (List.getD (field_Elem_Least a) 1 0) (List.getD (field_Elem_Least b) 1 0)) (ibin .add .u64 (List.getD (field_Elem_Least a) 2 0) (List.getD (field_Elem_Least b) 2 0)) (ibin .add .u64 (List.getD (field_Elem_Least a) 3 0) (List.getD (field_Elem_Least b) 3 0)) (ibin .add .u64 (List.getD (field_Elem_Least a) 4 0) (List.getD (field_Elem_Least b) 4 0)))
    ) (
      (field_closed (ibin .add .u64 (List.getD a 0 0) (List.getD b 0 0)) (ibin .add .u64 (List.getD a 1 0) (List.getD b 1 0)) (ibin .add .u64 (List.getD a 2 0) (List.getD b 2 0)) (ibin .add .u64 (List.getD a 3 0) (List.getD b 3 0)) (ibin .add .u64 (List.getD a 4 0) (List.getD b 4 0)))
    )
  )

def field_Elem_Add_o (a : List Int) (b : List Int) : Option (List Int) :=
  cond (!(field_Elem_slim a)) (
    some (field_closed (ibin .add .u64 (List.getD (field_Elem_Least a) 0 0) (List.getD (field_Elem_Least b) 0 0)) (ibin .add .u64 (List.getD (field_Elem_Least a) 1 0) (List.getD (field_Elem_Least b) 1 0)) (ibin .add .u64 (List.getD (field_Elem_Least a) 2 0) (List.getD (field_Elem_Least b) 2 0)) (ibin .add .u64 (List.getD (field_Elem_Least a) 3 0) (List.getD (field_Elem_Least b) 3 0)) (ibin .add .u64 (List.getD (field_Elem_Least a) 4 0) (List.getD (field_Elem_Least b) 4 0)))
  ) (
    cond (!(field_Elem_slim b)) (
      some (field_closed (ibin .add .u64 (List.getD (field_Elem_Least a) 0 0) (List.getD (field_Elem_Least b) 0 0)) (ibin .add .u64 (List.getD (field_Elem_Least a) 1 0) (List.getD (field_Elem_Least b) 1 0)) (ibin .add .u64 (List.getD (field_Elem_Least a) 2 0) (List.getD (field_Elem_Least b) 2 0)) (ibin .add .u64 (List.getD (field_Elem_Least a) 3 0) (List.getD (field_Elem_Least b) 3 0)) (ibin .add .u64 (List.getD (field_Elem_Least a) 4 0) (List.getD (field_Elem_Least b) 4 0)))
    ) (
      some (field_closed (ibin .add .u64 (List.getD a 0 0) (List.getD b 0 0)) (ibin .add .u64 (List.getD a 1 0) (List.getD b 1 0)) (ibin .add .u64 (List.getD a 2 0) (List.getD b 2 0)) (ibin .add .u64 (List.getD a 3 0) (List.getD b 3 0)) (ibin .add .u64 (List.getD a 4 0) (List.getD b 4 0)))
    )
  )

theorem field_Elem_Add_tot (a : List Int) (b : List Int) : field_Elem_Add_o a b = some (field_Elem_Add a b) := by
  unfold field_Elem_Add_o field_Elem_Add
  repeat' (first | refine cond_tot ?_ ?_ | rfl)

def field_Elem_Sub (a : List Int) (b : List Int) : List Int :=
  cond (!(field_Elem_slim a)) (
    (field_closed (ibin .sub .u64 (ibin .add .u64 (List.getD (field_Elem_Least a) 0 0) 4503599627370458) (List.getD (field_Elem_Least b) 0 0)) (ibin .sub .u64 (ibin .add .u64 (List.getD (field_Elem_Least a) 1 0) 4503599627370494) (List.getD (field_Elem_Least b) 1 0)) (ibin .sub .u64 (ibin .add .u64 (List.getD (field_Elem_Least a) 2 0) 4503599627370494) (List.getD (field_Elem_Least b) 2 0)) (ibin .sub .u64 (ibin .add .u64 (List.getD (field_Elem_Least a) 3 0) 4503599627370494) (List.getD (field_Elem_Least b) 3 0)) (ibin .sub .u64 (ibin .add .u64 (List.getD (field_Elem_Least a) 4 0) 4503599627370494) (List.getD (field_Elem_Least b) 4 0)))
  ) (
    cond (!(field_Elem_slim b)) (
      (field_closed (ibin .sub .u64 (ibin .add .u64 (List.getD (field_Elem_Least a) 0 0) 4503599627370458) (List.getD (field_Elem_Least b) 0 0)) (ibin .sub .u64 (ibin .add .u64 (List.getD (field_Elem_Least a) 1 0) 4503599627370494) (List.getD (field_Elem_Least b) 1 0)) (ibin .sub .u64 (ibin .add .u64 (List.getD (field_Elem_Least a) 2 0) 4503599627370494) (List.getD (field_Elem_Least b) 2 0)) (ibin .sub .u64 (ibin .add .u64 (List.getD (field_Elem_Least a) 3 0) 4503599627370494) (List.getD (field_Elem_Least b) 3 0)) (ibin .sub .u64 (ibin .add .u64 (List.getD (field_Elem_Least a) 4 0) 4503599627370494) (List.getD (field_Elem_Least b) 4 0)))
    ) (
      (field_closed (ibin .sub .u64 (ibin .add .u64 (List.getD a 0 0) 4503599627370458) (List.getD b 0 0)) (ibin .sub .u64 (ibin .add .u64 (List.getD a 1 0) 4503599627370494) (List.getD b 1 0)) (ibin .sub .u64 (ibin .add .u64 (List.getD a 2 0) 4503599627370494) (List.getD b 2 0)) (ibin .sub .u64 (ibin .add .u64 (List.getD a 3 0) 4503599627370494) (List.getD b 3 0)) (ibin .sub .u64 (ibin .add .u64 (List.getD a 4 0) 4503599627370494) (List.getD b 4 0)))
    )
  )

def field_Elem_Sub_o (a : List Int) (b : List Int) : Option (List Int) :=
  cond (!(field_Elem_slim a)) (
    some (field_closed (ibin .sub .u64 (ibin .add .u64 (List.getD (field_Elem_Least a) 0 0) 4503599627370458) (List.getD (field_Elem_Least b) 0 0)) (ibin .sub .u64 (ibin .add .u64 (List.getD (field_Elem_Least a) 1 0) 4503599627370494) (List.getD (field_Elem_Least b) 1 0)) (ibin .sub .u64 (ibin .add .u64 (List.getD (field_Elem_Least a) 2 0) 4503599627370494) (List.getD (field_Elem_Least b) 2 0)) (ibin .sub .u64 (ibin .add .u64 (List.getD (field_Elem_Least a) 3 0) 4503599627370494) (List.getD (field_Elem_Least b) 3 0)) (ibin .sub .u64 (ibin .add .u64 (List.getD (field_Elem_Least a) 4 0) 4503599627370494) (List.getD (field_Elem_Least b) 4 0)))
  ) (
    cond (!(field_Elem_slim b)) (
      some (field_closed (ibin .sub .u64 (ibin .add .u64 (List.getD (field_Elem_Least a) 0 0) 4503599627370458) (List.getD (field_Elem_Least b) 0 0)) (ibin .sub .u64 (ibin .add .u64 (List.getD (field_Elem_Least a) 1 0) 4503599627370494) (List.getD (field_Elem_Least b) 1 0)) (ibin .sub .u64 (ibin .add .u64 (List.getD (field_Elem_Least a) 2 0) 4503599627370494) (List.getD (field_Elem_Least b) 2 0)) (ibin .sub .u64 (ibin .add .u64 (List.getD (field_Elem_Least a) 3 0) 4503599627370494) (List.getD (field_Elem_Least b) 3 0)) (ibin .sub .u64 (ibin .add .u64 (List.getD (field_Elem_Least a) 4 0) 4503599627370494) (List.getD (field_Elem_Least b) 4 0)))
    ) (
      some (field_closed (ibin .sub .u64 (ibin .add .u64 (List.getD a 0 0) 4503599627370458) (List.getD b 0 0)) (ibin .sub .u64 (ibin .add .u64 (List.getD a 1 0) 4503599627370494) (List.getD b 1 0)) (ibin .sub .u64 (ibin .add .u64 (List.getD a 2 0) 4503599627370494) (List.getD b 2 0)) (ibin .sub .u64 (ibin .add .u64 (List.getD a 3 0) 4503599627370494) (List.getD b 3 0)) (ibin .sub .u64 (ibin .add .u64 (List.getD a 4 0) 4503599627370494) (List.getD b 4 0)))
    )
  )

theorem field_Elem_Sub_tot (a : List Int) (b : List Int) : field_Elem_Sub_o a b = some (field_Elem_Sub a b) := by
  unfold field_Elem_Sub_o field_Elem_Sub
  repeat' (first | refine cond_tot ?_ ?_ | rfl)

def field_Elem_Neg (a : List Int) : List Int :=
  (field_Elem_Sub [0, 0, 0, 0, 0] a)

def bits_Mul64 (a : Int) (b : Int) : (Int × Int) :=
  let x1 := (ibin .add .u64 (ibin .mul .u64 (ibin .shr .u64 a 32) (ibin .and .u64 b 4294967295)) (ibin .shr .u64 (ibin .mul .u64 (ibin .and .u64 a 4294967295) (ibin .and .u64 b 4294967295)) 32))
  ((ibin .add .u64 (ibin .add .u64 (ibin .mul .u64 (ibin .shr .u64 a 32) (ibin .shr .u64 b 32)) (ibin .shr .u64 x1 32)) (ibin .shr .u64 (ibin .add .u64 (ibin .and .u64 x1 4294967295) (ibin .mul .u64 (ibin .and .u64 a 4294967295) (ibin .shr .u64 b 32))) 32)), (ibin .mul .u64 a b))

def field_double_plus (a : (Int × Int)) (b : Int) (c : Int) : Option ((Int × Int)) :=
  mo (bits_Add64 a.2 (bits_Mul64 b c).2 0) none fun r1 =>
  mo (bits_Add64 a.1 (bits_Mul64 b c).1 r1.2) none fun r2 =>
  some (r2.1, r1.1)

def field_double_over (a : (Int × Int)) : Int :=
  (ibin .or .u64 (ibin .shl .u64 a.1 13) (ibin .shr .u64 a.2 51))

def field_carried (a : (Int × Int)) (b : (Int × Int)) (c : (Int × Int)) (d : (Int × Int)) (e : (Int × Int)) : Option (List Int) :=
  mo (field_double_plus (b.1, b.2) (field_double_over (a.1, a.2)) 1) none fun r1 =>
  mo (field_double_plus (c.1, c.2) (field_double_over (r1.1, r1.2)) 1) none fun r2 =>
  mo (field_double_plus (d.1, d.2) (field_double_over (r2.1, r2.2)) 1) none fun r3 =>
  mo (field_double_plus (e.1, e.2) (field_double_over (r3.1, r3.2)) 1) none fun r4 =>
  mo (field_double_plus (0, (ibin .and .u64 a.2 2251799813685247)) (field_double_over (r4.1, r4.2)) 19) none fun r5 =>
  some (field_closed (ibin .and .u64 r5.2 2251799813685247) (ibin .add .u64 (ibin .and .u64 r1.2 2251799813685247) (field_double_over (r5.1, r5.2))) (ibin .and .u64 r2.2 2251799813685247) (ibin .and .u64 r3.2 2251799813685247) (ibin .and .u64 r4.2 2251799813685247))

def field_Elem_Mul (a : List Int) (b : List Int) : Option (List Int) :=
  cond (!(field_Elem_slim a)) (
    mo (field_double_plus (0, 0) (List.getD (field_Elem_Least a) 0 0) (List.getD (field_Elem_Least b) 0 0)) none fun r1 =>
    mo (field_double_plus (r1.1, r1.2) (ibin .mul .u64 19 (List.getD (field_Elem_Least a) 1 0)) (List.getD (field_Elem_Least b) 4 0)) none fun r2 =>
    let x1 := (ibin .mul .u64 19 (List.getD (field_Elem_Least a) 2 0))
    mo (field_double_plus (r2.1, r2.2) x1 (List.getD (field_Elem_Least b) 3 0)) none fun r3 =>
    let x2 := (ibin .mul .u64 19 (List.getD (field_Elem_Least a) 3 0))
    mo (field_double_plus (r3.1, r3.2) x2 (List.getD (field_Elem_Least b) 2 0)) none fun r4 =>
    let x3 := (ibin .mul .u64 19 (List.getD (field_Elem_Least a) 4 0))
    mo (field_double_plus (r4.1, r4.2) x3 (List.getD (field_Elem_Least b) 1 0)) none fun r5 =>
    mo (field_double_plus (0, 0) (List.getD (field_Elem_Least a) 0 0) (List.getD (field_Elem_Least b) 1 0)) none fun r6 =>
    mo (field_double_plus (r6.1, r6.2) (List.getD (field_Elem_Least a) 1 0) (List.getD (field_Elem_Least b) 0 0)) none fun r7 =>
    mo (field_double_plus (r7.1, r7.2) x1 (List.getD (field_Elem_Least b) 4 0)) none fun r8 =>
    mo (field_double_plus (r8.1, r8.2) x2 (List.getD (field_Elem_Least b) 3 0)) none fun r9 =>
    mo (field_double_plus (r9.1, r9.2) x3 (List.getD (field_Elem_Least b) 2 0)) none fun r10 =>
    mo (field_double_plus (0, 0) (List.getD (field_Elem_Least a) 0 0) (List.getD (field_Elem_Least b) 2 0)) none fun r11 =>
    mo (field_double_plus (r11.1, r11.2) (List.getD (field_Elem_Least a) 1 0) (List.getD (field_Elem_Least b) 1 0)) none fun r12 =>
    mo (field_double_plus (r12.1, r12.2) (List.getD (field_Elem_Least a) 2 0) (List.getD (field_Elem_Least b) 0 0)) none fun r13 =>
    mo (field_double_plus (r13.1, r13.2) x2 (List.getD (field_Elem_Least b) 4 0)) none fun r14 =>
    mo (field_double_plus (r14.1, r14.2) x3 (List.getD (field_Elem_Least b) 3 0)) none fun r15 =>
    mo (field_double_plus (0, 0) (List.getD (field_Elem_Least a) 0 0) (List.getD (field_Elem_Least b) 3 0)) none fun r16 =>
    mo (field_double_plus (r16.1, r16.2) (List.getD (field_Elem_Least a) 1 0) (List.getD (field_Elem_Least b) 2 0)) none fun r17 =>
    mo (field_double_plus (r17.1, r17.2) (List.getD (field_Elem_Least a) 2 0) (List.getD (field_Elem_Least b) 1 0)) none fun r18 =>
    mo (field_double_plus (r18.1, r18.2) (List.getD (field_Elem_Least a) 3 0) (List.getD (field_Elem_Least b) 0 0)) none fun r19 =>
    mo (field_double_plus (r19.1, r19.2) x3 (List.getD (field_Elem_Least b) 4 0)) none fun r20 =>
    mo (field_double_plus (0, 0) (List.getD (field_Elem_Least a) 0 0) (List.getD (field_Elem_Least b) 4 0)) none fun r21 =>
    mo (field_double_plus (r21.1, r21.2) (List.getD (field_Elem_Least a) 1 0) (List.getD (field_Elem_Least b) 3 0)) none fun r22 =>
    mo (field_double_plus (r22.1, r22.2) (List.getD (field_Elem_Least a) 2 0) (List.getD (field_Elem_Least b) 2 0)) none fun r23 =>
    mo (field_double_plus (r23.1, r23.2) (List.getD (field_Elem_Least a) 3 0) (List.getD (field_Elem_Least b) 1 0)) none fun r24 =>
    mo (field_double_plus (r24.1, r24.2) (List.getD (field_Elem_Least a) 4 0) (List.getD (field_Elem_Least b) 0 0)) none fun r25 =>
    mo (field_carried (r5.1, r5.2) (r10.1, r10.2) (r15.1, r15.2) (r20.1, r20.2) (r25.1, r25.2)) none fun r26 =>
    some r26
  ) (
    cond (!(field_Elem_slim b)) (
      mo (field_double_plus (0, 0) (List.getD (field_Elem_Least a) 0 0) (List.getD (field_Elem_Least b) 0 0)) none fun r27 =>
      mo (field_double_plus (r27.1, r27.2) (ibin .mul .u64 19 (List.getD (field_Elem_Least a) 1 0)) (List.getD (field_Elem_Least b) 4 0)) none fun r28 =>
      let x4 := (ibin .mul .u64 19 (List.getD (field_Elem_Least a) 2 0))
      mo (field_double_plus (r28.1, r28.2) x4 (List.getD (field_Elem_Least b) 3 0)) none fun r29 =>
      let x5 := (ibin .mul .u64 19 (List.getD (field_Elem_Least a) 3 0))
      mo (field_double_plus (r29.1, r29.2) x5 (List.getD (field_Elem_Least b) 2 0)) none fun r30 =>
      let x6 := (ibin .mul .u64 19 (List.getD (field_Elem_Least a) 4 0))
      mo (field_double_plus (r30.1, r30.2) x6 (List.getD (field_Elem_Least b) 1 0)) none fun r31 =>
      mo (field_double_plus (0, 0) (List.getD (field_Elem_Least a) 0 0) (List.getD (field_Elem_Least b) 1 0)) none fun r32 =>
      mo (field_double_plus (r32.1, r32.2) (List.getD (field_Elem_Least a) 1 0) (List.getD (field_Elem_Least b) 0 0)) none fun r33 =>
      mo (field_double_plus (r33.1, r33.2) x4 (List.getD (field_Elem_Least b) 4 0)) none fun r34 =>
      mo (field_double_plus (r34.1, r34.2) x5 (List.getD (field_Elem_Least b) 3 0)) none fun r35 =>
      mo (field_double_plus (r35.1, r35.2) x6 (List.getD (field_Elem_Least b) 2 0)) none fun r36 =>
      mo (field_double_plus (0, 0) (List.getD (field_Elem_Least a) 0 0) (List.getD (field_Elem_Least b) 2 0)) none fun r37 =>
      mo (field_double_plus (r37.1, r37.2) (List.getD (field_Elem_Least a) 1 0) (List.getD (field_Elem_Least b) 1 0)) none fun r38 =>
      mo (field_double_plus (r38.1, r38.2) (List.getD (field_Elem_Least a) 2 0) (List.getD (field_Elem_Least b) 0 0)) none fun r39 =>
      mo (field_double_plus (r39.1, r39.2) x5 (List.getD (field_Elem_Least b) 4 0)) none fun r40 =>
      mo (field_double_plus (r40.1, r40.2) x6 (List.getD (field_Elem_Least b) 3 0)) none fun r41 =>
      mo (field_double_plus (0, 0) (List.getD (field_Elem_Least a) 0 0) (List.getD (field_Elem_Least b) 3 0)) none fun r42 =>
      mo (field_double_plus (r42.1, r42.2) (List.getD (field_Elem_Least a) 1 0) (List.getD (field_Elem_Least b) 2 0)) none fun r43 =>
      mo (field_double_plus (r43.1, r43.2) (List.getD (field_Elem_Least a) 2 0) (List.getD (field_Elem_Least b) 1 0)) none fun r44 =>
      mo (field_double_plus (r44.1, r44.2) (List.getD (field_Elem_Least a) 3 0) (List.getD (field_Elem_Least b) 0 0)) none fun r45 =>
      mo (field_double_plus (r45.1, r45.2) x6 (List.getD (field_Elem_Least b) 4 0)) none fun r46 =>
      mo (field_double_plus (0, 0) (List.getD (field_Elem_Least a) 0 0) (List.getD (field_Elem_Least b) 4 0)) none fun r47 =>
      mo (field_double_plus (r47.1, r47.2) (List.getD (field_Elem_Least a) 1 0) (List.getD (field_Elem_Least b) 3 0)) none fun r48 =>
      mo (field_double_plus (r48.1, r48.2) (List.getD (field_Elem_Least a) 2 0) (List.getD (field_Elem_Least b) 2 0)) none fun r49 =>
      mo (field_double_plus (r49.1, r49.2) (List.getD (field_Elem_Least a) 3 0) (List.getD (field_Elem_Least b) 1 0)) none fun r50 =>
      mo (field_double_plus (r50.1, r50.2) (List.getD (field_Elem_Least a) 4 0) (List.getD (field_Elem_Least b) 0 0)) none fun r51 =>
      mo (field_carried (r31.1, r31.2) (r36.1, r36.2) (r41.1, r41.2) (r46.1, r46.2) (r51.1, r51.2)) none fun r52 =>
      some r52
    ) (
      mo (field_double_plus (0, 0) (List.getD a 0 0) (List.getD b 0 0)) none fun r53 =>
      mo (field_double_plus (r53.1, r53.2) (ibin .mul .u64 19 (List.getD a 1 0)) (List.getD b 4 0)) none fun r54 =>
      let x7 := (ibin .mul .u64 19 (List.getD a 2 0))
      mo (field_double_plus (r54.1, r54.2) x7 (List.getD b 3 0)) none fun r55 =>
      let x8 := (ibin .mul .u64 19 (List.getD a 3 0))
      mo (field_double_plus (r55.1, r55.2) x8 (List.getD b 2 0)) none fun r56 =>
      let x9 := (ibin .mul .u64 19 (List.getD a 4 0))
      mo (field_double_plus (r56.1, r56.2) x9 (List.getD b 1 0)) none fun r57 =>
      mo (field_double_plus (0, 0) (List.getD a 0 0) (List.getD b 1 0)) none fun r58 =>
      mo (field_double_plus (r58.1, r58.2) (List.getD a 1 0) (List.getD b 0 0)) none fun r59 =>
      mo (field_double_plus (r59.1, r59.2) x7 (List.getD b 4 0)) none fun r60 =>
      mo (field_double_plus (r60.1, r60.2) x8 (List.getD b 3 0)) none fun r61 =>
      mo (field_double_plus (r61.1, r61.2) x9 (List.getD b 2 0)) none fun r62 =>
      mo (field_double_plus (0, 0) (List.getD a 0 0) (List.getD b 2 0)) none fun r63 =>
      mo (field_double_plus (r63.1, r63.2) (List.getD a 1 0) (List.getD b 1 0)) none fun r64 =>
      mo (field_double_plus (r64.1, r64.2) (List.getD a 2 0) (List.getD b 0 0)) none fun r65 =>
      mo (field_double_plus (r65.1, r65.2) x8 (List.getD b 4 0)) none fun r66 =>
      mo (field_double_plus (r66.1, r66.2) x9 (List.getD b 3 0)) none fun r67 =>
      mo (field_double_plus (0, 0) (List.getD a 0 0) (List.getD b 3 0)) none fun r68 =>
      mo (field_double_plus (r68.1, r68.2) (List.getD a 1 0) (List.getD b 2 0)) none fun r69 =>
      mo (field_double_plus (r69.1, r69.2) (List.getD a 2 0) (List.getD b 1 0)) none fun r70 =>
      mo (field_double_plus (r70.1, r70.2) (List.getD a 3 0) (List.getD b 0 0)) none fun r71 =>
      mo (field_double_plus (r71.1, r71.2) x9 (List.getD b 4 0)) none fun r72 =>
      mo (field_double_plus (0, 0) (List.getD a 0 0) (List.getD b 4 0)) none fun r73 =>
      mo (field_double_plus (r73.1, r73.2) (List.getD a 1 0) (List.getD b 3 0)) none fun r74 =>
      mo (field_double_plus (r74.1, r74.2) (List.getD a 2 0) (List.getD b 2 0)) none fun r75 =>
      mo (field_double_plus (r75.1, r75.2) (List.getD a 3 0) (List.getD b 1 0)) none fun r76 =>
      mo (field_double_plus (r76.1, r76.2) (List.getD a 4 0) (List.getD b 0 0)) none fun r77 =>
      mo (field_carried (r57.1, r57.2) (r62.1, r62.2) (r67.1, r67.2) (r72.1, r72.2) (r77.1, r77.2)) none fun r78 =>
      some r78
    )
  )

def field_Elem_Square (a : List Int) : Option (List Int) :=
  cond (!(field_Elem_slim a)) (
    mo (field_double_plus (0, 0) (List.getD (field_Elem_Least a) 0 0) (List.getD (field_Elem_Least a) 0 0)) none fun r1 =>
    mo (field_double_plus (r1.1, r1.2) (ibin .mul .u64 38 (List.getD (field_Elem_Least a) 1 0)) (List.getD (field_Elem_Least a) 4 0)) none fun r2 =>
    let x1 := (ibin .mul .u64 38 (List.getD (field_Elem_Least a) 2 0))
    mo (field_double_plus (r2.1, r2.2) x1 (List.getD (field_Elem_Least a) 3 0)) none fun r3 =>
    let x2 := (ibin .mul .u64 2 (List.getD (field_Elem_Least a) 0 0))
    mo (field_double_plus (0, 0) x2 (List.getD (field_Elem_Least a) 1 0)) none fun r4 =>
    mo (field_double_plus (r4.1, r4.2) x1 (List.getD (field_Elem_Least a) 4 0)) none fun r5 =>
    let x3 := (ibin .mul .u64 19 (List.getD (field_Elem_Least a) 3 0))
    mo (field_double_plus (r5.1, r5.2) x3 (List.getD (field_Elem_Least a) 3 0)) none fun r6 =>
    mo (field_double_plus (0, 0) x2 (List.getD (field_Elem_Least a) 2 0)) none fun r7 =>
    mo (field_double_plus (r7.1, r7.2) (List.getD (field_Elem_Least a) 1 0) (List.getD (field_Elem_Least a) 1 0)) none fun r8 =>
    mo (field_double_plus (r8.1, r8.2) (ibin .mul .u64 2 x3) (List.getD (field_Elem_Least a) 4 0)) none fun r9 =>
    mo (field_double_plus (0, 0) x2 (List.getD (field_Elem_Least a) 3 0)) none fun r10 =>
    let x4 := (ibin .mul .u64 2 (List.getD (field_Elem_Least a) 1 0))
    mo (field_double_plus (r10.1, r10.2) x4 (List.getD (field_Elem_Least a) 2 0)) none fun r11 =>
    mo (field_double_plus (r11.1, r11.2) (ibin .mul .u64 19 (List.getD (field_Elem_Least a) 4 0)) (List.getD (field_Elem_Least a) 4 0)) none fun r12 =>
    mo (field_double_plus (0, 0) x2 (List.getD (field_Elem_Least a) 4 0)) none fun r13 =>
    mo (field_double_plus (r13.1, r13.2) x4 (List.getD (field_Elem_Least a) 3 0)) none fun r14 =>
    mo (field_double_plus (r14.1, r14.2) (List.getD (field_Elem_Least a) 2 0) (List.getD (field_Elem_Least a) 2 0)) none fun r15 =>
    mo (field_carried (r3.1, r3.2) (r6.1, r6.2) (r9.1, r9.2) (r12.1, r12.2) (r15.1, r15.2)) none fun r16 =>
    some r16
  ) (
    mo (field_double_plus (0, 0) (List.getD a 0 0) (List.getD a 0 0)) none fun r17 =>
    mo (field_double_plus (r17.1, r17.2) (ibin .mul .u64 38 (List.getD a 1 0)) (List.getD a 4 0)) none fun r18 =>
    let x5 := (ibin .mul .u64 38 (List.getD a 2 0))
    mo (field_double_plus (r18.1, r18.2) x5 (List.getD a 3 0)) none fun r19 =>
    let x6 := (ibin .mul .u64 2 (List.getD a 0 0))
    mo (field_double_plus (0, 0) x6 (List.getD a 1 0)) none fun r20 =>
    mo (field_double_plus (r20.1, r20.2) x5 (List.getD a 4 0)) none fun r21 =>
    let x7 := (ibin .mul .u64 19 (List.getD a 3 0))
    mo (field_double_plus (r21.1, r21.2) x7 (List.getD a 3 0)) none fun r22 =>
    mo (field_double_plus (0, 0) x6 (List.getD a 2 0)) none fun r23 =>
    mo (field_double_plus (r23.1, r23.2) (List.getD a 1 0) (List.getD a 1 0)) none fun r24 =>
    mo (field_double_plus (r24.1, r24.2) (ibin .mul .u64 2 x7) (List.getD a 4 0)) none fun r25 =>
    mo (field_double_plus (0, 0) x6 (List.getD a 3 0)) none fun r26 =>
    let x8 := (ibin .mul .u64 2 (List.getD a 1 0))
    mo (field_double_plus (r26.1, r26.2) x8 (List.getD a 2 0)) none fun r27 =>
    mo (field_double_plus (r27.1, r27.2) (ibin .mul .u64 19 (List.getD a 4 0)) (List.getD a 4 0)) none fun r28 =>
    mo (field_double_plus (0, 0) x6 (List.getD a 4 0)) none fun r29 =>
    mo (field_double_plus (r29.1, r29.2) x8 (List.getD a 3 0)) none fun r30 =>
    mo (field_double_plus (r30.1, r30.2) (List.getD a 2 0) (List.getD a 2 0)) none fun r31 =>
    mo (field_carried (r19.1, r19.2) (r22.1, r22.2) (r25.1, r25.2) (r28.1, r28.2) (r31.1, r31.2)) none fun r32 =>
    some r32
  )

def field_load (a : List Int) : List Int :=
  let x1 := (ibin .or .u64 (ibin .or .u64 (ibin .or .u64 (ibin .or .u64 (ibin .or .u64 (ibin .or .u64 (ibin .or .u64 (ibin .or .u64 0 (ibin .shl .u64 (IntKind.wrap .u64 (List.getD a 0 0)) 0)) (ibin .shl .u64 (IntKind.wrap .u64 (List.getD a 1 0)) 8)) (ibin .shl .u64 (IntKind.wrap .u64 (List.getD a 2 0)) 16)) (ibin .shl .u64 (IntKind.wrap .u64 (List.getD a 3 0)) 24)) (ibin .shl .u64 (IntKind.wrap .u64 (List.getD a 4 0)) 32)) (ibin .shl .u64 (IntKind.wrap .u64 (List.getD a 5 0)) 40)) (ibin .shl .u64 (IntKind.wrap .u64 (List.getD a 6 0)) 48)) (ibin .shl .u64 (IntKind.wrap .u64 (List.getD a 7 0)) 56))
  let x2 := (ibin .or .u64 (ibin .or .u64 (ibin .or .u64 (ibin .or .u64 (ibin .or .u64 (ibin .or .u64 (ibin .or .u64 (ibin .or .u64 0 (ibin .shl .u64 (IntKind.wrap .u64 (List.getD a 8 0)) 0)) (ibin .shl .u64 (IntKind.wrap .u64 (List.getD a 9 0)) 8)) (ibin .shl .u64 (IntKind.wrap .u64 (List.getD a 10 0)) 16)) (ibin .shl .u64 (IntKind.wrap .u64 (List.getD a 11 0)) 24)) (ibin .shl .u64 (IntKind.wrap .u64 (List.getD a 12 0)) 32)) (ibin .shl .u64 (IntKind.wrap .u64 (List.getD a 13 0)) 40)) (ibin .shl .u64 (IntKind.wrap .u64 (List.getD a 14 0)) 48)) (ibin .shl .u64 (IntKind.wrap .u64 (List.getD a 15 0)) 56))
  let x3 := (ibin .or .u64 (ibin .or .u64 (ibin .or .u64 (ibin .or .u64 (ibin .or .u64 (ibin .or .u64 (ibin .or .u64 (ibin .or .u64 0 (ibin .shl .u64 (IntKind.wrap .u64 (List.getD a 16 0)) 0)) (ibin .shl .u64 (IntKind.wrap .u64 (List.getD a 17 0)) 8)) (ibin .shl .u64 (IntKind.wrap .u64 (List.getD a 18 0)) 16)) (ibin .shl .u64 (IntKind.wrap .u64 (List.getD a 19 0)) 24)) (ibin .shl .u64 (IntKind.wrap .u64 (List.getD a 20 0)) 32)) (ibin .shl .u64 (IntKind.wrap .u64 (List.getD a 21 0)) 40)) (ibin .shl .u64 (IntKind.wrap .u64 (List.getD a 22 0)) 48)) (ibin .shl .u64 (IntKind.wrap .u64 (List.getD a 23 0)) 56))
  let x4 := (ibin .or .u64 (ibin .or .u64 (ibin .or .u64 (ibin .or .u64 (ibin .or .u64 (ibin .or .u64 (ibin .or .u64 (ibin .or .u64 0 (ibin .shl .u64 (IntKind.wrap .u64 (List.getD a 24 0)) 0)) (ibin .shl .u64 (IntKind.wrap .u64 (List.getD a 25 0)) 8)) (ibin .shl .u64 (IntKind.wrap .u64 (List.getD a 26 0)) 16)) (ibin .shl .u64 (IntKind.wrap .u64 (List.getD a 27 0)) 24)) (ibin .shl .u64 (IntKind.wrap .u64 (List.getD a 28 0)) 32)) (ibin .shl .u64 (IntKind.wrap .u64 (List.getD a 29 0)) 40)) (ibin .shl .u64 (IntKind.wrap .u64 (List.getD a 30 0)) 48)) (ibin .shl .u64 (IntKind.wrap .u64 (List.getD a 31 0)) 56))
  [(ibin .and .u64 x1 2251799813685247), (ibin .and .u64 (ibin .or .u64 (ibin .shr .u64 x1 51) (ibin .shl .u64 x2 13)) 2251799813685247), (ibin .and .u64 (ibin .or .u64 (ibin .shr .u64 x2 38) (ibin .shl .u64 x3 26)) 2251799813685247), (ibin .and .u64 (ibin .or .u64 (ibin .shr .u64 x3 25) (ibin .shl .u64 x4 39)) 2251799813685247), (ibin .and .u64 (ibin .shr .u64 x4 12) 2251799813685247)]

def field_Decode (a : List Int) : (List Int × Int) :=
  cond (icmp .gtr (List.getD a 31 0) 127) (
    ([0, 0, 0, 0, 0], 3)
  ) (
    cond (!(decide ((field_load a) = (field_Elem_Least (field_load a))))) (
      ([0, 0, 0, 0, 0], 3)
    ) (
      ((field_load a), 0)
    )
  )

def field_Decode_o (a : List Int) : Option ((List Int × Int)) :=
  cond (icmp .gtr (List.getD a 31 0) 127) (
    some ([0, 0, 0, 0, 0], 3)
  ) (
    cond (!(decide ((field_load a) = (field_Elem_Least (field_load a))))) (
      some ([0, 0, 0, 0, 0], 3)
    ) (
      some ((field_load a), 0)
    )
  )

theorem field_Decode_tot (a : List Int) : field_Decode_o a = some (field_Decode a) := by
  unfold field_Decode_o field_Decode
  repeat' (first | refine cond_tot ?_ ?_ | rfl)

def field_Elem_squares_l0 (N : Nat) (v : (Unit × Unit × Int × Int) × (List Int × Unit)) : Option (((Unit × Unit × Int × Int) × (List Int × Unit)) ⊕ (((Unit × Unit) × (List Int × Unit)) ⊕ (Unit × Unit))) :=
  cond (icmp .lss v.1.2.2.2 v.1.2.2.1) (
    mo (field_Elem_Square v.2.1) none fun r6 =>
    some (.inl (((), (), v.1.2.2.1, (ibin .add .i64 v.1.2.2.2 1)), (r6, ())))
  ) (
    some (.inr (.inl (((), ()), (v.2.1, ()))))
  )

def field_Elem_squares (N : Nat) (a : List Int) (b : Int) : Option (List Int) :=
  mo (loopF (field_Elem_squares_l0 N) N (((), (), b, 0), (a, ()))) none fun r7 =>
  match r7 with
  | .inl u8 => (
    some u8.2.1
  )
  | .inr _ => (
    none
  )

def field_Elem_ones (N : Nat) (a : List Int) : Option ((List Int × List Int)) :=
  mo (field_Elem_Square a) none fun r1 =>
  mo (field_Elem_squares N r1 2) none fun r2 =>
  mo (field_Elem_Mul r2 a) none fun r3 =>
  mo (field_Elem_Mul r3 r1) none fun r4 =>
  mo (field_Elem_Square r4) none fun r5 =>
  mo (field_Elem_Mul r5 r3) none fun r6 =>
  mo (field_Elem_squares N r6 5) none fun r7 =>
  mo (field_Elem_Mul r7 r6) none fun r8 =>
  mo (field_Elem_squares N r8 10) none fun r9 =>
  mo (field_Elem_Mul r9 r8) none fun r10 =>
  mo (field_Elem_squares N r10 20) none fun r11 =>
  mo (field_Elem_Mul r11 r10) none fun r12 =>
  mo (field_Elem_squares N r12 10) none fun r13 =>
  mo (field_Elem_Mul r13 r8) none fun r14 =>
  mo (field_Elem_squares N r14 50) none fun r15 =>
  mo (field_Elem_Mul r15 r14) none fun r16 =>
  mo (field_Elem_squares N r16 100) none fun r17 =>
  mo (field_Elem_Mul r17 r16) none fun r18 =>
  mo (field_Elem_squares N r18 50) none fun r19 =>
  mo (field_Elem_Mul r19 r14) none fun r20 =>
  some (r20, r4)

def field_Elem_Invert (N : Nat) (a : List Int) : Option (List Int) :=
  mo (field_Elem_ones N a) none fun r1 =>
  mo (field_Elem_squares N r1.1 5) none fun r2 =>
  mo (field_Elem_Mul r2 r1.2) none fun r3 =>
  some r3

def field_Elem_root (N : Nat) (a : List Int) : Option (List Int) :=
  mo (field_Elem_ones N a) none fun r1 =>
  mo (field_Elem_squares N r1.1 2) none fun r2 =>
  mo (field_Elem_Mul r2 a) none fun r3 =>
  some r3

def field_Elem_IsZero (a : List Int) : Bool :=
  (decide ((field_Elem_Least a) = [0, 0, 0, 0, 0]))

def field_Select (a : Int) (b : List Int) (c : List Int) : List Int :=
  let x1 := (ineg .u64 (IntKind.wrap .u64 (ibin .and .i64 a 1)))
  let x2 := (List.set b 0 (ibin .or .u64 (ibin .and .u64 (List.getD b 0 0) x1) (ibin .andNot .u64 (List.getD c 0 0) x1)))
  let x3 := (List.set x2 1 (ibin .or .u64 (ibin .and .u64 (List.getD x2 1 0) x1) (ibin .andNot .u64 (List.getD c 1 0) x1)))
  let x4 := (List.set x3 2 (ibin .or .u64 (ibin .and .u64 (List.getD x3 2 0) x1) (ibin .andNot .u64 (List.getD c 2 0) x1)))
  let x5 := (List.set x4 3 (ibin .or .u64 (ibin .and .u64 (List.getD x4 3 0) x1) (ibin .andNot .u64 (List.getD c 3 0) x1)))
  (field_Elem_Least (List.set x5 4 (ibin .or .u64 (ibin .and .u64 (List.getD x5 4 0) x1) (ibin .andNot .u64 (List.getD c 4 0) x1))))

def field_Elem_Abs (a : List Int) : List Int :=
  (field_Select (IntKind.wrap .i64 (ibin .and .u64 (List.getD (field_Elem_Least a) 0 0) 1)) (field_Elem_Neg a) a)

def field_Const (a : Int) : Option (List Int) :=
  cond (icmp .lss a 0) (
    some [0, 0, 0, 0, 0]
  ) (
    cond (icmp .geq a 7) (
      some [0, 0, 0, 0, 0]
    ) (
      cond (decide (0 ≤ a ∧ a < ((7 : Nat) : Int))) (
        some (field_tab (Int.toNat a))
      ) (
        none
      )
    )
  )

def field_SqrtRatio (N : Nat) (a : List Int) (b : List Int) : Option ((List Int × Bool)) :=
  mo (field_Elem_Square b) none fun r1 =>
  mo (field_Elem_Mul r1 b) none fun r2 =>
  mo (field_Elem_Square r2) none fun r3 =>
  mo (field_Elem_Mul r3 b) none fun r4 =>
  mo (field_Elem_Mul (field_Elem_Least a) r2) none fun r5 =>
  mo (field_Elem_Mul (field_Elem_Least a) r4) none fun r6 =>
  mo (field_Elem_root N r6) none fun r7 =>
  mo (field_Elem_Mul r5 r7) none fun r8 =>
  mo (field_Elem_Square r8) none fun r9 =>
  mo (field_Elem_Mul b r9) none fun r10 =>
  let x1 := (decide (r10 = (field_Elem_Neg (field_Elem_Least a))))
  cond x1 (
    mo (field_Elem_Mul r8 (field_tab 1)) none fun r11 =>
    cond (decide (r10 = (field_Elem_Least a))) (
      some ((field_Elem_Abs r11), true)
    ) (
      some ((field_Elem_Abs r11), x1)
    )
  ) (
    mo (field_Elem_Mul (field_Elem_Neg (field_Elem_Least a)) (field_tab 1)) none fun r12 =>
    cond (decide (r10 = r12)) (
      mo (field_Elem_Mul r8 (field_tab 1)) none fun r13 =>
      cond (decide (r10 = (field_Elem_Least a))) (
        some ((field_Elem_Abs r13), true)
      ) (
        some ((field_Elem_Abs r13), x1)
      )
    ) (
      cond (decide (r10 = (field_Elem_Least a))) (
        some ((field_Elem_Abs r8), true)
      ) (
        some ((field_Elem_Abs r8), x1)
      )
    )
  )

def curve_place_whole (a : (List Int × List Int × List Int × List Int)) : (List Int × List Int × List Int × List Int) :=
  cond (decide (a.2.2.1 = [0, 0, 0, 0, 0])) (
    ([0, 0, 0, 0, 0], [1, 0, 0, 0, 0], [1, 0, 0, 0, 0], [0, 0, 0, 0, 0])
  ) (
    (a.1, a.2.1, a.2.2.1, a.2.2.2)
  )

def curve_place_whole_o (a : (List Int × List Int × List Int × List Int)) : Option ((List Int × List Int × List Int × List Int)) :=
  cond (decide (a.2.2.1 = [0, 0, 0, 0, 0])) (
    some ([0, 0, 0, 0, 0], [1, 0, 0, 0, 0], [1, 0, 0, 0, 0], [0, 0, 0, 0, 0])
  ) (
    some (a.1, a.2.1, a.2.2.1, a.2.2.2)
  )

theorem curve_place_whole_tot (a : (List Int × List Int × List Int × List Int)) : curve_place_whole_o a = some (curve_place_whole a) := by
  unfold curve_place_whole_o curve_place_whole
  repeat' (first | refine cond_tot ?_ ?_ | rfl)

def curve_at (a : List Int) (b : List Int) : Option ((List Int × List Int × List Int × List Int)) :=
  mo (field_Elem_Mul a b) none fun r1 =>
  some (a, b, [1, 0, 0, 0, 0], r1)

def curve_made (a : List Int) (b : List Int) (c : List Int) (d : List Int) : Option ((List Int × List Int × List Int × List Int)) :=
  mo (field_Elem_Mul a b) none fun r1 =>
  mo (field_Elem_Mul c d) none fun r2 =>
  mo (field_Elem_Mul b c) none fun r3 =>
  mo (field_Elem_Mul a d) none fun r4 =>
  some (r1, r2, r3, r4)

def curve_Point_Add (a : (List Int × List Int × List Int × List Int)) (b : (List Int × List Int × List Int × List Int)) : Option ((List Int × List Int × List Int × List Int)) :=
  mo (field_Elem_Mul (field_Elem_Sub (curve_place_whole (a.1, a.2.1, a.2.2.1, a.2.2.2)).2.1 (curve_place_whole (a.1, a.2.1, a.2.2.1, a.2.2.2)).1) (field_Elem_Sub (curve_place_whole (b.1, b.2.1, b.2.2.1, b.2.2.2)).2.1 (curve_place_whole (b.1, b.2.1, b.2.2.1, b.2.2.2)).1)) none fun r1 =>
  mo (field_Elem_Mul (field_Elem_Add (curve_place_whole (a.1, a.2.1, a.2.2.1, a.2.2.2)).2.1 (curve_place_whole (a.1, a.2.1, a.2.2.1, a.2.2.2)).1) (field_Elem_Add (curve_place_whole (b.1, b.2.1, b.2.2.1, b.2.2.2)).2.1 (curve_place_whole (b.1, b.2.1, b.2.2.1, b.2.2.2)).1)) none fun r2 =>
  mo (field_Elem_Mul (curve_place_whole (a.1, a.2.1, a.2.2.1, a.2.2.2)).2.2.2 [1859910466990425, 932731440258426, 1072319116312658, 1815898335770999, 633789495995903]) none fun r3 =>
  mo (field_Elem_Mul r3 (curve_place_whole (b.1, b.2.1, b.2.2.1, b.2.2.2)).2.2.2) none fun r4 =>
  mo (field_Elem_Mul (curve_place_whole (a.1, a.2.1, a.2.2.1, a.2.2.2)).2.2.1 (curve_place_whole (b.1, b.2.1, b.2.2.1, b.2.2.2)).2.2.1) none fun r5 =>
  mo (curve_made (field_Elem_Sub r2 r1) (field_Elem_Sub (field_Elem_Add r5 r5) r4) (field_Elem_Add (field_Elem_Add r5 r5) r4) (field_Elem_Add r2 r1)) none fun r6 =>
  some (r6.1, r6.2.1, r6.2.2.1, r6.2.2.2)

def curve_Point_Affine (N : Nat) (a : (List Int × List Int × List Int × List Int)) : Option ((List Int × List Int)) :=
  mo (field_Elem_Invert N (curve_place_whole (a.1, a.2.1, a.2.2.1, a.2.2.2)).2.2.1) none fun r1 =>
  mo (field_Elem_Mul (curve_place_whole (a.1, a.2.1, a.2.2.1, a.2.2.2)).1 r1) none fun r2 =>
  mo (field_Elem_Mul (curve_place_whole (a.1, a.2.1, a.2.2.1, a.2.2.2)).2.1 r1) none fun r3 =>
  some (r2, r3)

def curve_FromAffine (a : List Int) (b : List Int) : Option (((List Int × List Int × List Int × List Int) × Int)) :=
  mo (field_Elem_Square (field_Elem_Least a)) none fun r1 =>
  mo (field_Elem_Square (field_Elem_Least b)) none fun r2 =>
  mo (field_Const 2) none fun r3 =>
  mo (field_Elem_Mul r3 r1) none fun r4 =>
  mo (field_Elem_Mul r4 r2) none fun r5 =>
  cond (!(decide ((field_Elem_Sub r2 r1) = (field_Elem_Add [1, 0, 0, 0, 0] r5)))) (
    some (([0, 0, 0, 0, 0], [0, 0, 0, 0, 0], [0, 0, 0, 0, 0], [0, 0, 0, 0, 0]), 40)
  ) (
    mo (curve_at (field_Elem_Least a) (field_Elem_Least b)) none fun r6 =>
    some ((r6.1, r6.2.1, r6.2.2.1, r6.2.2.2), 0)
  )

def curve_Base  : (List Int × List Int × List Int × List Int) :=
  ([1738742601995546, 1146398526822698, 2070867633025821, 562264141797630, 587772402128613], [1801439850948184, 1351079888211148, 450359962737049, 900719925474099, 1801439850948198], [1, 0, 0, 0, 0], [1841354044333475, 16398895984059, 755974180946558, 900171276175154, 1821297809914039])

def curve_Torsion (a : Int) : Option ((List Int × List Int × List Int × List Int)) :=
  cond (decide (0 ≤ (ibin .and .i64 a 7) ∧ (ibin .and .i64 a 7) < ((8 : Nat) : Int))) (
    some ((List.getD [[0, 0, 0, 0, 0], [358744748052810, 1691584618240980, 977650209285361, 1429865912637724, 560044844278676], [1718705420411056, 234908883556509, 2233514472574048, 2117202627021982, 765476049583133], [358744748052810, 1691584618240980, 977650209285361, 1429865912637724, 560044844278676], [0, 0, 0, 0, 0], [1893055065632419, 560215195444267, 1274149604399886, 821933901047523, 1691754969406571], [533094393274173, 2016890930128738, 18285341111199, 134597186663265, 1486323764102114], [1893055065632419, 560215195444267, 1274149604399886, 821933901047523, 1691754969406571]] (Int.toNat (ibin .and .i64 a 7)) []), (List.getD [[0, 0, 0, 0, 0], [2166873539340326, 1778179147085316, 1886209374839743, 1223329526802818, 105300633354275], [0, 0, 0, 0, 0], [84926274344903, 473620666599931, 365590438845504, 1028470286882429, 2146499180330972], [2251799813685228, 2251799813685247, 2251799813685247, 2251799813685247, 2251799813685247], [84926274344903, 473620666599931, 365590438845504, 1028470286882429, 2146499180330972], [0, 0, 0, 0, 0], [2166873539340326, 1778179147085316, 1886209374839743, 1223329526802818, 105300633354275]] (Int.toNat (ibin .and .i64 a 7)) []), (List.getD [[0, 0, 0, 0, 0], [1, 0, 0, 0, 0], [1, 0, 0, 0, 0], [1, 0, 0, 0, 0], [1, 0, 0, 0, 0], [1, 0, 0, 0, 0], [1, 0, 0, 0, 0], [1, 0, 0, 0, 0]] (Int.toNat (ibin .and .i64 a 7)) []), (List.getD [[0, 0, 0, 0, 0], [803472979097708, 393902981724766, 1158077081819914, 574391322974006, 336294660666841], [0, 0, 0, 0, 0], [1448326834587521, 1857896831960481, 1093722731865333, 1677408490711241, 1915505153018406], [0, 0, 0, 0, 0], [803472979097708, 393902981724766, 1158077081819914, 574391322974006, 336294660666841], [0, 0, 0, 0, 0], [1448326834587521, 1857896831960481, 1093722731865333, 1677408490711241, 1915505153018406]] (Int.toNat (ibin .and .i64 a 7)) []))
  ) (
    none
  )

def curve_xOf (N : Nat) (a : List Int) : Option ((List Int × Bool)) :=
  mo (field_Elem_Square a) none fun r1 =>
  mo (field_Const 2) none fun r2 =>
  mo (field_Elem_Mul r2 r1) none fun r3 =>
  mo (field_SqrtRatio N (field_Elem_Sub r1 [1, 0, 0, 0, 0]) (field_Elem_Add r3 [1, 0, 0, 0, 0])) none fun r4 =>
  some (r4.1, r4.2)

def curve_Decompress (N : Nat) (a : List Int) : Option (((List Int × List Int × List Int × List Int) × Int)) :=
  cond (icmp .neq (field_Decode (List.set a 31 (ibin .and .u8 (List.getD a 31 0) 127))).2 0) (
    some (([0, 0, 0, 0, 0], [0, 0, 0, 0, 0], [0, 0, 0, 0, 0], [0, 0, 0, 0, 0]), (field_Decode (List.set a 31 (ibin .and .u8 (List.getD a 31 0) 127))).2)
  ) (
    mo (curve_xOf N (field_Decode (List.set a 31 (ibin .and .u8 (List.getD a 31 0) 127))).1) none fun r1 =>
    cond (!r1.2) (
      some (([0, 0, 0, 0, 0], [0, 0, 0, 0, 0], [0, 0, 0, 0, 0], [0, 0, 0, 0, 0]), 40)
    ) (
      let x1 := (icmp .gtr (List.getD a 31 0) 127)
      cond x1 (
        cond (field_Elem_IsZero r1.1) (
          some (([0, 0, 0, 0, 0], [0, 0, 0, 0, 0], [0, 0, 0, 0, 0], [0, 0, 0, 0, 0]), 3)
        ) (
          cond x1 (
            mo (curve_at (field_Elem_Neg r1.1) (field_Decode (List.set a 31 (ibin .and .u8 (List.getD a 31 0) 127))).1) none fun r2 =>
            some ((r2.1, r2.2.1, r2.2.2.1, r2.2.2.2), 0)
          ) (
            mo (curve_at r1.1 (field_Decode (List.set a 31 (ibin .and .u8 (List.getD a 31 0) 127))).1) none fun r3 =>
            some ((r3.1, r3.2.1, r3.2.2.1, r3.2.2.2), 0)
          )
        )
      ) (
        cond x1 (
          mo (curve_at (field_Elem_Neg r1.1) (field_Decode (List.set a 31 (ibin .and .u8 (List.getD a 31 0) 127))).1) none fun r4 =>
          some ((r4.1, r4.2.1, r4.2.2.1, r4.2.2.2), 0)
        ) (
          mo (curve_at r1.1 (field_Decode (List.set a 31 (ibin .and .u8 (List.getD a 31 0) 127))).1) none fun r5 =>
          some ((r5.1, r5.2.1, r5.2.2.1, r5.2.2.2), 0)
        )
      )
    )
  )

def veilref01_below (a : List Int) (b : List Int) : Bool :=
  cond (icmp .neq (List.getD a 9 0) (List.getD b 9 0)) (
    (icmp .lss (List.getD a 9 0) (List.getD b 9 0))
  ) (
    cond (icmp .neq (List.getD a 8 0) (List.getD b 8 0)) (
      (icmp .lss (List.getD a 8 0) (List.getD b 8 0))
    ) (
      cond (icmp .neq (List.getD a 7 0) (List.getD b 7 0)) (
        (icmp .lss (List.getD a 7 0) (List.getD b 7 0))
      ) (
        cond (icmp .neq (List.getD a 6 0) (List.getD b 6 0)) (
          (icmp .lss (List.getD a 6 0) (List.getD b 6 0))
        ) (
          cond (icmp .neq (List.getD a 5 0) (List.getD b 5 0)) (
            (icmp .lss (List.getD a 5 0) (List.getD b 5 0))
          ) (
            cond (icmp .neq (List.getD a 4 0) (List.getD b 4 0)) (
              (icmp .lss (List.getD a 4 0) (List.getD b 4 0))
            ) (
              cond (icmp .neq (List.getD a 3 0) (List.getD b 3 0)) (
                (icmp .lss (List.getD a 3 0) (List.getD b 3 0))
              ) (
                cond (icmp .neq (List.getD a 2 0) (List.getD b 2 0)) (
                  (icmp .lss (List.getD a 2 0) (List.getD b 2 0))
                ) (
                  cond (icmp .neq (List.getD a 1 0) (List.getD b 1 0)) (
                    (icmp .lss (List.getD a 1 0) (List.getD b 1 0))
                  ) (
                    cond (icmp .neq (List.getD a 0 0) (List.getD b 0 0)) (
                      (icmp .lss (List.getD a 0 0) (List.getD b 0 0))
                    ) (
                      false
                    )
                  )
                )
              )
            )
          )
        )
      )
    )
  )

def veilref01_below_o (a : List Int) (b : List Int) : Option (Bool) :=
  cond (icmp .neq (List.getD a 9 0) (List.getD b 9 0)) (
    some (icmp .lss (List.getD a 9 0) (List.getD b 9 0))
  ) (
    cond (icmp .neq (List.getD a 8 0) (List.getD b 8 0)) (
      some (icmp .lss (List.getD a 8 0) (List.getD b 8 0))
    ) (
      cond (icmp .neq (List.getD a 7 0) (List.getD b 7 0)) (
        some (icmp .lss (List.getD a 7 0) (List.getD b 7 0))
      ) (
        cond (icmp .neq (List.getD a 6 0) (List.getD b 6 0)) (
          some (icmp .lss (List.getD a 6 0) (List.getD b 6 0))
        ) (
          cond (icmp .neq (List.getD a 5 0) (List.getD b 5 0)) (
            some (icmp .lss (List.getD a 5 0) (List.getD b 5 0))
          ) (
            cond (icmp .neq (List.getD a 4 0) (List.getD b 4 0)) (
              some (icmp .lss (List.getD a 4 0) (List.getD b 4 0))
            ) (
              cond (icmp .neq (List.getD a 3 0) (List.getD b 3 0)) (
                some (icmp .lss (List.getD a 3 0) (List.getD b 3 0))
              ) (
                cond (icmp .neq (List.getD a 2 0) (List.getD b 2 0)) (
                  some (icmp .lss (List.getD a 2 0) (List.getD b 2 0))
                ) (
                  cond (icmp .neq (List.getD a 1 0) (List.getD b 1 0)) (
                    some (icmp .lss (List.getD a 1 0) (List.getD b 1 0))
                  ) (
                    cond (icmp .neq (List.getD a 0 0) (List.getD b 0 0)) (
                      some (icmp .lss (List.getD a 0 0) (List.getD b 0 0))
                    ) (
                      some false
                    )
                  )
                )
              )
            )
          )
        )
      )
    )
  )

theorem veilref01_below_tot (a : List Int) (b : List Int) : veilref01_below_o a b = some (veilref01_below a b) := by
  unfold veilref01_below_o veilref01_below
  repeat' (first | refine cond_tot ?_ ?_ | rfl)

def veilref01_minus (a : List Int) (b : List Int) : List Int :=
  let x1 := (ibin .sub .i64 (ibin .add .i64 0 (List.getD a 0 0)) (List.getD b 0 0))
  let x2 := (ibin .sub .i64 (ibin .add .i64 (ibin .shr .i64 x1 26) (List.getD a 1 0)) (List.getD b 1 0))
  let x3 := (ibin .sub .i64 (ibin .add .i64 (ibin .shr .i64 x2 26) (List.getD a 2 0)) (List.getD b 2 0))
  let x4 := (ibin .sub .i64 (ibin .add .i64 (ibin .shr .i64 x3 26) (List.getD a 3 0)) (List.getD b 3 0))
  let x5 := (ibin .sub .i64 (ibin .add .i64 (ibin .shr .i64 x4 26) (List.getD a 4 0)) (List.getD b 4 0))
  let x6 := (ibin .sub .i64 (ibin .add .i64 (ibin .shr .i64 x5 26) (List.getD a 5 0)) (List.getD b 5 0))
  let x7 := (ibin .sub .i64 (ibin .add .i64 (ibin .shr .i64 x6 26) (List.getD a 6 0)) (List.getD b 6 0))
  let x8 := (ibin .sub .i64 (ibin .add .i64 (ibin .shr .i64 x7 26) (List.getD a 7 0)) (List.getD b 7 0))
  let x9 := (ibin .sub .i64 (ibin .add .i64 (ibin .shr .i64 x8 26) (List.getD a 8 0)) (List.getD b 8 0))
  [(ibin .and .i64 x1 67108863), (ibin .and .i64 x2 67108863), (ibin .and .i64 x3 67108863), (ibin .and .i64 x4 67108863), (ibin .and .i64 x5 67108863), (ibin .and .i64 x6 67108863), (ibin .and .i64 x7 67108863), (ibin .and .i64 x8 67108863), (ibin .and .i64 x9 67108863), (ibin .and .i64 (ibin .sub .i64 (ibin .add .i64 (ibin .shr .i64 x9 26) (List.getD a 9 0)) (List.getD b 9 0)) 67108863)]

def veilref01_least_l4 (N : Nat) (v : (Unit × Int × Unit × Bool) × (Unit × Unit × List Int)) : Option (((Unit × Int × Unit × Bool) × (Unit × Unit × List Int)) ⊕ (((Unit × Unit) × (Unit × Unit × List Int)) ⊕ (Unit × Unit))) :=
  cond v.1.2.2.2 (
    let x1 := (List.set v.2.2.2 0 (ibin .add .i64 (List.getD v.2.2.2 0 0) v.1.2.1))
    let x2 := (ibin .add .i64 0 (List.getD x1 0 0))
    let x3 := (List.set x1 0 (ibin .and .i64 x2 67108863))
    let x4 := (ibin .add .i64 (ibin .shr .i64 x2 26) (List.getD x3 1 0))
    let x5 := (List.set x3 1 (ibin .and .i64 x4 67108863))
    let x6 := (ibin .add .i64 (ibin .shr .i64 x4 26) (List.getD x5 2 0))
    let x7 := (List.set x5 2 (ibin .and .i64 x6 67108863))
    let x8 := (ibin .add .i64 (ibin .shr .i64 x6 26) (List.getD x7 3 0))
    let x9 := (List.set x7 3 (ibin .and .i64 x8 67108863))
    let x10 := (ibin .add .i64 (ibin .shr .i64 x8 26) (List.getD x9 4 0))
    let x11 := (List.set x9 4 (ibin .and .i64 x10 67108863))
    let x12 := (ibin .add .i64 (ibin .shr .i64 x10 26) (List.getD x11 5 0))
    let x13 := (List.set x11 5 (ibin .and .i64 x12 67108863))
    let x14 := (ibin .add .i64 (ibin .shr .i64 x12 26) (List.getD x13 6 0))
    let x15 := (List.set x13 6 (ibin .and .i64 x14 67108863))
    let x16 := (ibin .add .i64 (ibin .shr .i64 x14 26) (List.getD x15 7 0))
    let x17 := (List.set x15 7 (ibin .and .i64 x16 67108863))
    let x18 := (ibin .add .i64 (ibin .shr .i64 x16 26) (List.getD x17 8 0))
    let x19 := (List.set x17 8 (ibin .and .i64 x18 67108863))
    let x20 := (ibin .add .i64 (ibin .shr .i64 x18 26) (List.getD x19 9 0))
    let x21 := (List.set x19 9 (ibin .and .i64 x20 67108863))
    let x22 := (List.getD x21 9 0)
    let x23 := (ibin .add .i64 (ibin .mul .i64 608 (ibin .shr .i64 x20 26)) (ibin .mul .i64 19 (ibin .quo .i64 x22 2097152)))
    some (.inl (((), x23, (), (icmp .gtr x23 0)), ((), (), (List.set x21 9 (ibin .rem .i64 x22 2097152)))))
  ) (
    some (.inr (.inl (((), ()), ((), (), v.2.2.2))))
  )

def veilref01_least (N : Nat) (a : List Int) : Option (List Int) :=
  let x1 := (ibin .add .i64 0 (List.getD a 0 0))
  let x2 := (List.set a 0 (ibin .and .i64 x1 67108863))
  let x3 := (ibin .add .i64 (ibin .shr .i64 x1 26) (List.getD x2 1 0))
  let x4 := (List.set x2 1 (ibin .and .i64 x3 67108863))
  let x5 := (ibin .add .i64 (ibin .shr .i64 x3 26) (List.getD x4 2 0))
  let x6 := (List.set x4 2 (ibin .and .i64 x5 67108863))
  let x7 := (ibin .add .i64 (ibin .shr .i64 x5 26) (List.getD x6 3 0))
  let x8 := (List.set x6 3 (ibin .and .i64 x7 67108863))
  let x9 := (ibin .add .i64 (ibin .shr .i64 x7 26) (List.getD x8 4 0))
  let x10 := (List.set x8 4 (ibin .and .i64 x9 67108863))
  let x11 := (ibin .add .i64 (ibin .shr .i64 x9 26) (List.getD x10 5 0))
  let x12 := (List.set x10 5 (ibin .and .i64 x11 67108863))
  let x13 := (ibin .add .i64 (ibin .shr .i64 x11 26) (List.getD x12 6 0))
  let x14 := (List.set x12 6 (ibin .and .i64 x13 67108863))
  let x15 := (ibin .add .i64 (ibin .shr .i64 x13 26) (List.getD x14 7 0))
  let x16 := (List.set x14 7 (ibin .and .i64 x15 67108863))
  let x17 := (ibin .add .i64 (ibin .shr .i64 x15 26) (List.getD x16 8 0))
  let x18 := (List.set x16 8 (ibin .and .i64 x17 67108863))
  let x19 := (ibin .add .i64 (ibin .shr .i64 x17 26) (List.getD x18 9 0))
  let x20 := (List.set x18 9 (ibin .and .i64 x19 67108863))
  let x21 := (ibin .add .i64 (ibin .shr .i64 x19 26) (List.getD x20 10 0))
  let x22 := (List.set x20 10 (ibin .and .i64 x21 67108863))
  let x23 := (ibin .add .i64 (ibin .shr .i64 x21 26) (List.getD x22 11 0))
  let x24 := (List.set x22 11 (ibin .and .i64 x23 67108863))
  let x25 := (ibin .add .i64 (ibin .shr .i64 x23 26) (List.getD x24 12 0))
  let x26 := (List.set x24 12 (ibin .and .i64 x25 67108863))
  let x27 := (ibin .add .i64 (ibin .shr .i64 x25 26) (List.getD x26 13 0))
  let x28 := (List.set x26 13 (ibin .and .i64 x27 67108863))
  let x29 := (ibin .add .i64 (ibin .shr .i64 x27 26) (List.getD x28 14 0))
  let x30 := (List.set x28 14 (ibin .and .i64 x29 67108863))
  let x31 := (ibin .add .i64 (ibin .shr .i64 x29 26) (List.getD x30 15 0))
  let x32 := (List.set x30 15 (ibin .and .i64 x31 67108863))
  let x33 := (ibin .add .i64 (ibin .shr .i64 x31 26) (List.getD x32 16 0))
  let x34 := (List.set x32 16 (ibin .and .i64 x33 67108863))
  let x35 := (ibin .add .i64 (ibin .shr .i64 x33 26) (List.getD x34 17 0))
  let x36 := (List.set x34 17 (ibin .and .i64 x35 67108863))
  let x37 := (ibin .add .i64 (ibin .shr .i64 x35 26) (List.getD x36 18 0))
  let x38 := (List.set x36 18 (ibin .and .i64 x37 67108863))
  let x39 := (List.set x38 19 (ibin .and .i64 (ibin .add .i64 (ibin .shr .i64 x37 26) (List.getD x38 19 0)) 67108863))
  mo (loopF (veilref01_least_l4 N) N (((), 0, (), true), ((), (), [(ibin .add .i64 (List.getD x39 0 0) (ibin .mul .i64 608 (List.getD x39 10 0))), (ibin .add .i64 (List.getD x39 1 0) (ibin .mul .i64 608 (List.getD x39 11 0))), (ibin .add .i64 (List.getD x39 2 0) (ibin .mul .i64 608 (List.getD x39 12 0))), (ibin .add .i64 (List.getD x39 3 0) (ibin .mul .i64 608 (List.getD x39 13 0))), (ibin .add .i64 (List.getD x39 4 0) (ibin .mul .i64 608 (List.getD x39 14 0))), (ibin .add .i64 (List.getD x39 5 0) (ibin .mul .i64 608 (List.getD x39 15 0))), (ibin .add .i64 (List.getD x39 6 0) (ibin .mul .i64 608 (List.getD x39 16 0))), (ibin .add .i64 (List.getD x39 7 0) (ibin .mul .i64 608 (List.getD x39 17 0))), (ibin .add .i64 (List.getD x39 8 0) (ibin .mul .i64 608 (List.getD x39 18 0))), (ibin .add .i64 (List.getD x39 9 0) (ibin .mul .i64 608 (List.getD x39 19 0)))]))) none fun r5 =>
  match r5 with
  | .inl u6 => (
    cond (!(veilref01_below u6.2.2.2 [67108845, 67108863, 67108863, 67108863, 67108863, 67108863, 67108863, 67108863, 67108863, 2097151])) (
      some (veilref01_minus u6.2.2.2 [67108845, 67108863, 67108863, 67108863, 67108863, 67108863, 67108863, 67108863, 67108863, 2097151])
    ) (
      some u6.2.2.2
    )
  )
  | .inr _ => (
    none
  )

def veilref01_Of_l2 (N : Nat) (v : (Unit × Unit × Unit × Int × Int) × (List Int × Unit × List Int)) : Option (((Unit × Unit × Unit × Int × Int) × (List Int × Unit × List Int)) ⊕ (((Unit × Unit × Unit × Int) × (List Int × Unit × List Int)) ⊕ (Unit × Unit))) :=
  cond (icmp .lss v.1.2.2.2.2 64) (
    cond (decide (0 ≤ v.1.2.2.2.1 ∧ v.1.2.2.2.1 < ((5 : Nat) : Int))) (
      cond (decide (0 ≤ v.1.2.2.2.2)) (
        cond (icmp .eql (ibin .and .u64 (ibin .shr .u64 (List.getD v.2.1 (Int.toNat v.1.2.2.2.1) 0) v.1.2.2.2.2) 1) 1) (
          let x1 := (ibin .add .i64 (ibin .mul .i64 51 v.1.2.2.2.1) v.1.2.2.2.2)
          let x2 := (ibin .quo .i64 x1 26)
          let x3 := (decide (0 ≤ x2 ∧ x2 < ((20 : Nat) : Int)))
          cond x3 (
            let x4 := (ibin .rem .i64 x1 26)
            cond (decide (0 ≤ x4)) (
              cond x3 (
                some (.inl (((), (), (), v.1.2.2.2.1, (ibin .add .i64 v.1.2.2.2.2 1)), (v.2.1, (), (List.set v.2.2.2 (Int.toNat x2) (ibin .add .i64 (List.getD v.2.2.2 (Int.toNat x2) 0) (ibin .shl .i64 1 x4))))))
              ) (
                none
              )
            ) (
              none
            )
          ) (
            none
          )
        ) (
          some (.inl (((), (), (), v.1.2.2.2.1, (ibin .add .i64 v.1.2.2.2.2 1)), (v.2.1, (), v.2.2.2)))
        )
      ) (
        none
      )
    ) (
      none
    )
  ) (
    some (.inr (.inl (((), (), (), v.1.2.2.2.1), (v.2.1, (), v.2.2.2))))
  )

def veilref01_Of_l0 (N : Nat) (v : (Unit × Unit × Unit × Int) × (List Int × Unit × List Int)) : Option (((Unit × Unit × Unit × Int) × (List Int × Unit × List Int)) ⊕ (((Unit × Unit) × (Unit × List Int)) ⊕ (Unit × Unit))) :=
  cond (icmp .lss v.1.2.2.2 5) (
    mo (loopF (veilref01_Of_l2 N) N (((), (), (), v.1.2.2.2, 0), (v.2.1, (), v.2.2.2))) none fun r12 =>
    match r12 with
    | .inl u13 => (
      some (.inl (((), (), (), (ibin .add .i64 u13.1.2.2.2 1)), (u13.2.1, (), u13.2.2.2)))
    )
    | .inr w14 => (
      some (.inr (.inr ((), ())))
    )
  ) (
    some (.inr (.inl (((), ()), ((), v.2.2.2))))
  )

def veilref01_Of (N : Nat) (a : List Int) : Option (List Int) :=
  mo (loopF (veilref01_Of_l0 N) N (((), (), (), 0), (a, (), [0, 0, 0, 0, 0, 0, 0, 0, 0, 0, 0, 0, 0, 0, 0, 0, 0, 0, 0, 0]))) none fun r15 =>
  match r15 with
  | .inl u16 => (
    mo (veilref01_least N u16.2.2) none fun r17 =>
    some r17
  )
  | .inr _ => (
    none
  )

def veilref01_Small (N : Nat) (a : Int) : Option (List Int) :=
  mo (veilref01_least N [(IntKind.wrap .i64 (ibin .and .u64 a 67108863)), (IntKind.wrap .i64 (ibin .and .u64 (ibin .shr .u64 a 26) 67108863)), (IntKind.wrap .i64 (ibin .shr .u64 a 52)), 0, 0, 0, 0, 0, 0, 0, 0, 0, 0, 0, 0, 0, 0, 0, 0, 0]) none fun r1 =>
  some r1

def veilref01_F_Add (N : Nat) (a : List Int) (b : List Int) : Option (List Int) :=
  mo (veilref01_least N [(ibin .add .i64 (List.getD a 0 0) (List.getD b 0 0)), (ibin .add .i64 (List.getD a 1 0) (List.getD b 1 0)), (ibin .add .i64 (List.getD a 2 0) (List.getD b 2 0)), (ibin .add .i64 (List.getD a 3 0) (List.getD b 3 0)), (ibin .add .i64 (List.getD a 4 0) (List.getD b 4 0)), (ibin .add .i64 (List.getD a 5 0) (List.getD b 5 0)), (ibin .add .i64 (List.getD a 6 0) (List.getD b 6 0)), (ibin .add .i64 (List.getD a 7 0) (List.getD b 7 0)), (ibin .add .i64 (List.getD a 8 0) (List.getD b 8 0)), (ibin .add .i64 (List.getD a 9 0) (List.getD b 9 0)), 0, 0, 0, 0, 0, 0, 0, 0, 0, 0]) none fun r1 =>
  some r1

def veilref01_F_Neg (a : List Int) : List Int :=
  cond (decide (a = [0, 0, 0, 0, 0, 0, 0, 0, 0, 0])) (
    a
  ) (
    (veilref01_minus [67108845, 67108863, 67108863, 67108863, 67108863, 67108863, 67108863, 67108863, 67108863, 2097151] a)
  )

def veilref01_F_Neg_o (a : List Int) : Option (List Int) :=
  cond (decide (a = [0, 0, 0, 0, 0, 0, 0, 0, 0, 0])) (
    some a
  ) (
    some (veilref01_minus [67108845, 67108863, 67108863, 67108863, 67108863, 67108863, 67108863, 67108863, 67108863, 2097151] a)
  )

theorem veilref01_F_Neg_tot (a : List Int) : veilref01_F_Neg_o a = some (veilref01_F_Neg a) := by
  unfold veilref01_F_Neg_o veilref01_F_Neg
  repeat' (first | refine cond_tot ?_ ?_ | rfl)

def veilref01_F_Sub (N : Nat) (a : List Int) (b : List Int) : Option (List Int) :=
  mo (veilref01_F_Add N a (veilref01_F_Neg b)) none fun r1 =>
  some r1

def veilref01_F_Mul (N : Nat) (a : List Int) (b : List Int) : Option (List Int) :=
  mo (veilref01_least N [(ibin .add .i64 0 (ibin .mul .i64 (List.getD a 0 0) (List.getD b 0 0))), (ibin .add .i64 (ibin .add .i64 0 (ibin .mul .i64 (List.getD a 0 0) (List.getD b 1 0))) (ibin .mul .i64 (List.getD a 1 0) (List.getD b 0 0))), (ibin .add .i64 (ibin .add .i64 (ibin .add .i64 0 (ibin .mul .i64 (List.getD a 0 0) (List.getD b 2 0))) (ibin .mul .i64 (List.getD a 1 0) (List.getD b 1 0))) (ibin .mul .i64 (List.getD a 2 0) (List.getD b 0 0))), (ibin .add .i64 (ibin .add .i64 (ibin .add .i64 (ibin .add .i64 0 (ibin .mul .i64 (List.getD a 0 0) (List.getD b 3 0))) (ibin .mul .i64 (List.getD a 1 0) (List.getD b 2 0))) (ibin .mul .i64 (List.getD a 2 0) (List.getD b 1 0))) (ibin .mul .i64 (List.getD a 3 0) (List.getD b 0 0))), (ibin .add .i64 (ibin .add .i64 (ibin .add .i64 (ibin .add .i64 (ibin .add .i64 0 (ibin .mul .i64 (List.getD a 0 0) (List.getD b 4 0))) (ibin .mul .i64 (List.getD a 1 0) (List.getD b 3 0))) (ibin .mul .i64 (List.getD a 2 0) (List.getD b 2 0))) (ibin .mul .i64 (List.getD a 3 0) (List.getD b 1 0))) (ibin .mul .i64 (List.getD a 4 0) (List.getD b 0 0))), (ibin .add .i64 (ibin .add .i64 (ibin .add .i64 (ibin .add .i64 (ibin .add .i64 (ibin .add .i64 0 (ibin .mul .i64 (List.getD a 0 0) (List.getD b 5 0))) (ibin .mul .i64 (List.getD a 1 0) (List.getD b 4 0))) (ibin .mul .i64 (List.getD a 2 0) (List.getD b 3 0))) (ibin .mul .i64 (List.getD a 3 0) (List.getD b 2 0))) (ibin .mul .i64 (List.getD a 4 0) (List.getD b 1 0))) (ibin .mul .i64 (List.getD a 5 0) (List.getD b 0 0))), (ibin .add .i64 (ibin .add .i64 (ibin .add .i64 (ibin .add .i64 (ibin .add .i64 (ibin .add .i64 (ibin .add .i64 0 (ibin .mul .i64 (List.getD a 0 0) (List.getD b 6 0))) (ibin .mul .i64 (List.getD a 1 0) (List.getD b 5 0))) (ibin .mul .i64 (List.getD a 2 0) (List.getD b 4 0))) (ibin .mul .i64 (List.getD a 3 0) (List.getD b 3 0))) (ibin .mul .i64 (List.getD a 4 0) (List.getD b 2 0))) (ibin .mul .i64 (List.getD a 5 0) (List.getD b 1 0))) (ibin .mul .i64 (List.getD a 6 0) (List.getD b 0 0))), (ibin .add .i64 (ibin .add .i64 (ibin .add .i64 (ibin .add .i64 (ibin .add .i64 (ibin .add .i64 (ibin .add .i64 (ibin .add .i64 0 (ibin .mul .i64 (List.getD a 0 0) (List.getD b 7 0))) (ibin .mul .i64 (List.getD a 1 0) (List.getD b 6 0))) (ibin .mul .i64 (List.getD a 2 0) (List.getD b 5 0))) (ibin .mul .i64 (List.getD a 3 0) (List.getD b 4 0))) (ibin .mul .i64 (List.getD a 4 0) (List.getD b 3 0))) (ibin .mul .i64 (List.getD a 5 0) (List.getD b 2 0))) (ibin .mul .i64 (List.getD a 6 0) (List.getD b 1 0))) (ibin .mul .i64 (List.getD a 7 0) (List.getD b 0 0))), (ibin .add .i64 (ibin .add .i64 (ibin .add .i64 (ibin .add .i64 (ibin .add .i64 (ibin .add .i64 (ibin .add .i64 (ibin .add .i64 (ibin .add .i64 0 (ibin .mul .i64 (List.getD a 0 0) (List.getD b 8 0))) (ibin .mul .i64 (List.getD a 1 0) (List.getD b 7 0))) (ibin .mul .i64 (List.getD a 2 0) (List.getD b 6 0))) (ibin .mul .i64 (List.getD a 3 0) (List.getD b 5 0))) (ibin .mul .i64 (List.getD a 4 0) (List.getD b 4 0))) (ibin .mul .i64 (List.getD a 5 0) (List.getD b 3 0))) (ibin .mul .i64 (List.getD a 6 0) (List.getD b 2 0))) (ibin .mul .i64 (List.getD a 7 0) (List.getD b 1 0))) (ibin .mul .i64 (List.getD a 8 0) (List.getD b 0 0))), (ibin .add .i64 (ibin .add .i64 (ibin .add .i64 (ibin .add .i64 (ibin .add .i64 (ibin .add .i64 (ibin .add .i64 (ibin .add .i64 (ibin .add .i64 (ibin .add .i64 0 (ibin .mul .i64 (List.getD a 0 0) (List.getD b 9 0))) (ibin .mul .i64 (List.getD a 1 0) (List.getD b 8 0))) (ibin .mul .i64 (List.getD a 2 0) (List.getD b 7 0))) (ibin .mul .i64 (List.getD a 3 0) (List.getD b 6 0))) (ibin .mul .i64 (List.getD a 4 0) (List.getD b 5 0))) (ibin .mul .i64 (List.getD a 5 0) (List.getD b 4 0))) (ibin .mul .i64 (List.getD a 6 0) (List.getD b 3 0))) (ibin .mul .i64 (List.getD a 7 0) (List.getD b 2 0))) (ibin .mul .i64 (List.getD a 8 0) (List.getD b 1 0))) (ibin .mul .i64 (List.getD a 9 0) (List.getD b 0 0))), (ibin .add .i64 (ibin .add .i64 (ibin .add .i64 (ibin .add .i64 (ibin .add .i64 (ibin .add .i64 (ibin .add .i64 (ibin .add .i64 (ibin .add .i64 0 (ibin .mul .i64 (List.getD a 1 0) (List.getD b 9 0))) (ibin .mul .i64 (List.getD a 2 0) (List.getD b 8 0))) (ibin .mul .i64 (List.getD a 3 0) (List.getD b 7 0))) (ibin .mul .i64 (List.getD a 4 0) (List.getD b 6 0))) (ibin .mul .i64 (List.getD a 5 0) (List.getD b 5 0))) (ibin .mul .i64 (List.getD a 6 0) (List.getD b 4 0))) (ibin .mul .i64 (List.getD a 7 0) (List.getD b 3 0))) (ibin .mul .i64 (List.getD a 8 0) (List.getD b 2 0))) (ibin .mul .i64 (List.getD a 9 0) (List.getD b 1 0))), (ibin .add .i64 (ibin .add .i64 (ibin .add .i64 (ibin .add .i64 (ibin .add .i64 (ibin .add .i64 (ibin .add .i64 (ibin .add .i64 0 (ibin .mul .i64 (List.getD a 2 0) (List.getD b 9 0))) (ibin .mul .i64 (List.getD a 3 0) (List.getD b 8 0))) (ibin .mul .i64 (List.getD a 4 0) (List.getD b 7 0))) (ibin .mul .i64 (List.getD a 5 0) (List.getD b 6 0))) (ibin .mul .i64 (List.getD a 6 0) (List.getD b 5 0))) (ibin .mul .i64 (List.getD a 7 0) (List.getD b 4 0))) (ibin .mul .i64 (List.getD a 8 0) (List.getD b 3 0))) (ibin .mul .i64 (List.getD a 9 0) (List.getD b 2 0))), (ibin .add .i64 (ibin .add .i64 (ibin .add .i64 (ibin .add .i64 (ibin .add .i64 (ibin .add .i64 (ibin .add .i64 0 (ibin .mul .i64 (List.getD a 3 0) (List.getD b 9 0))) (ibin .mul .i64 (List.getD a 4 0) (List.getD b 8 0))) (ibin .mul .i64 (List.getD a 5 0) (List.getD b 7 0))) (ibin .mul .i64 (List.getD a 6 0) (List.getD b 6 0))) (ibin .mul .i64 (List.getD a 7 0) (List.getD b 5 0))) (ibin .mul .i64 (List.getD a 8 0) (List.getD b 4 0))) (ibin .mul .i64 (List.getD a 9 0) (List.getD b 3 0))), (ibin .add .i64 (ibin .add .i64 (ibin .add .i64 (ibin .add .i64 (ibin .add .i64 (ibin .add .i64 0 (ibin .mul .i64 (List.getD a 4 0) (List.getD b 9 0))) (ibin .mul .i64 (List.getD a 5 0) (List.getD b 8 0))) (ibin .mul .i64 (List.getD a 6 0) (List.getD b 7 0))) (ibin .mul .i64 (List.getD a 7 0) (List.getD b 6 0))) (ibin .mul .i64 (List.getD a 8 0) (List.getD b 5 0))) (ibin .mul .i64 (List.getD a 9 0) (List.getD b 4 0))), (ibin .add .i64 (ibin .add .i64 (ibin .add .i64 (ibin .add .i64 (ibin .add .i64 0 (ibin .mul .i64 (List.getD a 5 0) (List.getD b 9 0))) (ibin .mul .i64 (List.getD a 6 0) (List.getD b 8 0))) (ibin .mul .i64 (List.getD a 7 0) (List.getD b 7 0))) (ibin .mul .i64 (List.getD a 8 0) (List.getD b 6 0))) (ibin .mul .i64 (List.getD a 9 0) (List.getD b 5 0))), (ibin .add .i64 (ibin .add .i64 (ibin .add .i64 (ibin .add .i64 0 (ibin .mul .i64 (List.getD a 6 0) (List.getD b 9 0))) (ibin .mul .i64 (List.getD a 7 0) (List.getD b 8 0))) (ibin .mul .i64 (List.getD a 8 0) (List.getD b 7 0))) (ibin .mul .i64 (List.getD a 9 0) (List.getD b 6 0))), (ibin .add .i64 (ibin .add .i64 (ibin .add .i64 0 (ibin .mul .i64 (List.getD a 7 0) (List.getD b 9 0))) (ibin .mul .i64 (List.getD a 8 0) (List.getD b 8 0))) (ibin .mul .i64 (List.getD a 9 0) (List.getD b 7 0))), (ibin .add .i64 (ibin .add .i64 0 (ibin .mul .i64 (List.getD a 8 0) (List.getD b 9 0))) (ibin .mul .i64 (List.getD a 9 0) (List.getD b 8 0))), (ibin .add .i64 0 (ibin .mul .i64 (List.getD a 9 0) (List.getD b 9 0))), 0]) none fun r1 =>
  some r1

def veilref01_F_ones_l0 (N : Nat) (v : (Int × Unit × Unit × Unit × Unit × Int) × (List Int × Unit × List Int × List Int)) : Option (((Int × Unit × Unit × Unit × Unit × Int) × (List Int × Unit × List Int × List Int)) ⊕ (((Int × Unit × Unit × Unit × Unit) × (List Int × Unit × List Int × List Int)) ⊕ (Unit × Unit))) :=
  cond (icmp .lss v.1.2.2.2.2.2 (ibin .quo .i64 v.1.1 2)) (
    mo (veilref01_F_Mul N v.2.2.2.2 v.2.2.2.2) none fun r11 =>
    some (.inl ((v.1.1, (), (), (), (), (ibin .add .i64 v.1.2.2.2.2.2 1)), (v.2.1, (), v.2.2.2.1, r11)))
  ) (
    some (.inr (.inl ((v.1.1, (), (), (), ()), (v.2.1, (), v.2.2.2.1, v.2.2.2.2))))
  )

def veilref01_F_ones_step (rec : List Int → Int → Option (List Int)) (N : Nat) (a : List Int) (b : Int) : Option (List Int) :=
  cond (icmp .eql b 1) (
    some a
  ) (
    mo (rec a (ibin .quo .i64 b 2)) none fun r1 =>
    mo (loopF (veilref01_F_ones_l0 N) N ((b, (), (), (), (), 0), (a, (), r1, r1))) none fun r12 =>
    match r12 with
    | .inl u13 => (
      mo (veilref01_F_Mul N u13.2.2.2.2 u13.2.2.2.1) none fun r14 =>
      cond (icmp .eql (ibin .rem .i64 u13.1.1 2) 1) (
        mo (veilref01_F_Mul N r14 r14) none fun r15 =>
        mo (veilref01_F_Mul N r15 u13.2.1) none fun r16 =>
        some r16
      ) (
        some r14
      )
    )
    | .inr _ => (
      none
    )
  )

def veilref01_F_ones_go (N : Nat) : Nat → List Int → Int → Option (List Int)
  | 0 => fun _ _ => none
  | m + 1 => veilref01_F_ones_step (veilref01_F_ones_go N m) N
def veilref01_F_ones (N : Nat) (a : List Int) (b : Int) : Option (List Int) := veilref01_F_ones_go N N a b

def veilref01_F_Invert (N : Nat) (a : List Int) : Option (List Int) :=
  mo (veilref01_F_ones N a 250) none fun r1 =>
  mo (veilref01_F_Mul N r1 r1) none fun r2 =>
  mo (veilref01_F_Mul N r2 r2) none fun r3 =>
  mo (veilref01_F_Mul N r3 r3) none fun r4 =>
  mo (veilref01_F_Mul N r4 r4) none fun r5 =>
  mo (veilref01_F_Mul N r5 r5) none fun r6 =>
  mo (veilref01_F_Mul N a a) none fun r7 =>
  mo (veilref01_F_Mul N r7 r7) none fun r8 =>
  mo (veilref01_F_Mul N r8 r7) none fun r9 =>
  mo (veilref01_F_Mul N r9 r7) none fun r10 =>
  mo (veilref01_F_Mul N r6 r10) none fun r11 =>
  mo (veilref01_F_Mul N r11 r7) none fun r12 =>
  mo (veilref01_F_Mul N r12 a) none fun r13 =>
  some r13

def veilref01_F_Abs (a : List Int) : List Int :=
  cond (icmp .eql (ibin .and .i64 (List.getD a 0 0) 1) 1) (
    (veilref01_F_Neg a)
  ) (
    a
  )

def veilref01_F_Abs_o (a : List Int) : Option (List Int) :=
  cond (icmp .eql (ibin .and .i64 (List.getD a 0 0) 1) 1) (
    some (veilref01_F_Neg a)
  ) (
    some a
  )

theorem veilref01_F_Abs_tot (a : List Int) : veilref01_F_Abs_o a = some (veilref01_F_Abs a) := by
  unfold veilref01_F_Abs_o veilref01_F_Abs
  repeat' (first | refine cond_tot ?_ ?_ | rfl)

def veilref01_I  : List Int :=
  [34513072, 59165138, 38243406, 1750207, 53429016, 58652137, 13633939, 58469549, 8409025, 712905]

def veilref01_D  : List Int :=
  [56195235, 47411844, 25868126, 20251911, 28682, 31357478, 7604119, 66702899, 15608687, 1343707]

def veilref01_root (N : Nat) (a : List Int) : Option ((List Int × Bool)) :=
  mo (veilref01_F_ones N a 251) none fun r1 =>
  mo (veilref01_F_Mul N r1 r1) none fun r2 =>
  mo (veilref01_F_Mul N r2 r2) none fun r3 =>
  cond (decide (r3 = a)) (
    some ((veilref01_F_Abs r2), true)
  ) (
    mo (veilref01_F_Mul N r2 veilref01_I) none fun r4 =>
    mo (veilref01_F_Mul N r4 r4) none fun r5 =>
    cond (decide (r5 = a)) (
      some ((veilref01_F_Abs r4), true)
    ) (
      mo (veilref01_F_Mul N r4 veilref01_I) none fun r6 =>
      some ([0, 0, 0, 0, 0, 0, 0, 0, 0, 0], false)
    )
  )

def veilref01_SqrtRatio (N : Nat) (a : List Int) (b : List Int) : Option ((List Int × Bool)) :=
  cond (decide (a = [0, 0, 0, 0, 0, 0, 0, 0, 0, 0])) (
    some ([0, 0, 0, 0, 0, 0, 0, 0, 0, 0], true)
  ) (
    cond (decide (b = [0, 0, 0, 0, 0, 0, 0, 0, 0, 0])) (
      some ([0, 0, 0, 0, 0, 0, 0, 0, 0, 0], false)
    ) (
      mo (veilref01_F_Invert N b) none fun r1 =>
      mo (veilref01_F_Mul N a r1) none fun r2 =>
      mo (veilref01_root N r2) none fun r3 =>
      cond r3.2 (
        some (r3.1, true)
      ) (
        mo (veilref01_F_Mul N r2 veilref01_I) none fun r4 =>
        mo (veilref01_root N r4) none fun r5 =>
        some (r5.1, false)
      )
    )
  )

def veilref01_F_Encode_l0 (N : Nat) (v : (Unit × Unit × Unit × Int) × (List Int × Unit × List Int)) : Option (((Unit × Unit × Unit × Int) × (List Int × Unit × List Int)) ⊕ (((Unit × Unit) × (Unit × List Int)) ⊕ (Unit × Unit))) :=
  cond (icmp .lss v.1.2.2.2 255) (
    let x1 := (ibin .quo .i64 v.1.2.2.2 26)
    cond (decide (0 ≤ x1 ∧ x1 < ((10 : Nat) : Int))) (
      let x2 := (ibin .rem .i64 v.1.2.2.2 26)
      cond (decide (0 ≤ x2)) (
        cond (icmp .eql (ibin .and .i64 (ibin .shr .i64 (List.getD v.2.1 (Int.toNat x1) 0) x2) 1) 1) (
          let x3 := (ibin .quo .i64 v.1.2.2.2 8)
          let x4 := (decide (0 ≤ x3 ∧ x3 < ((32 : Nat) : Int)))
          cond x4 (
            let x5 := (ibin .rem .i64 v.1.2.2.2 8)
            cond (decide (0 ≤ x5)) (
              cond x4 (
                some (.inl (((), (), (), (ibin .add .i64 v.1.2.2.2 1)), (v.2.1, (), (List.set v.2.2.2 (Int.toNat x3) (ibin .add .u8 (List.getD v.2.2.2 (Int.toNat x3) 0) (ibin .shl .u8 1 x5))))))
              ) (
                none
              )
            ) (
              none
            )
          ) (
            none
          )
        ) (
          some (.inl (((), (), (), (ibin .add .i64 v.1.2.2.2 1)), (v.2.1, (), v.2.2.2)))
        )
      ) (
        none
      )
    ) (
      none
    )
  ) (
    some (.inr (.inl (((), ()), ((), v.2.2.2))))
  )

def veilref01_F_Encode (N : Nat) (a : List Int) : Option (List Int) :=
  mo (loopF (veilref01_F_Encode_l0 N) N (((), (), (), 0), (a, (), [0, 0, 0, 0, 0, 0, 0, 0, 0, 0, 0, 0, 0, 0, 0, 0, 0, 0, 0, 0, 0, 0, 0, 0, 0, 0, 0, 0, 0, 0, 0, 0]))) none fun r5 =>
  match r5 with
  | .inl u6 => (
    some u6.2.2
  )
  | .inr _ => (
    none
  )

def veilref01_Number_l0 (N : Nat) (v : (Nat × Unit × Unit × Int) × ((Nat × List Int) × Unit × List Int)) : Option (((Nat × Unit × Unit × Int) × ((Nat × List Int) × Unit × List Int)) ⊕ (((Unit × Unit) × (Unit × List Int)) ⊕ (Unit × Unit))) :=
  cond (icmp .lss v.1.2.2.2 (ibin .mul .i64 8 ((v.1.1 : Nat) : Int))) (
    let x1 := (ibin .quo .i64 v.1.2.2.2 8)
    cond (decide (0 ≤ x1 ∧ x1 < ((v.1.1 : Nat) : Int))) (
      let x2 := (ibin .rem .i64 v.1.2.2.2 8)
      cond (decide (0 ≤ x2)) (
        cond (icmp .eql (ibin .and .u8 (ibin .shr .u8 (List.getD v.2.1.2 (Int.toNat x1) 0) x2) 1) 1) (
          let x3 := (ibin .quo .i64 v.1.2.2.2 26)
          let x4 := (decide (0 ≤ x3 ∧ x3 < ((20 : Nat) : Int)))
          cond x4 (
            let x5 := (ibin .rem .i64 v.1.2.2.2 26)
            cond (decide (0 ≤ x5)) (
              cond x4 (
                some (.inl ((v.1.1, (), (), (ibin .add .i64 v.1.2.2.2 1)), ((v.2.1.1, v.2.1.2), (), (List.set v.2.2.2 (Int.toNat x3) (ibin .add .i64 (List.getD v.2.2.2 (Int.toNat x3) 0) (ibin .shl .i64 1 x5))))))
              ) (
                none
              )
            ) (
              none
            )
          ) (
            none
          )
        ) (
          some (.inl ((v.1.1, (), (), (ibin .add .i64 v.1.2.2.2 1)), ((v.2.1.1, v.2.1.2), (), v.2.2.2)))
        )
      ) (
        none
      )
    ) (
      none
    )
  ) (
    some (.inr (.inl (((), ()), ((), v.2.2.2))))
  )

def veilref01_Number (N : Nat) (a : ((Nat × List Int) × Unit)) : Option (List Int) :=
  mo (loopF (veilref01_Number_l0 N) N ((a.1.1, (), (), 0), ((a.1.1, a.1.2), (), [0, 0, 0, 0, 0, 0, 0, 0, 0, 0, 0, 0, 0, 0, 0, 0, 0, 0, 0, 0]))) none fun r9 =>
  match r9 with
  | .inl u10 => (
    mo (veilref01_least N u10.2.2) none fun r11 =>
    some r11
  )
  | .inr _ => (
    none
  )

def veilref01_Decode (N : Nat) (a : List Int) : Option ((List Int × Int)) :=
  mo (veilref01_Number N ((32, a), ())) none fun r1 =>
  mo (veilref01_F_Encode N r1) none fun r2 =>
  cond (!(decide (r2 = a))) (
    some ([0, 0, 0, 0, 0, 0, 0, 0, 0, 0], 3)
  ) (
    some (r1, 0)
  )

def veilref01_F_Limbs_l0 (N : Nat) (v : (Unit × Unit × Unit × Int) × (List Int × Unit × List Int)) : Option (((Unit × Unit × Unit × Int) × (List Int × Unit × List Int)) ⊕ (((Unit × Unit) × (Unit × List Int)) ⊕ (Unit × Unit))) :=
  cond (icmp .lss v.1.2.2.2 255) (
    let x1 := (ibin .quo .i64 v.1.2.2.2 26)
    cond (decide (0 ≤ x1 ∧ x1 < ((10 : Nat) : Int))) (
      let x2 := (ibin .rem .i64 v.1.2.2.2 26)
      cond (decide (0 ≤ x2)) (
        cond (icmp .eql (ibin .and .i64 (ibin .shr .i64 (List.getD v.2.1 (Int.toNat x1) 0) x2) 1) 1) (
          let x3 := (ibin .quo .i64 v.1.2.2.2 51)
          let x4 := (decide (0 ≤ x3 ∧ x3 < ((5 : Nat) : Int)))
          cond x4 (
            let x5 := (ibin .rem .i64 v.1.2.2.2 51)
            cond (decide (0 ≤ x5)) (
              cond x4 (
                some (.inl (((), (), (), (ibin .add .i64 v.1.2.2.2 1)), (v.2.1, (), (List.set v.2.2.2 (Int.toNat x3) (ibin .add .u64 (List.getD v.2.2.2 (Int.toNat x3) 0) (ibin .shl .u64 1 x5))))))
              ) (
                none
              )
            ) (
              none
            )
          ) (
            none
          )
        ) (
          some (.inl (((), (), (), (ibin .add .i64 v.1.2.2.2 1)), (v.2.1, (), v.2.2.2)))
        )
      ) (
        none
      )
    ) (
      none
    )
  ) (
    some (.inr (.inl (((), ()), ((), v.2.2.2))))
  )

def veilref01_F_Limbs (N : Nat) (a : List Int) : Option (List Int) :=
  mo (loopF (veilref01_F_Limbs_l0 N) N (((), (), (), 0), (a, (), [0, 0, 0, 0, 0]))) none fun r5 =>
  match r5 with
  | .inl u6 => (
    some u6.2.2
  )
  | .inr _ => (
    none
  )

def veilref04_Neutral  : (List Int × List Int) :=
  ([0, 0, 0, 0, 0, 0, 0, 0, 0, 0], [1, 0, 0, 0, 0, 0, 0, 0, 0, 0])

def veilref04_Point_Add (N : Nat) (a : (List Int × List Int)) (b : (List Int × List Int)) : Option ((List Int × List Int)) :=
  mo (veilref01_F_Mul N a.1 b.2) none fun r1 =>
  mo (veilref01_F_Mul N a.2 b.1) none fun r2 =>
  mo (veilref01_F_Mul N a.1 b.1) none fun r3 =>
  mo (veilref01_F_Mul N a.2 b.2) none fun r4 =>
  mo (veilref01_F_Mul N veilref01_D r3) none fun r5 =>
  mo (veilref01_F_Mul N r5 r4) none fun r6 =>
  mo (veilref01_F_Add N [1, 0, 0, 0, 0, 0, 0, 0, 0, 0] r6) none fun r7 =>
  mo (veilref01_F_Sub N [1, 0, 0, 0, 0, 0, 0, 0, 0, 0] r6) none fun r8 =>
  mo (veilref01_F_Mul N r7 r8) none fun r9 =>
  mo (veilref01_F_Invert N r9) none fun r10 =>
  mo (veilref01_F_Add N r1 r2) none fun r11 =>
  mo (veilref01_F_Mul N r11 r8) none fun r12 =>
  mo (veilref01_F_Mul N r12 r10) none fun r13 =>
  mo (veilref01_F_Add N r4 r3) none fun r14 =>
  mo (veilref01_F_Mul N r14 r7) none fun r15 =>
  mo (veilref01_F_Mul N r15 r10) none fun r16 =>
  some (r13, r16)

def veilref04_XOf (N : Nat) (a : List Int) : Option ((List Int × Bool)) :=
  mo (veilref01_F_Mul N a a) none fun r1 =>
  mo (veilref01_F_Sub N r1 [1, 0, 0, 0, 0, 0, 0, 0, 0, 0]) none fun r2 =>
  mo (veilref01_F_Mul N veilref01_D r1) none fun r3 =>
  mo (veilref01_F_Add N r3 [1, 0, 0, 0, 0, 0, 0, 0, 0, 0]) none fun r4 =>
  mo (veilref01_SqrtRatio N r2 r4) none fun r5 =>
  some (r5.1, r5.2)

def veilref04_Base (N : Nat)  : Option ((List Int × List Int)) :=
  mo (veilref01_Small N 4) none fun r1 =>
  mo (veilref01_Small N 5) none fun r2 =>
  mo (veilref01_F_Invert N r2) none fun r3 =>
  mo (veilref01_F_Mul N r1 r3) none fun r4 =>
  mo (veilref04_XOf N r4) none fun r5 =>
  some (r5.1, r4)

def veilref04_Torsion_l0 (N : Nat) (v : (Int × Unit × Unit × Unit × Int) × (Unit × Unit × (List Int × List Int) × (List Int × List Int))) : Option (((Int × Unit × Unit × Unit × Int) × (Unit × Unit × (List Int × List Int) × (List Int × List Int))) ⊕ (((Unit × Unit) × (Unit × Unit × (List Int × List Int))) ⊕ (Unit × Unit))) :=
  cond (icmp .lss v.1.2.2.2.2 (ibin .rem .i64 (ibin .add .i64 (ibin .rem .i64 v.1.1 8) 8) 8)) (
    mo (veilref04_Point_Add N (v.2.2.2.2.1, v.2.2.2.2.2) (v.2.2.2.1.1, v.2.2.2.1.2)) none fun r473 =>
    some (.inl ((v.1.1, (), (), (), (ibin .add .i64 v.1.2.2.2.2 1)), ((), (), (v.2.2.2.1.1, v.2.2.2.1.2), (r473.1, r473.2))))
  ) (
    some (.inr (.inl (((), ()), ((), (), (v.2.2.2.2.1, v.2.2.2.2.2)))))
  )

set_option maxRecDepth 100000 in
def veilref04_Torsion (N : Nat) (a : Int) : Option ((List Int × List Int)) :=
  mo (veilref01_Small N 10) none fun r1 =>
  mo (veilref01_F_Mul N [0, 0, 0, 0, 0, 0, 0, 0, 0, 0] r1) none fun r2 =>
  mo (veilref01_Small N 1) none fun r3 =>
  mo (veilref01_F_Add N r2 r3) none fun r4 =>
  mo (veilref01_F_Mul N r4 r1) none fun r5 =>
  mo (veilref01_Small N 4) none fun r6 =>
  mo (veilref01_F_Add N r5 r6) none fun r7 =>
  mo (veilref01_F_Mul N r7 r1) none fun r8 =>
  mo (veilref01_Small N 3) none fun r9 =>
  mo (veilref01_F_Add N r8 r9) none fun r10 =>
  mo (veilref01_F_Mul N r10 r1) none fun r11 =>
  mo (veilref01_Small N 9) none fun r12 =>
  mo (veilref01_F_Add N r11 r12) none fun r13 =>
  mo (veilref01_F_Mul N r13 r1) none fun r14 =>
  mo (veilref01_Small N 9) none fun r15 =>
  mo (veilref01_F_Add N r14 r15) none fun r16 =>
  mo (veilref01_F_Mul N r16 r1) none fun r17 =>
  mo (veilref01_Small N 3) none fun r18 =>
  mo (veilref01_F_Add N r17 r18) none fun r19 =>
  mo (veilref01_F_Mul N r19 r1) none fun r20 =>
  mo (veilref01_Small N 1) none fun r21 =>
  mo (veilref01_F_Add N r20 r21) none fun r22 =>
  mo (veilref01_F_Mul N r22 r1) none fun r23 =>
  mo (veilref01_Small N 7) none fun r24 =>
  mo (veilref01_F_Add N r23 r24) none fun r25 =>
  mo (veilref01_F_Mul N r25 r1) none fun r26 =>
  mo (veilref01_Small N 8) none fun r27 =>
  mo (veilref01_F_Add N r26 r27) none fun r28 =>
  mo (veilref01_F_Mul N r28 r1) none fun r29 =>
  mo (veilref01_Small N 6) none fun r30 =>
  mo (veilref01_F_Add N r29 r30) none fun r31 =>
  mo (veilref01_F_Mul N r31 r1) none fun r32 =>
  mo (veilref01_Small N 8) none fun r33 =>
  mo (veilref01_F_Add N r32 r33) none fun r34 =>
  mo (veilref01_F_Mul N r34 r1) none fun r35 =>
  mo (veilref01_Small N 2) none fun r36 =>
  mo (veilref01_F_Add N r35 r36) none fun r37 =>
  mo (veilref01_F_Mul N r37 r1) none fun r38 =>
  mo (veilref01_Small N 0) none fun r39 =>
  mo (veilref01_F_Add N r38 r39) none fun r40 =>
  mo (veilref01_F_Mul N r40 r1) none fun r41 =>
  mo (veilref01_Small N 0) none fun r42 =>
  mo (veilref01_F_Add N r41 r42) none fun r43 =>
  mo (veilref01_F_Mul N r43 r1) none fun r44 =>
  mo (veilref01_Small N 1) none fun r45 =>
  mo (veilref01_F_Add N r44 r45) none fun r46 =>
  mo (veilref01_F_Mul N r46 r1) none fun r47 =>
  mo (veilref01_Small N 1) none fun r48 =>
  mo (veilref01_F_Add N r47 r48) none fun r49 =>
  mo (veilref01_F_Mul N r49 r1) none fun r50 =>
  mo (veilref01_Small N 8) none fun r51 =>
  mo (veilref01_F_Add N r50 r51) none fun r52 =>
  mo (veilref01_F_Mul N r52 r1) none fun r53 =>
  mo (veilref01_Small N 2) none fun r54 =>
  mo (veilref01_F_Add N r53 r54) none fun r55 =>
  mo (veilref01_F_Mul N r55 r1) none fun r56 =>
  mo (veilref01_Small N 6) none fun r57 =>
  mo (veilref01_F_Add N r56 r57) none fun r58 =>
  mo (veilref01_F_Mul N r58 r1) none fun r59 =>
  mo (veilref01_Small N 0) none fun r60 =>
  mo (veilref01_F_Add N r59 r60) none fun r61 =>
  mo (veilref01_F_Mul N r61 r1) none fun r62 =>
  mo (veilref01_Small N 3) none fun r63 =>
  mo (veilref01_F_Add N r62 r63) none fun r64 =>
  mo (veilref01_F_Mul N r64 r1) none fun r65 =>
  mo (veilref01_Small N 4) none fun r66 =>
  mo (veilref01_F_Add N r65 r66) none fun r67 =>
  mo (veilref01_F_Mul N r67 r1) none fun r68 =>
  mo (veilref01_Small N 7) none fun r69 =>
  mo (veilref01_F_Add N r68 r69) none fun r70 =>
  mo (veilref01_F_Mul N r70 r1) none fun r71 =>
  mo (veilref01_Small N 9) none fun r72 =>
  mo (veilref01_F_Add N r71 r72) none fun r73 =>
  mo (veilref01_F_Mul N r73 r1) none fun r74 =>
  mo (veilref01_Small N 3) none fun r75 =>
  mo (veilref01_F_Add N r74 r75) none fun r76 =>
  mo (veilref01_F_Mul N r76 r1) none fun r77 =>
  mo (veilref01_Small N 4) none fun r78 =>
  mo (veilref01_F_Add N r77 r78) none fun r79 =>
  mo (veilref01_F_Mul N r79 r1) none fun r80 =>
  mo (veilref01_Small N 3) none fun r81 =>
  mo (veilref01_F_Add N r80 r81) none fun r82 =>
  mo (veilref01_F_Mul N r82 r1) none fun r83 =>
  mo (veilref01_Small N 2) none fun r84 =>
  mo (veilref01_F_Add N r83 r84) none fun r85 =>
  mo (veilref01_F_Mul N r85 r1) none fun r86 =>
  mo (veilref01_Small N 0) none fun r87 =>
  mo (veilref01_F_Add N r86 r87) none fun r88 =>
  mo (veilref01_F_Mul N r88 r1) none fun r89 =>
  mo (veilref01_Small N 5) none fun r90 =>
  mo (veilref01_F_Add N r89 r90) none fun r91 =>
  mo (veilref01_F_Mul N r91 r1) none fun r92 =>
  mo (veilref01_Small N 2) none fun r93 =>
  mo (veilref01_F_Add N r92 r93) none fun r94 =>
  mo (veilref01_F_Mul N r94 r1) none fun r95 =>
  mo (veilref01_Small N 7) none fun r96 =>
  mo (veilref01_F_Add N r95 r96) none fun r97 =>
  mo (veilref01_F_Mul N r97 r1) none fun r98 =>
  mo (veilref01_Small N 2) none fun r99 =>
  mo (veilref01_F_Add N r98 r99) none fun r100 =>
  mo (veilref01_F_Mul N r100 r1) none fun r101 =>
  mo (veilref01_Small N 3) none fun r102 =>
  mo (veilref01_F_Add N r101 r102) none fun r103 =>
  mo (veilref01_F_Mul N r103 r1) none fun r104 =>
  mo (veilref01_Small N 2) none fun r105 =>
  mo (veilref01_F_Add N r104 r105) none fun r106 =>
  mo (veilref01_F_Mul N r106 r1) none fun r107 =>
  mo (veilref01_Small N 5) none fun r108 =>
  mo (veilref01_F_Add N r107 r108) none fun r109 =>
  mo (veilref01_F_Mul N r109 r1) none fun r110 =>
  mo (veilref01_Small N 8) none fun r111 =>
  mo (veilref01_F_Add N r110 r111) none fun r112 =>
  mo (veilref01_F_Mul N r112 r1) none fun r113 =>
  mo (veilref01_Small N 0) none fun r114 =>
  mo (veilref01_F_Add N r113 r114) none fun r115 =>
  mo (veilref01_F_Mul N r115 r1) none fun r116 =>
  mo (veilref01_Small N 6) none fun r117 =>
  mo (veilref01_F_Add N r116 r117) none fun r118 =>
  mo (veilref01_F_Mul N r118 r1) none fun r119 =>
  mo (veilref01_Small N 1) none fun r120 =>
  mo (veilref01_F_Add N r119 r120) none fun r121 =>
  mo (veilref01_F_Mul N r121 r1) none fun r122 =>
  mo (veilref01_Small N 8) none fun r123 =>
  mo (veilref01_F_Add N r122 r123) none fun r124 =>
  mo (veilref01_F_Mul N r124 r1) none fun r125 =>
  mo (veilref01_Small N 8) none fun r126 =>
  mo (veilref01_F_Add N r125 r126) none fun r127 =>
  mo (veilref01_F_Mul N r127 r1) none fun r128 =>
  mo (veilref01_Small N 2) none fun r129 =>
  mo (veilref01_F_Add N r128 r129) none fun r130 =>
  mo (veilref01_F_Mul N r130 r1) none fun r131 =>
  mo (veilref01_Small N 3) none fun r132 =>
  mo (veilref01_F_Add N r131 r132) none fun r133 =>
  mo (veilref01_F_Mul N r133 r1) none fun r134 =>
  mo (veilref01_Small N 9) none fun r135 =>
  mo (veilref01_F_Add N r134 r135) none fun r136 =>
  mo (veilref01_F_Mul N r136 r1) none fun r137 =>
  mo (veilref01_Small N 7) none fun r138 =>
  mo (veilref01_F_Add N r137 r138) none fun r139 =>
  mo (veilref01_F_Mul N r139 r1) none fun r140 =>
  mo (veilref01_Small N 1) none fun r141 =>
  mo (veilref01_F_Add N r140 r141) none fun r142 =>
  mo (veilref01_F_Mul N r142 r1) none fun r143 =>
  mo (veilref01_Small N 1) none fun r144 =>
  mo (veilref01_F_Add N r143 r144) none fun r145 =>
  mo (veilref01_F_Mul N r145 r1) none fun r146 =>
  mo (veilref01_Small N 9) none fun r147 =>
  mo (veilref01_F_Add N r146 r147) none fun r148 =>
  mo (veilref01_F_Mul N r148 r1) none fun r149 =>
  mo (veilref01_Small N 4) none fun r150 =>
  mo (veilref01_F_Add N r149 r150) none fun r151 =>
  mo (veilref01_F_Mul N r151 r1) none fun r152 =>
  mo (veilref01_Small N 3) none fun r153 =>
  mo (veilref01_F_Add N r152 r153) none fun r154 =>
  mo (veilref01_F_Mul N r154 r1) none fun r155 =>
  mo (veilref01_Small N 4) none fun r156 =>
  mo (veilref01_F_Add N r155 r156) none fun r157 =>
  mo (veilref01_F_Mul N r157 r1) none fun r158 =>
  mo (veilref01_Small N 5) none fun r159 =>
  mo (veilref01_F_Add N r158 r159) none fun r160 =>
  mo (veilref01_F_Mul N r160 r1) none fun r161 =>
  mo (veilref01_Small N 2) none fun r162 =>
  mo (veilref01_F_Add N r161 r162) none fun r163 =>
  mo (veilref01_F_Mul N r163 r1) none fun r164 =>
  mo (veilref01_Small N 6) none fun r165 =>
  mo (veilref01_F_Add N r164 r165) none fun r166 =>
  mo (veilref01_F_Mul N r166 r1) none fun r167 =>
  mo (veilref01_Small N 1) none fun r168 =>
  mo (veilref01_F_Add N r167 r168) none fun r169 =>
  mo (veilref01_F_Mul N r169 r1) none fun r170 =>
  mo (veilref01_Small N 2) none fun r171 =>
  mo (veilref01_F_Add N r170 r171) none fun r172 =>
  mo (veilref01_F_Mul N r172 r1) none fun r173 =>
  mo (veilref01_Small N 1) none fun r174 =>
  mo (veilref01_F_Add N r173 r174) none fun r175 =>
  mo (veilref01_F_Mul N r175 r1) none fun r176 =>
  mo (veilref01_Small N 4) none fun r177 =>
  mo (veilref01_F_Add N r176 r177) none fun r178 =>
  mo (veilref01_F_Mul N r178 r1) none fun r179 =>
  mo (veilref01_Small N 2) none fun r180 =>
  mo (veilref01_F_Add N r179 r180) none fun r181 =>
  mo (veilref01_F_Mul N r181 r1) none fun r182 =>
  mo (veilref01_Small N 1) none fun r183 =>
  mo (veilref01_F_Add N r182 r183) none fun r184 =>
  mo (veilref01_F_Mul N r184 r1) none fun r185 =>
  mo (veilref01_Small N 7) none fun r186 =>
  mo (veilref01_F_Add N r185 r186) none fun r187 =>
  mo (veilref01_F_Mul N r187 r1) none fun r188 =>
  mo (veilref01_Small N 5) none fun r189 =>
  mo (veilref01_F_Add N r188 r189) none fun r190 =>
  mo (veilref01_F_Mul N r190 r1) none fun r191 =>
  mo (veilref01_Small N 7) none fun r192 =>
  mo (veilref01_F_Add N r191 r192) none fun r193 =>
  mo (veilref01_F_Mul N r193 r1) none fun r194 =>
  mo (veilref01_Small N 5) none fun r195 =>
  mo (veilref01_F_Add N r194 r195) none fun r196 =>
  mo (veilref01_F_Mul N r196 r1) none fun r197 =>
  mo (veilref01_Small N 4) none fun r198 =>
  mo (veilref01_F_Add N r197 r198) none fun r199 =>
  mo (veilref01_F_Mul N r199 r1) none fun r200 =>
  mo (veilref01_Small N 1) none fun r201 =>
  mo (veilref01_F_Add N r200 r201) none fun r202 =>
  mo (veilref01_F_Mul N r202 r1) none fun r203 =>
  mo (veilref01_Small N 6) none fun r204 =>
  mo (veilref01_F_Add N r203 r204) none fun r205 =>
  mo (veilref01_F_Mul N r205 r1) none fun r206 =>
  mo (veilref01_Small N 7) none fun r207 =>
  mo (veilref01_F_Add N r206 r207) none fun r208 =>
  mo (veilref01_F_Mul N r208 r1) none fun r209 =>
  mo (veilref01_Small N 8) none fun r210 =>
  mo (veilref01_F_Add N r209 r210) none fun r211 =>
  mo (veilref01_F_Mul N r211 r1) none fun r212 =>
  mo (veilref01_Small N 8) none fun r213 =>
  mo (veilref01_F_Add N r212 r213) none fun r214 =>
  mo (veilref01_F_Mul N r214 r1) none fun r215 =>
  mo (veilref01_Small N 7) none fun r216 =>
  mo (veilref01_F_Add N r215 r216) none fun r217 =>
  mo (veilref01_F_Mul N r217 r1) none fun r218 =>
  mo (veilref01_Small N 9) none fun r219 =>
  mo (veilref01_F_Add N r218 r219) none fun r220 =>
  mo (veilref01_F_Mul N r220 r1) none fun r221 =>
  mo (veilref01_Small N 9) none fun r222 =>
  mo (veilref01_F_Add N r221 r222) none fun r223 =>
  mo (veilref01_F_Mul N r223 r1) none fun r224 =>
  mo (veilref01_Small N 8) none fun r225 =>
  mo (veilref01_F_Add N r224 r225) none fun r226 =>
  mo (veilref01_F_Mul N r226 r1) none fun r227 =>
  mo (veilref01_Small N 1) none fun r228 =>
  mo (veilref01_F_Add N r227 r228) none fun r229 =>
  mo (veilref01_F_Mul N r229 r1) none fun r230 =>
  mo (veilref01_Small N 8) none fun r231 =>
  mo (veilref01_F_Add N r230 r231) none fun r232 =>
  mo (veilref01_Small N 10) none fun r233 =>
  mo (veilref01_F_Mul N [0, 0, 0, 0, 0, 0, 0, 0, 0, 0] r233) none fun r234 =>
  mo (veilref01_Small N 2) none fun r235 =>
  mo (veilref01_F_Add N r234 r235) none fun r236 =>
  mo (veilref01_F_Mul N r236 r233) none fun r237 =>
  mo (veilref01_Small N 7) none fun r238 =>
  mo (veilref01_F_Add N r237 r238) none fun r239 =>
  mo (veilref01_F_Mul N r239 r233) none fun r240 =>
  mo (veilref01_Small N 0) none fun r241 =>
  mo (veilref01_F_Add N r240 r241) none fun r242 =>
  mo (veilref01_F_Mul N r242 r233) none fun r243 =>
  mo (veilref01_Small N 7) none fun r244 =>
  mo (veilref01_F_Add N r243 r244) none fun r245 =>
  mo (veilref01_F_Mul N r245 r233) none fun r246 =>
  mo (veilref01_Small N 3) none fun r247 =>
  mo (veilref01_F_Add N r246 r247) none fun r248 =>
  mo (veilref01_F_Mul N r248 r233) none fun r249 =>
  mo (veilref01_Small N 8) none fun r250 =>
  mo (veilref01_F_Add N r249 r250) none fun r251 =>
  mo (veilref01_F_Mul N r251 r233) none fun r252 =>
  mo (veilref01_Small N 5) none fun r253 =>
  mo (veilref01_F_Add N r252 r253) none fun r254 =>
  mo (veilref01_F_Mul N r254 r233) none fun r255 =>
  mo (veilref01_Small N 5) none fun r256 =>
  mo (veilref01_F_Add N r255 r256) none fun r257 =>
  mo (veilref01_F_Mul N r257 r233) none fun r258 =>
  mo (veilref01_Small N 0) none fun r259 =>
  mo (veilref01_F_Add N r258 r259) none fun r260 =>
  mo (veilref01_F_Mul N r260 r233) none fun r261 =>
  mo (veilref01_Small N 1) none fun r262 =>
  mo (veilref01_F_Add N r261 r262) none fun r263 =>
  mo (veilref01_F_Mul N r263 r233) none fun r264 =>
  mo (veilref01_Small N 1) none fun r265 =>
  mo (veilref01_F_Add N r264 r265) none fun r266 =>
  mo (veilref01_F_Mul N r266 r233) none fun r267 =>
  mo (veilref01_Small N 4) none fun r268 =>
  mo (veilref01_F_Add N r267 r268) none fun r269 =>
  mo (veilref01_F_Mul N r269 r233) none fun r270 =>
  mo (veilref01_Small N 4) none fun r271 =>
  mo (veilref01_F_Add N r270 r271) none fun r272 =>
  mo (veilref01_F_Mul N r272 r233) none fun r273 =>
  mo (veilref01_Small N 8) none fun r274 =>
  mo (veilref01_F_Add N r273 r274) none fun r275 =>
  mo (veilref01_F_Mul N r275 r233) none fun r276 =>
  mo (veilref01_Small N 4) none fun r277 =>
  mo (veilref01_F_Add N r276 r277) none fun r278 =>
  mo (veilref01_F_Mul N r278 r233) none fun r279 =>
  mo (veilref01_Small N 0) none fun r280 =>
  mo (veilref01_F_Add N r279 r280) none fun r281 =>
  mo (veilref01_F_Mul N r281 r233) none fun r282 =>
  mo (veilref01_Small N 6) none fun r283 =>
  mo (veilref01_F_Add N r282 r283) none fun r284 =>
  mo (veilref01_F_Mul N r284 r233) none fun r285 =>
  mo (veilref01_Small N 4) none fun r286 =>
  mo (veilref01_F_Add N r285 r286) none fun r287 =>
  mo (veilref01_F_Mul N r287 r233) none fun r288 =>
  mo (veilref01_Small N 9) none fun r289 =>
  mo (veilref01_F_Add N r288 r289) none fun r290 =>
  mo (veilref01_F_Mul N r290 r233) none fun r291 =>
  mo (veilref01_Small N 3) none fun r292 =>
  mo (veilref01_F_Add N r291 r292) none fun r293 =>
  mo (veilref01_F_Mul N r293 r233) none fun r294 =>
  mo (veilref01_Small N 1) none fun r295 =>
  mo (veilref01_F_Add N r294 r295) none fun r296 =>
  mo (veilref01_F_Mul N r296 r233) none fun r297 =>
  mo (veilref01_Small N 8) none fun r298 =>
  mo (veilref01_F_Add N r297 r298) none fun r299 =>
  mo (veilref01_F_Mul N r299 r233) none fun r300 =>
  mo (veilref01_Small N 2) none fun r301 =>
  mo (veilref01_F_Add N r300 r301) none fun r302 =>
  mo (veilref01_F_Mul N r302 r233) none fun r303 =>
  mo (veilref01_Small N 2) none fun r304 =>
  mo (veilref01_F_Add N r303 r304) none fun r305 =>
  mo (veilref01_F_Mul N r305 r233) none fun r306 =>
  mo (veilref01_Small N 5) none fun r307 =>
  mo (veilref01_F_Add N r306 r307) none fun r308 =>
  mo (veilref01_F_Mul N r308 r233) none fun r309 =>
  mo (veilref01_Small N 2) none fun r310 =>
  mo (veilref01_F_Add N r309 r310) none fun r311 =>
  mo (veilref01_F_Mul N r311 r233) none fun r312 =>
  mo (veilref01_Small N 8) none fun r313 =>
  mo (veilref01_F_Add N r312 r313) none fun r314 =>
  mo (veilref01_F_Mul N r314 r233) none fun r315 =>
  mo (veilref01_Small N 7) none fun r316 =>
  mo (veilref01_F_Add N r315 r316) none fun r317 =>
  mo (veilref01_F_Mul N r317 r233) none fun r318 =>
  mo (veilref01_Small N 2) none fun r319 =>
  mo (veilref01_F_Add N r318 r319) none fun r320 =>
  mo (veilref01_F_Mul N r320 r233) none fun r321 =>
  mo (veilref01_Small N 2) none fun r322 =>
  mo (veilref01_F_Add N r321 r322) none fun r323 =>
  mo (veilref01_F_Mul N r323 r233) none fun r324 =>
  mo (veilref01_Small N 5) none fun r325 =>
  mo (veilref01_F_Add N r324 r325) none fun r326 =>
  mo (veilref01_F_Mul N r326 r233) none fun r327 =>
  mo (veilref01_Small N 6) none fun r328 =>
  mo (veilref01_F_Add N r327 r328) none fun r329 =>
  mo (veilref01_F_Mul N r329 r233) none fun r330 =>
  mo (veilref01_Small N 5) none fun r331 =>
  mo (veilref01_F_Add N r330 r331) none fun r332 =>
  mo (veilref01_F_Mul N r332 r233) none fun r333 =>
  mo (veilref01_Small N 8) none fun r334 =>
  mo (veilref01_F_Add N r333 r334) none fun r335 =>
  mo (veilref01_F_Mul N r335 r233) none fun r336 =>
  mo (veilref01_Small N 7) none fun r337 =>
  mo (veilref01_F_Add N r336 r337) none fun r338 =>
  mo (veilref01_F_Mul N r338 r233) none fun r339 =>
  mo (veilref01_Small N 8) none fun r340 =>
  mo (veilref01_F_Add N r339 r340) none fun r341 =>
  mo (veilref01_F_Mul N r341 r233) none fun r342 =>
  mo (veilref01_Small N 8) none fun r343 =>
  mo (veilref01_F_Add N r342 r343) none fun r344 =>
  mo (veilref01_F_Mul N r344 r233) none fun r345 =>
  mo (veilref01_Small N 9) none fun r346 =>
  mo (veilref01_F_Add N r345 r346) none fun r347 =>
  mo (veilref01_F_Mul N r347 r233) none fun r348 =>
  mo (veilref01_Small N 3) none fun r349 =>
  mo (veilref01_F_Add N r348 r349) none fun r350 =>
  mo (veilref01_F_Mul N r350 r233) none fun r351 =>
  mo (veilref01_Small N 6) none fun r352 =>
  mo (veilref01_F_Add N r351 r352) none fun r353 =>
  mo (veilref01_F_Mul N r353 r233) none fun r354 =>
  mo (veilref01_Small N 8) none fun r355 =>
  mo (veilref01_F_Add N r354 r355) none fun r356 =>
  mo (veilref01_F_Mul N r356 r233) none fun r357 =>
  mo (veilref01_Small N 0) none fun r358 =>
  mo (veilref01_F_Add N r357 r358) none fun r359 =>
  mo (veilref01_F_Mul N r359 r233) none fun r360 =>
  mo (veilref01_Small N 4) none fun r361 =>
  mo (veilref01_F_Add N r360 r361) none fun r362 =>
  mo (veilref01_F_Mul N r362 r233) none fun r363 =>
  mo (veilref01_Small N 2) none fun r364 =>
  mo (veilref01_F_Add N r363 r364) none fun r365 =>
  mo (veilref01_F_Mul N r365 r233) none fun r366 =>
  mo (veilref01_Small N 6) none fun r367 =>
  mo (veilref01_F_Add N r366 r367) none fun r368 =>
  mo (veilref01_F_Mul N r368 r233) none fun r369 =>
  mo (veilref01_Small N 7) none fun r370 =>
  mo (veilref01_F_Add N r369 r370) none fun r371 =>
  mo (veilref01_F_Mul N r371 r233) none fun r372 =>
  mo (veilref01_Small N 5) none fun r373 =>
  mo (veilref01_F_Add N r372 r373) none fun r374 =>
  mo (veilref01_F_Mul N r374 r233) none fun r375 =>
  mo (veilref01_Small N 7) none fun r376 =>
  mo (veilref01_F_Add N r375 r376) none fun r377 =>
  mo (veilref01_F_Mul N r377 r233) none fun r378 =>
  mo (veilref01_Small N 5) none fun r379 =>
  mo (veilref01_F_Add N r378 r379) none fun r380 =>
  mo (veilref01_F_Mul N r380 r233) none fun r381 =>
  mo (veilref01_Small N 3) none fun r382 =>
  mo (veilref01_F_Add N r381 r382) none fun r383 =>
  mo (veilref01_F_Mul N r383 r233) none fun r384 =>
  mo (veilref01_Small N 1) none fun r385 =>
  mo (veilref01_F_Add N r384 r385) none fun r386 =>
  mo (veilref01_F_Mul N r386 r233) none fun r387 =>
  mo (veilref01_Small N 3) none fun r388 =>
  mo (veilref01_F_Add N r387 r388) none fun r389 =>
  mo (veilref01_F_Mul N r389 r233) none fun r390 =>
  mo (veilref01_Small N 5) none fun r391 =>
  mo (veilref01_F_Add N r390 r391) none fun r392 =>
  mo (veilref01_F_Mul N r392 r233) none fun r393 =>
  mo (veilref01_Small N 1) none fun r394 =>
  mo (veilref01_F_Add N r393 r394) none fun r395 =>
  mo (veilref01_F_Mul N r395 r233) none fun r396 =>
  mo (veilref01_Small N 9) none fun r397 =>
  mo (veilref01_F_Add N r396 r397) none fun r398 =>
  mo (veilref01_F_Mul N r398 r233) none fun r399 =>
  mo (veilref01_Small N 4) none fun r400 =>
  mo (veilref01_F_Add N r399 r400) none fun r401 =>
  mo (veilref01_F_Mul N r401 r233) none fun r402 =>
  mo (veilref01_Small N 6) none fun r403 =>
  mo (veilref01_F_Add N r402 r403) none fun r404 =>
  mo (veilref01_F_Mul N r404 r233) none fun r405 =>
  mo (veilref01_Small N 3) none fun r406 =>
  mo (veilref01_F_Add N r405 r406) none fun r407 =>
  mo (veilref01_F_Mul N r407 r233) none fun r408 =>
  mo (veilref01_Small N 7) none fun r409 =>
  mo (veilref01_F_Add N r408 r409) none fun r410 =>
  mo (veilref01_F_Mul N r410 r233) none fun r411 =>
  mo (veilref01_Small N 4) none fun r412 =>
  mo (veilref01_F_Add N r411 r412) none fun r413 =>
  mo (veilref01_F_Mul N r413 r233) none fun r414 =>
  mo (veilref01_Small N 3) none fun r415 =>
  mo (veilref01_F_Add N r414 r415) none fun r416 =>
  mo (veilref01_F_Mul N r416 r233) none fun r417 =>
  mo (veilref01_Small N 6) none fun r418 =>
  mo (veilref01_F_Add N r417 r418) none fun r419 =>
  mo (veilref01_F_Mul N r419 r233) none fun r420 =>
  mo (veilref01_Small N 0) none fun r421 =>
  mo (veilref01_F_Add N r420 r421) none fun r422 =>
  mo (veilref01_F_Mul N r422 r233) none fun r423 =>
  mo (veilref01_Small N 9) none fun r424 =>
  mo (veilref01_F_Add N r423 r424) none fun r425 =>
  mo (veilref01_F_Mul N r425 r233) none fun r426 =>
  mo (veilref01_Small N 7) none fun r427 =>
  mo (veilref01_F_Add N r426 r427) none fun r428 =>
  mo (veilref01_F_Mul N r428 r233) none fun r429 =>
  mo (veilref01_Small N 5) none fun r430 =>
  mo (veilref01_F_Add N r429 r430) none fun r431 =>
  mo (veilref01_F_Mul N r431 r233) none fun r432 =>
  mo (veilref01_Small N 0) none fun r433 =>
  mo (veilref01_F_Add N r432 r433) none fun r434 =>
  mo (veilref01_F_Mul N r434 r233) none fun r435 =>
  mo (veilref01_Small N 3) none fun r436 =>
  mo (veilref01_F_Add N r435 r436) none fun r437 =>
  mo (veilref01_F_Mul N r437 r233) none fun r438 =>
  mo (veilref01_Small N 0) none fun r439 =>
  mo (veilref01_F_Add N r438 r439) none fun r440 =>
  mo (veilref01_F_Mul N r440 r233) none fun r441 =>
  mo (veilref01_Small N 3) none fun r442 =>
  mo (veilref01_F_Add N r441 r442) none fun r443 =>
  mo (veilref01_F_Mul N r443 r233) none fun r444 =>
  mo (veilref01_Small N 4) none fun r445 =>
  mo (veilref01_F_Add N r444 r445) none fun r446 =>
  mo (veilref01_F_Mul N r446 r233) none fun r447 =>
  mo (veilref01_Small N 0) none fun r448 =>
  mo (veilref01_F_Add N r447 r448) none fun r449 =>
  mo (veilref01_F_Mul N r449 r233) none fun r450 =>
  mo (veilref01_Small N 2) none fun r451 =>
  mo (veilref01_F_Add N r450 r451) none fun r452 =>
  mo (veilref01_F_Mul N r452 r233) none fun r453 =>
  mo (veilref01_Small N 0) none fun r454 =>
  mo (veilref01_F_Add N r453 r454) none fun r455 =>
  mo (veilref01_F_Mul N r455 r233) none fun r456 =>
  mo (veilref01_Small N 2) none fun r457 =>
  mo (veilref01_F_Add N r456 r457) none fun r458 =>
  mo (veilref01_F_Mul N r458 r233) none fun r459 =>
  mo (veilref01_Small N 2) none fun r460 =>
  mo (veilref01_F_Add N r459 r460) none fun r461 =>
  mo (loopF (veilref04_Torsion_l0 N) N ((a, (), (), (), 0), ((), (), (r232, r461), (veilref04_Neutral.1, veilref04_Neutral.2)))) none fun r474 =>
  match r474 with
  | .inl u475 => (
    some (u475.2.2.2.1, u475.2.2.2.2)
  )
  | .inr _ => (
    none
  )

def veilref04_On (N : Nat) (a : List Int) (b : List Int) : Option (Bool) :=
  mo (veilref01_F_Mul N a a) none fun r1 =>
  mo (veilref01_F_Mul N b b) none fun r2 =>
  mo (veilref01_F_Sub N r2 r1) none fun r3 =>
  mo (veilref01_F_Mul N veilref01_D r1) none fun r4 =>
  mo (veilref01_F_Mul N r4 r2) none fun r5 =>
  mo (veilref01_F_Add N [1, 0, 0, 0, 0, 0, 0, 0, 0, 0] r5) none fun r6 =>
  some (decide (r3 = r6))

def veilref04_FromAffine (N : Nat) (a : List Int) (b : List Int) : Option (((List Int × List Int) × Int)) :=
  mo (veilref04_On N a b) none fun r1 =>
  cond (!r1) (
    some ((veilref04_Neutral.1, veilref04_Neutral.2), 40)
  ) (
    some ((a, b), 0)
  )

def veilref04_Decompress (N : Nat) (a : List Int) : Option (((List Int × List Int) × Int)) :=
  mo (veilref01_Decode N (List.set a 31 (ibin .and .u8 (List.getD a 31 0) 127))) none fun r1 =>
  cond (icmp .neq r1.2 0) (
    some ((veilref04_Neutral.1, veilref04_Neutral.2), r1.2)
  ) (
    mo (veilref04_XOf N r1.1) none fun r2 =>
    cond (!r2.2) (
      some ((veilref04_Neutral.1, veilref04_Neutral.2), 40)
    ) (
      let x1 := (icmp .geq (List.getD a 31 0) 128)
      cond x1 (
        cond (decide (r2.1 = [0, 0, 0, 0, 0, 0, 0, 0, 0, 0])) (
          some ((veilref04_Neutral.1, veilref04_Neutral.2), 3)
        ) (
          cond x1 (
            some (((veilref01_F_Neg r2.1), r1.1), 0)
          ) (
            some ((r2.1, r1.1), 0)
          )
        )
      ) (
        cond x1 (
          some (((veilref01_F_Neg r2.1), r1.1), 0)
        ) (
          some ((r2.1, r1.1), 0)
        )
      )
    )
  )

def veillaw04_coords (N : Nat) (a : (List Int × List Int × List Int × List Int)) (b : (List Int × List Int)) : Option (Bool) :=
  mo (curve_Point_Affine N (a.1, a.2.1, a.2.2.1, a.2.2.2)) none fun r1 =>
  mo (veilref01_F_Limbs N b.1) none fun r2 =>
  cond (decide (r1.1 = r2)) (
    mo (veilref01_F_Limbs N b.2) none fun r3 =>
    some (decide (r1.2 = r3))
  ) (
    some false
  )

def veillaw04_base (N : Nat)  : Option (Bool) :=
  mo (veilref04_Base N) none fun r1 =>
  mo (veillaw04_coords N (curve_Base.1, curve_Base.2.1, curve_Base.2.2.1, curve_Base.2.2.2) (r1.1, r1.2)) none fun r2 =>
  cond r2 (
    mo (veillaw04_coords N ([0, 0, 0, 0, 0], [0, 0, 0, 0, 0], [0, 0, 0, 0, 0], [0, 0, 0, 0, 0]) (veilref04_Neutral.1, veilref04_Neutral.2)) none fun r3 =>
    some r3
  ) (
    some false
  )

def veillaw04_CurveMakes_l0 (N M : Nat) (v : (Nat × Unit × Unit × Int) × (List ((Int × Int × Int × Int × List Int × List Int × List Int × List Int)) × List ((List Int × List Int × List Int × List Int)) × List ((List Int × List Int)) × (Nat × Nat))) : Option (((Nat × Unit × Unit × Int) × (List ((Int × Int × Int × Int × List Int × List Int × List Int × List Int)) × List ((List Int × List Int × List Int × List Int)) × List ((List Int × List Int)) × (Nat × Nat))) ⊕ ((Unit × Unit) ⊕ (Unit × Unit))) :=
  cond (icmp .lss v.1.2.2.2 ((v.1.1 : Nat) : Int)) (
    let x1 := (decide (0 ≤ v.1.2.2.2 ∧ v.1.2.2.2 < ((v.1.1 : Nat) : Int)))
    cond x1 (
      let x2 := (List.getD v.2.1 (Int.toNat v.1.2.2.2) (0, 0, 0, 0, (List.replicate 32 0), [0, 0, 0, 0], [0, 0, 0, 0, 0], [0, 0, 0, 0, 0]))
      cond (icmp .lss x2.1 5) (
        cond x1 (
          cond (icmp .eql x2.1 1) (
            mo (veilref04_Base N) none fun r17 =>
            let x3 := (v.2.2.1 ++ [(curve_Base.1, curve_Base.2.1, curve_Base.2.2.1, curve_Base.2.2.2)])
            let x4 := (List.length x3)
            cond (decide (x4 * 160 ≤ 140737488355328 ∧ x4 ≤ 9223372036854775807)) (
              let x5 := (v.2.2.2.1 ++ [(r17.1, r17.2)])
              let x6 := (List.length x5)
              cond (decide (x6 * 160 ≤ 140737488355328 ∧ x6 ≤ 9223372036854775807)) (
                mo (veillaw04_coords N (curve_Base.1, curve_Base.2.1, curve_Base.2.2.1, curve_Base.2.2.2) (r17.1, r17.2)) none fun r18 =>
                cond (!r18) (
                  some (.inr (.inr ((), ())))
                ) (
                  some (.inl ((v.1.1, (), (), (ibin .add .i64 v.1.2.2.2 1)), (v.2.1, x3, x5, (x4, x6))))
                )
              ) (
                none
              )
            ) (
              none
            )
          ) (
            cond (icmp .eql x2.1 2) (
              mo (curve_Torsion x2.2.2.2.1) none fun r19 =>
              mo (veilref04_Torsion N x2.2.2.2.1) none fun r20 =>
              let x7 := (v.2.2.1 ++ [(r19.1, r19.2.1, r19.2.2.1, r19.2.2.2)])
              let x8 := (List.length x7)
              cond (decide (x8 * 160 ≤ 140737488355328 ∧ x8 ≤ 9223372036854775807)) (
                let x9 := (v.2.2.2.1 ++ [(r20.1, r20.2)])
                let x10 := (List.length x9)
                cond (decide (x10 * 160 ≤ 140737488355328 ∧ x10 ≤ 9223372036854775807)) (
                  mo (veillaw04_coords N (r19.1, r19.2.1, r19.2.2.1, r19.2.2.2) (r20.1, r20.2)) none fun r21 =>
                  cond (!r21) (
                    some (.inr (.inr ((), ())))
                  ) (
                    some (.inl ((v.1.1, (), (), (ibin .add .i64 v.1.2.2.2 1)), (v.2.1, x7, x9, (x8, x10))))
                  )
                ) (
                  none
                )
              ) (
                none
              )
            ) (
              cond (icmp .eql x2.1 3) (
                mo (curve_FromAffine x2.2.2.2.2.2.2.1 x2.2.2.2.2.2.2.2) none fun r22 =>
                mo (veilref01_Of N x2.2.2.2.2.2.2.1) none fun r23 =>
                mo (veilref01_Of N x2.2.2.2.2.2.2.2) none fun r24 =>
                mo (veilref04_FromAffine N r23 r24) none fun r25 =>
                let x11 := (v.2.2.1 ++ [(r22.1.1, r22.1.2.1, r22.1.2.2.1, r22.1.2.2.2)])
                let x12 := (List.length x11)
                cond (decide (x12 * 160 ≤ 140737488355328 ∧ x12 ≤ 9223372036854775807)) (
                  let x13 := (v.2.2.2.1 ++ [(r25.1.1, r25.1.2)])
                  let x14 := (List.length x13)
                  cond (decide (x14 * 160 ≤ 140737488355328 ∧ x14 ≤ 9223372036854775807)) (
                    cond (icmp .eql r22.2 r25.2) (
                      mo (veillaw04_coords N (r22.1.1, r22.1.2.1, r22.1.2.2.1, r22.1.2.2.2) (r25.1.1, r25.1.2)) none fun r26 =>
                      cond (!r26) (
                        some (.inr (.inr ((), ())))
                      ) (
                        some (.inl ((v.1.1, (), (), (ibin .add .i64 v.1.2.2.2 1)), (v.2.1, x11, x13, (x12, x14))))
                      )
                    ) (
                      some (.inr (.inr ((), ())))
                    )
                  ) (
                    none
                  )
                ) (
                  none
                )
              ) (
                cond (icmp .eql x2.1 4) (
                  mo (curve_Decompress N x2.2.2.2.2.1) none fun r27 =>
                  mo (veilref04_Decompress N x2.2.2.2.2.1) none fun r28 =>
                  let x15 := (v.2.2.1 ++ [(r27.1.1, r27.1.2.1, r27.1.2.2.1, r27.1.2.2.2)])
                  let x16 := (List.length x15)
                  cond (decide (x16 * 160 ≤ 140737488355328 ∧ x16 ≤ 9223372036854775807)) (
                    let x17 := (v.2.2.2.1 ++ [(r28.1.1, r28.1.2)])
                    let x18 := (List.length x17)
                    cond (decide (x18 * 160 ≤ 140737488355328 ∧ x18 ≤ 9223372036854775807)) (
                      cond (icmp .eql r27.2 r28.2) (
                        mo (veillaw04_coords N (r27.1.1, r27.1.2.1, r27.1.2.2.1, r27.1.2.2.2) (r28.1.1, r28.1.2)) none fun r29 =>
                        cond (!r29) (
                          some (.inr (.inr ((), ())))
                        ) (
                          some (.inl ((v.1.1, (), (), (ibin .add .i64 v.1.2.2.2 1)), (v.2.1, x15, x17, (x16, x18))))
                        )
                      ) (
                        some (.inr (.inr ((), ())))
                      )
                    ) (
                      none
                    )
                  ) (
                    none
                  )
                ) (
                  let x19 := (v.2.2.1 ++ [([0, 0, 0, 0, 0], [0, 0, 0, 0, 0], [0, 0, 0, 0, 0], [0, 0, 0, 0, 0])])
                  let x20 := (List.length x19)
                  cond (decide (x20 * 160 ≤ 140737488355328 ∧ x20 ≤ 9223372036854775807)) (
                    let x21 := (v.2.2.2.1 ++ [(veilref04_Neutral.1, veilref04_Neutral.2)])
                    let x22 := (List.length x21)
                    cond (decide (x22 * 160 ≤ 140737488355328 ∧ x22 ≤ 9223372036854775807)) (
                      mo (veillaw04_coords N ([0, 0, 0, 0, 0], [0, 0, 0, 0, 0], [0, 0, 0, 0, 0], [0, 0, 0, 0, 0]) (veilref04_Neutral.1, veilref04_Neutral.2)) none fun r30 =>
                      cond (!r30) (
                        some (.inr (.inr ((), ())))
                      ) (
                        some (.inl ((v.1.1, (), (), (ibin .add .i64 v.1.2.2.2 1)), (v.2.1, x19, x21, (x20, x22))))
                      )
                    ) (
                      none
                    )
                  ) (
                    none
                  )
                )
              )
            )
          )
        ) (
          none
        )
      ) (
        some (.inl ((v.1.1, (), (), (ibin .add .i64 v.1.2.2.2 1)), (v.2.1, v.2.2.1, v.2.2.2.1, (v.2.2.2.2.1, v.2.2.2.2.2))))
      )
    ) (
      none
    )
  ) (
    some (.inr (.inl ((), ())))
  )

def veillaw04_CurveMakes (N M : Nat) (a : (List ((Int × Int × Int × Int × List Int × List Int × List Int × List Int)) × Unit)) : Option (Bool) :=
  mo (veillaw04_base N) none fun r1 =>
  cond (!r1) (
    some false
  ) (
    mo (loopF (veillaw04_CurveMakes_l0 N M) M (((List.length a.1), (), (), 0), (a.1, [], [], (0, 0)))) none fun r31 =>
    match r31 with
    | .inl u32 => (
      some true
    )
    | .inr w33 => (
      some false
    )
  )

end Go.Vx
