import Derived.Test.YtnhillmnkbfgoaaDoorVxU2
set_option autoImplicit false
set_option linter.unusedVariables false
set_option linter.unusedSimpArgs false
namespace Go.Vx
open Go

def field_tab (i : Nat) : List Int := List.getD [[0, 0, 0, 0, 0], [1718705420411056, 234908883556509, 2233514472574048, 2117202627021982, 765476049583133], [929955233495203, 466365720129213, 1662059464998953, 2033849074728123, 1442794654840575], [2241493124984347, 425987919032274, 2207028919301688, 1220490630685848, 974799131293748], [278908739862762, 821645201101625, 8113234426968, 1777959178193151, 2118520810568447], [1136626929484150, 1998550399581263, 496427632559748, 118527312129759, 45110755273534], [1507062230895904, 1572317787530805, 683053064812840, 317374165784489, 1572899562415810]] i [0, 0, 0, 0, 0]

def field_Elem_light (a : List Int) : List Int :=
  [(ibin .add .u64 (ibin .and .u64 (List.getD a 0 0) 2251799813685247) (ibin .mul .u64 19 (ibin .shr .u64 (List.getD a 4 0) 51))), (ibin .add .u64 (ibin .and .u64 (List.getD a 1 0) 2251799813685247) (ibin .shr .u64 (List.getD a 0 0) 51)), (ibin .add .u64 (ibin .and .u64 (List.getD a 2 0) 2251799813685247) (ibin .shr .u64 (List.getD a 1 0) 51)), (ibin .add .u64 (ibin .and .u64 (List.getD a 3 0) 2251799813685247) (ibin .shr .u64 (List.getD a 2 0) 51)), (ibin .add .u64 (ibin .and .u64 (List.getD a 4 0) 2251799813685247) (ibin .shr .u64 (List.getD a 3 0) 51))]


def field_Elem_Least (a : List Int) : List Int :=
  let x1 := (field_Elem_light (field_Elem_light (field_Elem_light a)))
  let x2 := (List.getD x1 0 0)
  let x3 := (List.set x1 0 (ibin .add .u64 x2 (ibin .mul .u64 19 (ibin .shr .u64 (ibin .add .u64 (List.getD x1 4 0) (ibin .shr .u64 (ibin .add .u64 (List.getD x1 3 0) (ibin .shr .u64 (ibin .add .u64 (List.getD x1 2 0) (ibin .shr .u64 (ibin .add .u64 (List.getD x1 1 0) (ibin .shr .u64 (ibin .add .u64 x2 19) 51)) 51)) 51)) 51)) 51))))
  let x4 := (List.set x3 1 (ibin .add .u64 (List.getD x3 1 0) (ibin .shr .u64 (List.getD x3 0 0) 51)))
  let x5 := (List.set x4 0 (ibin .and .u64 (List.getD x4 0 0) 2251799813685247))
  let x6 := (List.set x5 2 (ibin .add .u64 (List.getD x5 2 0) (ibin .shr .u64 (List.getD x5 1 0) 51)))
  let x7 := (List.set x6 1 (ibin .and .u64 (List.getD x6 1 0) 2251799813685247))
  let x8 := (List.set x7 3 (ibin .add .u64 (List.getD x7 3 0) (ibin .shr .u64 (List.getD x7 2 0) 51)))
  let x9 := (List.set x8 2 (ibin .and .u64 (List.getD x8 2 0) 2251799813685247))
  let x10 := (List.set x9 4 (ibin .add .u64 (List.getD x9 4 0) (ibin .shr .u64 (List.getD x9 3 0) 51)))
  let x11 := (List.set x10 3 (ibin .and .u64 (List.getD x10 3 0) 2251799813685247))
  (List.set x11 4 (ibin .and .u64 (List.getD x11 4 0) 2251799813685247))


def field_Elem_slim (a : List Int) : Bool :=
  (icmp .eql (ibin .shr .u64 (ibin .or .u64 (ibin .or .u64 (ibin .or .u64 (ibin .or .u64 (List.getD a 0 0) (List.getD a 1 0)) (List.getD a 2 0)) (List.getD a 3 0)) (List.getD a 4 0)) 51) 0)


def field_last (a : Int) (b : Int) (c : Int) (d : Int) (e : Int) : List Int :=
  let x1 := (ibin .add .u64 a (ibin .mul .u64 19 (ibin .shr .u64 (ibin .add .u64 e (ibin .shr .u64 (ibin .add .u64 d (ibin .shr .u64 (ibin .add .u64 c (ibin .shr .u64 (ibin .add .u64 b (ibin .shr .u64 (ibin .add .u64 a 19) 51)) 51)) 51)) 51)) 51)))
  let x2 := (ibin .add .u64 b (ibin .shr .u64 x1 51))
  let x3 := (ibin .add .u64 c (ibin .shr .u64 x2 51))
  let x4 := (ibin .add .u64 d (ibin .shr .u64 x3 51))
  [(ibin .and .u64 x1 2251799813685247), (ibin .and .u64 x2 2251799813685247), (ibin .and .u64 x3 2251799813685247), (ibin .and .u64 x4 2251799813685247), (ibin .and .u64 (ibin .add .u64 e (ibin .shr .u64 x4 51)) 2251799813685247)]


def field_closed (a : Int) (b : Int) (c : Int) (d : Int) (e : Int) : List Int :=
  let x1 := (ibin .add .u64 b (ibin .shr .u64 a 51))
  let x2 := (ibin .add .u64 c (ibin .shr .u64 x1 51))
  let x3 := (ibin .add .u64 d (ibin .shr .u64 x2 51))
  let x4 := (ibin .add .u64 e (ibin .shr .u64 x3 51))
  let x5 := (ibin .add .u64 (ibin .and .u64 a 2251799813685247) (ibin .mul .u64 19 (ibin .shr .u64 x4 51)))
  cond (icmp .leq x5 2251799813685247) (
    let x6 := (ibin .and .u64 x4 2251799813685247)
    cond (icmp .neq x6 2251799813685247) (
      [x5, (ibin .and .u64 x1 2251799813685247), (ibin .and .u64 x2 2251799813685247), (ibin .and .u64 x3 2251799813685247), x6]
    ) (
      (field_last x5 (ibin .and .u64 x1 2251799813685247) (ibin .and .u64 x2 2251799813685247) (ibin .and .u64 x3 2251799813685247) x6)
    )
  ) (
    (field_last x5 (ibin .and .u64 x1 2251799813685247) (ibin .and .u64 x2 2251799813685247) (ibin .and .u64 x3 2251799813685247) (ibin .and .u64 x4 2251799813685247))
  )

def field_closed_o (a : Int) (b : Int) (c : Int) (d : Int) (e : Int) : Option (List Int) :=
  let x1 := (ibin .add .u64 b (ibin .shr .u64 a 51))
  let x2 := (ibin .add .u64 c (ibin .shr .u64 x1 51))
  let x3 := (ibin .add .u64 d (ibin .shr .u64 x2 51))
  let x4 := (ibin .add .u64 e (ibin .shr .u64 x3 51))
  let x5 := (ibin .add .u64 (ibin .and .u64 a 2251799813685247) (ibin .mul .u64 19 (ibin .shr .u64 x4 51)))
  cond (icmp .leq x5 2251799813685247) (
    let x6 := (ibin .and .u64 x4 2251799813685247)
    cond (icmp .neq x6 2251799813685247) (
      some [x5, (ibin .and .u64 x1 2251799813685247), (ibin .and .u64 x2 2251799813685247), (ibin .and .u64 x3 2251799813685247), x6]
    ) (
      some (field_last x5 (ibin .and .u64 x1 2251799813685247) (ibin .and .u64 x2 2251799813685247) (ibin .and .u64 x3 2251799813685247) x6)
    )
  ) (
    some (field_last x5 (ibin .and .u64 x1 2251799813685247) (ibin .and .u64 x2 2251799813685247) (ibin .and .u64 x3 2251799813685247) (ibin .and .u64 x4 2251799813685247))
  )

theorem field_closed_tot (a : Int) (b : Int) (c : Int) (d : Int) (e : Int) : field_closed_o a b c d e = some (field_closed a b c d e) := by
  unfold field_closed_o field_closed
  repeat' (first | refine cond_tot ?_ ?_ | rfl)

def field_Elem_Add (a : List Int) (b : List Int) : List Int :=
  cond (!(field_Elem_slim a)) (
    (field_closed (ibin .add .u64 (List.getD (field_Elem_Least a) 0 0) (List.getD (field_Elem_Least b) 0 0)) (ibin .add .u64 (List.getD (field_Elem_Least a) 1 0) (List.getD (field_Elem_Least b) 1 0)) (ibin .add .u64 (List.getD (field_Elem_Least a) 2 0) (List.getD (field_Elem_Least b) 2 0)) (ibin .add .u64 (List.getD (field_Elem_Least a) 3 0) (List.getD (field_Elem_Least b) 3 0)) (ibin .add .u64 (List.getD (field_Elem_Least a) 4 0) (List.getD (field_Elem_Least b) 4 0)))
  ) (
    cond (!(field_Elem_slim b)) (
      (field_closed (ibin .add .u64 (List.getD (field_Elem_Least a) 0 0) (List.getD (field_Elem_Least b) 0 0)) (ibin .add .u64 (List.getD (field_Elem_Least a) 1 0) (List.getD (field_Elem_Least b) 1 0)) (ibin .add .u64 (List.getD (field_Elem_Least a) 2 0) (List.getD (field_Elem_Least b) 2 0)) (ibin .add .u64 (List.getD (field_Elem_Least a) 3 0) (List.getD (field_Elem_Least b) 3 0)) (ibin .add .u64 (List.getD (field_Elem_Least a) 4 0) (List.getD (field_Elem_Least b) 4 0)))
    ) (
      (field_closed (ibin .add .u64 (List.getD a 0 0) (List.getD b 0 0)) (ibin .add .u64 (List.getD a 1 0) (List.getD b 1 0)) (ibin .add .u64 (List.getD a 2 0) (List.getD b 2 0)) (ibin .add .u64 (List.getD a 3 0) (List.getD b 3 0)) (ibin .add .u64 (List.getD a 4 0) (List.getD b 4 0)))
    )
  )

def field_Elem_Add_o (a : List Int) (b : List Int) : Option (List Int) :=
  cond (!(field_Elem_slim a)) (
    some (field_closed (ibin .add .u64 (List.getD (field_Elem_Least a) 0 0) (List.getD (field_Elem_Least b) 0 0)) (ibin .add .u64 (List.getD (field_Elem_Least a) 1 0) (List.getD (field_Elem_Least b) 1 0)) (ibin .add .u64 (List.getD (field_Elem_Least a) 2 0) (List.getD (field_Elem_Least b) 2 0)) (ibin .add .u64 (List.getD (field_Elem_Least a) 3 0) (List.getD (field_Elem_Least b) 3 0)) (ibin .add .u64 (List.getD (field_Elem_Least a) 4 0) (List.getD (field_Elem_Least b) 4 0)))
  ) (
    cond (!(field_Elem_slim b)) (
      some (field_closed (ibin .add .u64 (List.getD (field_Elem_Least a) 0 0) (List.getD (field_Elem_Least b) 0 0)) (ibin .add .u64 (List.getD (field_Elem_Least a) 1 0) (List.getD (field_Elem_Least b) 1 0)) (ibin .add .u64 (List.getD (field_Elem_Least a) 2 0) (List.getD (field_Elem_Least b) 2 0)) (ibin .add .u64 (List.getD (field_Elem_Least a) 3 0) (List.getD (field_Elem_Least b) 3 0)) (ibin .add .u64 (List.getD (field_Elem_Least a) 4 0) (List.getD (field_Elem_Least b) 4 0)))
    ) (
      some (field_closed (ibin .add .u64 (List.getD a 0 0) (List.getD b 0 0)) (ibin .add .u64 (List.getD a 1 0) (List.getD b 1 0)) (ibin .add .u64 (List.getD a 2 0) (List.getD b 2 0)) (ibin .add .u64 (List.getD a 3 0) (List.getD b 3 0)) (ibin .add .u64 (List.getD a 4 0) (List.getD b 4 0)))
    )
  )

theorem field_Elem_Add_tot (a : List Int) (b : List Int) : field_Elem_Add_o a b = some (field_Elem_Add a b) := by
  unfold field_Elem_Add_o field_Elem_Add
  repeat' (first | refine cond_tot ?_ ?_ | rfl)

def field_Elem_Sub (a : List Int) (b : List Int) : List Int :=
  cond (!(field_Elem_slim a)) (
    (field_closed (ibin .sub .u64 (ibin .add .u64 (List.getD (field_Elem_Least a) 0 0) 4503599627370458) (List.getD (field_Elem_Least b) 0 0)) (ibin .sub .u64 (ibin .add .u64 (List.getD (field_Elem_Least a) 1 0) 4503599627370494) (List.getD (field_Elem_Least b) 1 0)) (ibin .sub .u64 (ibin .add .u64 (List.getD (field_Elem_Least a) 2 0) 4503599627370494) (List.getD (field_Elem_Least b) 2 0)) (ibin .sub .u64 (ibin .add .u64 (List.getD (field_Elem_Least a) 3 0) 4503599627370494) (List.getD (field_Elem_Least b) 3 0)) (ibin .sub .u64 (ibin .add .u64 (List.getD (field_Elem_Least a) 4 0) 4503599627370494) (List.getD (field_Elem_Least b) 4 0)))
  ) (
    cond (!(field_Elem_slim b)) (
      (field_closed (ibin .sub .u64 (ibin .add .u64 (List.getD (field_Elem_Least a) 0 0) 4503599627370458) (List.getD (field_Elem_Least b) 0 0)) (ibin .sub .u64 (ibin .add .u64 (List.getD (field_Elem_Least a) 1 0) 4503599627370494) (List.getD (field_Elem_Least b) 1 0)) (ibin .sub .u64 (ibin .add .u64 (List.getD (field_Elem_Least a) 2 0) 4503599627370494) (List.getD (field_Elem_Least b) 2 0)) (ibin .sub .u64 (ibin .add .u64 (List.getD (field_Elem_Least a) 3 0) 4503599627370494) (List.getD (field_Elem_Least b) 3 0)) (ibin .sub .u64 (ibin .add .u64 (List.getD (field_Elem_Least a) 4 0) 4503599627370494) (List.getD (field_Elem_Least b) 4 0)))
    ) (
      (field_closed (ibin .sub .u64 (ibin .add .u64 (List.getD a 0 0) 4503599627370458) (List.getD b 0 0)) (ibin .sub .u64 (ibin .add .u64 (List.getD a 1 0) 4503599627370494) (List.getD b 1 0)) (ibin .sub .u64 (ibin .add .u64 (List.getD a 2 0) 4503599627370494) (List.getD b 2 0)) (ibin .sub .u64 (ibin .add .u64 (List.getD a 3 0) 4503599627370494) (List.getD b 3 0)) (ibin .sub .u64 (ibin .add .u64 (List.getD a 4 0) 4503599627370494) (List.getD b 4 0)))
    )
  )

def field_Elem_Sub_o (a : List Int) (b : List Int) : Option (List Int) :=
  cond (!(field_Elem_slim a)) (
    some (field_closed (ibin .sub .u64 (ibin .add .u64 (List.getD (field_Elem_Least a) 0 0) 4503599627370458) (List.getD (field_Elem_Least b) 0 0)) (ibin .sub .u64 (ibin .add .u64 (List.getD (field_Elem_Least a) 1 0) 4503599627370494) (List.getD (field_Elem_Least b) 1 0)) (ibin .sub .u64 (ibin .add .u64 (List.getD (field_Elem_Least a) 2 0) 4503599627370494) (List.getD (field_Elem_Least b) 2 0)) (ibin .sub .u64 (ibin .add .u64 (List.getD (field_Elem_Least a) 3 0) 4503599627370494) (List.getD (field_Elem_Least b) 3 0)) (ibin .sub .u64 (ibin .add .u64 (List.getD (field_Elem_Least a) 4 0) 4503599627370494) (List.getD (field_Elem_Least b) 4 0)))
  ) (
    cond (!(field_Elem_slim b)) (
      some (field_closed (ibin .sub .u64 (ibin .add .u64 (List.getD (field_Elem_Least a) 0 0) 4503599627370458) (List.getD (field_Elem_Least b) 0 0)) (ibin .sub .u64 (ibin .add .u64 (List.getD (field_Elem_Least a) 1 0) 4503599627370494) (List.getD (field_Elem_Least b) 1 0)) (ibin .sub .u64 (ibin .add .u64 (List.getD (field_Elem_Least a) 2 0) 4503599627370494) (List.getD (field_Elem_Least b) 2 0)) (ibin .sub .u64 (ibin .add .u64 (List.getD (field_Elem_Least a) 3 0) 4503599627370494) (List.getD (field_Elem_Least b) 3 0)) (ibin .sub .u64 (ibin .add .u64 (List.getD (field_Elem_Least a) 4 0) 4503599627370494) (List.getD (field_Elem_Least b) 4 0)))
    ) (
      some (field_closed (ibin .sub .u64 (ibin .add .u64 (List.getD a 0 0) 4503599627370458) (List.getD b 0 0)) (ibin .sub .u64 (ibin .add .u64 (List.getD a 1 0) 4503599627370494) (List.getD b 1 0)) (ibin .sub .u64 (ibin .add .u64 (List.getD a 2 0) 4503599627370494) (List.getD b 2 0)) (ibin .sub .u64 (ibin .add .u64 (List.getD a 3 0) 4503599627370494) (List.getD b 3 0)) (ibin .sub .u64 (ibin .add .u64 (List.getD a 4 0) 4503599627370494) (List.getD b 4 0)))
    )
  )

theorem field_Elem_Sub_tot (a : List Int) (b : List Int) : field_Elem_Sub_o a b = some (field_Elem_Sub a b) := by
  unfold field_Elem_Sub_o field_Elem_Sub
  repeat' (first | refine cond_tot ?_ ?_ | rfl)

def field_Elem_Neg (a : List Int) : List Int :=
  (field_Elem_Sub [0, 0, 0, 0, 0] a)


def bits_Mul64 (a : Int) (b : Int) : (Int × Int) :=
  let x1 := (ibin .add .u64 (ibin .mul .u64 (ibin .shr .u64 a 32) (ibin .and .u64 b 4294967295)) (ibin .shr .u64 (ibin .mul .u64 (ibin .and .u64 a 4294967295) (ibin .and .u64 b 4294967295)) 32))
  ((ibin .add .u64 (ibin .add .u64 (ibin .mul .u64 (ibin .shr .u64 a 32) (ibin .shr .u64 b 32)) (ibin .shr .u64 x1 32)) (ibin .shr .u64 (ibin .add .u64 (ibin .and .u64 x1 4294967295) (ibin .mul .u64 (ibin .and .u64 a 4294967295) (ibin .shr .u64 b 32))) 32)), (ibin .mul .u64 a b))


def field_double_plus (a : (Int × Int)) (b : Int) (c : Int) : Option ((Int × Int)) :=
  mo (bits_Add64 a.2 (bits_Mul64 b c).2 0) none fun r1 =>
  mo (bits_Add64 a.1 (bits_Mul64 b c).1 r1.2) none fun r2 =>
  some (r2.1, r1.1)


def field_double_over (a : (Int × Int)) : Int :=
  (ibin .or .u64 (ibin .shl .u64 a.1 13) (ibin .shr .u64 a.2 51))


def field_carried (a : (Int × Int)) (b : (Int × Int)) (c : (Int × Int)) (d : (Int × Int)) (e : (Int × Int)) : Option (List Int) :=
  mo (field_double_plus (b.1, b.2) (field_double_over (a.1, a.2)) 1) none fun r1 =>
  mo (field_double_plus (c.1, c.2) (field_double_over (r1.1, r1.2)) 1) none fun r2 =>
  mo (field_double_plus (d.1, d.2) (field_double_over (r2.1, r2.2)) 1) none fun r3 =>
  mo (field_double_plus (e.1, e.2) (field_double_over (r3.1, r3.2)) 1) none fun r4 =>
  mo (field_double_plus (0, (ibin .and .u64 a.2 2251799813685247)) (field_double_over (r4.1, r4.2)) 19) none fun r5 =>
  some (field_closed (ibin .and .u64 r5.2 2251799813685247) (ibin .add .u64 (ibin .and .u64 r1.2 2251799813685247) (field_double_over (r5.1, r5.2))) (ibin .and .u64 r2.2 2251799813685247) (ibin .and .u64 r3.2 2251799813685247) (ibin .and .u64 r4.2 2251799813685247))


def field_Elem_Mul (a : List Int) (b : List Int) : Option (List Int) :=
  cond (!(field_Elem_slim a)) (
    mo (field_double_plus (0, 0) (List.getD (field_Elem_Least a) 0 0) (List.getD (field_Elem_Least b) 0 0)) none fun r1 =>
    mo (field_double_plus (r1.1, r1.2) (ibin .mul .u64 19 (List.getD (field_Elem_Least a) 1 0)) (List.getD (field_Elem_Least b) 4 0)) none fun r2 =>
    let x1 := (ibin .mul .u64 19 (List.getD (field_Elem_Least a) 2 0))
    mo (field_double_plus (r2.1, r2.2) x1 (List.getD (field_Elem_Least b) 3 0)) none fun r3 =>
    let x2 := (ibin .mul .u64 19 (List.getD (field_Elem_Least a) 3 0))
    mo (field_double_plus (r3.1, r3.2) x2 (List.getD (field_Elem_Least b) 2 0)) none fun r4 =>
    let x3 := (ibin .mul .u64 19 (List.getD (field_Elem_Least a) 4 0))
    mo (field_double_plus (r4.1, r4.2) x3 (List.getD (field_Elem_Least b) 1 0)) none fun r5 =>
    mo (field_double_plus (0, 0) (List.getD (field_Elem_Least a) 0 0) (List.getD (field_Elem_Least b) 1 0)) none fun r6 =>
    mo (field_double_plus (r6.1, r6.2) (List.getD (field_Elem_Least a) 1 0) (List.getD (field_Elem_Least b) 0 0)) none fun r7 =>
    mo (field_double_plus (r7.1, r7.2) x1 (List.getD (field_Elem_Least b) 4 0)) none fun r8 =>
    mo (field_double_plus (r8.1, r8.2) x2 (List.getD (field_Elem_Least b) 3 0)) none fun r9 =>
    mo (field_double_plus (r9.1, r9.2) x3 (List.getD (field_Elem_Least b) 2 0)) none fun r10 =>
    mo (field_double_plus (0, 0) (List.getD (field_Elem_Least a) 0 0) (List.getD (field_Elem_Least b) 2 0)) none fun r11 =>
    mo (field_double_plus (r11.1, r11.2) (List.getD (field_Elem_Least a) 1 0) (List.getD (field_Elem_Least b) 1 0)) none fun r12 =>
    mo (field_double_plus (r12.1, r12.2) (List.getD (field_Elem_Least a) 2 0) (List.getD (field_Elem_Least b) 0 0)) none fun r13 =>
    mo (field_double_plus (r13.1, r13.2) x2 (List.getD (field_Elem_Least b) 4 0)) none fun r14 =>
    mo (field_double_plus (r14.1, r14.2) x3 (List.getD (field_Elem_Least b) 3 0)) none fun r15 =>
    mo (field_double_plus (0, 0) (List.getD (field_Elem_Least a) 0 0) (List.getD (field_Elem_Least b) 3 0)) none fun r16 =>
    mo (field_double_plus (r16.1, r16.2) (List.getD (field_Elem_Least a) 1 0) (List.getD (field_Elem_Least b) 2 0)) none fun r17 =>
    mo (field_double_plus (r17.1, r17.2) (List.getD (field_Elem_Least a) 2 0) (List.getD (field_Elem_Least b) 1 0)) none fun r18 =>
    mo (field_double_plus (r18.1, r18.2) (List.getD (field_Elem_Least a) 3 0) (List.getD (field_Elem_Least b) 0 0)) none fun r19 =>
    mo (field_double_plus (r19.1, r19.2) x3 (List.getD (field_Elem_Least b) 4 0)) none fun r20 =>
    mo (field_double_plus (0, 0) (List.getD (field_Elem_Least a) 0 0) (List.getD (field_Elem_Least b) 4 0)) none fun r21 =>
    mo (field_double_plus (r21.1, r21.2) (List.getD (field_Elem_Least a) 1 0) (List.getD (field_Elem_Least b) 3 0)) none fun r22 =>
    mo (field_double_plus (r22.1, r22.2) (List.getD (field_Elem_Least a) 2 0) (List.getD (field_Elem_Least b) 2 0)) none fun r23 =>
    mo (field_double_plus (r23.1, r23.2) (List.getD (field_Elem_Least a) 3 0) (List.getD (field_Elem_Least b) 1 0)) none fun r24 =>
    mo (field_double_plus (r24.1, r24.2) (List.getD (field_Elem_Least a) 4 0) (List.getD (field_Elem_Least b) 0 0)) none fun r25 =>
    mo (field_carried (r5.1, r5.2) (r10.1, r10.2) (r15.1, r15.2) (r20.1, r20.2) (r25.1, r25.2)) none fun r26 =>
    some r26
  ) (
    cond (!(field_Elem_slim b)) (
      mo (field_double_plus (0, 0) (List.getD (field_Elem_Least a) 0 0) (List.getD (field_Elem_Least b) 0 0)) none fun r27 =>
      mo (field_double_plus (r27.1, r27.2) (ibin .mul .u64 19 (List.getD (field_Elem_Least a) 1 0)) (List.getD (field_Elem_Least b) 4 0)) none fun r28 =>
      let x4 := (ibin .mul .u64 19 (List.getD (field_Elem_Least a) 2 0))
      mo (field_double_plus (r28.1, r28.2) x4 (List.getD (field_Elem_Least b) 3 0)) none fun r29 =>
      let x5 := (ibin .mul .u64 19 (List.getD (field_Elem_Least a) 3 0))
      mo (field_double_plus (r29.1, r29.2) x5 (List.getD (field_Elem_Least b) 2 0)) none fun r30 =>
      let x6 := (ibin .mul .u64 19 (List.getD (field_Elem_Least a) 4 0))
      mo (field_double_plus (r30.1, r30.2) x6 (List.getD (field_Elem_Least b) 1 0)) none fun r31 =>
      mo (field_double_plus (0, 0) (List.getD (field_Elem_Least a) 0 0) (List.getD (field_Elem_Least b) 1 0)) none fun r32 =>
      mo (field_double_plus (r32.1, r32.2) (List.getD (field_Elem_Least a) 1 0) (List.getD (field_Elem_Least b) 0 0)) none fun r33 =>
      mo (field_double_plus (r33.1, r33.2) x4 (List.getD (field_Elem_Least b) 4 0)) none fun r34 =>
      mo (field_double_plus (r34.1, r34.2) x5 (List.getD (field_Elem_Least b) 3 0)) none fun r35 =>
      mo (field_double_plus (r35.1, r35.2) x6 (List.getD (field_Elem_Least b) 2 0)) none fun r36 =>
      mo (field_double_plus (0, 0) (List.getD (field_Elem_Least a) 0 0) (List.getD (field_Elem_Least b) 2 0)) none fun r37 =>
      mo (field_double_plus (r37.1, r37.2) (List.getD (field_Elem_Least a) 1 0) (List.getD (field_Elem_Least b) 1 0)) none fun r38 =>
      mo (field_double_plus (r38.1, r38.2) (List.getD (field_Elem_Least a) 2 0) (List.getD (field_Elem_Least b) 0 0)) none fun r39 =>
      mo (field_double_plus (r39.1, r39.2) x5 (List.getD (field_Elem_Least b) 4 0)) none fun r40 =>
      mo (field_double_plus (r40.1, r40.2) x6 (List.getD (field_Elem_Least b) 3 0)) none fun r41 =>
      mo (field_double_plus (0, 0) (List.getD (field_Elem_Least a) 0 0) (List.getD (field_Elem_Least b) 3 0)) none fun r42 =>
      mo (field_double_plus (r42.1, r42.2) (List.getD (field_Elem_Least a) 1 0) (List.getD (field_Elem_Least b) 2 0)) none fun r43 =>
      mo (field_double_plus (r43.1, r43.2) (List.getD (field_Elem_Least a) 2 0) (List.getD (field_Elem_Least b) 1 0)) none fun r44 =>
      mo (field_double_plus (r44.1, r44.2) (List.getD (field_Elem_Least a) 3 0) (List.getD (field_Elem_Least b) 0 0)) none fun r45 =>
      mo (field_double_plus (r45.1, r45.2) x6 (List.getD (field_Elem_Least b) 4 0)) none fun r46 =>
      mo (field_double_plus (0, 0) (List.getD (field_Elem_Least a) 0 0) (List.getD (field_Elem_Least b) 4 0)) none fun r47 =>
      mo (field_double_plus (r47.1, r47.2) (List.getD (field_Elem_Least a) 1 0) (List.getD (field_Elem_Least b) 3 0)) none fun r48 =>
      mo (field_double_plus (r48.1, r48.2) (List.getD (field_Elem_Least a) 2 0) (List.getD (field_Elem_Least b) 2 0)) none fun r49 =>
      mo (field_double_plus (r49.1, r49.2) (List.getD (field_Elem_Least a) 3 0) (List.getD (field_Elem_Least b) 1 0)) none fun r50 =>
      mo (field_double_plus (r50.1, r50.2) (List.getD (field_Elem_Least a) 4 0) (List.getD (field_Elem_Least b) 0 0)) none fun r51 =>
      mo (field_carried (r31.1, r31.2) (r36.1, r36.2) (r41.1, r41.2) (r46.1, r46.2) (r51.1, r51.2)) none fun r52 =>
      some r52
    ) (
      mo (field_double_plus (0, 0) (List.getD a 0 0) (List.getD b 0 0)) none fun r53 =>
      mo (field_double_plus (r53.1, r53.2) (ibin .mul .u64 19 (List.getD a 1 0)) (List.getD b 4 0)) none fun r54 =>
      let x7 := (ibin .mul .u64 19 (List.getD a 2 0))
      mo (field_double_plus (r54.1, r54.2) x7 (List.getD b 3 0)) none fun r55 =>
      let x8 := (ibin .mul .u64 19 (List.getD a 3 0))
      mo (field_double_plus (r55.1, r55.2) x8 (List.getD b 2 0)) none fun r56 =>
      let x9 := (ibin .mul .u64 19 (List.getD a 4 0))
      mo (field_double_plus (r56.1, r56.2) x9 (List.getD b 1 0)) none fun r57 =>
      mo (field_double_plus (0, 0) (List.getD a 0 0) (List.getD b 1 0)) none fun r58 =>
      mo (field_double_plus (r58.1, r58.2) (List.getD a 1 0) (List.getD b 0 0)) none fun r59 =>
      mo (field_double_plus (r59.1, r59.2) x7 (List.getD b 4 0)) none fun r60 =>
      mo (field_double_plus (r60.1, r60.2) x8 (List.getD b 3 0)) none fun r61 =>
      mo (field_double_plus (r61.1, r61.2) x9 (List.getD b 2 0)) none fun r62 =>
      mo (field_double_plus (0, 0) (List.getD a 0 0) (List.getD b 2 0)) none fun r63 =>
      mo (field_double_plus (r63.1, r63.2) (List.getD a 1 0) (List.getD b 1 0)) none fun r64 =>
      mo (field_double_plus (r64.1, r64.2) (List.getD a 2 0) (List.getD b 0 0)) none fun r65 =>
      mo (field_double_plus (r65.1, r65.2) x8 (List.getD b 4 0)) none fun r66 =>
      mo (field_double_plus (r66.1, r66.2) x9 (List.getD b 3 0)) none fun r67 =>
      mo (field_double_plus (0, 0) (List.getD a 0 0) (List.getD b 3 0)) none fun r68 =>
      mo (field_double_plus (r68.1, r68.2) (List.getD a 1 0) (List.getD b 2 0)) none fun r69 =>
      mo (field_double_plus (r69.1, r69.2) (List.getD a 2 0) (List.getD b 1 0)) none fun r70 =>
      mo (field_double_plus (r70.1, r70.2) (List.getD a 3 0) (List.getD b 0 0)) none fun r71 =>
      mo (field_double_plus (r71.1, r71.2) x9 (List.getD b 4 0)) none fun r72 =>
      mo (field_double_plus (0, 0) (List.getD a 0 0) (List.getD b 4 0)) none fun r73 =>
      mo (field_double_plus (r73.1, r73.2) (List.getD a 1 0) (List.getD b 3 0)) none fun r74 =>
      mo (field_double_plus (r74.1, r74.2) (List.getD a 2 0) (List.getD b 2 0)) none fun r75 =>
      mo (field_double_plus (r75.1, r75.2) (List.getD a 3 0) (List.getD b 1 0)) none fun r76 =>
      mo (field_double_plus (r76.1, r76.2) (List.getD a 4 0) (List.getD b 0 0)) none fun r77 =>
      mo (field_carried (r57.1, r57.2) (r62.1, r62.2) (r67.1, r67.2) (r72.1, r72.2) (r77.1, r77.2)) none fun r78 =>
      some r78
    )
  )


def field_Elem_Square (a : List Int) : Option (List Int) :=
  cond (!(field_Elem_slim a)) (
    mo (field_double_plus (0, 0) (List.getD (field_Elem_Least a) 0 0) (List.getD (field_Elem_Least a) 0 0)) none fun r1 =>
    mo (field_double_plus (r1.1, r1.2) (ibin .mul .u64 38 (List.getD (field_Elem_Least a) 1 0)) (List.getD (field_Elem_Least a) 4 0)) none fun r2 =>
    let x1 := (ibin .mul .u64 38 (List.getD (field_Elem_Least a) 2 0))
    mo (field_double_plus (r2.1, r2.2) x1 (List.getD (field_Elem_Least a) 3 0)) none fun r3 =>
    let x2 := (ibin .mul .u64 2 (List.getD (field_Elem_Least a) 0 0))
    mo (field_double_plus (0, 0) x2 (List.getD (field_Elem_Least a) 1 0)) none fun r4 =>
    mo (field_double_plus (r4.1, r4.2) x1 (List.getD (field_Elem_Least a) 4 0)) none fun r5 =>
    let x3 := (ibin .mul .u64 19 (List.getD (field_Elem_Least a) 3 0))
    mo (field_double_plus (r5.1, r5.2) x3 (List.getD (field_Elem_Least a) 3 0)) none fun r6 =>
    mo (field_double_plus (0, 0) x2 (List.getD (field_Elem_Least a) 2 0)) none fun r7 =>
    mo (field_double_plus (r7.1, r7.2) (List.getD (field_Elem_Least a) 1 0) (List.getD (field_Elem_Least a) 1 0)) none fun r8 =>
    mo (field_double_plus (r8.1, r8.2) (ibin .mul .u64 2 x3) (List.getD (field_Elem_Least a) 4 0)) none fun r9 =>
    mo (field_double_plus (0, 0) x2 (List.getD (field_Elem_Least a) 3 0)) none fun r10 =>
    let x4 := (ibin .mul .u64 2 (List.getD (field_Elem_Least a) 1 0))
    mo (field_double_plus (r10.1, r10.2) x4 (List.getD (field_Elem_Least a) 2 0)) none fun r11 =>
    mo (field_double_plus (r11.1, r11.2) (ibin .mul .u64 19 (List.getD (field_Elem_Least a) 4 0)) (List.getD (field_Elem_Least a) 4 0)) none fun r12 =>
    mo (field_double_plus (0, 0) x2 (List.getD (field_Elem_Least a) 4 0)) none fun r13 =>
    mo (field_double_plus (r13.1, r13.2) x4 (List.getD (field_Elem_Least a) 3 0)) none fun r14 =>
    mo (field_double_plus (r14.1, r14.2) (List.getD (field_Elem_Least a) 2 0) (List.getD (field_Elem_Least a) 2 0)) none fun r15 =>
    mo (field_carried (r3.1, r3.2) (r6.1, r6.2) (r9.1, r9.2) (r12.1, r12.2) (r15.1, r15.2)) none fun r16 =>
    some r16
  ) (
    mo (field_double_plus (0, 0) (List.getD a 0 0) (List.getD a 0 0)) none fun r17 =>
    mo (field_double_plus (r17.1, r17.2) (ibin .mul .u64 38 (List.getD a 1 0)) (List.getD a 4 0)) none fun r18 =>
    let x5 := (ibin .mul .u64 38 (List.getD a 2 0))
    mo (field_double_plus (r18.1, r18.2) x5 (List.getD a 3 0)) none fun r19 =>
    let x6 := (ibin .mul .u64 2 (List.getD a 0 0))
    mo (field_double_plus (0, 0) x6 (List.getD a 1 0)) none fun r20 =>
    mo (field_double_plus (r20.1, r20.2) x5 (List.getD a 4 0)) none fun r21 =>
    let x7 := (ibin .mul .u64 19 (List.getD a 3 0))
    mo (field_double_plus (r21.1, r21.2) x7 (List.getD a 3 0)) none fun r22 =>
    mo (field_double_plus (0, 0) x6 (List.getD a 2 0)) none fun r23 =>
    mo (field_double_plus (r23.1, r23.2) (List.getD a 1 0) (List.getD a 1 0)) none fun r24 =>
    mo (field_double_plus (r24.1, r24.2) (ibin .mul .u64 2 x7) (List.getD a 4 0)) none fun r25 =>
    mo (field_double_plus (0, 0) x6 (List.getD a 3 0)) none fun r26 =>
    let x8 := (ibin .mul .u64 2 (List.getD a 1 0))
    mo (field_double_plus (r26.1, r26.2) x8 (List.getD a 2 0)) none fun r27 =>
    mo (field_double_plus (r27.1, r27.2) (ibin .mul .u64 19 (List.getD a 4 0)) (List.getD a 4 0)) none fun r28 =>
    mo (field_double_plus (0, 0) x6 (List.getD a 4 0)) none fun r29 =>
    mo (field_double_plus (r29.1, r29.2) x8 (List.getD a 3 0)) none fun r30 =>
    mo (field_double_plus (r30.1, r30.2) (List.getD a 2 0) (List.getD a 2 0)) none fun r31 =>
    mo (field_carried (r19.1, r19.2) (r22.1, r22.2) (r25.1, r25.2) (r28.1, r28.2) (r31.1, r31.2)) none fun r32 =>
    some r32
  )


def field_load (a : List Int) : List Int :=
  let x1 := (ibin .or .u64 (ibin .or .u64 (ibin .or .u64 (ibin .or .u64 (ibin .or .u64 (ibin .or .u64 (ibin .or .u64 (ibin .or .u64 0 (ibin .shl .u64 (IntKind.wrap .u64 (List.getD a 0 0)) 0)) (ibin .shl .u64 (IntKind.wrap .u64 (List.getD a 1 0)) 8)) (ibin .shl .u64 (IntKind.wrap .u64 (List.getD a 2 0)) 16)) (ibin .shl .u64 (IntKind.wrap .u64 (List.getD a 3 0)) 24)) (ibin .shl .u64 (IntKind.wrap .u64 (List.getD a 4 0)) 32)) (ibin .shl .u64 (IntKind.wrap .u64 (List.getD a 5 0)) 40)) (ibin .shl .u64 (IntKind.wrap .u64 (List.getD a 6 0)) 48)) (ibin .shl .u64 (IntKind.wrap .u64 (List.getD a 7 0)) 56))
  let x2 := (ibin .or .u64 (ibin .or .u64 (ibin .or .u64 (ibin .or .u64 (ibin .or .u64 (ibin .or .u64 (ibin .or .u64 (ibin .or .u64 0 (ibin .shl .u64 (IntKind.wrap .u64 (List.getD a 8 0)) 0)) (ibin .shl .u64 (IntKind.wrap .u64 (List.getD a 9 0)) 8)) (ibin .shl .u64 (IntKind.wrap .u64 (List.getD a 10 0)) 16)) (ibin .shl .u64 (IntKind.wrap .u64 (List.getD a 11 0)) 24)) (ibin .shl .u64 (IntKind.wrap .u64 (List.getD a 12 0)) 32)) (ibin .shl .u64 (IntKind.wrap .u64 (List.getD a 13 0)) 40)) (ibin .shl .u64 (IntKind.wrap .u64 (List.getD a 14 0)) 48)) (ibin .shl .u64 (IntKind.wrap .u64 (List.getD a 15 0)) 56))
  let x3 := (ibin .or .u64 (ibin .or .u64 (ibin .or .u64 (ibin .or .u64 (ibin .or .u64 (ibin .or .u64 (ibin .or .u64 (ibin .or .u64 0 (ibin .shl .u64 (IntKind.wrap .u64 (List.getD a 16 0)) 0)) (ibin .shl .u64 (IntKind.wrap .u64 (List.getD a 17 0)) 8)) (ibin .shl .u64 (IntKind.wrap .u64 (List.getD a 18 0)) 16)) (ibin .shl .u64 (IntKind.wrap .u64 (List.getD a 19 0)) 24)) (ibin .shl .u64 (IntKind.wrap .u64 (List.getD a 20 0)) 32)) (ibin .shl .u64 (IntKind.wrap .u64 (List.getD a 21 0)) 40)) (ibin .shl .u64 (IntKind.wrap .u64 (List.getD a 22 0)) 48)) (ibin .shl .u64 (IntKind.wrap .u64 (List.getD a 23 0)) 56))
  let x4 := (ibin .or .u64 (ibin .or .u64 (ibin .or .u64 (ibin .or .u64 (ibin .or .u64 (ibin .or .u64 (ibin .or .u64 (ibin .or .u64 0 (ibin .shl .u64 (IntKind.wrap .u64 (List.getD a 24 0)) 0)) (ibin .shl .u64 (IntKind.wrap .u64 (List.getD a 25 0)) 8)) (ibin .shl .u64 (IntKind.wrap .u64 (List.getD a 26 0)) 16)) (ibin .shl .u64 (IntKind.wrap .u64 (List.getD a 27 0)) 24)) (ibin .shl .u64 (IntKind.wrap .u64 (List.getD a 28 0)) 32)) (ibin .shl .u64 (IntKind.wrap .u64 (List.getD a 29 0)) 40)) (ibin .shl .u64 (IntKind.wrap .u64 (List.getD a 30 0)) 48)) (ibin .shl .u64 (IntKind.wrap .u64 (List.getD a 31 0)) 56))
  [(ibin .and .u64 x1 2251799813685247), (ibin .and .u64 (ibin .or .u64 (ibin .shr .u64 x1 51) (ibin .shl .u64 x2 13)) 2251799813685247), (ibin .and .u64 (ibin .or .u64 (ibin .shr .u64 x2 38) (ibin .shl .u64 x3 26)) 2251799813685247), (ibin .and .u64 (ibin .or .u64 (ibin .shr .u64 x3 25) (ibin .shl .u64 x4 39)) 2251799813685247), (ibin .and .u64 (ibin .shr .u64 x4 12) 2251799813685247)]


def field_Decode (a : List Int) : (List Int × Int) :=
  cond (icmp .gtr (List.getD a 31 0) 127) (
    ([0, 0, 0, 0, 0], 3)
  ) (
    cond (!(decide ((field_load a) = (field_Elem_Least (field_load a))))) (
      ([0, 0, 0, 0, 0], 3)
    ) (
      ((field_load a), 0)
    )
  )

def field_Decode_o (a : List Int) : Option ((List Int × Int)) :=
  cond (icmp .gtr (List.getD a 31 0) 127) (
    some ([0, 0, 0, 0, 0], 3)
  ) (
    cond (!(decide ((field_load a) = (field_Elem_Least (field_load a))))) (
      some ([0, 0, 0, 0, 0], 3)
    ) (
      some ((field_load a), 0)
    )
  )

theorem field_Decode_tot (a : List Int) : field_Decode_o a = some (field_Decode a) := by
  unfold field_Decode_o field_Decode
  repeat' (first | refine cond_tot ?_ ?_ | rfl)

def field_Reduce (a : List Int) : List Int :=
  (field_Elem_Least (field_load a))


def field_Elem_Encode (a : List Int) : List Int :=
  let x1 := (ibin .or .u64 (List.getD (field_Elem_Least a) 0 0) (ibin .shl .u64 (List.getD (field_Elem_Least a) 1 0) 51))
  let x2 := (ibin .or .u64 (ibin .shr .u64 (List.getD (field_Elem_Least a) 1 0) 13) (ibin .shl .u64 (List.getD (field_Elem_Least a) 2 0) 38))
  let x3 := (ibin .or .u64 (ibin .shr .u64 (List.getD (field_Elem_Least a) 2 0) 26) (ibin .shl .u64 (List.getD (field_Elem_Least a) 3 0) 25))
  let x4 := (ibin .or .u64 (ibin .shr .u64 (List.getD (field_Elem_Least a) 3 0) 39) (ibin .shl .u64 (List.getD (field_Elem_Least a) 4 0) 12))
  [(IntKind.wrap .u8 (ibin .shr .u64 x1 0)), (IntKind.wrap .u8 (ibin .shr .u64 x1 8)), (IntKind.wrap .u8 (ibin .shr .u64 x1 16)), (IntKind.wrap .u8 (ibin .shr .u64 x1 24)), (IntKind.wrap .u8 (ibin .shr .u64 x1 32)), (IntKind.wrap .u8 (ibin .shr .u64 x1 40)), (IntKind.wrap .u8 (ibin .shr .u64 x1 48)), (IntKind.wrap .u8 (ibin .shr .u64 x1 56)), (IntKind.wrap .u8 (ibin .shr .u64 x2 0)), (IntKind.wrap .u8 (ibin .shr .u64 x2 8)), (IntKind.wrap .u8 (ibin .shr .u64 x2 16)), (IntKind.wrap .u8 (ibin .shr .u64 x2 24)), (IntKind.wrap .u8 (ibin .shr .u64 x2 32)), (IntKind.wrap .u8 (ibin .shr .u64 x2 40)), (IntKind.wrap .u8 (ibin .shr .u64 x2 48)), (IntKind.wrap .u8 (ibin .shr .u64 x2 56)), (IntKind.wrap .u8 (ibin .shr .u64 x3 0)), (IntKind.wrap .u8 (ibin .shr .u64 x3 8)), (IntKind.wrap .u8 (ibin .shr .u64 x3 16)), (IntKind.wrap .u8 (ibin .shr .u64 x3 24)), (IntKind.wrap .u8 (ibin .shr .u64 x3 32)), (IntKind.wrap .u8 (ibin .shr .u64 x3 40)), (IntKind.wrap .u8 (ibin .shr .u64 x3 48)), (IntKind.wrap .u8 (ibin .shr .u64 x3 56)), (IntKind.wrap .u8 (ibin .shr .u64 x4 0)), (IntKind.wrap .u8 (ibin .shr .u64 x4 8)), (IntKind.wrap .u8 (ibin .shr .u64 x4 16)), (IntKind.wrap .u8 (ibin .shr .u64 x4 24)), (IntKind.wrap .u8 (ibin .shr .u64 x4 32)), (IntKind.wrap .u8 (ibin .shr .u64 x4 40)), (IntKind.wrap .u8 (ibin .shr .u64 x4 48)), (IntKind.wrap .u8 (ibin .shr .u64 x4 56))]


def field_Elem_squares_l0 (N : Nat) (v : (Unit × Unit × Int × Int) × (List Int × Unit)) : Option (((Unit × Unit × Int × Int) × (List Int × Unit)) ⊕ (((Unit × Unit) × (List Int × Unit)) ⊕ (Unit × Unit))) :=
  cond (icmp .lss v.1.2.2.2 v.1.2.2.1) (
    mo (field_Elem_Square v.2.1) none fun r6 =>
    some (.inl (((), (), v.1.2.2.1, (ibin .add .i64 v.1.2.2.2 1)), (r6, ())))
  ) (
    some (.inr (.inl (((), ()), (v.2.1, ()))))
  )

def field_Elem_squares (N : Nat) (a : List Int) (b : Int) : Option (List Int) :=
  mo (loopF (field_Elem_squares_l0 N) N (((), (), b, 0), (a, ()))) none fun r7 =>
  match r7 with
  | .inl u8 => (
    some u8.2.1
  )
  | .inr _ => (
    none
  )


def field_Elem_ones (N : Nat) (a : List Int) : Option ((List Int × List Int)) :=
  mo (field_Elem_Square a) none fun r1 =>
  mo (field_Elem_squares N r1 2) none fun r2 =>
  mo (field_Elem_Mul r2 a) none fun r3 =>
  mo (field_Elem_Mul r3 r1) none fun r4 =>
  mo (field_Elem_Square r4) none fun r5 =>
  mo (field_Elem_Mul r5 r3) none fun r6 =>
  mo (field_Elem_squares N r6 5) none fun r7 =>
  mo (field_Elem_Mul r7 r6) none fun r8 =>
  mo (field_Elem_squares N r8 10) none fun r9 =>
  mo (field_Elem_Mul r9 r8) none fun r10 =>
  mo (field_Elem_squares N r10 20) none fun r11 =>
  mo (field_Elem_Mul r11 r10) none fun r12 =>
  mo (field_Elem_squares N r12 10) none fun r13 =>
  mo (field_Elem_Mul r13 r8) none fun r14 =>
  mo (field_Elem_squares N r14 50) none fun r15 =>
  mo (field_Elem_Mul r15 r14) none fun r16 =>
  mo (field_Elem_squares N r16 100) none fun r17 =>
  mo (field_Elem_Mul r17 r16) none fun r18 =>
  mo (field_Elem_squares N r18 50) none fun r19 =>
  mo (field_Elem_Mul r19 r14) none fun r20 =>
  some (r20, r4)


def field_Elem_Invert (N : Nat) (a : List Int) : Option (List Int) :=
  mo (field_Elem_ones N a) none fun r1 =>
  mo (field_Elem_squares N r1.1 5) none fun r2 =>
  mo (field_Elem_Mul r2 r1.2) none fun r3 =>
  some r3


def field_Elem_root (N : Nat) (a : List Int) : Option (List Int) :=
  mo (field_Elem_ones N a) none fun r1 =>
  mo (field_Elem_squares N r1.1 2) none fun r2 =>
  mo (field_Elem_Mul r2 a) none fun r3 =>
  some r3


def field_Elem_One (a : List Int) : List Int :=
  [1, 0, 0, 0, 0]


def field_Elem_IsZero (a : List Int) : Bool :=
  (decide ((field_Elem_Least a) = [0, 0, 0, 0, 0]))


def field_Elem_Negative (a : List Int) : Bool :=
  (icmp .eql (ibin .and .u64 (List.getD (field_Elem_Least a) 0 0) 1) 1)


def field_Select (a : Int) (b : List Int) (c : List Int) : List Int :=
  let x1 := (ineg .u64 (IntKind.wrap .u64 (ibin .and .i64 a 1)))
  let x2 := (List.set b 0 (ibin .or .u64 (ibin .and .u64 (List.getD b 0 0) x1) (ibin .andNot .u64 (List.getD c 0 0) x1)))
  let x3 := (List.set x2 1 (ibin .or .u64 (ibin .and .u64 (List.getD x2 1 0) x1) (ibin .andNot .u64 (List.getD c 1 0) x1)))
  let x4 := (List.set x3 2 (ibin .or .u64 (ibin .and .u64 (List.getD x3 2 0) x1) (ibin .andNot .u64 (List.getD c 2 0) x1)))
  let x5 := (List.set x4 3 (ibin .or .u64 (ibin .and .u64 (List.getD x4 3 0) x1) (ibin .andNot .u64 (List.getD c 3 0) x1)))
  (field_Elem_Least (List.set x5 4 (ibin .or .u64 (ibin .and .u64 (List.getD x5 4 0) x1) (ibin .andNot .u64 (List.getD c 4 0) x1))))


def field_Elem_Abs (a : List Int) : List Int :=
  (field_Select (IntKind.wrap .i64 (ibin .and .u64 (List.getD (field_Elem_Least a) 0 0) 1)) (field_Elem_Neg a) a)


def field_Const (a : Int) : Option (List Int) :=
  cond (icmp .lss a 0) (
    some [0, 0, 0, 0, 0]
  ) (
    cond (icmp .geq a 7) (
      some [0, 0, 0, 0, 0]
    ) (
      cond (decide (0 ≤ a ∧ a < ((7 : Nat) : Int))) (
        some (field_tab (Int.toNat a))
      ) (
        none
      )
    )
  )


def field_SqrtRatio (N : Nat) (a : List Int) (b : List Int) : Option ((List Int × Bool)) :=
  mo (field_Elem_Square b) none fun r1 =>
  mo (field_Elem_Mul r1 b) none fun r2 =>
  mo (field_Elem_Square r2) none fun r3 =>
  mo (field_Elem_Mul r3 b) none fun r4 =>
  mo (field_Elem_Mul (field_Elem_Least a) r2) none fun r5 =>
  mo (field_Elem_Mul (field_Elem_Least a) r4) none fun r6 =>
  mo (field_Elem_root N r6) none fun r7 =>
  mo (field_Elem_Mul r5 r7) none fun r8 =>
  mo (field_Elem_Square r8) none fun r9 =>
  mo (field_Elem_Mul b r9) none fun r10 =>
  let x1 := (decide (r10 = (field_Elem_Neg (field_Elem_Least a))))
  cond x1 (
    mo (field_Elem_Mul r8 (field_tab 1)) none fun r11 =>
    cond (decide (r10 = (field_Elem_Least a))) (
      some ((field_Elem_Abs r11), true)
    ) (
      some ((field_Elem_Abs r11), x1)
    )
  ) (
    mo (field_Elem_Mul (field_Elem_Neg (field_Elem_Least a)) (field_tab 1)) none fun r12 =>
    cond (decide (r10 = r12)) (
      mo (field_Elem_Mul r8 (field_tab 1)) none fun r13 =>
      cond (decide (r10 = (field_Elem_Least a))) (
        some ((field_Elem_Abs r13), true)
      ) (
        some ((field_Elem_Abs r13), x1)
      )
    ) (
      cond (decide (r10 = (field_Elem_Least a))) (
        some ((field_Elem_Abs r8), true)
      ) (
        some ((field_Elem_Abs r8), x1)
      )
    )
  )


def curve_place_whole (a : (List Int × List Int × List Int × List Int)) : (List Int × List Int × List Int × List Int) :=
  cond (decide (a.2.2.1 = [0, 0, 0, 0, 0])) (
    ([0, 0, 0, 0, 0], [1, 0, 0, 0, 0], [1, 0, 0, 0, 0], [0, 0, 0, 0, 0])
  ) (
    (a.1, a.2.1, a.2.2.1, a.2.2.2)
  )

def curve_place_whole_o (a : (List Int × List Int × List Int × List Int)) : Option ((List Int × List Int × List Int × List Int)) :=
  cond (decide (a.2.2.1 = [0, 0, 0, 0, 0])) (
    some ([0, 0, 0, 0, 0], [1, 0, 0, 0, 0], [1, 0, 0, 0, 0], [0, 0, 0, 0, 0])
  ) (
    some (a.1, a.2.1, a.2.2.1, a.2.2.2)
  )

theorem curve_place_whole_tot (a : (List Int × List Int × List Int × List Int)) : curve_place_whole_o a = some (curve_place_whole a) := by
  unfold curve_place_whole_o curve_place_whole
  repeat' (first | refine cond_tot ?_ ?_ | rfl)

def curve_at (a : List Int) (b : List Int) : Option ((List Int × List Int × List Int × List Int)) :=
  mo (field_Elem_Mul a b) none fun r1 =>
  some (a, b, [1, 0, 0, 0, 0], r1)


def curve_made (a : List Int) (b : List Int) (c : List Int) (d : List Int) : Option ((List Int × List Int × List Int × List Int)) :=
  mo (field_Elem_Mul a b) none fun r1 =>
  mo (field_Elem_Mul c d) none fun r2 =>
  mo (field_Elem_Mul b c) none fun r3 =>
  mo (field_Elem_Mul a d) none fun r4 =>
  some (r1, r2, r3, r4)


def curve_Point_Add (a : (List Int × List Int × List Int × List Int)) (b : (List Int × List Int × List Int × List Int)) : Option ((List Int × List Int × List Int × List Int)) :=
  mo (field_Elem_Mul (field_Elem_Sub (curve_place_whole (a.1, a.2.1, a.2.2.1, a.2.2.2)).2.1 (curve_place_whole (a.1, a.2.1, a.2.2.1, a.2.2.2)).1) (field_Elem_Sub (curve_place_whole (b.1, b.2.1, b.2.2.1, b.2.2.2)).2.1 (curve_place_whole (b.1, b.2.1, b.2.2.1, b.2.2.2)).1)) none fun r1 =>
  mo (field_Elem_Mul (field_Elem_Add (curve_place_whole (a.1, a.2.1, a.2.2.1, a.2.2.2)).2.1 (curve_place_whole (a.1, a.2.1, a.2.2.1, a.2.2.2)).1) (field_Elem_Add (curve_place_whole (b.1, b.2.1, b.2.2.1, b.2.2.2)).2.1 (curve_place_whole (b.1, b.2.1, b.2.2.1, b.2.2.2)).1)) none fun r2 =>
  mo (field_Elem_Mul (curve_place_whole (a.1, a.2.1, a.2.2.1, a.2.2.2)).2.2.2 [1859910466990425, 932731440258426, 1072319116312658, 1815898335770999, 633789495995903]) none fun r3 =>
  mo (field_Elem_Mul r3 (curve_place_whole (b.1, b.2.1, b.2.2.1, b.2.2.2)).2.2.2) none fun r4 =>
  mo (field_Elem_Mul (curve_place_whole (a.1, a.2.1, a.2.2.1, a.2.2.2)).2.2.1 (curve_place_whole (b.1, b.2.1, b.2.2.1, b.2.2.2)).2.2.1) none fun r5 =>
  mo (curve_made (field_Elem_Sub r2 r1) (field_Elem_Sub (field_Elem_Add r5 r5) r4) (field_Elem_Add (field_Elem_Add r5 r5) r4) (field_Elem_Add r2 r1)) none fun r6 =>
  some (r6.1, r6.2.1, r6.2.2.1, r6.2.2.2)


def curve_Point_Neg (a : (List Int × List Int × List Int × List Int)) : (List Int × List Int × List Int × List Int) :=
  ((field_Elem_Neg (curve_place_whole (a.1, a.2.1, a.2.2.1, a.2.2.2)).1), (curve_place_whole (a.1, a.2.1, a.2.2.1, a.2.2.2)).2.1, (curve_place_whole (a.1, a.2.1, a.2.2.1, a.2.2.2)).2.2.1, (field_Elem_Neg (curve_place_whole (a.1, a.2.1, a.2.2.1, a.2.2.2)).2.2.2))


def curve_Point_Sub (a : (List Int × List Int × List Int × List Int)) (b : (List Int × List Int × List Int × List Int)) : Option ((List Int × List Int × List Int × List Int)) :=
  mo (curve_Point_Add (a.1, a.2.1, a.2.2.1, a.2.2.2) ((curve_Point_Neg (b.1, b.2.1, b.2.2.1, b.2.2.2)).1, (curve_Point_Neg (b.1, b.2.1, b.2.2.1, b.2.2.2)).2.1, (curve_Point_Neg (b.1, b.2.1, b.2.2.1, b.2.2.2)).2.2.1, (curve_Point_Neg (b.1, b.2.1, b.2.2.1, b.2.2.2)).2.2.2)) none fun r1 =>
  some (r1.1, r1.2.1, r1.2.2.1, r1.2.2.2)


def curve_Point_Double (a : (List Int × List Int × List Int × List Int)) : Option ((List Int × List Int × List Int × List Int)) :=
  mo (field_Elem_Square (curve_place_whole (a.1, a.2.1, a.2.2.1, a.2.2.2)).1) none fun r1 =>
  mo (field_Elem_Square (curve_place_whole (a.1, a.2.1, a.2.2.1, a.2.2.2)).2.1) none fun r2 =>
  mo (field_Elem_Square (curve_place_whole (a.1, a.2.1, a.2.2.1, a.2.2.2)).2.2.1) none fun r3 =>
  mo (field_Elem_Square (field_Elem_Add (curve_place_whole (a.1, a.2.1, a.2.2.1, a.2.2.2)).1 (curve_place_whole (a.1, a.2.1, a.2.2.1, a.2.2.2)).2.1)) none fun r4 =>
  mo (curve_made (field_Elem_Sub (field_Elem_Sub r4 r1) r2) (field_Elem_Sub (field_Elem_Sub (field_Elem_Sub r2 r1) r3) r3) (field_Elem_Sub r2 r1) (field_Elem_Sub (field_Elem_Neg r1) r2)) none fun r5 =>
  some (r5.1, r5.2.1, r5.2.2.1, r5.2.2.2)


def curve_Point_Same (a : (List Int × List Int × List Int × List Int)) (b : (List Int × List Int × List Int × List Int)) : Option (Bool) :=
  mo (field_Elem_Mul (curve_place_whole (a.1, a.2.1, a.2.2.1, a.2.2.2)).1 (curve_place_whole (b.1, b.2.1, b.2.2.1, b.2.2.2)).2.2.1) none fun r1 =>
  mo (field_Elem_Mul (curve_place_whole (b.1, b.2.1, b.2.2.1, b.2.2.2)).1 (curve_place_whole (a.1, a.2.1, a.2.2.1, a.2.2.2)).2.2.1) none fun r2 =>
  cond (decide (r1 = r2)) (
    mo (field_Elem_Mul (curve_place_whole (a.1, a.2.1, a.2.2.1, a.2.2.2)).2.1 (curve_place_whole (b.1, b.2.1, b.2.2.1, b.2.2.2)).2.2.1) none fun r3 =>
    mo (field_Elem_Mul (curve_place_whole (b.1, b.2.1, b.2.2.1, b.2.2.2)).2.1 (curve_place_whole (a.1, a.2.1, a.2.2.1, a.2.2.2)).2.2.1) none fun r4 =>
    some (decide (r3 = r4))
  ) (
    some false
  )


def curve_Point_Affine (N : Nat) (a : (List Int × List Int × List Int × List Int)) : Option ((List Int × List Int)) :=
  mo (field_Elem_Invert N (curve_place_whole (a.1, a.2.1, a.2.2.1, a.2.2.2)).2.2.1) none fun r1 =>
  mo (field_Elem_Mul (curve_place_whole (a.1, a.2.1, a.2.2.1, a.2.2.2)).1 r1) none fun r2 =>
  mo (field_Elem_Mul (curve_place_whole (a.1, a.2.1, a.2.2.1, a.2.2.2)).2.1 r1) none fun r3 =>
  some (r2, r3)


def curve_FromAffine (a : List Int) (b : List Int) : Option (((List Int × List Int × List Int × List Int) × Int)) :=
  mo (field_Elem_Square (field_Elem_Least a)) none fun r1 =>
  mo (field_Elem_Square (field_Elem_Least b)) none fun r2 =>
  mo (field_Const 2) none fun r3 =>
  mo (field_Elem_Mul r3 r1) none fun r4 =>
  mo (field_Elem_Mul r4 r2) none fun r5 =>
  cond (!(decide ((field_Elem_Sub r2 r1) = (field_Elem_Add [1, 0, 0, 0, 0] r5)))) (
    some (([0, 0, 0, 0, 0], [0, 0, 0, 0, 0], [0, 0, 0, 0, 0], [0, 0, 0, 0, 0]), 40)
  ) (
    mo (curve_at (field_Elem_Least a) (field_Elem_Least b)) none fun r6 =>
    some ((r6.1, r6.2.1, r6.2.2.1, r6.2.2.2), 0)
  )


def curve_Base  : (List Int × List Int × List Int × List Int) :=
  ([1738742601995546, 1146398526822698, 2070867633025821, 562264141797630, 587772402128613], [1801439850948184, 1351079888211148, 450359962737049, 900719925474099, 1801439850948198], [1, 0, 0, 0, 0], [1841354044333475, 16398895984059, 755974180946558, 900171276175154, 1821297809914039])


def curve_Point_TimesBytes_l0 (N : Nat) (v : (Unit × Unit × Unit × Unit × Int) × ((List Int × List Int × List Int × List Int) × List Int × Unit)) : Option (((Unit × Unit × Unit × Unit × Int) × ((List Int × List Int × List Int × List Int) × List Int × Unit)) ⊕ (((Unit × Unit × Unit × Int) × ((List Int × List Int × List Int × List Int) × List Int × Unit)) ⊕ (Unit × Unit))) :=
  cond (icmp .geq v.1.2.2.2.2 0) (
    let x1 := (decide (0 ≤ v.1.2.2.2.2 ∧ v.1.2.2.2.2 < ((32 : Nat) : Int)))
    cond x1 (
      let x2 := (List.getD v.2.2.1 (Int.toNat v.1.2.2.2.2) 0)
      cond (icmp .neq (ibin .and .u8 (ibin .shr .u8 x2 4) 15) 0) (
        some (.inr (.inl (((), (), (), (ibin .add .i64 (ibin .mul .i64 2 v.1.2.2.2.2) 1)), ((v.2.1.1, v.2.1.2.1, v.2.1.2.2.1, v.2.1.2.2.2), v.2.2.1, ()))))
      ) (
        cond x1 (
          cond (icmp .neq (ibin .and .u8 (ibin .shr .u8 x2 0) 15) 0) (
            some (.inr (.inl (((), (), (), (ibin .add .i64 (ibin .mul .i64 2 v.1.2.2.2.2) 0)), ((v.2.1.1, v.2.1.2.1, v.2.1.2.2.1, v.2.1.2.2.2), v.2.2.1, ()))))
          ) (
            some (.inl (((), (), (), (), (ibin .sub .i64 v.1.2.2.2.2 1)), ((v.2.1.1, v.2.1.2.1, v.2.1.2.2.1, v.2.1.2.2.2), v.2.2.1, ())))
          )
        ) (
          none
        )
      )
    ) (
      none
    )
  ) (
    some (.inr (.inl (((), (), (), (-1)), ((v.2.1.1, v.2.1.2.1, v.2.1.2.2.1, v.2.1.2.2.2), v.2.2.1, ()))))
  )

def curve_Point_TimesBytes_l6 (N : Nat) (v : (Unit × Unit × Unit × Unit × Int) × (List Int × Unit × ((List Int × List Int × List Int × List Int) × (List Int × List Int × List Int × List Int) × (List Int × List Int × List Int × List Int) × (List Int × List Int × List Int × List Int) × (List Int × List Int × List Int × List Int) × (List Int × List Int × List Int × List Int) × (List Int × List Int × List Int × List Int) × (List Int × List Int × List Int × List Int) × (List Int × List Int × List Int × List Int) × (List Int × List Int × List Int × List Int) × (List Int × List Int × List Int × List Int) × (List Int × List Int × List Int × List Int) × (List Int × List Int × List Int × List Int) × (List Int × List Int × List Int × List Int) × (List Int × List Int × List Int × List Int) × (List Int × List Int × List Int × List Int)) × (List Int × List Int × List Int × List Int))) : Option (((Unit × Unit × Unit × Unit × Int) × (List Int × Unit × ((List Int × List Int × List Int × List Int) × (List Int × List Int × List Int × List Int) × (List Int × List Int × List Int × List Int) × (List Int × List Int × List Int × List Int) × (List Int × List Int × List Int × List Int) × (List Int × List Int × List Int × List Int) × (List Int × List Int × List Int × List Int) × (List Int × List Int × List Int × List Int) × (List Int × List Int × List Int × List Int) × (List Int × List Int × List Int × List Int) × (List Int × List Int × List Int × List Int) × (List Int × List Int × List Int × List Int) × (List Int × List Int × List Int × List Int) × (List Int × List Int × List Int × List Int) × (List Int × List Int × List Int × List Int) × (List Int × List Int × List Int × List Int)) × (List Int × List Int × List Int × List Int))) ⊕ (((Unit × Unit) × (Unit × (List Int × List Int × List Int × List Int))) ⊕ (Unit × Unit))) :=
  cond (icmp .geq v.1.2.2.2.2 0) (
    mo (curve_Point_Double (v.2.2.2.2.1, v.2.2.2.2.2.1, v.2.2.2.2.2.2.1, v.2.2.2.2.2.2.2)) none fun r165 =>
    mo (curve_Point_Double (r165.1, r165.2.1, r165.2.2.1, r165.2.2.2)) none fun r166 =>
    mo (curve_Point_Double (r166.1, r166.2.1, r166.2.2.1, r166.2.2.2)) none fun r167 =>
    mo (curve_Point_Double (r167.1, r167.2.1, r167.2.2.1, r167.2.2.2)) none fun r168 =>
    let x1 := (ibin .quo .i64 v.1.2.2.2.2 2)
    cond (decide (0 ≤ x1 ∧ x1 < ((32 : Nat) : Int))) (
      let x2 := (ibin .mul .i64 4 (ibin .rem .i64 v.1.2.2.2.2 2))
      cond (decide (0 ≤ x2)) (
        let x3 := (ibin .and .u8 (ibin .shr .u8 (List.getD v.2.1 (Int.toNat x1) 0) x2) 15)
        cond (decide (0 ≤ x3 ∧ x3 < ((16 : Nat) : Int))) (
          mo (curve_Point_Add (r168.1, r168.2.1, r168.2.2.1, r168.2.2.2) ((List.getD [v.2.2.2.1.1.1, v.2.2.2.1.2.1.1, v.2.2.2.1.2.2.1.1, v.2.2.2.1.2.2.2.1.1, v.2.2.2.1.2.2.2.2.1.1, v.2.2.2.1.2.2.2.2.2.1.1, v.2.2.2.1.2.2.2.2.2.2.1.1, v.2.2.2.1.2.2.2.2.2.2.2.1.1, v.2.2.2.1.2.2.2.2.2.2.2.2.1.1, v.2.2.2.1.2.2.2.2.2.2.2.2.2.1.1, v.2.2.2.1.2.2.2.2.2.2.2.2.2.2.1.1, v.2.2.2.1.2.2.2.2.2.2.2.2.2.2.2.1.1, v.2.2.2.1.2.2.2.2.2.2.2.2.2.2.2.2.1.1, v.2.2.2.1.2.2.2.2.2.2.2.2.2.2.2.2.2.1.1, v.2.2.2.1.2.2.2.2.2.2.2.2.2.2.2.2.2.2.1.1, v.2.2.2.1.2.2.2.2.2.2.2.2.2.2.2.2.2.2.2.1] (Int.toNat x3) []), (List.getD [v.2.2.2.1.1.2.1, v.2.2.2.1.2.1.2.1, v.2.2.2.1.2.2.1.2.1, v.2.2.2.1.2.2.2.1.2.1, v.2.2.2.1.2.2.2.2.1.2.1, v.2.2.2.1.2.2.2.2.2.1.2.1, v.2.2.2.1.2.2.2.2.2.2.1.2.1, v.2.2.2.1.2.2.2.2.2.2.2.1.2.1, v.2.2.2.1.2.2.2.2.2.2.2.2.1.2.1, v.2.2.2.1.2.2.2.2.2.2.2.2.2.1.2.1, v.2.2.2.1.2.2.2.2.2.2.2.2.2.2.1.2.1, v.2.2.2.1.2.2.2.2.2.2.2.2.2.2.2.1.2.1, v.2.2.2.1.2.2.2.2.2.2.2.2.2.2.2.2.1.2.1, v.2.2.2.1.2.2.2.2.2.2.2.2.2.2.2.2.2.1.2.1, v.2.2.2.1.2.2.2.2.2.2.2.2.2.2.2.2.2.2.1.2.1, v.2.2.2.1.2.2.2.2.2.2.2.2.2.2.2.2.2.2.2.2.1] (Int.toNat x3) []), (List.getD [v.2.2.2.1.1.2.2.1, v.2.2.2.1.2.1.2.2.1, v.2.2.2.1.2.2.1.2.2.1, v.2.2.2.1.2.2.2.1.2.2.1, v.2.2.2.1.2.2.2.2.1.2.2.1, v.2.2.2.1.2.2.2.2.2.1.2.2.1, v.2.2.2.1.2.2.2.2.2.2.1.2.2.1, v.2.2.2.1.2.2.2.2.2.2.2.1.2.2.1, v.2.2.2.1.2.2.2.2.2.2.2.2.1.2.2.1, v.2.2.2.1.2.2.2.2.2.2.2.2.2.1.2.2.1, v.2.2.2.1.2.2.2.2.2.2.2.2.2.2.1.2.2.1, v.2.2.2.1.2.2.2.2.2.2.2.2.2.2.2.1.2.2.1, v.2.2.2.1.2.2.2.2.2.2.2.2.2.2.2.2.1.2.2.1, v.2.2.2.1.2.2.2.2.2.2.2.2.2.2.2.2.2.1.2.2.1, v.2.2.2.1.2.2.2.2.2.2.2.2.2.2.2.2.2.2.1.2.2.1, v.2.2.2.1.2.2.2.2.2.2.2.2.2.2.2.2.2.2.2.2.2.1] (Int.toNat x3) []), (List.getD [v.2.2.2.1.1.2.2.2, v.2.2.2.1.2.1.2.2.2, v.2.2.2.1.2.2.1.2.2.2, v.2.2.2.1.2.2.2.1.2.2.2, v.2.2.2.1.2.2.2.2.1.2.2.2, v.2.2.2.1.2.2.2.2.2.1.2.2.2, v.2.2.2.1.2.2.2.2.2.2.1.2.2.2, v.2.2.2.1.2.2.2.2.2.2.2.1.2.2.2, v.2.2.2.1.2.2.2.2.2.2.2.2.1.2.2.2, v.2.2.2.1.2.2.2.2.2.2.2.2.2.1.2.2.2, v.2.2.2.1.2.2.2.2.2.2.2.2.2.2.1.2.2.2, v.2.2.2.1.2.2.2.2.2.2.2.2.2.2.2.1.2.2.2, v.2.2.2.1.2.2.2.2.2.2.2.2.2.2.2.2.1.2.2.2, v.2.2.2.1.2.2.2.2.2.2.2.2.2.2.2.2.2.1.2.2.2, v.2.2.2.1.2.2.2.2.2.2.2.2.2.2.2.2.2.2.1.2.2.2, v.2.2.2.1.2.2.2.2.2.2.2.2.2.2.2.2.2.2.2.2.2.2] (Int.toNat x3) []))) none fun r169 =>
          some (.inl (((), (), (), (), (ibin .sub .i64 v.1.2.2.2.2 1)), (v.2.1, (), ((v.2.2.2.1.1.1, v.2.2.2.1.1.2.1, v.2.2.2.1.1.2.2.1, v.2.2.2.1.1.2.2.2), (v.2.2.2.1.2.1.1, v.2.2.2.1.2.1.2.1, v.2.2.2.1.2.1.2.2.1, v.2.2.2.1.2.1.2.2.2), (v.2.2.2.1.2.2.1.1, v.2.2.2.1.2.2.1.2.1, v.2.2.2.1.2.2.1.2.2.1, v.2.2.2.1.2.2.1.2.2.2), (v.2.2.2.1.2.2.2.1.1, v.2.2.2.1.2.2.2.1.2.1, v.2.2.2.1.2.2.2.1.2.2.1, v.2.2.2.1.2.2.2.1.2.2.2), (v.2.2.2.1.2.2.2.2.1.1, v.2.2.2.1.2.2.2.2.1.2.1, v.2.2.2.1.2.2.2.2.1.2.2.1, v.2.2.2.1.2.2.2.2.1.2.2.2), (v.2.2.2.1.2.2.2.2.2.1.1, v.2.2.2.1.2.2.2.2.2.1.2.1, v.2.2.2.1.2.2.2.2.2.1.2.2.1, v.2.2.2.1.2.2.2.2.2.1.2.2.2), (v.2.2.2.1.2.2.2.2.2.2.1.1, v.2.2.2.1.2.2.2.2.2.2.1.2.1, v.2.2.2.1.2.2.2.2.2.2.1.2.2.1, v.2.2.2.1.2.2.2.2.2.2.1.2.2.2), (v.2.2.2.1.2.2.2.2.2.2.2.1.1, v.2.2.2.1.2.2.2.2.2.2.2.1.2.1, v.2.2.2.1.2.2.2.2.2.2.2.1.2.2.1, v.2.2.2.1.2.2.2.2.2.2.2.1.2.2.2), (v.2.2.2.1.2.2.2.2.2.2.2.2.1.1, v.2.2.2.1.2.2.2.2.2.2.2.2.1.2.1, v.2.2.2.1.2.2.2.2.2.2.2.2.1.2.2.1, v.2.2.2.1.2.2.2.2.2.2.2.2.1.2.2.2), (v.2.2.2.1.2.2.2.2.2.2.2.2.2.1.1, v.2.2.2.1.2.2.2.2.2.2.2.2.2.1.2.1, v.2.2.2.1.2.2.2.2.2.2.2.2.2.1.2.2.1, v.2.2.2.1.2.2.2.2.2.2.2.2.2.1.2.2.2), (v.2.2.2.1.2.2.2.2.2.2.2.2.2.2.1.1, v.2.2.2.1.2.2.2.2.2.2.2.2.2.2.1.2.1, v.2.2.2.1.2.2.2.2.2.2.2.2.2.2.1.2.2.1, v.2.2.2.1.2.2.2.2.2.2.2.2.2.2.1.2.2.2), (v.2.2.2.1.2.2.2.2.2.2.2.2.2.2.2.1.1, v.2.2.2.1.2.2.2.2.2.2.2.2.2.2.2.1.2.1, v.2.2.2.1.2.2.2.2.2.2.2.2.2.2.2.1.2.2.1, v.2.2.2.1.2.2.2.2.2.2.2.2.2.2.2.1.2.2.2), (v.2.2.2.1.2.2.2.2.2.2.2.2.2.2.2.2.1.1, v.2.2.2.1.2.2.2.2.2.2.2.2.2.2.2.2.1.2.1, v.2.2.2.1.2.2.2.2.2.2.2.2.2.2.2.2.1.2.2.1, v.2.2.2.1.2.2.2.2.2.2.2.2.2.2.2.2.1.2.2.2), (v.2.2.2.1.2.2.2.2.2.2.2.2.2.2.2.2.2.1.1, v.2.2.2.1.2.2.2.2.2.2.2.2.2.2.2.2.2.1.2.1, v.2.2.2.1.2.2.2.2.2.2.2.2.2.2.2.2.2.1.2.2.1, v.2.2.2.1.2.2.2.2.2.2.2.2.2.2.2.2.2.1.2.2.2), (v.2.2.2.1.2.2.2.2.2.2.2.2.2.2.2.2.2.2.1.1, v.2.2.2.1.2.2.2.2.2.2.2.2.2.2.2.2.2.2.1.2.1, v.2.2.2.1.2.2.2.2.2.2.2.2.2.2.2.2.2.2.1.2.2.1, v.2.2.2.1.2.2.2.2.2.2.2.2.2.2.2.2.2.2.1.2.2.2), (v.2.2.2.1.2.2.2.2.2.2.2.2.2.2.2.2.2.2.2.1, v.2.2.2.1.2.2.2.2.2.2.2.2.2.2.2.2.2.2.2.2.1, v.2.2.2.1.2.2.2.2.2.2.2.2.2.2.2.2.2.2.2.2.2.1, v.2.2.2.1.2.2.2.2.2.2.2.2.2.2.2.2.2.2.2.2.2.2)), (r169.1, r169.2.1, r169.2.2.1, r169.2.2.2))))
        ) (
          none
        )
      ) (
        none
      )
    ) (
      none
    )
  ) (
    some (.inr (.inl (((), ()), ((), (v.2.2.2.2.1, v.2.2.2.2.2.1, v.2.2.2.2.2.2.1, v.2.2.2.2.2.2.2)))))
  )

def curve_Point_TimesBytes (N : Nat) (a : (List Int × List Int × List Int × List Int)) (b : List Int) : Option ((List Int × List Int × List Int × List Int)) :=
  mo (loopF (curve_Point_TimesBytes_l0 N) N (((), (), (), (), 31), ((a.1, a.2.1, a.2.2.1, a.2.2.2), b, ()))) none fun r12 =>
  match r12 with
  | .inl u13 => (
    mo (curve_Point_Add ([0, 0, 0, 0, 0], [0, 0, 0, 0, 0], [0, 0, 0, 0, 0], [0, 0, 0, 0, 0]) (u13.2.1.1, u13.2.1.2.1, u13.2.1.2.2.1, u13.2.1.2.2.2)) none fun r14 =>
    mo (curve_Point_Add (r14.1, r14.2.1, r14.2.2.1, r14.2.2.2) (u13.2.1.1, u13.2.1.2.1, u13.2.1.2.2.1, u13.2.1.2.2.2)) none fun r15 =>
    mo (curve_Point_Add (r15.1, r15.2.1, r15.2.2.1, r15.2.2.2) (u13.2.1.1, u13.2.1.2.1, u13.2.1.2.2.1, u13.2.1.2.2.2)) none fun r16 =>
    mo (curve_Point_Add (r16.1, r16.2.1, r16.2.2.1, r16.2.2.2) (u13.2.1.1, u13.2.1.2.1, u13.2.1.2.2.1, u13.2.1.2.2.2)) none fun r17 =>
    mo (curve_Point_Add (r17.1, r17.2.1, r17.2.2.1, r17.2.2.2) (u13.2.1.1, u13.2.1.2.1, u13.2.1.2.2.1, u13.2.1.2.2.2)) none fun r18 =>
    mo (curve_Point_Add (r18.1, r18.2.1, r18.2.2.1, r18.2.2.2) (u13.2.1.1, u13.2.1.2.1, u13.2.1.2.2.1, u13.2.1.2.2.2)) none fun r19 =>
    mo (curve_Point_Add (r19.1, r19.2.1, r19.2.2.1, r19.2.2.2) (u13.2.1.1, u13.2.1.2.1, u13.2.1.2.2.1, u13.2.1.2.2.2)) none fun r20 =>
    mo (curve_Point_Add (r20.1, r20.2.1, r20.2.2.1, r20.2.2.2) (u13.2.1.1, u13.2.1.2.1, u13.2.1.2.2.1, u13.2.1.2.2.2)) none fun r21 =>
    mo (curve_Point_Add (r21.1, r21.2.1, r21.2.2.1, r21.2.2.2) (u13.2.1.1, u13.2.1.2.1, u13.2.1.2.2.1, u13.2.1.2.2.2)) none fun r22 =>
    mo (curve_Point_Add (r22.1, r22.2.1, r22.2.2.1, r22.2.2.2) (u13.2.1.1, u13.2.1.2.1, u13.2.1.2.2.1, u13.2.1.2.2.2)) none fun r23 =>
    mo (curve_Point_Add (r23.1, r23.2.1, r23.2.2.1, r23.2.2.2) (u13.2.1.1, u13.2.1.2.1, u13.2.1.2.2.1, u13.2.1.2.2.2)) none fun r24 =>
    mo (curve_Point_Add (r24.1, r24.2.1, r24.2.2.1, r24.2.2.2) (u13.2.1.1, u13.2.1.2.1, u13.2.1.2.2.1, u13.2.1.2.2.2)) none fun r25 =>
    mo (curve_Point_Add (r25.1, r25.2.1, r25.2.2.1, r25.2.2.2) (u13.2.1.1, u13.2.1.2.1, u13.2.1.2.2.1, u13.2.1.2.2.2)) none fun r26 =>
    mo (curve_Point_Add (r26.1, r26.2.1, r26.2.2.1, r26.2.2.2) (u13.2.1.1, u13.2.1.2.1, u13.2.1.2.2.1, u13.2.1.2.2.2)) none fun r27 =>
    mo (curve_Point_Add (r27.1, r27.2.1, r27.2.2.1, r27.2.2.2) (u13.2.1.1, u13.2.1.2.1, u13.2.1.2.2.1, u13.2.1.2.2.2)) none fun r28 =>
    mo (loopF (curve_Point_TimesBytes_l6 N) N (((), (), (), (), u13.1.2.2.2), (u13.2.2.1, (), (([0, 0, 0, 0, 0], [0, 0, 0, 0, 0], [0, 0, 0, 0, 0], [0, 0, 0, 0, 0]), (r14.1, r14.2.1, r14.2.2.1, r14.2.2.2), (r15.1, r15.2.1, r15.2.2.1, r15.2.2.2), (r16.1, r16.2.1, r16.2.2.1, r16.2.2.2), (r17.1, r17.2.1, r17.2.2.1, r17.2.2.2), (r18.1, r18.2.1, r18.2.2.1, r18.2.2.2), (r19.1, r19.2.1, r19.2.2.1, r19.2.2.2), (r20.1, r20.2.1, r20.2.2.1, r20.2.2.2), (r21.1, r21.2.1, r21.2.2.1, r21.2.2.2), (r22.1, r22.2.1, r22.2.2.1, r22.2.2.2), (r23.1, r23.2.1, r23.2.2.1, r23.2.2.2), (r24.1, r24.2.1, r24.2.2.1, r24.2.2.2), (r25.1, r25.2.1, r25.2.2.1, r25.2.2.2), (r26.1, r26.2.1, r26.2.2.1, r26.2.2.2), (r27.1, r27.2.1, r27.2.2.1, r27.2.2.2), (r28.1, r28.2.1, r28.2.2.1, r28.2.2.2)), ([0, 0, 0, 0, 0], [0, 0, 0, 0, 0], [0, 0, 0, 0, 0], [0, 0, 0, 0, 0])))) none fun r170 =>
    match r170 with
    | .inl u171 => (
      some (u171.2.2.1, u171.2.2.2.1, u171.2.2.2.2.1, u171.2.2.2.2.2)
    )
    | .inr _ => (
      none
    )
  )
  | .inr _ => (
    none
  )


def curve_Point_Free (N : Nat) (a : (List Int × List Int × List Int × List Int)) : Option (Bool) :=
  mo (curve_Point_TimesBytes N (a.1, a.2.1, a.2.2.1, a.2.2.2) [237, 211, 245, 92, 26, 99, 18, 88, 214, 156, 247, 162, 222, 249, 222, 20, 0, 0, 0, 0, 0, 0, 0, 0, 0, 0, 0, 0, 0, 0, 0, 16]) none fun r1 =>
  mo (curve_Point_Same (r1.1, r1.2.1, r1.2.2.1, r1.2.2.2) ([0, 0, 0, 0, 0], [0, 0, 0, 0, 0], [0, 0, 0, 0, 0], [0, 0, 0, 0, 0])) none fun r2 =>
  some r2


def curve_Point_Compress (N : Nat) (a : (List Int × List Int × List Int × List Int)) : Option (List Int) :=
  mo (curve_Point_Affine N (a.1, a.2.1, a.2.2.1, a.2.2.2)) none fun r1 =>
  cond (field_Elem_Negative r1.1) (
    some (List.set (field_Elem_Encode r1.2) 31 (ibin .or .u8 (List.getD (field_Elem_Encode r1.2) 31 0) 128))
  ) (
    some (field_Elem_Encode r1.2)
  )


def curve_Torsion (a : Int) : Option ((List Int × List Int × List Int × List Int)) :=
  cond (decide (0 ≤ (ibin .and .i64 a 7) ∧ (ibin .and .i64 a 7) < ((8 : Nat) : Int))) (
    some ((List.getD [[0, 0, 0, 0, 0], [358744748052810, 1691584618240980, 977650209285361, 1429865912637724, 560044844278676], [1718705420411056, 234908883556509, 2233514472574048, 2117202627021982, 765476049583133], [358744748052810, 1691584618240980, 977650209285361, 1429865912637724, 560044844278676], [0, 0, 0, 0, 0], [1893055065632419, 560215195444267, 1274149604399886, 821933901047523, 1691754969406571], [533094393274173, 2016890930128738, 18285341111199, 134597186663265, 1486323764102114], [1893055065632419, 560215195444267, 1274149604399886, 821933901047523, 1691754969406571]] (Int.toNat (ibin .and .i64 a 7)) []), (List.getD [[0, 0, 0, 0, 0], [2166873539340326, 1778179147085316, 1886209374839743, 1223329526802818, 105300633354275], [0, 0, 0, 0, 0], [84926274344903, 473620666599931, 365590438845504, 1028470286882429, 2146499180330972], [2251799813685228, 2251799813685247, 2251799813685247, 2251799813685247, 2251799813685247], [84926274344903, 473620666599931, 365590438845504, 1028470286882429, 2146499180330972], [0, 0, 0, 0, 0], [2166873539340326, 1778179147085316, 1886209374839743, 1223329526802818, 105300633354275]] (Int.toNat (ibin .and .i64 a 7)) []), (List.getD [[0, 0, 0, 0, 0], [1, 0, 0, 0, 0], [1, 0, 0, 0, 0], [1, 0, 0, 0, 0], [1, 0, 0, 0, 0], [1, 0, 0, 0, 0], [1, 0, 0, 0, 0], [1, 0, 0, 0, 0]] (Int.toNat (ibin .and .i64 a 7)) []), (List.getD [[0, 0, 0, 0, 0], [803472979097708, 393902981724766, 1158077081819914, 574391322974006, 336294660666841], [0, 0, 0, 0, 0], [1448326834587521, 1857896831960481, 1093722731865333, 1677408490711241, 1915505153018406], [0, 0, 0, 0, 0], [803472979097708, 393902981724766, 1158077081819914, 574391322974006, 336294660666841], [0, 0, 0, 0, 0], [1448326834587521, 1857896831960481, 1093722731865333, 1677408490711241, 1915505153018406]] (Int.toNat (ibin .and .i64 a 7)) []))
  ) (
    none
  )


def scalar_minus (a : List Int) (b : List Int) : Option ((List Int × Int)) :=
  mo (bits_Sub64 (List.getD a 0 0) (List.getD b 0 0) 0) none fun r1 =>
  mo (bits_Sub64 (List.getD a 1 0) (List.getD b 1 0) r1.2) none fun r2 =>
  mo (bits_Sub64 (List.getD a 2 0) (List.getD b 2 0) r2.2) none fun r3 =>
  mo (bits_Sub64 (List.getD a 3 0) (List.getD b 3 0) r3.2) none fun r4 =>
  some ([r1.1, r2.1, r3.1, r4.1], r4.2)


def scalar_plus (a : List Int) (b : List Int) : Option ((List Int × Int)) :=
  mo (bits_Add64 (List.getD a 0 0) (List.getD b 0 0) 0) none fun r1 =>
  mo (bits_Add64 (List.getD a 1 0) (List.getD b 1 0) r1.2) none fun r2 =>
  mo (bits_Add64 (List.getD a 2 0) (List.getD b 2 0) r2.2) none fun r3 =>
  mo (bits_Add64 (List.getD a 3 0) (List.getD b 3 0) r3.2) none fun r4 =>
  some ([r1.1, r2.1, r3.1, r4.1], r4.2)


def scalar_choose (a : Int) (b : List Int) (c : List Int) : List Int :=
  let x1 := (List.set b 0 (ibin .or .u64 (ibin .and .u64 (List.getD b 0 0) a) (ibin .andNot .u64 (List.getD c 0 0) a)))
  let x2 := (List.set x1 1 (ibin .or .u64 (ibin .and .u64 (List.getD x1 1 0) a) (ibin .andNot .u64 (List.getD c 1 0) a)))
  let x3 := (List.set x2 2 (ibin .or .u64 (ibin .and .u64 (List.getD x2 2 0) a) (ibin .andNot .u64 (List.getD c 2 0) a)))
  (List.set x3 3 (ibin .or .u64 (ibin .and .u64 (List.getD x3 3 0) a) (ibin .andNot .u64 (List.getD c 3 0) a)))


def scalar_lower (a : List Int) : Option (List Int) :=
  mo (scalar_minus a [6346243789798364141, 1503914060200516822, 0, 1152921504606846976]) none fun r1 =>
  some (scalar_choose (ineg .u64 r1.2) a r1.1)


def scalar_Scalar_Least (a : List Int) : Option (List Int) :=
  cond (icmp .lss (List.getD a 3 0) 1152921504606846976) (
    some a
  ) (
    mo (bits_Add64 (bits_Mul64 (ibin .shr .u64 (List.getD a 3 0) 60) 1503914060200516822).2 (bits_Mul64 (ibin .shr .u64 (List.getD a 3 0) 60) 6346243789798364141).1 0) none fun r1 =>
    mo (scalar_minus (List.set a 3 (ibin .and .u64 (List.getD a 3 0) 1152921504606846975)) [(bits_Mul64 (ibin .shr .u64 (List.getD a 3 0) 60) 6346243789798364141).2, r1.1, (ibin .add .u64 (bits_Mul64 (ibin .shr .u64 (List.getD a 3 0) 60) 1503914060200516822).1 r1.2), 0]) none fun r2 =>
    mo (scalar_plus r2.1 [6346243789798364141, 1503914060200516822, 0, 1152921504606846976]) none fun r3 =>
    mo (scalar_lower (scalar_choose (ineg .u64 r2.2) r3.1 r2.1)) none fun r4 =>
    some r4
  )


def scalar_Scalar_Encode_l0 (N : Nat) (v : (Unit × Unit × Unit × Int) × (List Int × Unit × List Int)) : Option (((Unit × Unit × Unit × Int) × (List Int × Unit × List Int)) ⊕ (((Unit × Unit) × (Unit × List Int)) ⊕ (Unit × Unit))) :=
  cond (icmp .lss v.1.2.2.2 32) (
    let x1 := (ibin .quo .i64 v.1.2.2.2 8)
    cond (decide (0 ≤ x1 ∧ x1 < ((4 : Nat) : Int))) (
      let x2 := (ibin .mul .i64 8 (ibin .rem .i64 v.1.2.2.2 8))
      cond (decide (0 ≤ x2)) (
        cond (decide (0 ≤ v.1.2.2.2 ∧ v.1.2.2.2 < ((32 : Nat) : Int))) (
          some (.inl (((), (), (), (ibin .add .i64 v.1.2.2.2 1)), (v.2.1, (), (List.set v.2.2.2 (Int.toNat v.1.2.2.2) (IntKind.wrap .u8 (ibin .shr .u64 (List.getD v.2.1 (Int.toNat x1) 0) x2))))))
        ) (
          none
        )
      ) (
        none
      )
    ) (
      none
    )
  ) (
    some (.inr (.inl (((), ()), ((), v.2.2.2))))
  )

def scalar_Scalar_Encode (N : Nat) (a : List Int) : Option (List Int) :=
  mo (scalar_Scalar_Least a) none fun r1 =>
  mo (loopF (scalar_Scalar_Encode_l0 N) N (((), (), (), 0), (r1, (), [0, 0, 0, 0, 0, 0, 0, 0, 0, 0, 0, 0, 0, 0, 0, 0, 0, 0, 0, 0, 0, 0, 0, 0, 0, 0, 0, 0, 0, 0, 0, 0]))) none fun r6 =>
  match r6 with
  | .inl u7 => (
    some u7.2.2
  )
  | .inr _ => (
    none
  )


def curve_Point_Times (N : Nat) (a : (List Int × List Int × List Int × List Int)) (b : List Int) : Option ((List Int × List Int × List Int × List Int)) :=
  mo (scalar_Scalar_Encode N b) none fun r1 =>
  mo (curve_Point_TimesBytes N (a.1, a.2.1, a.2.2.1, a.2.2.2) r1) none fun r2 =>
  some (r2.1, r2.2.1, r2.2.2.1, r2.2.2.2)


def scalar_into (a : Int) (b : Int) (c : Int) (d : Int) : Option ((Int × Int)) :=
  mo (bits_Add64 (bits_Mul64 a b).2 c 0) none fun r1 =>
  mo (bits_Add64 r1.1 d 0) none fun r2 =>
  some (r2.1, (ibin .add .u64 (ibin .add .u64 (bits_Mul64 a b).1 r1.2) r2.2))


def scalar_product_l0 (N : Nat) (v : (Unit × Unit × Unit × Unit × Int) × (Unit × List Int × List Int × Unit × List Int)) : Option (((Unit × Unit × Unit × Unit × Int) × (Unit × List Int × List Int × Unit × List Int)) ⊕ (((Unit × Unit) × (Unit × Unit × List Int)) ⊕ (Unit × Unit))) :=
  cond (icmp .lss v.1.2.2.2.2 4) (
    let x1 := (decide (0 ≤ v.1.2.2.2.2 ∧ v.1.2.2.2.2 < ((4 : Nat) : Int)))
    cond x1 (
      let x2 := (List.getD v.2.2.2.1 (Int.toNat v.1.2.2.2.2) 0)
      mo (scalar_into (List.getD v.2.2.1 0 0) x2 (List.getD v.2.2.2.2.2 0 0) 0) none fun r7 =>
      cond x1 (
        let x3 := (List.set v.2.2.2.2.2 0 r7.1)
        mo (scalar_into (List.getD v.2.2.1 1 0) x2 (List.getD x3 1 0) r7.2) none fun r8 =>
        cond x1 (
          let x4 := (List.set x3 1 r8.1)
          mo (scalar_into (List.getD v.2.2.1 2 0) x2 (List.getD x4 2 0) r8.2) none fun r9 =>
          cond x1 (
            let x5 := (List.set x4 2 r9.1)
            mo (scalar_into (List.getD v.2.2.1 3 0) x2 (List.getD x5 3 0) r9.2) none fun r10 =>
            let x6 := (List.set x5 3 r10.1)
            mo (bits_Add64 (List.getD x6 4 0) r10.2 0) none fun r11 =>
            let x7 := (List.set x6 4 r11.1)
            let x8 := (List.getD x7 0 0)
            let x9 := (ibin .mul .u64 x8 15183074304973897243)
            mo (scalar_into x9 6346243789798364141 x8 0) none fun r12 =>
            mo (scalar_into x9 1503914060200516822 (List.getD x7 1 0) r12.2) none fun r13 =>
            let x10 := (List.set x7 0 r13.1)
            mo (scalar_into x9 0 (List.getD x10 2 0) r13.2) none fun r14 =>
            let x11 := (List.set x10 1 r14.1)
            mo (scalar_into x9 1152921504606846976 (List.getD x11 3 0) r14.2) none fun r15 =>
            let x12 := (List.set x11 2 r15.1)
            mo (bits_Add64 (List.getD x12 4 0) r15.2 0) none fun r16 =>
            some (.inl (((), (), (), (), (ibin .add .i64 v.1.2.2.2.2 1)), ((), v.2.2.1, v.2.2.2.1, (), (List.set (List.set x12 3 r16.1) 4 (ibin .add .u64 r11.2 r16.2)))))
          ) (
            none
          )
        ) (
          none
        )
      ) (
        none
      )
    ) (
      none
    )
  ) (
    some (.inr (.inl (((), ()), ((), (), v.2.2.2.2.2))))
  )

def scalar_product (N : Nat) (a : List Int) (b : List Int) : Option (List Int) :=
  mo (loopF (scalar_product_l0 N) N (((), (), (), (), 0), ((), a, b, (), [0, 0, 0, 0, 0]))) none fun r17 =>
  match r17 with
  | .inl u18 => (
    mo (scalar_lower [(List.getD u18.2.2.2 0 0), (List.getD u18.2.2.2 1 0), (List.getD u18.2.2.2 2 0), (List.getD u18.2.2.2 3 0)]) none fun r19 =>
    some r19
  )
  | .inr _ => (
    none
  )


def scalar_Scalar_Add (a : List Int) (b : List Int) : Option (List Int) :=
  mo (scalar_Scalar_Least a) none fun r1 =>
  mo (scalar_Scalar_Least b) none fun r2 =>
  mo (scalar_plus r1 r2) none fun r3 =>
  mo (scalar_lower r3.1) none fun r4 =>
  some r4


def scalar_Scalar_Sub (a : List Int) (b : List Int) : Option (List Int) :=
  mo (scalar_Scalar_Least a) none fun r1 =>
  mo (scalar_Scalar_Least b) none fun r2 =>
  mo (scalar_minus r1 r2) none fun r3 =>
  mo (scalar_plus r3.1 [6346243789798364141, 1503914060200516822, 0, 1152921504606846976]) none fun r4 =>
  some (scalar_choose (ineg .u64 r3.2) r4.1 r3.1)


def scalar_Scalar_Neg (a : List Int) : Option (List Int) :=
  mo (scalar_Scalar_Sub [0, 0, 0, 0] a) none fun r1 =>
  some r1


def scalar_Scalar_Mul (N : Nat) (a : List Int) (b : List Int) : Option (List Int) :=
  mo (scalar_Scalar_Least a) none fun r1 =>
  mo (scalar_Scalar_Least b) none fun r2 =>
  mo (scalar_product N r1 r2) none fun r3 =>
  mo (scalar_product N r3 [11819153939886771969, 14991950615390032711, 14910419812499177061, 259310039853996605]) none fun r4 =>
  some r4


def scalar_Int (a : Int) : List Int :=
  [a, 0, 0, 0]


def scalar_Scalar_Same (a : List Int) (b : List Int) : Option (Bool) :=
  mo (scalar_Scalar_Least a) none fun r1 =>
  mo (scalar_Scalar_Least b) none fun r2 =>
  some (decide (r1 = r2))


def scalar_Scalar_IsZero (a : List Int) : Option (Bool) :=
  mo (scalar_Scalar_Least a) none fun r1 =>
  some (decide (r1 = [0, 0, 0, 0]))


def group_pick (a : Bool) : Int :=
  cond a (
    1
  ) (
    0
  )

def group_pick_o (a : Bool) : Option (Int) :=
  cond a (
    some 1
  ) (
    some 0
  )

theorem group_pick_tot (a : Bool) : group_pick_o a = some (group_pick a) := by
  unfold group_pick_o group_pick
  repeat' (first | refine cond_tot ?_ ?_ | rfl)

def group_Base  : (List Int × List Int × List Int × List Int) :=
  (curve_Base.1, curve_Base.2.1, curve_Base.2.2.1, curve_Base.2.2.2)


def group_Point_Encode (N : Nat) (a : (List Int × List Int × List Int × List Int)) : Option (List Int) :=
  mo (curve_Point_Affine N (a.1, a.2.1, a.2.2.1, a.2.2.2)) none fun r1 =>
  mo (field_Elem_Mul r1.1 r1.2) none fun r2 =>
  mo (field_Elem_Mul (field_Elem_Add (field_Elem_One r1.1) r1.2) (field_Elem_Sub (field_Elem_One r1.1) r1.2)) none fun r3 =>
  mo (field_Elem_Square r2) none fun r4 =>
  mo (field_Elem_Mul r3 r4) none fun r5 =>
  mo (field_SqrtRatio N (field_Elem_One r1.1) r5) none fun r6 =>
  mo (field_Elem_Mul r6.1 r3) none fun r7 =>
  mo (field_Elem_Mul r6.1 r2) none fun r8 =>
  mo (field_Elem_Mul r7 r8) none fun r9 =>
  mo (field_Elem_Mul r9 r2) none fun r10 =>
  mo (field_Elem_Mul r2 r10) none fun r11 =>
  mo (field_Const 1) none fun r12 =>
  mo (field_Elem_Mul r1.1 r12) none fun r13 =>
  mo (field_Elem_Mul r1.2 r12) none fun r14 =>
  mo (field_Const 4) none fun r15 =>
  mo (field_Elem_Mul r7 r15) none fun r16 =>
  mo (field_Elem_Mul (field_Select (group_pick (field_Elem_Negative r11)) r14 r1.1) r10) none fun r17 =>
  let x1 := (field_Select (group_pick (field_Elem_Negative r11)) r13 r1.2)
  mo (field_Elem_Mul (field_Select (group_pick (field_Elem_Negative r11)) r16 r8) (field_Elem_Sub (field_Elem_One r1.1) (field_Select (group_pick (field_Elem_Negative r17)) (field_Elem_Neg x1) x1))) none fun r18 =>
  some (field_Elem_Encode (field_Elem_Abs r18))


def group_MapHalf (N : Nat) (a : List Int) : Option ((List Int × List Int × List Int × List Int)) :=
  mo (field_Const 1) none fun r1 =>
  mo (field_Const 2) none fun r2 =>
  mo (field_Elem_Square a) none fun r3 =>
  mo (field_Elem_Mul r1 r3) none fun r4 =>
  mo (field_Const 5) none fun r5 =>
  mo (field_Elem_Mul (field_Elem_Add r4 (field_Elem_One a)) r5) none fun r6 =>
  mo (field_Elem_Mul r4 r2) none fun r7 =>
  mo (field_Elem_Mul (field_Elem_Sub (field_Elem_Neg (field_Elem_One a)) r7) (field_Elem_Add r4 r2)) none fun r8 =>
  mo (field_SqrtRatio N r6 r8) none fun r9 =>
  mo (field_Elem_Mul r9.1 a) none fun r10 =>
  mo (field_Elem_Mul (field_Select (group_pick r9.2) (field_Elem_Neg (field_Elem_One a)) r4) (field_Elem_Sub r4 (field_Elem_One a))) none fun r11 =>
  mo (field_Const 6) none fun r12 =>
  mo (field_Elem_Mul r11 r12) none fun r13 =>
  let x1 := (field_Select (group_pick r9.2) r9.1 (field_Elem_Neg (field_Elem_Abs r10)))
  mo (field_Elem_Square x1) none fun r14 =>
  mo (field_Elem_Mul (field_Elem_Add x1 x1) r8) none fun r15 =>
  mo (field_Const 3) none fun r16 =>
  mo (field_Elem_Mul (field_Elem_Sub r13 r8) r16) none fun r17 =>
  mo (field_Elem_Invert N r17) none fun r18 =>
  mo (field_Elem_Mul r15 r18) none fun r19 =>
  mo (field_Elem_Invert N (field_Elem_Add (field_Elem_One a) r14)) none fun r20 =>
  mo (field_Elem_Mul (field_Elem_Sub (field_Elem_One a) r14) r20) none fun r21 =>
  mo (curve_FromAffine r19 r21) none fun r22 =>
  some (r22.1.1, r22.1.2.1, r22.1.2.2.1, r22.1.2.2.2)


def group_Point_Add (a : (List Int × List Int × List Int × List Int)) (b : (List Int × List Int × List Int × List Int)) : Option ((List Int × List Int × List Int × List Int)) :=
  mo (curve_Point_Add (a.1, a.2.1, a.2.2.1, a.2.2.2) (b.1, b.2.1, b.2.2.1, b.2.2.2)) none fun r1 =>
  some (r1.1, r1.2.1, r1.2.2.1, r1.2.2.2)


def group_Map (N : Nat) (a : List Int) : Option ((List Int × List Int × List Int × List Int)) :=
  mo (group_MapHalf N (field_Reduce (List.take 32 (List.drop 0 a)))) none fun r1 =>
  mo (group_MapHalf N (field_Reduce (List.take 32 (List.drop 32 a)))) none fun r2 =>
  mo (group_Point_Add (r1.1, r1.2.1, r1.2.2.1, r1.2.2.2) (r2.1, r2.2.1, r2.2.2.1, r2.2.2.2)) none fun r3 =>
  some (r3.1, r3.2.1, r3.2.2.1, r3.2.2.2)


def group_Point_Neg (a : (List Int × List Int × List Int × List Int)) : (List Int × List Int × List Int × List Int) :=
  ((curve_Point_Neg (a.1, a.2.1, a.2.2.1, a.2.2.2)).1, (curve_Point_Neg (a.1, a.2.1, a.2.2.1, a.2.2.2)).2.1, (curve_Point_Neg (a.1, a.2.1, a.2.2.1, a.2.2.2)).2.2.1, (curve_Point_Neg (a.1, a.2.1, a.2.2.1, a.2.2.2)).2.2.2)


def group_Point_Double (a : (List Int × List Int × List Int × List Int)) : Option ((List Int × List Int × List Int × List Int)) :=
  mo (curve_Point_Double (a.1, a.2.1, a.2.2.1, a.2.2.2)) none fun r1 =>
  some (r1.1, r1.2.1, r1.2.2.1, r1.2.2.2)


def group_low (a : List Int) : Bool :=
  (icmp .eql (ibin .or .u64 (List.getD a 2 0) (List.getD a 3 0)) 0)


def group_Point_Times (N : Nat) (a : (List Int × List Int × List Int × List Int)) (b : List Int) : Option ((List Int × List Int × List Int × List Int)) :=
  mo (scalar_Scalar_Least b) none fun r1 =>
  mo (scalar_Scalar_Neg r1) none fun r2 =>
  cond (!(group_low r1)) (
    cond (group_low r2) (
      mo (curve_Point_Times N (a.1, a.2.1, a.2.2.1, a.2.2.2) r2) none fun r3 =>
      some ((curve_Point_Neg (r3.1, r3.2.1, r3.2.2.1, r3.2.2.2)).1, (curve_Point_Neg (r3.1, r3.2.1, r3.2.2.1, r3.2.2.2)).2.1, (curve_Point_Neg (r3.1, r3.2.1, r3.2.2.1, r3.2.2.2)).2.2.1, (curve_Point_Neg (r3.1, r3.2.1, r3.2.2.1, r3.2.2.2)).2.2.2)
    ) (
      mo (curve_Point_Times N (a.1, a.2.1, a.2.2.1, a.2.2.2) r1) none fun r4 =>
      some (r4.1, r4.2.1, r4.2.2.1, r4.2.2.2)
    )
  ) (
    mo (curve_Point_Times N (a.1, a.2.1, a.2.2.1, a.2.2.2) r1) none fun r5 =>
    some (r5.1, r5.2.1, r5.2.2.1, r5.2.2.2)
  )


def group_Point_Same (a : (List Int × List Int × List Int × List Int)) (b : (List Int × List Int × List Int × List Int)) : Option (Bool) :=
  mo (curve_Point_Sub (a.1, a.2.1, a.2.2.1, a.2.2.2) (b.1, b.2.1, b.2.2.1, b.2.2.2)) none fun r1 =>
  mo (curve_Point_Double (r1.1, r1.2.1, r1.2.2.1, r1.2.2.2)) none fun r2 =>
  mo (curve_Point_Double (r2.1, r2.2.1, r2.2.2.1, r2.2.2.2)) none fun r3 =>
  mo (curve_Point_Same (r3.1, r3.2.1, r3.2.2.1, r3.2.2.2) ([0, 0, 0, 0, 0], [0, 0, 0, 0, 0], [0, 0, 0, 0, 0], [0, 0, 0, 0, 0])) none fun r4 =>
  some r4


def group_Sum_4 (a : (((List Int × List Int × List Int × List Int) × (List Int × List Int × List Int × List Int) × (List Int × List Int × List Int × List Int) × (List Int × List Int × List Int × List Int)) × Unit)) : Option ((List Int × List Int × List Int × List Int)) :=
  mo (group_Point_Add ([0, 0, 0, 0, 0], [0, 0, 0, 0, 0], [0, 0, 0, 0, 0], [0, 0, 0, 0, 0]) (a.1.1.1, a.1.1.2.1, a.1.1.2.2.1, a.1.1.2.2.2)) none fun r1 =>
  mo (group_Point_Add (r1.1, r1.2.1, r1.2.2.1, r1.2.2.2) (a.1.2.1.1, a.1.2.1.2.1, a.1.2.1.2.2.1, a.1.2.1.2.2.2)) none fun r2 =>
  mo (group_Point_Add (r2.1, r2.2.1, r2.2.2.1, r2.2.2.2) (a.1.2.2.1.1, a.1.2.2.1.2.1, a.1.2.2.1.2.2.1, a.1.2.2.1.2.2.2)) none fun r3 =>
  mo (group_Point_Add (r3.1, r3.2.1, r3.2.2.1, r3.2.2.2) (a.1.2.2.2.1, a.1.2.2.2.2.1, a.1.2.2.2.2.2.1, a.1.2.2.2.2.2.2)) none fun r4 =>
  some (r4.1, r4.2.1, r4.2.2.1, r4.2.2.2)


def group_Sum_nil (a : Unit) : (List Int × List Int × List Int × List Int) :=
  ([0, 0, 0, 0, 0], [0, 0, 0, 0, 0], [0, 0, 0, 0, 0], [0, 0, 0, 0, 0])


def veillaw05_alive (N : Nat)  : Option (Bool) :=
  mo (group_Point_Encode N (group_Base.1, group_Base.2.1, group_Base.2.2.1, group_Base.2.2.2)) none fun r1 =>
  cond (decide (r1 = [226, 242, 174, 10, 106, 188, 78, 113, 168, 132, 169, 97, 197, 0, 81, 95, 88, 227, 11, 106, 165, 130, 221, 141, 182, 166, 89, 69, 224, 141, 45, 118])) (
    mo (group_Point_Same (group_Base.1, group_Base.2.1, group_Base.2.2.1, group_Base.2.2.2) ([0, 0, 0, 0, 0], [0, 0, 0, 0, 0], [0, 0, 0, 0, 0], [0, 0, 0, 0, 0])) none fun r2 =>
    some (!r2)
  ) (
    some false
  )


def veillaw05_GroupLaws (N : Nat) (a : List Int) (b : List Int) (c : List Int) (d : List Int) (e : List Int) : Option (Bool) :=
  mo (veillaw05_alive N) none fun r1 =>
  cond (!r1) (
    some false
  ) (
    mo (group_Map N a) none fun r2 =>
    mo (group_Map N b) none fun r3 =>
    mo (group_Map N c) none fun r4 =>
    let x1 := (group_Point_Add (r2.1, r2.2.1, r2.2.2.1, r2.2.2.2) (r3.1, r3.2.1, r3.2.2.1, r3.2.2.2))
    mo x1 none fun r5 =>
    mo (group_Point_Add (r3.1, r3.2.1, r3.2.2.1, r3.2.2.2) (r2.1, r2.2.1, r2.2.2.1, r2.2.2.2)) none fun r6 =>
    mo (group_Point_Same (r5.1, r5.2.1, r5.2.2.1, r5.2.2.2) (r6.1, r6.2.1, r6.2.2.1, r6.2.2.2)) none fun r7 =>
    cond (!r7) (
      some false
    ) (
      mo x1 none fun r8 =>
      mo (group_Point_Add (r8.1, r8.2.1, r8.2.2.1, r8.2.2.2) (r4.1, r4.2.1, r4.2.2.1, r4.2.2.2)) none fun r9 =>
      mo (group_Point_Add (r3.1, r3.2.1, r3.2.2.1, r3.2.2.2) (r4.1, r4.2.1, r4.2.2.1, r4.2.2.2)) none fun r10 =>
      mo (group_Point_Add (r2.1, r2.2.1, r2.2.2.1, r2.2.2.2) (r10.1, r10.2.1, r10.2.2.1, r10.2.2.2)) none fun r11 =>
      mo (group_Point_Same (r9.1, r9.2.1, r9.2.2.1, r9.2.2.2) (r11.1, r11.2.1, r11.2.2.1, r11.2.2.2)) none fun r12 =>
      cond (!r12) (
        some false
      ) (
        mo (group_Point_Add (r2.1, r2.2.1, r2.2.2.1, r2.2.2.2) ([0, 0, 0, 0, 0], [0, 0, 0, 0, 0], [0, 0, 0, 0, 0], [0, 0, 0, 0, 0])) none fun r13 =>
        mo (group_Point_Same (r13.1, r13.2.1, r13.2.2.1, r13.2.2.2) (r2.1, r2.2.1, r2.2.2.1, r2.2.2.2)) none fun r14 =>
        cond (!r14) (
          some false
        ) (
          mo (group_Point_Add ([0, 0, 0, 0, 0], [0, 0, 0, 0, 0], [0, 0, 0, 0, 0], [0, 0, 0, 0, 0]) (r2.1, r2.2.1, r2.2.2.1, r2.2.2.2)) none fun r15 =>
          mo (group_Point_Same (r15.1, r15.2.1, r15.2.2.1, r15.2.2.2) (r2.1, r2.2.1, r2.2.2.1, r2.2.2.2)) none fun r16 =>
          cond (!r16) (
            some false
          ) (
            mo (group_Point_Add (r2.1, r2.2.1, r2.2.2.1, r2.2.2.2) ((group_Point_Neg (r2.1, r2.2.1, r2.2.2.1, r2.2.2.2)).1, (group_Point_Neg (r2.1, r2.2.1, r2.2.2.1, r2.2.2.2)).2.1, (group_Point_Neg (r2.1, r2.2.1, r2.2.2.1, r2.2.2.2)).2.2.1, (group_Point_Neg (r2.1, r2.2.1, r2.2.2.1, r2.2.2.2)).2.2.2)) none fun r17 =>
            mo (group_Point_Same (r17.1, r17.2.1, r17.2.2.1, r17.2.2.2) ([0, 0, 0, 0, 0], [0, 0, 0, 0, 0], [0, 0, 0, 0, 0], [0, 0, 0, 0, 0])) none fun r18 =>
            cond (!r18) (
              some false
            ) (
              let x2 := (group_Point_Double (r2.1, r2.2.1, r2.2.2.1, r2.2.2.2))
              mo x2 none fun r19 =>
              mo (group_Point_Add (r2.1, r2.2.1, r2.2.2.1, r2.2.2.2) (r2.1, r2.2.1, r2.2.2.1, r2.2.2.2)) none fun r20 =>
              mo (group_Point_Same (r19.1, r19.2.1, r19.2.2.1, r19.2.2.2) (r20.1, r20.2.1, r20.2.2.1, r20.2.2.2)) none fun r21 =>
              cond (!r21) (
                some false
              ) (
                let x3 := (group_Point_Times N (r2.1, r2.2.1, r2.2.2.1, r2.2.2.2) d)
                mo x3 none fun r22 =>
                let x4 := (group_Point_Times N (r2.1, r2.2.1, r2.2.2.1, r2.2.2.2) e)
                mo x4 none fun r23 =>
                mo (group_Point_Add (r22.1, r22.2.1, r22.2.2.1, r22.2.2.2) (r23.1, r23.2.1, r23.2.2.1, r23.2.2.2)) none fun r24 =>
                mo (scalar_Scalar_Add d e) none fun r25 =>
                mo (group_Point_Times N (r2.1, r2.2.1, r2.2.2.1, r2.2.2.2) r25) none fun r26 =>
                mo (group_Point_Same (r24.1, r24.2.1, r24.2.2.1, r24.2.2.2) (r26.1, r26.2.1, r26.2.2.1, r26.2.2.2)) none fun r27 =>
                cond (!r27) (
                  some false
                ) (
                  mo x3 none fun r28 =>
                  mo (group_Point_Times N (r28.1, r28.2.1, r28.2.2.1, r28.2.2.2) e) none fun r29 =>
                  mo (scalar_Scalar_Mul N d e) none fun r30 =>
                  mo (group_Point_Times N (r2.1, r2.2.1, r2.2.2.1, r2.2.2.2) r30) none fun r31 =>
                  mo (group_Point_Same (r29.1, r29.2.1, r29.2.2.1, r29.2.2.2) (r31.1, r31.2.1, r31.2.2.1, r31.2.2.2)) none fun r32 =>
                  cond (!r32) (
                    some false
                  ) (
                    mo x1 none fun r33 =>
                    mo (group_Point_Times N (r33.1, r33.2.1, r33.2.2.1, r33.2.2.2) d) none fun r34 =>
                    mo x3 none fun r35 =>
                    mo (group_Point_Times N (r3.1, r3.2.1, r3.2.2.1, r3.2.2.2) d) none fun r36 =>
                    mo (group_Point_Add (r35.1, r35.2.1, r35.2.2.1, r35.2.2.2) (r36.1, r36.2.1, r36.2.2.1, r36.2.2.2)) none fun r37 =>
                    mo (group_Point_Same (r34.1, r34.2.1, r34.2.2.1, r34.2.2.2) (r37.1, r37.2.1, r37.2.2.1, r37.2.2.2)) none fun r38 =>
                    cond (!r38) (
                      some false
                    ) (
                      mo (group_Point_Times N (r2.1, r2.2.1, r2.2.2.1, r2.2.2.2) (scalar_Int 1)) none fun r39 =>
                      mo (group_Point_Same (r39.1, r39.2.1, r39.2.2.1, r39.2.2.2) (r2.1, r2.2.1, r2.2.2.1, r2.2.2.2)) none fun r40 =>
                      cond (!r40) (
                        some false
                      ) (
                        mo (scalar_Scalar_Neg (scalar_Int 1)) none fun r41 =>
                        mo (group_Point_Times N (r2.1, r2.2.1, r2.2.2.1, r2.2.2.2) r41) none fun r42 =>
                        mo (group_Point_Same (r42.1, r42.2.1, r42.2.2.1, r42.2.2.2) ((group_Point_Neg (r2.1, r2.2.1, r2.2.2.1, r2.2.2.2)).1, (group_Point_Neg (r2.1, r2.2.1, r2.2.2.1, r2.2.2.2)).2.1, (group_Point_Neg (r2.1, r2.2.1, r2.2.2.1, r2.2.2.2)).2.2.1, (group_Point_Neg (r2.1, r2.2.1, r2.2.2.1, r2.2.2.2)).2.2.2)) none fun r43 =>
                        cond (!r43) (
                          some false
                        ) (
                          mo (group_Sum_4 (((r2.1, r2.2.1, r2.2.2.1, r2.2.2.2), (r3.1, r3.2.1, r3.2.2.1, r3.2.2.2), (r4.1, r4.2.1, r4.2.2.1, r4.2.2.2), (r2.1, r2.2.1, r2.2.2.1, r2.2.2.2)), ())) none fun r44 =>
                          mo x2 none fun r45 =>
                          mo (group_Point_Add (r3.1, r3.2.1, r3.2.2.1, r3.2.2.2) (r45.1, r45.2.1, r45.2.2.1, r45.2.2.2)) none fun r46 =>
                          mo (group_Point_Add (r46.1, r46.2.1, r46.2.2.1, r46.2.2.2) (r4.1, r4.2.1, r4.2.2.1, r4.2.2.2)) none fun r47 =>
                          mo (group_Point_Same (r44.1, r44.2.1, r44.2.2.1, r44.2.2.2) (r47.1, r47.2.1, r47.2.2.1, r47.2.2.2)) none fun r48 =>
                          cond (!r48) (
                            some false
                          ) (
                            mo (group_Point_Same ((group_Sum_nil ()).1, (group_Sum_nil ()).2.1, (group_Sum_nil ()).2.2.1, (group_Sum_nil ()).2.2.2) ([0, 0, 0, 0, 0], [0, 0, 0, 0, 0], [0, 0, 0, 0, 0], [0, 0, 0, 0, 0])) none fun r49 =>
                            cond (!r49) (
                              some false
                            ) (
                              mo (group_Point_Same (r2.1, r2.2.1, r2.2.2.1, r2.2.2.2) ([0, 0, 0, 0, 0], [0, 0, 0, 0, 0], [0, 0, 0, 0, 0], [0, 0, 0, 0, 0])) none fun r50 =>
                              cond r50 (
                                some true
                              ) (
                                mo x3 none fun r51 =>
                                mo (group_Point_Same (r51.1, r51.2.1, r51.2.2.1, r51.2.2.2) ([0, 0, 0, 0, 0], [0, 0, 0, 0, 0], [0, 0, 0, 0, 0], [0, 0, 0, 0, 0])) none fun r52 =>
                                mo (scalar_Scalar_IsZero d) none fun r53 =>
                                cond (r52 == r53) (
                                  mo x3 none fun r54 =>
                                  mo x4 none fun r55 =>
                                  mo (group_Point_Same (r54.1, r54.2.1, r54.2.2.1, r54.2.2.2) (r55.1, r55.2.1, r55.2.2.1, r55.2.2.2)) none fun r56 =>
                                  mo (scalar_Scalar_Same d e) none fun r57 =>
                                  some (r56 == r57)
                                ) (
                                  some false
                                )
                              )
                            )
                          )
                        )
                      )
                    )
                  )
                )
              )
            )
          )
        )
      )
    )
  )


def group_FromCurve (N : Nat) (a : (List Int × List Int × List Int × List Int)) : Option (((List Int × List Int × List Int × List Int) × Int)) :=
  mo (curve_Point_Double (a.1, a.2.1, a.2.2.1, a.2.2.2)) none fun r1 =>
  mo (curve_Point_Double (r1.1, r1.2.1, r1.2.2.1, r1.2.2.2)) none fun r2 =>
  mo (curve_Point_Free N (r2.1, r2.2.1, r2.2.2.1, r2.2.2.2)) none fun r3 =>
  cond (!r3) (
    some (([0, 0, 0, 0, 0], [0, 0, 0, 0, 0], [0, 0, 0, 0, 0], [0, 0, 0, 0, 0]), 50)
  ) (
    some ((a.1, a.2.1, a.2.2.1, a.2.2.2), 0)
  )


def bytes_Compare (a : ((Nat × List Int) × Unit)) (b : ((Nat × List Int) × Unit)) : Int :=
  (bytealg_Compare ((a.1.1, a.1.2), ()) ((b.1.1, b.1.2), ()))


def group_Point_Coset_1 (N : Nat) (a : (List Int × List Int × List Int × List Int)) (b : (List Int × List Int × List Int × List Int)) : Option (Int) :=
  mo (curve_Point_Compress N (a.1, a.2.1, a.2.2.1, a.2.2.2)) none fun r1 =>
  mo (curve_Point_Compress N (b.1, b.2.1, b.2.2.1, b.2.2.2)) none fun r2 =>
  some (bytes_Compare ((32, r1), ()) ((32, r2), ()))


def group_Point_Coset (N : Nat) (a : (List Int × List Int × List Int × List Int)) : Option (((List Int × List Int × List Int × List Int) × (List Int × List Int × List Int × List Int) × (List Int × List Int × List Int × List Int) × (List Int × List Int × List Int × List Int))) :=
  mo (curve_Torsion 0) none fun r1 =>
  mo (curve_Point_Add (a.1, a.2.1, a.2.2.1, a.2.2.2) (r1.1, r1.2.1, r1.2.2.1, r1.2.2.2)) none fun r2 =>
  mo (curve_Torsion 2) none fun r3 =>
  mo (curve_Point_Add (a.1, a.2.1, a.2.2.1, a.2.2.2) (r3.1, r3.2.1, r3.2.2.1, r3.2.2.2)) none fun r4 =>
  mo (curve_Torsion 4) none fun r5 =>
  mo (curve_Point_Add (a.1, a.2.1, a.2.2.1, a.2.2.2) (r5.1, r5.2.1, r5.2.2.1, r5.2.2.2)) none fun r6 =>
  mo (curve_Torsion 6) none fun r7 =>
  mo (curve_Point_Add (a.1, a.2.1, a.2.2.1, a.2.2.2) (r7.1, r7.2.1, r7.2.2.1, r7.2.2.2)) none fun r8 =>
  mo (group_Point_Coset_1 N (r4.1, r4.2.1, r4.2.2.1, r4.2.2.2) (r2.1, r2.2.1, r2.2.2.1, r2.2.2.2)) none fun r9 =>
  cond (icmp .lss r9 0) (
    mo (group_Point_Coset_1 N (r6.1, r6.2.1, r6.2.2.1, r6.2.2.2) (r2.1, r2.2.1, r2.2.2.1, r2.2.2.2)) none fun r10 =>
    cond (icmp .lss r10 0) (
      mo (group_Point_Coset_1 N (r6.1, r6.2.1, r6.2.2.1, r6.2.2.2) (r4.1, r4.2.1, r4.2.2.1, r4.2.2.2)) none fun r11 =>
      cond (icmp .lss r11 0) (
        mo (group_Point_Coset_1 N (r8.1, r8.2.1, r8.2.2.1, r8.2.2.2) (r2.1, r2.2.1, r2.2.2.1, r2.2.2.2)) none fun r12 =>
        cond (icmp .lss r12 0) (
          mo (group_Point_Coset_1 N (r8.1, r8.2.1, r8.2.2.1, r8.2.2.2) (r4.1, r4.2.1, r4.2.2.1, r4.2.2.2)) none fun r13 =>
          cond (icmp .lss r13 0) (
            mo (group_Point_Coset_1 N (r8.1, r8.2.1, r8.2.2.1, r8.2.2.2) (r6.1, r6.2.1, r6.2.2.1, r6.2.2.2)) none fun r14 =>
            cond (icmp .lss r14 0) (
              some ((r8.1, r8.2.1, r8.2.2.1, r8.2.2.2), (r6.1, r6.2.1, r6.2.2.1, r6.2.2.2), (r4.1, r4.2.1, r4.2.2.1, r4.2.2.2), (r2.1, r2.2.1, r2.2.2.1, r2.2.2.2))
            ) (
              some ((r6.1, r6.2.1, r6.2.2.1, r6.2.2.2), (r8.1, r8.2.1, r8.2.2.1, r8.2.2.2), (r4.1, r4.2.1, r4.2.2.1, r4.2.2.2), (r2.1, r2.2.1, r2.2.2.1, r2.2.2.2))
            )
          ) (
            some ((r6.1, r6.2.1, r6.2.2.1, r6.2.2.2), (r4.1, r4.2.1, r4.2.2.1, r4.2.2.2), (r8.1, r8.2.1, r8.2.2.1, r8.2.2.2), (r2.1, r2.2.1, r2.2.2.1, r2.2.2.2))
          )
        ) (
          some ((r6.1, r6.2.1, r6.2.2.1, r6.2.2.2), (r4.1, r4.2.1, r4.2.2.1, r4.2.2.2), (r2.1, r2.2.1, r2.2.2.1, r2.2.2.2), (r8.1, r8.2.1, r8.2.2.1, r8.2.2.2))
        )
      ) (
        mo (group_Point_Coset_1 N (r8.1, r8.2.1, r8.2.2.1, r8.2.2.2) (r2.1, r2.2.1, r2.2.2.1, r2.2.2.2)) none fun r15 =>
        cond (icmp .lss r15 0) (
          mo (group_Point_Coset_1 N (r8.1, r8.2.1, r8.2.2.1, r8.2.2.2) (r6.1, r6.2.1, r6.2.2.1, r6.2.2.2)) none fun r16 =>
          cond (icmp .lss r16 0) (
            mo (group_Point_Coset_1 N (r8.1, r8.2.1, r8.2.2.1, r8.2.2.2) (r4.1, r4.2.1, r4.2.2.1, r4.2.2.2)) none fun r17 =>
            cond (icmp .lss r17 0) (
              some ((r8.1, r8.2.1, r8.2.2.1, r8.2.2.2), (r4.1, r4.2.1, r4.2.2.1, r4.2.2.2), (r6.1, r6.2.1, r6.2.2.1, r6.2.2.2), (r2.1, r2.2.1, r2.2.2.1, r2.2.2.2))
            ) (
              some ((r4.1, r4.2.1, r4.2.2.1, r4.2.2.2), (r8.1, r8.2.1, r8.2.2.1, r8.2.2.2), (r6.1, r6.2.1, r6.2.2.1, r6.2.2.2), (r2.1, r2.2.1, r2.2.2.1, r2.2.2.2))
            )
          ) (
            some ((r4.1, r4.2.1, r4.2.2.1, r4.2.2.2), (r6.1, r6.2.1, r6.2.2.1, r6.2.2.2), (r8.1, r8.2.1, r8.2.2.1, r8.2.2.2), (r2.1, r2.2.1, r2.2.2.1, r2.2.2.2))
          )
        ) (
          some ((r4.1, r4.2.1, r4.2.2.1, r4.2.2.2), (r6.1, r6.2.1, r6.2.2.1, r6.2.2.2), (r2.1, r2.2.1, r2.2.2.1, r2.2.2.2), (r8.1, r8.2.1, r8.2.2.1, r8.2.2.2))
        )
      )
    ) (
      mo (group_Point_Coset_1 N (r8.1, r8.2.1, r8.2.2.1, r8.2.2.2) (r6.1, r6.2.1, r6.2.2.1, r6.2.2.2)) none fun r18 =>
      cond (icmp .lss r18 0) (
        mo (group_Point_Coset_1 N (r8.1, r8.2.1, r8.2.2.1, r8.2.2.2) (r2.1, r2.2.1, r2.2.2.1, r2.2.2.2)) none fun r19 =>
        cond (icmp .lss r19 0) (
          mo (group_Point_Coset_1 N (r8.1, r8.2.1, r8.2.2.1, r8.2.2.2) (r4.1, r4.2.1, r4.2.2.1, r4.2.2.2)) none fun r20 =>
          cond (icmp .lss r20 0) (
            some ((r8.1, r8.2.1, r8.2.2.1, r8.2.2.2), (r4.1, r4.2.1, r4.2.2.1, r4.2.2.2), (r2.1, r2.2.1, r2.2.2.1, r2.2.2.2), (r6.1, r6.2.1, r6.2.2.1, r6.2.2.2))
          ) (
            some ((r4.1, r4.2.1, r4.2.2.1, r4.2.2.2), (r8.1, r8.2.1, r8.2.2.1, r8.2.2.2), (r2.1, r2.2.1, r2.2.2.1, r2.2.2.2), (r6.1, r6.2.1, r6.2.2.1, r6.2.2.2))
          )
        ) (
          some ((r4.1, r4.2.1, r4.2.2.1, r4.2.2.2), (r2.1, r2.2.1, r2.2.2.1, r2.2.2.2), (r8.1, r8.2.1, r8.2.2.1, r8.2.2.2), (r6.1, r6.2.1, r6.2.2.1, r6.2.2.2))
        )
      ) (
        some ((r4.1, r4.2.1, r4.2.2.1, r4.2.2.2), (r2.1, r2.2.1, r2.2.2.1, r2.2.2.2), (r6.1, r6.2.1, r6.2.2.1, r6.2.2.2), (r8.1, r8.2.1, r8.2.2.1, r8.2.2.2))
      )
    )
  ) (
    mo (group_Point_Coset_1 N (r6.1, r6.2.1, r6.2.2.1, r6.2.2.2) (r4.1, r4.2.1, r4.2.2.1, r4.2.2.2)) none fun r21 =>
    cond (icmp .lss r21 0) (
      mo (group_Point_Coset_1 N (r6.1, r6.2.1, r6.2.2.1, r6.2.2.2) (r2.1, r2.2.1, r2.2.2.1, r2.2.2.2)) none fun r22 =>
      cond (icmp .lss r22 0) (
        mo (group_Point_Coset_1 N (r8.1, r8.2.1, r8.2.2.1, r8.2.2.2) (r4.1, r4.2.1, r4.2.2.1, r4.2.2.2)) none fun r23 =>
        cond (icmp .lss r23 0) (
          mo (group_Point_Coset_1 N (r8.1, r8.2.1, r8.2.2.1, r8.2.2.2) (r2.1, r2.2.1, r2.2.2.1, r2.2.2.2)) none fun r24 =>
          cond (icmp .lss r24 0) (
            mo (group_Point_Coset_1 N (r8.1, r8.2.1, r8.2.2.1, r8.2.2.2) (r6.1, r6.2.1, r6.2.2.1, r6.2.2.2)) none fun r25 =>
            cond (icmp .lss r25 0) (
              some ((r8.1, r8.2.1, r8.2.2.1, r8.2.2.2), (r6.1, r6.2.1, r6.2.2.1, r6.2.2.2), (r2.1, r2.2.1, r2.2.2.1, r2.2.2.2), (r4.1, r4.2.1, r4.2.2.1, r4.2.2.2))
            ) (
              some ((r6.1, r6.2.1, r6.2.2.1, r6.2.2.2), (r8.1, r8.2.1, r8.2.2.1, r8.2.2.2), (r2.1, r2.2.1, r2.2.2.1, r2.2.2.2), (r4.1, r4.2.1, r4.2.2.1, r4.2.2.2))
            )
          ) (
            some ((r6.1, r6.2.1, r6.2.2.1, r6.2.2.2), (r2.1, r2.2.1, r2.2.2.1, r2.2.2.2), (r8.1, r8.2.1, r8.2.2.1, r8.2.2.2), (r4.1, r4.2.1, r4.2.2.1, r4.2.2.2))
          )
        ) (
          some ((r6.1, r6.2.1, r6.2.2.1, r6.2.2.2), (r2.1, r2.2.1, r2.2.2.1, r2.2.2.2), (r4.1, r4.2.1, r4.2.2.1, r4.2.2.2), (r8.1, r8.2.1, r8.2.2.1, r8.2.2.2))
        )
      ) (
        mo (group_Point_Coset_1 N (r8.1, r8.2.1, r8.2.2.1, r8.2.2.2) (r4.1, r4.2.1, r4.2.2.1, r4.2.2.2)) none fun r26 =>
        cond (icmp .lss r26 0) (
          mo (group_Point_Coset_1 N (r8.1, r8.2.1, r8.2.2.1, r8.2.2.2) (r6.1, r6.2.1, r6.2.2.1, r6.2.2.2)) none fun r27 =>
          cond (icmp .lss r27 0) (
            mo (group_Point_Coset_1 N (r8.1, r8.2.1, r8.2.2.1, r8.2.2.2) (r2.1, r2.2.1, r2.2.2.1, r2.2.2.2)) none fun r28 =>
            cond (icmp .lss r28 0) (
              some ((r8.1, r8.2.1, r8.2.2.1, r8.2.2.2), (r2.1, r2.2.1, r2.2.2.1, r2.2.2.2), (r6.1, r6.2.1, r6.2.2.1, r6.2.2.2), (r4.1, r4.2.1, r4.2.2.1, r4.2.2.2))
            ) (
              some ((r2.1, r2.2.1, r2.2.2.1, r2.2.2.2), (r8.1, r8.2.1, r8.2.2.1, r8.2.2.2), (r6.1, r6.2.1, r6.2.2.1, r6.2.2.2), (r4.1, r4.2.1, r4.2.2.1, r4.2.2.2))
            )
          ) (
            some ((r2.1, r2.2.1, r2.2.2.1, r2.2.2.2), (r6.1, r6.2.1, r6.2.2.1, r6.2.2.2), (r8.1, r8.2.1, r8.2.2.1, r8.2.2.2), (r4.1, r4.2.1, r4.2.2.1, r4.2.2.2))
          )
        ) (
          some ((r2.1, r2.2.1, r2.2.2.1, r2.2.2.2), (r6.1, r6.2.1, r6.2.2.1, r6.2.2.2), (r4.1, r4.2.1, r4.2.2.1, r4.2.2.2), (r8.1, r8.2.1, r8.2.2.1, r8.2.2.2))
        )
      )
    ) (
      mo (group_Point_Coset_1 N (r8.1, r8.2.1, r8.2.2.1, r8.2.2.2) (r6.1, r6.2.1, r6.2.2.1, r6.2.2.2)) none fun r29 =>
      cond (icmp .lss r29 0) (
        mo (group_Point_Coset_1 N (r8.1, r8.2.1, r8.2.2.1, r8.2.2.2) (r4.1, r4.2.1, r4.2.2.1, r4.2.2.2)) none fun r30 =>
        cond (icmp .lss r30 0) (
          mo (group_Point_Coset_1 N (r8.1, r8.2.1, r8.2.2.1, r8.2.2.2) (r2.1, r2.2.1, r2.2.2.1, r2.2.2.2)) none fun r31 =>
          cond (icmp .lss r31 0) (
            some ((r8.1, r8.2.1, r8.2.2.1, r8.2.2.2), (r2.1, r2.2.1, r2.2.2.1, r2.2.2.2), (r4.1, r4.2.1, r4.2.2.1, r4.2.2.2), (r6.1, r6.2.1, r6.2.2.1, r6.2.2.2))
          ) (
            some ((r2.1, r2.2.1, r2.2.2.1, r2.2.2.2), (r8.1, r8.2.1, r8.2.2.1, r8.2.2.2), (r4.1, r4.2.1, r4.2.2.1, r4.2.2.2), (r6.1, r6.2.1, r6.2.2.1, r6.2.2.2))
          )
        ) (
          some ((r2.1, r2.2.1, r2.2.2.1, r2.2.2.2), (r4.1, r4.2.1, r4.2.2.1, r4.2.2.2), (r8.1, r8.2.1, r8.2.2.1, r8.2.2.2), (r6.1, r6.2.1, r6.2.2.1, r6.2.2.2))
        )
      ) (
        some ((r2.1, r2.2.1, r2.2.2.1, r2.2.2.2), (r4.1, r4.2.1, r4.2.2.1, r4.2.2.2), (r6.1, r6.2.1, r6.2.2.1, r6.2.2.2), (r8.1, r8.2.1, r8.2.2.1, r8.2.2.2))
      )
    )
  )


def group_Point_Decode (N : Nat) (a : (List Int × List Int × List Int × List Int)) (b : List Int) : Option (((List Int × List Int × List Int × List Int) × Int)) :=
  cond (icmp .neq (field_Decode b).2 0) (
    some (([0, 0, 0, 0, 0], [0, 0, 0, 0, 0], [0, 0, 0, 0, 0], [0, 0, 0, 0, 0]), 3)
  ) (
    cond (field_Elem_Negative (field_Decode b).1) (
      some (([0, 0, 0, 0, 0], [0, 0, 0, 0, 0], [0, 0, 0, 0, 0], [0, 0, 0, 0, 0]), 3)
    ) (
      mo (field_Elem_Square (field_Decode b).1) none fun r1 =>
      mo (field_Const 2) none fun r2 =>
      let x1 := (field_Elem_One (field_Decode b).1)
      let x2 := (field_Elem_Sub x1 r1)
      mo (field_Elem_Square x2) none fun r3 =>
      mo (field_Elem_Mul r2 r3) none fun r4 =>
      let x3 := (field_Elem_Add x1 r1)
      let x4 := (field_Elem_Square x3)
      mo x4 none fun r5 =>
      mo x4 none fun r6 =>
      let x5 := (field_Elem_Sub (field_Elem_Neg r4) r5)
      mo (field_Elem_Mul x5 r6) none fun r7 =>
      mo (field_SqrtRatio N x1 r7) none fun r8 =>
      let x6 := (field_Elem_Mul r8.1 x3)
      mo x6 none fun r9 =>
      mo (field_Elem_Mul (field_Elem_Add (field_Decode b).1 (field_Decode b).1) r9) none fun r10 =>
      mo (field_Elem_Mul x2 r8.1) none fun r11 =>
      mo x6 none fun r12 =>
      mo (field_Elem_Mul r11 r12) none fun r13 =>
      mo (field_Elem_Mul r13 x5) none fun r14 =>
      cond (!r8.2) (
        some (([0, 0, 0, 0, 0], [0, 0, 0, 0, 0], [0, 0, 0, 0, 0], [0, 0, 0, 0, 0]), 50)
      ) (
        mo (field_Elem_Mul (field_Elem_Abs r10) r14) none fun r15 =>
        cond (field_Elem_Negative r15) (
          some (([0, 0, 0, 0, 0], [0, 0, 0, 0, 0], [0, 0, 0, 0, 0], [0, 0, 0, 0, 0]), 50)
        ) (
          cond (field_Elem_IsZero r14) (
            some (([0, 0, 0, 0, 0], [0, 0, 0, 0, 0], [0, 0, 0, 0, 0], [0, 0, 0, 0, 0]), 50)
          ) (
            mo (curve_FromAffine (field_Elem_Abs r10) r14) none fun r16 =>
            cond (icmp .neq r16.2 0) (
              some (([0, 0, 0, 0, 0], [0, 0, 0, 0, 0], [0, 0, 0, 0, 0], [0, 0, 0, 0, 0]), 50)
            ) (
              some ((r16.1.1, r16.1.2.1, r16.1.2.2.1, r16.1.2.2.2), 0)
            )
          )
        )
      )
    )
  )


def veillaw05_GroupLimbs (N : Nat) (a : List Int) (b : List Int) (c : List Int) (d : Int) : Option (Bool) :=
  mo (veillaw05_alive N) none fun r1 =>
  cond (!r1) (
    some false
  ) (
    mo (group_Map N c) none fun r2 =>
    let x1 := (group_Point_Coset N (r2.1, r2.2.1, r2.2.2.1, r2.2.2.2))
    mo x1 none fun r3 =>
    cond (decide (0 ≤ (ibin .and .i64 d 3) ∧ (ibin .and .i64 d 3) < ((4 : Nat) : Int))) (
      mo (group_FromCurve N ((List.getD [r3.1.1, r3.2.1.1, r3.2.2.1.1, r3.2.2.2.1] (Int.toNat (ibin .and .i64 d 3)) []), (List.getD [r3.1.2.1, r3.2.1.2.1, r3.2.2.1.2.1, r3.2.2.2.2.1] (Int.toNat (ibin .and .i64 d 3)) []), (List.getD [r3.1.2.2.1, r3.2.1.2.2.1, r3.2.2.1.2.2.1, r3.2.2.2.2.2.1] (Int.toNat (ibin .and .i64 d 3)) []), (List.getD [r3.1.2.2.2, r3.2.1.2.2.2, r3.2.2.1.2.2.2, r3.2.2.2.2.2.2] (Int.toNat (ibin .and .i64 d 3)) []))) none fun r4 =>
      mo (group_MapHalf N a) none fun r5 =>
      mo (group_Point_Encode N (r5.1, r5.2.1, r5.2.2.1, r5.2.2.2)) none fun r6 =>
      mo (group_MapHalf N (field_Elem_Least a)) none fun r7 =>
      mo (group_Point_Encode N (r7.1, r7.2.1, r7.2.2.1, r7.2.2.2)) none fun r8 =>
      cond (!(decide (r6 = r8))) (
        some false
      ) (
        mo (group_MapHalf N a) none fun r9 =>
        mo (group_Point_Encode N (r9.1, r9.2.1, r9.2.2.1, r9.2.2.2)) none fun r10 =>
        mo (group_MapHalf N (field_Elem_Neg a)) none fun r11 =>
        mo (group_Point_Encode N (r11.1, r11.2.1, r11.2.2.1, r11.2.2.2)) none fun r12 =>
        cond (!(decide (r10 = r12))) (
          some false
        ) (
          let x2 := (group_Point_Times N (r2.1, r2.2.1, r2.2.2.1, r2.2.2.2) b)
          mo x2 none fun r13 =>
          mo (scalar_Scalar_Least b) none fun r14 =>
          mo (group_Point_Times N (r2.1, r2.2.1, r2.2.2.1, r2.2.2.2) r14) none fun r15 =>
          mo (group_Point_Same (r13.1, r13.2.1, r13.2.2.1, r13.2.2.2) (r15.1, r15.2.1, r15.2.2.1, r15.2.2.2)) none fun r16 =>
          cond (!r16) (
            some false
          ) (
            mo (group_Point_Times N (r4.1.1, r4.1.2.1, r4.1.2.2.1, r4.1.2.2.2) b) none fun r17 =>
            mo x2 none fun r18 =>
            mo (group_Point_Same (r17.1, r17.2.1, r17.2.2.1, r17.2.2.2) (r18.1, r18.2.1, r18.2.2.1, r18.2.2.2)) none fun r19 =>
            cond (!r19) (
              some false
            ) (
              mo (group_Point_Add (r4.1.1, r4.1.2.1, r4.1.2.2.1, r4.1.2.2.2) (r2.1, r2.2.1, r2.2.2.1, r2.2.2.2)) none fun r20 =>
              mo (group_Point_Double (r2.1, r2.2.1, r2.2.2.1, r2.2.2.2)) none fun r21 =>
              mo (group_Point_Same (r20.1, r20.2.1, r20.2.2.1, r20.2.2.2) (r21.1, r21.2.1, r21.2.2.1, r21.2.2.2)) none fun r22 =>
              cond (!r22) (
                some false
              ) (
                mo (group_Point_Same ((group_Point_Neg (r4.1.1, r4.1.2.1, r4.1.2.2.1, r4.1.2.2.2)).1, (group_Point_Neg (r4.1.1, r4.1.2.1, r4.1.2.2.1, r4.1.2.2.2)).2.1, (group_Point_Neg (r4.1.1, r4.1.2.1, r4.1.2.2.1, r4.1.2.2.2)).2.2.1, (group_Point_Neg (r4.1.1, r4.1.2.1, r4.1.2.2.1, r4.1.2.2.2)).2.2.2) ((group_Point_Neg (r2.1, r2.2.1, r2.2.2.1, r2.2.2.2)).1, (group_Point_Neg (r2.1, r2.2.1, r2.2.2.1, r2.2.2.2)).2.1, (group_Point_Neg (r2.1, r2.2.1, r2.2.2.1, r2.2.2.2)).2.2.1, (group_Point_Neg (r2.1, r2.2.1, r2.2.2.1, r2.2.2.2)).2.2.2)) none fun r23 =>
                cond (!r23) (
                  some false
                ) (
                  mo (group_Point_Encode N (r4.1.1, r4.1.2.1, r4.1.2.2.1, r4.1.2.2.2)) none fun r24 =>
                  mo (group_Point_Encode N (r2.1, r2.2.1, r2.2.2.1, r2.2.2.2)) none fun r25 =>
                  cond (!(decide (r24 = r25))) (
                    some false
                  ) (
                    mo x1 none fun r26 =>
                    mo (group_Point_Coset N (r4.1.1, r4.1.2.1, r4.1.2.2.1, r4.1.2.2.2)) none fun r27 =>
                    mo (curve_Point_Same (r26.1.1, r26.1.2.1, r26.1.2.2.1, r26.1.2.2.2) (r27.1.1, r27.1.2.1, r27.1.2.2.1, r27.1.2.2.2)) none fun r28 =>
                    cond (!r28) (
                      some false
                    ) (
                      mo (curve_Point_Same (r26.2.1.1, r26.2.1.2.1, r26.2.1.2.2.1, r26.2.1.2.2.2) (r27.2.1.1, r27.2.1.2.1, r27.2.1.2.2.1, r27.2.1.2.2.2)) none fun r29 =>
                      cond (!r29) (
                        some false
                      ) (
                        mo (curve_Point_Same (r26.2.2.1.1, r26.2.2.1.2.1, r26.2.2.1.2.2.1, r26.2.2.1.2.2.2) (r27.2.2.1.1, r27.2.2.1.2.1, r27.2.2.1.2.2.1, r27.2.2.1.2.2.2)) none fun r30 =>
                        cond (!r30) (
                          some false
                        ) (
                          mo (curve_Point_Same (r26.2.2.2.1, r26.2.2.2.2.1, r26.2.2.2.2.2.1, r26.2.2.2.2.2.2) (r27.2.2.2.1, r27.2.2.2.2.1, r27.2.2.2.2.2.1, r27.2.2.2.2.2.2)) none fun r31 =>
                          cond (!r31) (
                            some false
                          ) (
                            some true
                          )
                        )
                      )
                    )
                  )
                )
              )
            )
          )
        )
      )
    ) (
      none
    )
  )


def veillaw05_GroupOne (N : Nat) (a : List Int) (b : List Int) (c : List Int) (d : List Int) : Option (Bool) :=
  mo (veillaw05_alive N) none fun r1 =>
  cond (!r1) (
    some false
  ) (
    mo (group_Map N a) none fun r2 =>
    mo (group_Point_Times N (group_Base.1, group_Base.2.1, group_Base.2.2.1, group_Base.2.2.2) d) none fun r3 =>
    mo (group_Point_Add (r2.1, r2.2.1, r2.2.2.1, r2.2.2.2) (r3.1, r3.2.1, r3.2.2.1, r3.2.2.2)) none fun r4 =>
    mo (group_Map N b) none fun r5 =>
    mo (group_Point_Encode N (r4.1, r4.2.1, r4.2.2.1, r4.2.2.2)) none fun r6 =>
    mo (group_Point_Decode N (r5.1, r5.2.1, r5.2.2.1, r5.2.2.2) r6) none fun r7 =>
    cond (icmp .neq r7.2 0) (
      some false
    ) (
      mo (group_Point_Same (r7.1.1, r7.1.2.1, r7.1.2.2.1, r7.1.2.2.2) (r4.1, r4.2.1, r4.2.2.1, r4.2.2.2)) none fun r8 =>
      cond (!r8) (
        some false
      ) (
        mo (group_Point_Encode N (r7.1.1, r7.1.2.1, r7.1.2.2.1, r7.1.2.2.2)) none fun r9 =>
        cond (!(decide (r9 = r6))) (
          some false
        ) (
          mo (group_Point_Same (r4.1, r4.2.1, r4.2.2.1, r4.2.2.2) (r5.1, r5.2.1, r5.2.2.1, r5.2.2.2)) none fun r10 =>
          mo (group_Point_Encode N (r5.1, r5.2.1, r5.2.2.1, r5.2.2.2)) none fun r11 =>
          cond (!(r10 == (decide (r6 = r11)))) (
            some false
          ) (
            mo (group_Point_Decode N (r4.1, r4.2.1, r4.2.2.1, r4.2.2.2) c) none fun r12 =>
            cond (icmp .eql r12.2 0) (
              mo (group_Point_Encode N (r12.1.1, r12.1.2.1, r12.1.2.2.1, r12.1.2.2.2)) none fun r13 =>
              cond (!(decide (r13 = c))) (
                some false
              ) (
                mo (group_Point_Same (r12.1.1, r12.1.2.1, r12.1.2.2.1, r12.1.2.2.2) (r4.1, r4.2.1, r4.2.2.1, r4.2.2.2)) none fun r14 =>
                cond (!(r14 == (decide (c = r6)))) (
                  some false
                ) (
                  mo (group_Point_Coset N (r4.1, r4.2.1, r4.2.2.1, r4.2.2.2)) none fun r15 =>
                  mo (group_FromCurve N (r15.1.1, r15.1.2.1, r15.1.2.2.1, r15.1.2.2.2)) none fun r16 =>
                  mo (curve_Torsion 1) none fun r17 =>
                  mo (curve_Point_Add (r15.1.1, r15.1.2.1, r15.1.2.2.1, r15.1.2.2.2) (r17.1, r17.2.1, r17.2.2.1, r17.2.2.2)) none fun r18 =>
                  mo (group_FromCurve N (r18.1, r18.2.1, r18.2.2.1, r18.2.2.2)) none fun r19 =>
                  cond (icmp .neq r16.2 0) (
                    some false
                  ) (
                    mo (group_Point_Same (r16.1.1, r16.1.2.1, r16.1.2.2.1, r16.1.2.2.2) (r4.1, r4.2.1, r4.2.2.1, r4.2.2.2)) none fun r20 =>
                    cond (!r20) (
                      some false
                    ) (
                      mo (group_Point_Encode N (r16.1.1, r16.1.2.1, r16.1.2.2.1, r16.1.2.2.2)) none fun r21 =>
                      cond (!(decide (r21 = r6))) (
                        some false
                      ) (
                        cond (icmp .neq r19.2 50) (
                          some false
                        ) (
                          mo (group_Point_Same (r19.1.1, r19.1.2.1, r19.1.2.2.1, r19.1.2.2.2) ([0, 0, 0, 0, 0], [0, 0, 0, 0, 0], [0, 0, 0, 0, 0], [0, 0, 0, 0, 0])) none fun r22 =>
                          cond (!r22) (
                            some false
                          ) (
                            mo (group_FromCurve N (r15.2.1.1, r15.2.1.2.1, r15.2.1.2.2.1, r15.2.1.2.2.2)) none fun r23 =>
                            mo (curve_Torsion 3) none fun r24 =>
                            mo (curve_Point_Add (r15.2.1.1, r15.2.1.2.1, r15.2.1.2.2.1, r15.2.1.2.2.2) (r24.1, r24.2.1, r24.2.2.1, r24.2.2.2)) none fun r25 =>
                            mo (group_FromCurve N (r25.1, r25.2.1, r25.2.2.1, r25.2.2.2)) none fun r26 =>
                            cond (icmp .neq r23.2 0) (
                              some false
                            ) (
                              mo (group_Point_Same (r23.1.1, r23.1.2.1, r23.1.2.2.1, r23.1.2.2.2) (r4.1, r4.2.1, r4.2.2.1, r4.2.2.2)) none fun r27 =>
                              cond (!r27) (
                                some false
                              ) (
                                mo (group_Point_Encode N (r23.1.1, r23.1.2.1, r23.1.2.2.1, r23.1.2.2.2)) none fun r28 =>
                                cond (!(decide (r28 = r6))) (
                                  some false
                                ) (
                                  cond (icmp .neq r26.2 50) (
                                    some false
                                  ) (
                                    mo (group_Point_Same (r26.1.1, r26.1.2.1, r26.1.2.2.1, r26.1.2.2.2) ([0, 0, 0, 0, 0], [0, 0, 0, 0, 0], [0, 0, 0, 0, 0], [0, 0, 0, 0, 0])) none fun r29 =>
                                    cond (!r29) (
                                      some false
                                    ) (
                                      mo (curve_Point_Sub (r15.2.1.1, r15.2.1.2.1, r15.2.1.2.2.1, r15.2.1.2.2.2) (r15.1.1, r15.1.2.1, r15.1.2.2.1, r15.1.2.2.2)) none fun r30 =>
                                      mo (curve_Point_Same (r30.1, r30.2.1, r30.2.2.1, r30.2.2.2) ([0, 0, 0, 0, 0], [0, 0, 0, 0, 0], [0, 0, 0, 0, 0], [0, 0, 0, 0, 0])) none fun r31 =>
                                      cond r31 (
                                        some false
                                      ) (
                                        mo (curve_Point_Double (r30.1, r30.2.1, r30.2.2.1, r30.2.2.2)) none fun r32 =>
                                        mo (curve_Point_Double (r32.1, r32.2.1, r32.2.2.1, r32.2.2.2)) none fun r33 =>
                                        mo (curve_Point_Same (r33.1, r33.2.1, r33.2.2.1, r33.2.2.2) ([0, 0, 0, 0, 0], [0, 0, 0, 0, 0], [0, 0, 0, 0, 0], [0, 0, 0, 0, 0])) none fun r34 =>
                                        cond (!r34) (
                                          some false
                                        ) (
                                          mo (group_FromCurve N (r15.2.2.1.1, r15.2.2.1.2.1, r15.2.2.1.2.2.1, r15.2.2.1.2.2.2)) none fun r35 =>
                                          mo (curve_Torsion 5) none fun r36 =>
                                          mo (curve_Point_Add (r15.2.2.1.1, r15.2.2.1.2.1, r15.2.2.1.2.2.1, r15.2.2.1.2.2.2) (r36.1, r36.2.1, r36.2.2.1, r36.2.2.2)) none fun r37 =>
                                          mo (group_FromCurve N (r37.1, r37.2.1, r37.2.2.1, r37.2.2.2)) none fun r38 =>
                                          cond (icmp .neq r35.2 0) (
                                            some false
                                          ) (
                                            mo (group_Point_Same (r35.1.1, r35.1.2.1, r35.1.2.2.1, r35.1.2.2.2) (r4.1, r4.2.1, r4.2.2.1, r4.2.2.2)) none fun r39 =>
                                            cond (!r39) (
                                              some false
                                            ) (
                                              mo (group_Point_Encode N (r35.1.1, r35.1.2.1, r35.1.2.2.1, r35.1.2.2.2)) none fun r40 =>
                                              cond (!(decide (r40 = r6))) (
                                                some false
                                              ) (
                                                cond (icmp .neq r38.2 50) (
                                                  some false
                                                ) (
                                                  mo (group_Point_Same (r38.1.1, r38.1.2.1, r38.1.2.2.1, r38.1.2.2.2) ([0, 0, 0, 0, 0], [0, 0, 0, 0, 0], [0, 0, 0, 0, 0], [0, 0, 0, 0, 0])) none fun r41 =>
                                                  cond (!r41) (
                                                    some false
                                                  ) (
                                                    mo (curve_Point_Sub (r15.2.2.1.1, r15.2.2.1.2.1, r15.2.2.1.2.2.1, r15.2.2.1.2.2.2) (r15.1.1, r15.1.2.1, r15.1.2.2.1, r15.1.2.2.2)) none fun r42 =>
                                                    mo (curve_Point_Same (r42.1, r42.2.1, r42.2.2.1, r42.2.2.2) ([0, 0, 0, 0, 0], [0, 0, 0, 0, 0], [0, 0, 0, 0, 0], [0, 0, 0, 0, 0])) none fun r43 =>
                                                    cond r43 (
                                                      some false
                                                    ) (
                                                      mo (curve_Point_Double (r42.1, r42.2.1, r42.2.2.1, r42.2.2.2)) none fun r44 =>
                                                      mo (curve_Point_Double (r44.1, r44.2.1, r44.2.2.1, r44.2.2.2)) none fun r45 =>
                                                      mo (curve_Point_Same (r45.1, r45.2.1, r45.2.2.1, r45.2.2.2) ([0, 0, 0, 0, 0], [0, 0, 0, 0, 0], [0, 0, 0, 0, 0], [0, 0, 0, 0, 0])) none fun r46 =>
                                                      cond (!r46) (
                                                        some false
                                                      ) (
                                                        mo (curve_Point_Sub (r15.2.2.1.1, r15.2.2.1.2.1, r15.2.2.1.2.2.1, r15.2.2.1.2.2.2) (r15.2.1.1, r15.2.1.2.1, r15.2.1.2.2.1, r15.2.1.2.2.2)) none fun r47 =>
                                                        mo (curve_Point_Same (r47.1, r47.2.1, r47.2.2.1, r47.2.2.2) ([0, 0, 0, 0, 0], [0, 0, 0, 0, 0], [0, 0, 0, 0, 0], [0, 0, 0, 0, 0])) none fun r48 =>
                                                        cond r48 (
                                                          some false
                                                        ) (
                                                          mo (curve_Point_Double (r47.1, r47.2.1, r47.2.2.1, r47.2.2.2)) none fun r49 =>
                                                          mo (curve_Point_Double (r49.1, r49.2.1, r49.2.2.1, r49.2.2.2)) none fun r50 =>
                                                          mo (curve_Point_Same (r50.1, r50.2.1, r50.2.2.1, r50.2.2.2) ([0, 0, 0, 0, 0], [0, 0, 0, 0, 0], [0, 0, 0, 0, 0], [0, 0, 0, 0, 0])) none fun r51 =>
                                                          cond (!r51) (
                                                            some false
                                                          ) (
                                                            mo (group_FromCurve N (r15.2.2.2.1, r15.2.2.2.2.1, r15.2.2.2.2.2.1, r15.2.2.2.2.2.2)) none fun r52 =>
                                                            mo (curve_Torsion 7) none fun r53 =>
                                                            mo (curve_Point_Add (r15.2.2.2.1, r15.2.2.2.2.1, r15.2.2.2.2.2.1, r15.2.2.2.2.2.2) (r53.1, r53.2.1, r53.2.2.1, r53.2.2.2)) none fun r54 =>
                                                            mo (group_FromCurve N (r54.1, r54.2.1, r54.2.2.1, r54.2.2.2)) none fun r55 =>
                                                            cond (icmp .neq r52.2 0) (
                                                              some false
                                                            ) (
                                                              mo (group_Point_Same (r52.1.1, r52.1.2.1, r52.1.2.2.1, r52.1.2.2.2) (r4.1, r4.2.1, r4.2.2.1, r4.2.2.2)) none fun r56 =>
                                                              cond (!r56) (
                                                                some false
                                                              ) (
                                                                mo (group_Point_Encode N (r52.1.1, r52.1.2.1, r52.1.2.2.1, r52.1.2.2.2)) none fun r57 =>
                                                                cond (!(decide (r57 = r6))) (
                                                                  some false
                                                                ) (
                                                                  cond (icmp .neq r55.2 50) (
                                                                    some false
                                                                  ) (
                                                                    mo (group_Point_Same (r55.1.1, r55.1.2.1, r55.1.2.2.1, r55.1.2.2.2) ([0, 0, 0, 0, 0], [0, 0, 0, 0, 0], [0, 0, 0, 0, 0], [0, 0, 0, 0, 0])) none fun r58 =>
                                                                    cond (!r58) (
                                                                      some false
                                                                    ) (
                                                                      mo (curve_Point_Sub (r15.2.2.2.1, r15.2.2.2.2.1, r15.2.2.2.2.2.1, r15.2.2.2.2.2.2) (r15.1.1, r15.1.2.1, r15.1.2.2.1, r15.1.2.2.2)) none fun r59 =>
                                                                      mo (curve_Point_Same (r59.1, r59.2.1, r59.2.2.1, r59.2.2.2) ([0, 0, 0, 0, 0], [0, 0, 0, 0, 0], [0, 0, 0, 0, 0], [0, 0, 0, 0, 0])) none fun r60 =>
                                                                      cond r60 (
                                                                        some false
                                                                      ) (
                                                                        mo (curve_Point_Double (r59.1, r59.2.1, r59.2.2.1, r59.2.2.2)) none fun r61 =>
                                                                        mo (curve_Point_Double (r61.1, r61.2.1, r61.2.2.1, r61.2.2.2)) none fun r62 =>
                                                                        mo (curve_Point_Same (r62.1, r62.2.1, r62.2.2.1, r62.2.2.2) ([0, 0, 0, 0, 0], [0, 0, 0, 0, 0], [0, 0, 0, 0, 0], [0, 0, 0, 0, 0])) none fun r63 =>
                                                                        cond (!r63) (
                                                                          some false
                                                                        ) (
                                                                          mo (curve_Point_Sub (r15.2.2.2.1, r15.2.2.2.2.1, r15.2.2.2.2.2.1, r15.2.2.2.2.2.2) (r15.2.1.1, r15.2.1.2.1, r15.2.1.2.2.1, r15.2.1.2.2.2)) none fun r64 =>
                                                                          mo (curve_Point_Same (r64.1, r64.2.1, r64.2.2.1, r64.2.2.2) ([0, 0, 0, 0, 0], [0, 0, 0, 0, 0], [0, 0, 0, 0, 0], [0, 0, 0, 0, 0])) none fun r65 =>
                                                                          cond r65 (
                                                                            some false
                                                                          ) (
                                                                            mo (curve_Point_Double (r64.1, r64.2.1, r64.2.2.1, r64.2.2.2)) none fun r66 =>
                                                                            mo (curve_Point_Double (r66.1, r66.2.1, r66.2.2.1, r66.2.2.2)) none fun r67 =>
                                                                            mo (curve_Point_Same (r67.1, r67.2.1, r67.2.2.1, r67.2.2.2) ([0, 0, 0, 0, 0], [0, 0, 0, 0, 0], [0, 0, 0, 0, 0], [0, 0, 0, 0, 0])) none fun r68 =>
                                                                            cond (!r68) (
                                                                              some false
                                                                            ) (
                                                                              mo (curve_Point_Sub (r15.2.2.2.1, r15.2.2.2.2.1, r15.2.2.2.2.2.1, r15.2.2.2.2.2.2) (r15.2.2.1.1, r15.2.2.1.2.1, r15.2.2.1.2.2.1, r15.2.2.1.2.2.2)) none fun r69 =>
                                                                              mo (curve_Point_Same (r69.1, r69.2.1, r69.2.2.1, r69.2.2.2) ([0, 0, 0, 0, 0], [0, 0, 0, 0, 0], [0, 0, 0, 0, 0], [0, 0, 0, 0, 0])) none fun r70 =>
                                                                              cond r70 (
                                                                                some false
                                                                              ) (
                                                                                mo (curve_Point_Double (r69.1, r69.2.1, r69.2.2.1, r69.2.2.2)) none fun r71 =>
                                                                                mo (curve_Point_Double (r71.1, r71.2.1, r71.2.2.1, r71.2.2.2)) none fun r72 =>
                                                                                mo (curve_Point_Same (r72.1, r72.2.1, r72.2.2.1, r72.2.2.2) ([0, 0, 0, 0, 0], [0, 0, 0, 0, 0], [0, 0, 0, 0, 0], [0, 0, 0, 0, 0])) none fun r73 =>
                                                                                cond (!r73) (
                                                                                  some false
                                                                                ) (
                                                                                  some true
                                                                                )
                                                                              )
                                                                            )
                                                                          )
                                                                        )
                                                                      )
                                                                    )
                                                                  )
                                                                )
                                                              )
                                                            )
                                                          )
                                                        )
                                                      )
                                                    )
                                                  )
                                                )
                                              )
                                            )
                                          )
                                        )
                                      )
                                    )
                                  )
                                )
                              )
                            )
                          )
                        )
                      )
                    )
                  )
                )
              )
            ) (
              cond (icmp .neq r12.2 3) (
                cond (icmp .neq r12.2 50) (
                  some false
                ) (
                  mo (group_Point_Same (r12.1.1, r12.1.2.1, r12.1.2.2.1, r12.1.2.2.2) ([0, 0, 0, 0, 0], [0, 0, 0, 0, 0], [0, 0, 0, 0, 0], [0, 0, 0, 0, 0])) none fun r74 =>
                  cond (!r74) (
                    some false
                  ) (
                    mo (group_Point_Coset N (r4.1, r4.2.1, r4.2.2.1, r4.2.2.2)) none fun r75 =>
                    mo (group_FromCurve N (r75.1.1, r75.1.2.1, r75.1.2.2.1, r75.1.2.2.2)) none fun r76 =>
                    mo (curve_Torsion 1) none fun r77 =>
                    mo (curve_Point_Add (r75.1.1, r75.1.2.1, r75.1.2.2.1, r75.1.2.2.2) (r77.1, r77.2.1, r77.2.2.1, r77.2.2.2)) none fun r78 =>
                    mo (group_FromCurve N (r78.1, r78.2.1, r78.2.2.1, r78.2.2.2)) none fun r79 =>
                    cond (icmp .neq r76.2 0) (
                      some false
                    ) (
                      mo (group_Point_Same (r76.1.1, r76.1.2.1, r76.1.2.2.1, r76.1.2.2.2) (r4.1, r4.2.1, r4.2.2.1, r4.2.2.2)) none fun r80 =>
                      cond (!r80) (
                        some false
                      ) (
                        mo (group_Point_Encode N (r76.1.1, r76.1.2.1, r76.1.2.2.1, r76.1.2.2.2)) none fun r81 =>
                        cond (!(decide (r81 = r6))) (
                          some false
                        ) (
                          cond (icmp .neq r79.2 50) (
                            some false
                          ) (
                            mo (group_Point_Same (r79.1.1, r79.1.2.1, r79.1.2.2.1, r79.1.2.2.2) ([0, 0, 0, 0, 0], [0, 0, 0, 0, 0], [0, 0, 0, 0, 0], [0, 0, 0, 0, 0])) none fun r82 =>
                            cond (!r82) (
                              some false
                            ) (
                              mo (group_FromCurve N (r75.2.1.1, r75.2.1.2.1, r75.2.1.2.2.1, r75.2.1.2.2.2)) none fun r83 =>
                              mo (curve_Torsion 3) none fun r84 =>
                              mo (curve_Point_Add (r75.2.1.1, r75.2.1.2.1, r75.2.1.2.2.1, r75.2.1.2.2.2) (r84.1, r84.2.1, r84.2.2.1, r84.2.2.2)) none fun r85 =>
                              mo (group_FromCurve N (r85.1, r85.2.1, r85.2.2.1, r85.2.2.2)) none fun r86 =>
                              cond (icmp .neq r83.2 0) (
                                some false
                              ) (
                                mo (group_Point_Same (r83.1.1, r83.1.2.1, r83.1.2.2.1, r83.1.2.2.2) (r4.1, r4.2.1, r4.2.2.1, r4.2.2.2)) none fun r87 =>
                                cond (!r87) (
                                  some false
                                ) (
                                  mo (group_Point_Encode N (r83.1.1, r83.1.2.1, r83.1.2.2.1, r83.1.2.2.2)) none fun r88 =>
                                  cond (!(decide (r88 = r6))) (
                                    some false
                                  ) (
                                    cond (icmp .neq r86.2 50) (
                                      some false
                                    ) (
                                      mo (group_Point_Same (r86.1.1, r86.1.2.1, r86.1.2.2.1, r86.1.2.2.2) ([0, 0, 0, 0, 0], [0, 0, 0, 0, 0], [0, 0, 0, 0, 0], [0, 0, 0, 0, 0])) none fun r89 =>
                                      cond (!r89) (
                                        some false
                                      ) (
                                        mo (curve_Point_Sub (r75.2.1.1, r75.2.1.2.1, r75.2.1.2.2.1, r75.2.1.2.2.2) (r75.1.1, r75.1.2.1, r75.1.2.2.1, r75.1.2.2.2)) none fun r90 =>
                                        mo (curve_Point_Same (r90.1, r90.2.1, r90.2.2.1, r90.2.2.2) ([0, 0, 0, 0, 0], [0, 0, 0, 0, 0], [0, 0, 0, 0, 0], [0, 0, 0, 0, 0])) none fun r91 =>
                                        cond r91 (
                                          some false
                                        ) (
                                          mo (curve_Point_Double (r90.1, r90.2.1, r90.2.2.1, r90.2.2.2)) none fun r92 =>
                                          mo (curve_Point_Double (r92.1, r92.2.1, r92.2.2.1, r92.2.2.2)) none fun r93 =>
                                          mo (curve_Point_Same (r93.1, r93.2.1, r93.2.2.1, r93.2.2.2) ([0, 0, 0, 0, 0], [0, 0, 0, 0, 0], [0, 0, 0, 0, 0], [0, 0, 0, 0, 0])) none fun r94 =>
                                          cond (!r94) (
                                            some false
                                          ) (
                                            mo (group_FromCurve N (r75.2.2.1.1, r75.2.2.1.2.1, r75.2.2.1.2.2.1, r75.2.2.1.2.2.2)) none fun r95 =>
                                            mo (curve_Torsion 5) none fun r96 =>
                                            mo (curve_Point_Add (r75.2.2.1.1, r75.2.2.1.2.1, r75.2.2.1.2.2.1, r75.2.2.1.2.2.2) (r96.1, r96.2.1, r96.2.2.1, r96.2.2.2)) none fun r97 =>
                                            mo (group_FromCurve N (r97.1, r97.2.1, r97.2.2.1, r97.2.2.2)) none fun r98 =>
                                            cond (icmp .neq r95.2 0) (
                                              some false
                                            ) (
                                              mo (group_Point_Same (r95.1.1, r95.1.2.1, r95.1.2.2.1, r95.1.2.2.2) (r4.1, r4.2.1, r4.2.2.1, r4.2.2.2)) none fun r99 =>
                                              cond (!r99) (
                                                some false
                                              ) (
                                                mo (group_Point_Encode N (r95.1.1, r95.1.2.1, r95.1.2.2.1, r95.1.2.2.2)) none fun r100 =>
                                                cond (!(decide (r100 = r6))) (
                                                  some false
                                                ) (
                                                  cond (icmp .neq r98.2 50) (
                                                    some false
                                                  ) (
                                                    mo (group_Point_Same (r98.1.1, r98.1.2.1, r98.1.2.2.1, r98.1.2.2.2) ([0, 0, 0, 0, 0], [0, 0, 0, 0, 0], [0, 0, 0, 0, 0], [0, 0, 0, 0, 0])) none fun r101 =>
                                                    cond (!r101) (
                                                      some false
                                                    ) (
                                                      mo (curve_Point_Sub (r75.2.2.1.1, r75.2.2.1.2.1, r75.2.2.1.2.2.1, r75.2.2.1.2.2.2) (r75.1.1, r75.1.2.1, r75.1.2.2.1, r75.1.2.2.2)) none fun r102 =>
                                                      mo (curve_Point_Same (r102.1, r102.2.1, r102.2.2.1, r102.2.2.2) ([0, 0, 0, 0, 0], [0, 0, 0, 0, 0], [0, 0, 0, 0, 0], [0, 0, 0, 0, 0])) none fun r103 =>
                                                      cond r103 (
                                                        some false
                                                      ) (
                                                        mo (curve_Point_Double (r102.1, r102.2.1, r102.2.2.1, r102.2.2.2)) none fun r104 =>
                                                        mo (curve_Point_Double (r104.1, r104.2.1, r104.2.2.1, r104.2.2.2)) none fun r105 =>
                                                        mo (curve_Point_Same (r105.1, r105.2.1, r105.2.2.1, r105.2.2.2) ([0, 0, 0, 0, 0], [0, 0, 0, 0, 0], [0, 0, 0, 0, 0], [0, 0, 0, 0, 0])) none fun r106 =>
                                                        cond (!r106) (
                                                          some false
                                                        ) (
                                                          mo (curve_Point_Sub (r75.2.2.1.1, r75.2.2.1.2.1, r75.2.2.1.2.2.1, r75.2.2.1.2.2.2) (r75.2.1.1, r75.2.1.2.1, r75.2.1.2.2.1, r75.2.1.2.2.2)) none fun r107 =>
                                                          mo (curve_Point_Same (r107.1, r107.2.1, r107.2.2.1, r107.2.2.2) ([0, 0, 0, 0, 0], [0, 0, 0, 0, 0], [0, 0, 0, 0, 0], [0, 0, 0, 0, 0])) none fun r108 =>
                                                          cond r108 (
                                                            some false
                                                          ) (
                                                            mo (curve_Point_Double (r107.1, r107.2.1, r107.2.2.1, r107.2.2.2)) none fun r109 =>
                                                            mo (curve_Point_Double (r109.1, r109.2.1, r109.2.2.1, r109.2.2.2)) none fun r110 =>
                                                            mo (curve_Point_Same (r110.1, r110.2.1, r110.2.2.1, r110.2.2.2) ([0, 0, 0, 0, 0], [0, 0, 0, 0, 0], [0, 0, 0, 0, 0], [0, 0, 0, 0, 0])) none fun r111 =>
                                                            cond (!r111) (
                                                              some false
                                                            ) (
                                                              mo (group_FromCurve N (r75.2.2.2.1, r75.2.2.2.2.1, r75.2.2.2.2.2.1, r75.2.2.2.2.2.2)) none fun r112 =>
                                                              mo (curve_Torsion 7) none fun r113 =>
                                                              mo (curve_Point_Add (r75.2.2.2.1, r75.2.2.2.2.1, r75.2.2.2.2.2.1, r75.2.2.2.2.2.2) (r113.1, r113.2.1, r113.2.2.1, r113.2.2.2)) none fun r114 =>
                                                              mo (group_FromCurve N (r114.1, r114.2.1, r114.2.2.1, r114.2.2.2)) none fun r115 =>
                                                              cond (icmp .neq r112.2 0) (
                                                                some false
                                                              ) (
                                                                mo (group_Point_Same (r112.1.1, r112.1.2.1, r112.1.2.2.1, r112.1.2.2.2) (r4.1, r4.2.1, r4.2.2.1, r4.2.2.2)) none fun r116 =>
                                                                cond (!r116) (
                                                                  some false
                                                                ) (
                                                                  mo (group_Point_Encode N (r112.1.1, r112.1.2.1, r112.1.2.2.1, r112.1.2.2.2)) none fun r117 =>
                                                                  cond (!(decide (r117 = r6))) (
                                                                    some false
                                                                  ) (
                                                                    cond (icmp .neq r115.2 50) (
                                                                      some false
                                                                    ) (
                                                                      mo (group_Point_Same (r115.1.1, r115.1.2.1, r115.1.2.2.1, r115.1.2.2.2) ([0, 0, 0, 0, 0], [0, 0, 0, 0, 0], [0, 0, 0, 0, 0], [0, 0, 0, 0, 0])) none fun r118 =>
                                                                      cond (!r118) (
                                                                        some false
                                                                      ) (
                                                                        mo (curve_Point_Sub (r75.2.2.2.1, r75.2.2.2.2.1, r75.2.2.2.2.2.1, r75.2.2.2.2.2.2) (r75.1.1, r75.1.2.1, r75.1.2.2.1, r75.1.2.2.2)) none fun r119 =>
                                                                        mo (curve_Point_Same (r119.1, r119.2.1, r119.2.2.1, r119.2.2.2) ([0, 0, 0, 0, 0], [0, 0, 0, 0, 0], [0, 0, 0, 0, 0], [0, 0, 0, 0, 0])) none fun r120 =>
                                                                        cond r120 (
                                                                          some false
                                                                        ) (
                                                                          mo (curve_Point_Double (r119.1, r119.2.1, r119.2.2.1, r119.2.2.2)) none fun r121 =>
                                                                          mo (curve_Point_Double (r121.1, r121.2.1, r121.2.2.1, r121.2.2.2)) none fun r122 =>
                                                                          mo (curve_Point_Same (r122.1, r122.2.1, r122.2.2.1, r122.2.2.2) ([0, 0, 0, 0, 0], [0, 0, 0, 0, 0], [0, 0, 0, 0, 0], [0, 0, 0, 0, 0])) none fun r123 =>
                                                                          cond (!r123) (
                                                                            some false
                                                                          ) (
                                                                            mo (curve_Point_Sub (r75.2.2.2.1, r75.2.2.2.2.1, r75.2.2.2.2.2.1, r75.2.2.2.2.2.2) (r75.2.1.1, r75.2.1.2.1, r75.2.1.2.2.1, r75.2.1.2.2.2)) none fun r124 =>
                                                                            mo (curve_Point_Same (r124.1, r124.2.1, r124.2.2.1, r124.2.2.2) ([0, 0, 0, 0, 0], [0, 0, 0, 0, 0], [0, 0, 0, 0, 0], [0, 0, 0, 0, 0])) none fun r125 =>
                                                                            cond r125 (
                                                                              some false
                                                                            ) (
                                                                              mo (curve_Point_Double (r124.1, r124.2.1, r124.2.2.1, r124.2.2.2)) none fun r126 =>
                                                                              mo (curve_Point_Double (r126.1, r126.2.1, r126.2.2.1, r126.2.2.2)) none fun r127 =>
                                                                              mo (curve_Point_Same (r127.1, r127.2.1, r127.2.2.1, r127.2.2.2) ([0, 0, 0, 0, 0], [0, 0, 0, 0, 0], [0, 0, 0, 0, 0], [0, 0, 0, 0, 0])) none fun r128 =>
                                                                              cond (!r128) (
                                                                                some false
                                                                              ) (
                                                                                mo (curve_Point_Sub (r75.2.2.2.1, r75.2.2.2.2.1, r75.2.2.2.2.2.1, r75.2.2.2.2.2.2) (r75.2.2.1.1, r75.2.2.1.2.1, r75.2.2.1.2.2.1, r75.2.2.1.2.2.2)) none fun r129 =>
                                                                                mo (curve_Point_Same (r129.1, r129.2.1, r129.2.2.1, r129.2.2.2) ([0, 0, 0, 0, 0], [0, 0, 0, 0, 0], [0, 0, 0, 0, 0], [0, 0, 0, 0, 0])) none fun r130 =>
                                                                                cond r130 (
                                                                                  some false
                                                                                ) (
                                                                                  mo (curve_Point_Double (r129.1, r129.2.1, r129.2.2.1, r129.2.2.2)) none fun r131 =>
                                                                                  mo (curve_Point_Double (r131.1, r131.2.1, r131.2.2.1, r131.2.2.2)) none fun r132 =>
                                                                                  mo (curve_Point_Same (r132.1, r132.2.1, r132.2.2.1, r132.2.2.2) ([0, 0, 0, 0, 0], [0, 0, 0, 0, 0], [0, 0, 0, 0, 0], [0, 0, 0, 0, 0])) none fun r133 =>
                                                                                  cond (!r133) (
                                                                                    some false
                                                                                  ) (
                                                                                    some true
                                                                                  )
                                                                                )
                                                                              )
                                                                            )
                                                                          )
                                                                        )
                                                                      )
                                                                    )
                                                                  )
                                                                )
                                                              )
                                                            )
                                                          )
                                                        )
                                                      )
                                                    )
                                                  )
                                                )
                                              )
                                            )
                                          )
                                        )
                                      )
                                    )
                                  )
                                )
                              )
                            )
                          )
                        )
                      )
                    )
                  )
                )
              ) (
                mo (group_Point_Same (r12.1.1, r12.1.2.1, r12.1.2.2.1, r12.1.2.2.2) ([0, 0, 0, 0, 0], [0, 0, 0, 0, 0], [0, 0, 0, 0, 0], [0, 0, 0, 0, 0])) none fun r134 =>
                cond (!r134) (
                  some false
                ) (
                  mo (group_Point_Coset N (r4.1, r4.2.1, r4.2.2.1, r4.2.2.2)) none fun r135 =>
                  mo (group_FromCurve N (r135.1.1, r135.1.2.1, r135.1.2.2.1, r135.1.2.2.2)) none fun r136 =>
                  mo (curve_Torsion 1) none fun r137 =>
                  mo (curve_Point_Add (r135.1.1, r135.1.2.1, r135.1.2.2.1, r135.1.2.2.2) (r137.1, r137.2.1, r137.2.2.1, r137.2.2.2)) none fun r138 =>
                  mo (group_FromCurve N (r138.1, r138.2.1, r138.2.2.1, r138.2.2.2)) none fun r139 =>
                  cond (icmp .neq r136.2 0) (
                    some false
                  ) (
                    mo (group_Point_Same (r136.1.1, r136.1.2.1, r136.1.2.2.1, r136.1.2.2.2) (r4.1, r4.2.1, r4.2.2.1, r4.2.2.2)) none fun r140 =>
                    cond (!r140) (
                      some false
                    ) (
                      mo (group_Point_Encode N (r136.1.1, r136.1.2.1, r136.1.2.2.1, r136.1.2.2.2)) none fun r141 =>
                      cond (!(decide (r141 = r6))) (
                        some false
                      ) (
                        cond (icmp .neq r139.2 50) (
                          some false
                        ) (
                          mo (group_Point_Same (r139.1.1, r139.1.2.1, r139.1.2.2.1, r139.1.2.2.2) ([0, 0, 0, 0, 0], [0, 0, 0, 0, 0], [0, 0, 0, 0, 0], [0, 0, 0, 0, 0])) none fun r142 =>
                          cond (!r142) (
                            some false
                          ) (
                            mo (group_FromCurve N (r135.2.1.1, r135.2.1.2.1, r135.2.1.2.2.1, r135.2.1.2.2.2)) none fun r143 =>
                            mo (curve_Torsion 3) none fun r144 =>
                            mo (curve_Point_Add (r135.2.1.1, r135.2.1.2.1, r135.2.1.2.2.1, r135.2.1.2.2.2) (r144.1, r144.2.1, r144.2.2.1, r144.2.2.2)) none fun r145 =>
                            mo (group_FromCurve N (r145.1, r145.2.1, r145.2.2.1, r145.2.2.2)) none fun r146 =>
                            cond (icmp .neq r143.2 0) (
                              some false
                            ) (
                              mo (group_Point_Same (r143.1.1, r143.1.2.1, r143.1.2.2.1, r143.1.2.2.2) (r4.1, r4.2.1, r4.2.2.1, r4.2.2.2)) none fun r147 =>
                              cond (!r147) (
                                some false
                              ) (
                                mo (group_Point_Encode N (r143.1.1, r143.1.2.1, r143.1.2.2.1, r143.1.2.2.2)) none fun r148 =>
                                cond (!(decide (r148 = r6))) (
                                  some false
                                ) (
                                  cond (icmp .neq r146.2 50) (
                                    some false
                                  ) (
                                    mo (group_Point_Same (r146.1.1, r146.1.2.1, r146.1.2.2.1, r146.1.2.2.2) ([0, 0, 0, 0, 0], [0, 0, 0, 0, 0], [0, 0, 0, 0, 0], [0, 0, 0, 0, 0])) none fun r149 =>
                                    cond (!r149) (
                                      some false
                                    ) (
                                      mo (curve_Point_Sub (r135.2.1.1, r135.2.1.2.1, r135.2.1.2.2.1, r135.2.1.2.2.2) (r135.1.1, r135.1.2.1, r135.1.2.2.1, r135.1.2.2.2)) none fun r150 =>
                                      mo (curve_Point_Same (r150.1, r150.2.1, r150.2.2.1, r150.2.2.2) ([0, 0, 0, 0, 0], [0, 0, 0, 0, 0], [0, 0, 0, 0, 0], [0, 0, 0, 0, 0])) none fun r151 =>
                                      cond r151 (
                                        some false
                                      ) (
                                        mo (curve_Point_Double (r150.1, r150.2.1, r150.2.2.1, r150.2.2.2)) none fun r152 =>
                                        mo (curve_Point_Double (r152.1, r152.2.1, r152.2.2.1, r152.2.2.2)) none fun r153 =>
                                        mo (curve_Point_Same (r153.1, r153.2.1, r153.2.2.1, r153.2.2.2) ([0, 0, 0, 0, 0], [0, 0, 0, 0, 0], [0, 0, 0, 0, 0], [0, 0, 0, 0, 0])) none fun r154 =>
                                        cond (!r154) (
                                          some false
                                        ) (
                                          mo (group_FromCurve N (r135.2.2.1.1, r135.2.2.1.2.1, r135.2.2.1.2.2.1, r135.2.2.1.2.2.2)) none fun r155 =>
                                          mo (curve_Torsion 5) none fun r156 =>
                                          mo (curve_Point_Add (r135.2.2.1.1, r135.2.2.1.2.1, r135.2.2.1.2.2.1, r135.2.2.1.2.2.2) (r156.1, r156.2.1, r156.2.2.1, r156.2.2.2)) none fun r157 =>
                                          mo (group_FromCurve N (r157.1, r157.2.1, r157.2.2.1, r157.2.2.2)) none fun r158 =>
                                          cond (icmp .neq r155.2 0) (
                                            some false
                                          ) (
                                            mo (group_Point_Same (r155.1.1, r155.1.2.1, r155.1.2.2.1, r155.1.2.2.2) (r4.1, r4.2.1, r4.2.2.1, r4.2.2.2)) none fun r159 =>
                                            cond (!r159) (
                                              some false
                                            ) (
                                              mo (group_Point_Encode N (r155.1.1, r155.1.2.1, r155.1.2.2.1, r155.1.2.2.2)) none fun r160 =>
                                              cond (!(decide (r160 = r6))) (
                                                some false
                                              ) (
                                                cond (icmp .neq r158.2 50) (
                                                  some false
                                                ) (
                                                  mo (group_Point_Same (r158.1.1, r158.1.2.1, r158.1.2.2.1, r158.1.2.2.2) ([0, 0, 0, 0, 0], [0, 0, 0, 0, 0], [0, 0, 0, 0, 0], [0, 0, 0, 0, 0])) none fun r161 =>
                                                  cond (!r161) (
                                                    some false
                                                  ) (
                                                    mo (curve_Point_Sub (r135.2.2.1.1, r135.2.2.1.2.1, r135.2.2.1.2.2.1, r135.2.2.1.2.2.2) (r135.1.1, r135.1.2.1, r135.1.2.2.1, r135.1.2.2.2)) none fun r162 =>
                                                    mo (curve_Point_Same (r162.1, r162.2.1, r162.2.2.1, r162.2.2.2) ([0, 0, 0, 0, 0], [0, 0, 0, 0, 0], [0, 0, 0, 0, 0], [0, 0, 0, 0, 0])) none fun r163 =>
                                                    cond r163 (
                                                      some false
                                                    ) (
                                                      mo (curve_Point_Double (r162.1, r162.2.1, r162.2.2.1, r162.2.2.2)) none fun r164 =>
                                                      mo (curve_Point_Double (r164.1, r164.2.1, r164.2.2.1, r164.2.2.2)) none fun r165 =>
                                                      mo (curve_Point_Same (r165.1, r165.2.1, r165.2.2.1, r165.2.2.2) ([0, 0, 0, 0, 0], [0, 0, 0, 0, 0], [0, 0, 0, 0, 0], [0, 0, 0, 0, 0])) none fun r166 =>
                                                      cond (!r166) (
                                                        some false
                                                      ) (
                                                        mo (curve_Point_Sub (r135.2.2.1.1, r135.2.2.1.2.1, r135.2.2.1.2.2.1, r135.2.2.1.2.2.2) (r135.2.1.1, r135.2.1.2.1, r135.2.1.2.2.1, r135.2.1.2.2.2)) none fun r167 =>
                                                        mo (curve_Point_Same (r167.1, r167.2.1, r167.2.2.1, r167.2.2.2) ([0, 0, 0, 0, 0], [0, 0, 0, 0, 0], [0, 0, 0, 0, 0], [0, 0, 0, 0, 0])) none fun r168 =>
                                                        cond r168 (
                                                          some false
                                                        ) (
                                                          mo (curve_Point_Double (r167.1, r167.2.1, r167.2.2.1, r167.2.2.2)) none fun r169 =>
                                                          mo (curve_Point_Double (r169.1, r169.2.1, r169.2.2.1, r169.2.2.2)) none fun r170 =>
                                                          mo (curve_Point_Same (r170.1, r170.2.1, r170.2.2.1, r170.2.2.2) ([0, 0, 0, 0, 0], [0, 0, 0, 0, 0], [0, 0, 0, 0, 0], [0, 0, 0, 0, 0])) none fun r171 =>
                                                          cond (!r171) (
                                                            some false
                                                          ) (
                                                            mo (group_FromCurve N (r135.2.2.2.1, r135.2.2.2.2.1, r135.2.2.2.2.2.1, r135.2.2.2.2.2.2)) none fun r172 =>
                                                            mo (curve_Torsion 7) none fun r173 =>
                                                            mo (curve_Point_Add (r135.2.2.2.1, r135.2.2.2.2.1, r135.2.2.2.2.2.1, r135.2.2.2.2.2.2) (r173.1, r173.2.1, r173.2.2.1, r173.2.2.2)) none fun r174 =>
                                                            mo (group_FromCurve N (r174.1, r174.2.1, r174.2.2.1, r174.2.2.2)) none fun r175 =>
                                                            cond (icmp .neq r172.2 0) (
                                                              some false
                                                            ) (
                                                              mo (group_Point_Same (r172.1.1, r172.1.2.1, r172.1.2.2.1, r172.1.2.2.2) (r4.1, r4.2.1, r4.2.2.1, r4.2.2.2)) none fun r176 =>
                                                              cond (!r176) (
                                                                some false
                                                              ) (
                                                                mo (group_Point_Encode N (r172.1.1, r172.1.2.1, r172.1.2.2.1, r172.1.2.2.2)) none fun r177 =>
                                                                cond (!(decide (r177 = r6))) (
                                                                  some false
                                                                ) (
                                                                  cond (icmp .neq r175.2 50) (
                                                                    some false
                                                                  ) (
                                                                    mo (group_Point_Same (r175.1.1, r175.1.2.1, r175.1.2.2.1, r175.1.2.2.2) ([0, 0, 0, 0, 0], [0, 0, 0, 0, 0], [0, 0, 0, 0, 0], [0, 0, 0, 0, 0])) none fun r178 =>
                                                                    cond (!r178) (
                                                                      some false
                                                                    ) (
                                                                      mo (curve_Point_Sub (r135.2.2.2.1, r135.2.2.2.2.1, r135.2.2.2.2.2.1, r135.2.2.2.2.2.2) (r135.1.1, r135.1.2.1, r135.1.2.2.1, r135.1.2.2.2)) none fun r179 =>
                                                                      mo (curve_Point_Same (r179.1, r179.2.1, r179.2.2.1, r179.2.2.2) ([0, 0, 0, 0, 0], [0, 0, 0, 0, 0], [0, 0, 0, 0, 0], [0, 0, 0, 0, 0])) none fun r180 =>
                                                                      cond r180 (
                                                                        some false
                                                                      ) (
                                                                        mo (curve_Point_Double (r179.1, r179.2.1, r179.2.2.1, r179.2.2.2)) none fun r181 =>
                                                                        mo (curve_Point_Double (r181.1, r181.2.1, r181.2.2.1, r181.2.2.2)) none fun r182 =>
                                                                        mo (curve_Point_Same (r182.1, r182.2.1, r182.2.2.1, r182.2.2.2) ([0, 0, 0, 0, 0], [0, 0, 0, 0, 0], [0, 0, 0, 0, 0], [0, 0, 0, 0, 0])) none fun r183 =>
                                                                        cond (!r183) (
                                                                          some false
                                                                        ) (
                                                                          mo (curve_Point_Sub (r135.2.2.2.1, r135.2.2.2.2.1, r135.2.2.2.2.2.1, r135.2.2.2.2.2.2) (r135.2.1.1, r135.2.1.2.1, r135.2.1.2.2.1, r135.2.1.2.2.2)) none fun r184 =>
                                                                          mo (curve_Point_Same (r184.1, r184.2.1, r184.2.2.1, r184.2.2.2) ([0, 0, 0, 0, 0], [0, 0, 0, 0, 0], [0, 0, 0, 0, 0], [0, 0, 0, 0, 0])) none fun r185 =>
                                                                          cond r185 (
                                                                            some false
                                                                          ) (
                                                                            mo (curve_Point_Double (r184.1, r184.2.1, r184.2.2.1, r184.2.2.2)) none fun r186 =>
                                                                            mo (curve_Point_Double (r186.1, r186.2.1, r186.2.2.1, r186.2.2.2)) none fun r187 =>
                                                                            mo (curve_Point_Same (r187.1, r187.2.1, r187.2.2.1, r187.2.2.2) ([0, 0, 0, 0, 0], [0, 0, 0, 0, 0], [0, 0, 0, 0, 0], [0, 0, 0, 0, 0])) none fun r188 =>
                                                                            cond (!r188) (
                                                                              some false
                                                                            ) (
                                                                              mo (curve_Point_Sub (r135.2.2.2.1, r135.2.2.2.2.1, r135.2.2.2.2.2.1, r135.2.2.2.2.2.2) (r135.2.2.1.1, r135.2.2.1.2.1, r135.2.2.1.2.2.1, r135.2.2.1.2.2.2)) none fun r189 =>
                                                                              mo (curve_Point_Same (r189.1, r189.2.1, r189.2.2.1, r189.2.2.2) ([0, 0, 0, 0, 0], [0, 0, 0, 0, 0], [0, 0, 0, 0, 0], [0, 0, 0, 0, 0])) none fun r190 =>
                                                                              cond r190 (
                                                                                some false
                                                                              ) (
                                                                                mo (curve_Point_Double (r189.1, r189.2.1, r189.2.2.1, r189.2.2.2)) none fun r191 =>
                                                                                mo (curve_Point_Double (r191.1, r191.2.1, r191.2.2.1, r191.2.2.2)) none fun r192 =>
                                                                                mo (curve_Point_Same (r192.1, r192.2.1, r192.2.2.1, r192.2.2.2) ([0, 0, 0, 0, 0], [0, 0, 0, 0, 0], [0, 0, 0, 0, 0], [0, 0, 0, 0, 0])) none fun r193 =>
                                                                                cond (!r193) (
                                                                                  some false
                                                                                ) (
                                                                                  some true
                                                                                )
                                                                              )
                                                                            )
                                                                          )
                                                                        )
                                                                      )
                                                                    )
                                                                  )
                                                                )
                                                              )
                                                            )
                                                          )
                                                        )
                                                      )
                                                    )
                                                  )
                                                )
                                              )
                                            )
                                          )
                                        )
                                      )
                                    )
                                  )
                                )
                              )
                            )
                          )
                        )
                      )
                    )
                  )
                )
              )
            )
          )
        )
      )
    )
  )


end Go.Vx
