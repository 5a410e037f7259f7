import Derived.Test.YtkilkhhnbhdbbaaDoorVxR
set_option autoImplicit false
set_option linter.unusedVariables false
set_option linter.unusedSimpArgs false
namespace Go.Vx
open Go

def field_tab (i : Nat) : List Int := List.getD [[0, 0, 0, 0, 0], [1718705420411056, 234908883556509, 2233514472574048, 2117202627021982, 765476049583133], [929955233495203, 466365720129213, 1662059464998953, 2033849074728123, 1442794654840575], [2241493124984347, 425987919032274, 2207028919301688, 1220490630685848, 974799131293748], [278908739862762, 821645201101625, 8113234426968, 1777959178193151, 2118520810568447], [1136626929484150, 1998550399581263, 496427632559748, 118527312129759, 45110755273534], [1507062230895904, 1572317787530805, 683053064812840, 317374165784489, 1572899562415810]] i [0, 0, 0, 0, 0]

def field_Elem_light (a : List Int) : List Int :=
  [(ibin .add .u64 (ibin .and .u64 (List.getD a 0 0) 2251799813685247) (ibin .mul .u64 19 (ibin .shr .u64 (List.getD a 4 0) 51))), (ibin .add .u64 (ibin .and .u64 (List.getD a 1 0) 2251799813685247) (ibin .shr .u64 (List.getD a 0 0) 51)), (ibin .add .u64 (ibin .and .u64 (List.getD a 2 0) 2251799813685247) (ibin .shr .u64 (List.getD a 1 0) 51)), (ibin .add .u64 (ibin .and .u64 (List.getD a 3 0) 2251799813685247) (ibin .shr .u64 (List.getD a 2 0) 51)), (ibin .add .u64 (ibin .and .u64 (List.getD a 4 0) 2251799813685247) (ibin .shr .u64 (List.getD a 3 0) 51))]


def field_Elem_Least (a : List Int) : List Int :=
  let x1 := (field_Elem_light (field_Elem_light (field_Elem_light a)))
  let x2 := (List.getD x1 0 0)
  let x3 := (List.set x1 0 (ibin .add .u64 x2 (ibin .mul .u64 19 (ibin .shr .u64 (ibin .add .u64 (List.getD x1 4 0) (ibin .shr .u64 (ibin .add .u64 (List.getD x1 3 0) (ibin .shr .u64 (ibin .add .u64 (List.getD x1 2 0) (ibin .shr .u64 (ibin .add .u64 (List.getD x1 1 0) (ibin .shr .u64 (ibin .add .u64 x2 19) 51)) 51)) 51)) 51)) 51))))
  let x4 := (List.set x3 1 (ibin .add .u64 (List.getD x3 1 0) (ibin .shr .u64 (List.getD x3 0 0) 51)))
  let x5 := (List.set x4 0 (ibin .and .u64 (List.getD x4 0 0) 2251799813685247))
  let x6 := (List.set x5 2 (ibin .add .u64 (List.getD x5 2 0) (ibin .shr .u64 (List.getD x5 1 0) 51)))
  let x7 := (List.set x6 1 (ibin .and .u64 (List.getD x6 1 0) 2251799813685247))
  let x8 := (List.set x7 3 (ibin .add .u64 (List.getD x7 3 0) (ibin .shr .u64 (List.getD x7 2 0) 51)))
  let x9 := (List.set x8 2 (ibin .and .u64 (List.getD x8 2 0) 2251799813685247))
  let x10 := (List.set x9 4 (ibin .add .u64 (List.getD x9 4 0) (ibin .shr .u64 (List.getD x9 3 0) 51)))
  let x11 := (List.set x10 3 (ibin .and .u64 (List.getD x10 3 0) 2251799813685247))
  (List.set x11 4 (ibin .and .u64 (List.getD x11 4 0) 2251799813685247))


def field_Elem_slim (a : List Int) : Bool :=
  (icmp .eql (ibin .shr .u64 (ibin .or .u64 (ibin .or .u64 (ibin .or .u64 (ibin .or .u64 (List.getD a 0 0) (List.getD a 1 0)) (List.getD a 2 0)) (List.getD a 3 0)) (List.getD a 4 0)) 51) 0)


def field_last (a : Int) (b : Int) (c : Int) (d : Int) (e : Int) : List Int :=
  let x1 := (ibin .add .u64 a (ibin .mul .u64 19 (ibin .shr .u64 (ibin .add .u64 e (ibin .shr .u64 (ibin .add .u64 d (ibin .shr .u64 (ibin .add .u64 c (ibin .shr .u64 (ibin .add .u64 b (ibin .shr .u64 (ibin .add .u64 a 19) 51)) 51)) 51)) 51)) 51)))
  let x2 := (ibin .add .u64 b (ibin .shr .u64 x1 51))
  let x3 := (ibin .add .u64 c (ibin .shr .u64 x2 51))
  let x4 := (ibin .add .u64 d (ibin .shr .u64 x3 51))
  [(ibin .and .u64 x1 2251799813685247), (ibin .and .u64 x2 2251799813685247), (ibin .and .u64 x3 2251799813685247), (ibin .and .u64 x4 2251799813685247), (ibin .and .u64 (ibin .add .u64 e (ibin .shr .u64 x4 51)) 2251799813685247)]


def field_closed (a : Int) (b : Int) (c : Int) (d : Int) (e : Int) : List Int :=
  let x1 := (ibin .add .u64 b (ibin .shr .u64 a 51))
  let x2 := (ibin .add .u64 c (ibin .shr .u64 x1 51))
  let x3 := (ibin .add .u64 d (ibin .shr .u64 x2 51))
  let x4 := (ibin .add .u64 e (ibin .shr .u64 x3 51))
  let x5 := (ibin .add .u64 (ibin .and .u64 a 2251799813685247) (ibin .mul .u64 19 (ibin .shr .u64 x4 51)))
  cond (icmp .leq x5 2251799813685247) (
    let x6 := (ibin .and .u64 x4 2251799813685247)
    cond (icmp .neq x6 2251799813685247) (
      [x5, (ibin .and .u64 x1 2251799813685247), (ibin .and .u64 x2 2251799813685247), (ibin .and .u64 x3 2251799813685247), x6]
    ) (
      (field_last x5 (ibin .and .u64 x1 2251799813685247) (ibin .and .u64 x2 2251799813685247) (ibin .and .u64 x3 2251799813685247) x6)
    )
  ) (
    (field_last x5 (ibin .and .u64 x1 2251799813685247) (ibin .and .u64 x2 2251799813685247) (ibin .and .u64 x3 2251799813685247) (ibin .and .u64 x4 2251799813685247))
  )

def field_closed_o (a : Int) (b : Int) (c : Int) (d : Int) (e : Int) : Option (List Int) :=
  let x1 := (ibin .add .u64 b (ibin .shr .u64 a 51))
  let x2 := (ibin .add .u64 c (ibin .shr .u64 x1 51))
  let x3 := (ibin .add .u64 d (ibin .shr .u64 x2 51))
  let x4 := (ibin .add .u64 e (ibin .shr .u64 x3 51))
  let x5 := (ibin .add .u64 (ibin .and .u64 a 2251799813685247) (ibin .mul .u64 19 (ibin .shr .u64 x4 51)))
  cond (icmp .leq x5 2251799813685247) (
    let x6 := (ibin .and .u64 x4 2251799813685247)
    cond (icmp .neq x6 2251799813685247) (
      some [x5, (ibin .and .u64 x1 2251799813685247), (ibin .and .u64 x2 2251799813685247), (ibin .and .u64 x3 2251799813685247), x6]
    ) (
      some (field_last x5 (ibin .and .u64 x1 2251799813685247) (ibin .and .u64 x2 2251799813685247) (ibin .and .u64 x3 2251799813685247) x6)
    )
  ) (
    some (field_last x5 (ibin .and .u64 x1 2251799813685247) (ibin .and .u64 x2 2251799813685247) (ibin .and .u64 x3 2251799813685247) (ibin .and .u64 x4 2251799813685247))
  )

theorem field_closed_tot (a : Int) (b : Int) (c : Int) (d : Int) (e : Int) : field_closed_o a b c d e = some (field_closed a b c d e) := by
  unfold field_closed_o field_closed
  repeat' (first | refine cond_tot ?_ ?_ | rfl)

def field_Elem_Add (a : List Int) (b : List Int) : List Int :=
  cond (!(field_Elem_slim a)) (
    (field_closed (ibin .add .u64 (List.getD (field_Elem_Least a) 0 0) (List.getD (field_Elem_Least b) 0 0)) (ibin .add .u64 (List.getD (field_Elem_Least a) 1 0) (List.getD (field_Elem_Least b) 1 0)) (ibin .add .u64 (List.getD (field_Elem_Least a) 2 0) (List.getD (field_Elem_Least b) 2 0)) (ibin .add .u64 (List.getD (field_Elem_Least a) 3 0) (List.getD (field_Elem_Least b) 3 0)) (ibin .add .u64 (List.getD (field_Elem_Least a) 4 0) (List.getD (field_Elem_Least b) 4 0)))
  ) (
    cond (!(field_Elem_slim b)) (
      (field_closed (ibin .add .u64 (List.getD (field_Elem_Least a) 0 0) (List.getD (field_Elem_Least b) 0 0)) (ibin .add .u64 (List.getD (field_Elem_Least a) 1 0) (List.getD (field_Elem_Least b) 1 0)) (ibin .add .u64 (List.getD (field_Elem_Least a) 2 0) (List.getD (field_Elem_Least b) 2 0)) (ibin .add .u64 (List.getD (field_Elem_Least a) 3 0) (List.getD (field_Elem_Least b) 3 0)) (ibin .add .u64 (List.getD (field_Elem_Least a) 4 0) (List.getD (field_Elem_Least b) 4 0)))
    ) (
      (field_closed (ibin .add .u64 (List.getD a 0 0) (List.getD b 0 0)) (ibin .add .u64 (List.getD a 1 0) (List.getD b 1 0)) (ibin .add .u64 (List.getD a 2 0) (List.getD b 2 0)) (ibin .add .u64 (List.getD a 3 0) (List.getD b 3 0)) (ibin .add .u64 (List.getD a 4 0) (List.getD b 4 0)))
    )
  )

def field_Elem_Add_o (a : List Int) (b : List Int) : Option (List Int) :=
  cond (!(field_Elem_slim a)) (
    some (field_closed (ibin .add .u64 (List.getD (field_Elem_Least a) 0 0) (List.getD (field_Elem_Least b) 0 0)) (ibin .add .u64 (List.getD (field_Elem_Least a) 1 0) (List.getD (field_Elem_Least b) 1 0)) (ibin .add .u64 (List.getD (field_Elem_Least a) 2 0) (List.getD (field_Elem_Least b) 2 0)) (ibin .add .u64 (List.getD (field_Elem_Least a) 3 0) (List.getD (field_Elem_Least b) 3 0)) (ibin .add .u64 (List.getD (field_Elem_Least a) 4 0) (List.getD (field_Elem_Least b) 4 0)))
  ) (
    cond (!(field_Elem_slim b)) (
      some (field_closed (ibin .add .u64 (List.getD (field_Elem_Least a) 0 0) (List.getD (field_Elem_Least b) 0 0)) (ibin .add .u64 (List.getD (field_Elem_Least a) 1 0) (List.getD (field_Elem_Least b) 1 0)) (ibin .add .u64 (List.getD (field_Elem_Least a) 2 0) (List.getD (field_Elem_Least b) 2 0)) (ibin .add .u64 (List.getD (field_Elem_Least a) 3 0) (List.getD (field_Elem_Least b) 3 0)) (ibin .add .u64 (List.getD (field_Elem_Least a) 4 0) (List.getD (field_Elem_Least b) 4 0)))
    ) (
      some (field_closed (ibin .add .u64 (List.getD a 0 0) (List.getD b 0 0)) (ibin .add .u64 (List.getD a 1 0) (List.getD b 1 0)) (ibin .add .u64 (List.getD a 2 0) (List.getD b 2 0)) (ibin .add .u64 (List.getD a 3 0) (List.getD b 3 0)) (ibin .add .u64 (List.getD a 4 0) (List.getD b 4 0)))
    )
  )

theorem field_Elem_Add_tot (a : List Int) (b : List Int) : field_Elem_Add_o a b = some (field_Elem_Add a b) := by
  unfold field_Elem_Add_o field_Elem_Add
  repeat' (first | refine cond_tot ?_ ?_ | rfl)

def field_Elem_Sub (a : List Int) (b : List Int) : List Int :=
  cond (!(field_Elem_slim a)) (
    (field_closed (ibin .sub .u64 (ibin .add .u64 (List.getD (field_Elem_Least a) 0 0) 4503599627370458) (List.getD (field_Elem_Least b) 0 0)) (ibin .sub .u64 (ibin .add .u64 (List.getD (field_Elem_Least a) 1 0) 4503599627370494) (List.getD (field_Elem_Least b) 1 0)) (ibin .sub .u64 (ibin .add .u64 (List.getD (field_Elem_Least a) 2 0) 4503599627370494) (List.getD (field_Elem_Least b) 2 0)) (ibin .sub .u64 (ibin .add .u64 (List.getD (field_Elem_Least a) 3 0) 4503599627370494) (List.getD (field_Elem_Least b) 3 0)) (ibin .sub .u64 (ibin .add .u64 (List.getD (field_Elem_Least a) 4 0) 4503599627370494) (List.getD (field_Elem_Least b) 4 0)))
  ) (
    cond (!(field_Elem_slim b)) (
      (field_closed (ibin .sub .u64 (ibin .add .u64 (List.getD (field_Elem_Least a) 0 0) 4503599627370458) (List.getD (field_Elem_Least b) 0 0)) (ibin .sub .u64 (ibin .add .u64 (List.getD (field_Elem_Least a) 1 0) 4503599627370494) (List.getD (field_Elem_Least b) 1 0)) (ibin .sub .u64 (ibin .add .u64 (List.getD (field_Elem_Least a) 2 0) 4503599627370494) (List.getD (field_Elem_Least b) 2 0)) (ibin .sub .u64 (ibin .add .u64 (List.getD (field_Elem_Least a) 3 0) 4503599627370494) (List.getD (field_Elem_Least b) 3 0)) (ibin .sub .u64 (ibin .add .u64 (List.getD (field_Elem_Least a) 4 0) 4503599627370494) (List.getD (field_Elem_Least b) 4 0)))
    ) (
      (field_closed (ibin .sub .u64 (ibin .add .u64 (List.getD a 0 0) 4503599627370458) (List.getD b 0 0)) (ibin .sub .u64 (ibin .add .u64 (List.getD a 1 0) 4503599627370494) (List.getD b 1 0)) (ibin .sub .u64 (ibin .add .u64 (List.getD a 2 0) 4503599627370494) (List.getD b 2 0)) (ibin .sub .u64 (ibin .add .u64 (List.getD a 3 0) 4503599627370494) (List.getD b 3 0)) (ibin .sub .u64 (ibin .add .u64 (List.getD a 4 0) 4503599627370494) (List.getD b 4 0)))
    )
  )

def field_Elem_Sub_o (a : List Int) (b : List Int) : Option (List Int) :=
  cond (!(field_Elem_slim a)) (
    some (field_closed (ibin .sub .u64 (ibin .add .u64 (List.getD (field_Elem_Least a) 0 0) 4503599627370458) (List.getD (field_Elem_Least b) 0 0)) (ibin .sub .u64 (ibin .add .u64 (List.getD (field_Elem_Least a) 1 0) 4503599627370494) (List.getD (field_Elem_Least b) 1 0)) (ibin .sub .u64 (ibin .add .u64 (List.getD (field_Elem_Least a) 2 0) 4503599627370494) (List.getD (field_Elem_Least b) 2 0)) (ibin .sub .u64 (ibin .add .u64 (List.getD (field_Elem_Least a) 3 0) 4503599627370494) (List.getD (field_Elem_Least b) 3 0)) (ibin .sub .u64 (ibin .add .u64 (List.getD (field_Elem_Least a) 4 0) 4503599627370494) (List.getD (field_Elem_Least b) 4 0)))
  ) (
    cond (!(field_Elem_slim b)) (
      some (field_closed (ibin .sub .u64 (ibin .add .u64 (List.getD (field_Elem_Least a) 0 0) 4503599627370458) (List.getD (field_Elem_Least b) 0 0)) (ibin .sub .u64 (ibin .add .u64 (List.getD (field_Elem_Least a) 1 0) 4503599627370494) (List.getD (field_Elem_Least b) 1 0)) (ibin .sub .u64 (ibin .add .u64 (List.getD (field_Elem_Least a) 2 0) 4503599627370494) (List.getD (field_Elem_Least b) 2 0)) (ibin .sub .u64 (ibin .add .u64 (List.getD (field_Elem_Least a) 3 0) 4503599627370494) (List.getD (field_Elem_Least b) 3 0)) (ibin .sub .u64 (ibin .add .u64 (List.getD (field_Elem_Least a) 4 0) 4503599627370494) (List.getD (field_Elem_Least b) 4 0)))
    ) (
      some (field_closed (ibin .sub .u64 (ibin .add .u64 (List.getD a 0 0) 4503599627370458) (List.getD b 0 0)) (ibin .sub .u64 (ibin .add .u64 (List.getD a 1 0) 4503599627370494) (List.getD b 1 0)) (ibin .sub .u64 (ibin .add .u64 (List.getD a 2 0) 4503599627370494) (List.getD b 2 0)) (ibin .sub .u64 (ibin .add .u64 (List.getD a 3 0) 4503599627370494) (List.getD b 3 0)) (ibin .sub .u64 (ibin .add .u64 (List.getD a 4 0) 4503599627370494) (List.getD b 4 0)))
    )
  )

theorem field_Elem_Sub_tot (a : List Int) (b : List Int) : field_Elem_Sub_o a b = some (field_Elem_Sub a b) := by
  unfold field_Elem_Sub_o field_Elem_Sub
  repeat' (first | refine cond_tot ?_ ?_ | rfl)

def field_Elem_Neg (a : List Int) : List Int :=
  (field_Elem_Sub [0, 0, 0, 0, 0] a)


def bits_Mul64 (a : Int) (b : Int) : (Int × Int) :=
  let x1 := (ibin .add .u64 (ibin .mul .u64 (ibin .shr .u64 a 32) (ibin .and .u64 b 4294967295)) (ibin .shr .u64 (ibin .mul .u64 (ibin .and .u64 a 4294967295) (ibin .and .u64 b 4294967295)) 32))
  ((ibin .add .u64 (ibin .add .u64 (ibin .mul .u64 (ibin .shr .u64 a 32) (ibin .shr .u64 b 32)) (ibin .shr .u64 x1 32)) (ibin .shr .u64 (ibin .add .u64 (ibin .and .u64 x1 4294967295) (ibin .mul .u64 (ibin .and .u64 a 4294967295) (ibin .shr .u64 b 32))) 32)), (ibin .mul .u64 a b))


def field_double_plus (a : (Int × Int)) (b : Int) (c : Int) : Option ((Int × Int)) :=
  mo (bits_Add64 a.2 (bits_Mul64 b c).2 0) none fun r1 =>
  mo (bits_Add64 a.1 (bits_Mul64 b c).1 r1.2) none fun r2 =>
  some (r2.1, r1.1)


def field_double_over (a : (Int × Int)) : Int :=
  (ibin .or .u64 (ibin .shl .u64 a.1 13) (ibin .shr .u64 a.2 51))


def field_carried (a : (Int × Int)) (b : (Int × Int)) (c : (Int × Int)) (d : (Int × Int)) (e : (Int × Int)) : Option (List Int) :=
  mo (field_double_plus (b.1, b.2) (field_double_over (a.1, a.2)) 1) none fun r1 =>
  mo (field_double_plus (c.1, c.2) (field_double_over (r1.1, r1.2)) 1) none fun r2 =>
  mo (field_double_plus (d.1, d.2) (field_double_over (r2.1, r2.2)) 1) none fun r3 =>
  mo (field_double_plus (e.1, e.2) (field_double_over (r3.1, r3.2)) 1) none fun r4 =>
  mo (field_double_plus (0, (ibin .and .u64 a.2 2251799813685247)) (field_double_over (r4.1, r4.2)) 19) none fun r5 =>
  some (field_closed (ibin .and .u64 r5.2 2251799813685247) (ibin .add .u64 (ibin .and .u64 r1.2 2251799813685247) (field_double_over (r5.1, r5.2))) (ibin .and .u64 r2.2 2251799813685247) (ibin .and .u64 r3.2 2251799813685247) (ibin .and .u64 r4.2 2251799813685247))


def field_Elem_Mul (a : List Int) (b : List Int) : Option (List Int) :=
  cond (!(field_Elem_slim a)) (
    mo (field_double_plus (0, 0) (List.getD (field_Elem_Least a) 0 0) (List.getD (field_Elem_Least b) 0 0)) none fun r1 =>
    mo (field_double_plus (r1.1, r1.2) (ibin .mul .u64 19 (List.getD (field_Elem_Least a) 1 0)) (List.getD (field_Elem_Least b) 4 0)) none fun r2 =>
    let x1 := (ibin .mul .u64 19 (List.getD (field_Elem_Least a) 2 0))
    mo (field_double_plus (r2.1, r2.2) x1 (List.getD (field_Elem_Least b) 3 0)) none fun r3 =>
    let x2 := (ibin .mul .u64 19 (List.getD (field_Elem_Least a) 3 0))
    mo (field_double_plus (r3.1, r3.2) x2 (List.getD (field_Elem_Least b) 2 0)) none fun r4 =>
    let x3 := (ibin .mul .u64 19 (List.getD (field_Elem_Least a) 4 0))
    mo (field_double_plus (r4.1, r4.2) x3 (List.getD (field_Elem_Least b) 1 0)) none fun r5 =>
    mo (field_double_plus (0, 0) (List.getD (field_Elem_Least a) 0 0) (List.getD (field_Elem_Least b) 1 0)) none fun r6 =>
    mo (field_double_plus (r6.1, r6.2) (List.getD (field_Elem_Least a) 1 0) (List.getD (field_Elem_Least b) 0 0)) none fun r7 =>
    mo (field_double_plus (r7.1, r7.2) x1 (List.getD (field_Elem_Least b) 4 0)) none fun r8 =>
    mo (field_double_plus (r8.1, r8.2) x2 (List.getD (field_Elem_Least b) 3 0)) none fun r9 =>
    mo (field_double_plus (r9.1, r9.2) x3 (List.getD (field_Elem_Least b) 2 0)) none fun r10 =>
    mo (field_double_plus (0, 0) (List.getD (field_Elem_Least a) 0 0) (List.getD (field_Elem_Least b) 2 0)) none fun r11 =>
    mo (field_double_plus (r11.1, r11.2) (List.getD (field_Elem_Least a) 1 0) (List.getD (field_Elem_Least b) 1 0)) none fun r12 =>
    mo (field_double_plus (r12.1, r12.2) (List.getD (field_Elem_Least a) 2 0) (List.getD (field_Elem_Least b) 0 0)) none fun r13 =>
    mo (field_double_plus (r13.1, r13.2) x2 (List.getD (field_Elem_Least b) 4 0)) none fun r14 =>
    mo (field_double_plus (r14.1, r14.2) x3 (List.getD (field_Elem_Least b) 3 0)) none fun r15 =>
    mo (field_double_plus (0, 0) (List.getD (field_Elem_Least a) 0 0) (List.getD (field_Elem_Least b) 3 0)) none fun r16 =>
    mo (field_double_plus (r16.1, r16.2) (List.getD (field_Elem_Least a) 1 0) (List.getD (field_Elem_Least b) 2 0)) none fun r17 =>
    mo (field_double_plus (r17.1, r17.2) (List.getD (field_Elem_Least a) 2 0) (List.getD (field_Elem_Least b) 1 0)) none fun r18 =>
    mo (field_double_plus (r18.1, r18.2) (List.getD (field_Elem_Least a) 3 0) (List.getD (field_Elem_Least b) 0 0)) none fun r19 =>
    mo (field_double_plus (r19.1, r19.2) x3 (List.getD (field_Elem_Least b) 4 0)) none fun r20 =>
    mo (field_double_plus (0, 0) (List.getD (field_Elem_Least a) 0 0) (List.getD (field_Elem_Least b) 4 0)) none fun r21 =>
    mo (field_double_plus (r21.1, r21.2) (List.getD (field_Elem_Least a) 1 0) (List.getD (field_Elem_Least b) 3 0)) none fun r22 =>
    mo (field_double_plus (r22.1, r22.2) (List.getD (field_Elem_Least a) 2 0) (List.getD (field_Elem_Least b) 2 0)) none fun r23 =>
    mo (field_double_plus (r23.1, r23.2) (List.getD (field_Elem_Least a) 3 0) (List.getD (field_Elem_Least b) 1 0)) none fun r24 =>
    mo (field_double_plus (r24.1, r24.2) (List.getD (field_Elem_Least a) 4 0) (List.getD (field_Elem_Least b) 0 0)) none fun r25 =>
    mo (field_carried (r5.1, r5.2) (r10.1, r10.2) (r15.1, r15.2) (r20.1, r20.2) (r25.1, r25.2)) none fun r26 =>
    some r26
  ) (
    cond (!(field_Elem_slim b)) (
      mo (field_double_plus (0, 0) (List.getD (field_Elem_Least a) 0 0) (List.getD (field_Elem_Least b) 0 0)) none fun r27 =>
      mo (field_double_plus (r27.1, r27.2) (ibin .mul .u64 19 (List.getD (field_Elem_Least a) 1 0)) (List.getD (field_Elem_Least b) 4 0)) none fun r28 =>
      let x4 := (ibin .mul .u64 19 (List.getD (field_Elem_Least a) 2 0))
      mo (field_double_plus (r28.1, r28.2) x4 (List.getD (field_Elem_Least b) 3 0)) none fun r29 =>
      let x5 := (ibin .mul .u64 19 (List.getD (field_Elem_Least a) 3 0))
      mo (field_double_plus (r29.1, r29.2) x5 (List.getD (field_Elem_Least b) 2 0)) none fun r30 =>
      let x6 := (ibin .mul .u64 19 (List.getD (field_Elem_Least a) 4 0))
      mo (field_double_plus (r30.1, r30.2) x6 (List.getD (field_Elem_Least b) 1 0)) none fun r31 =>
      mo (field_double_plus (0, 0) (List.getD (field_Elem_Least a) 0 0) (List.getD (field_Elem_Least b) 1 0)) none fun r32 =>
      mo (field_double_plus (r32.1, r32.2) (List.getD (field_Elem_Least a) 1 0) (List.getD (field_Elem_Least b) 0 0)) none fun r33 =>
      mo (field_double_plus (r33.1, r33.2) x4 (List.getD (field_Elem_Least b) 4 0)) none fun r34 =>
      mo (field_double_plus (r34.1, r34.2) x5 (List.getD (field_Elem_Least b) 3 0)) none fun r35 =>
      mo (field_double_plus (r35.1, r35.2) x6 (List.getD (field_Elem_Least b) 2 0)) none fun r36 =>
      mo (field_double_plus (0, 0) (List.getD (field_Elem_Least a) 0 0) (List.getD (field_Elem_Least b) 2 0)) none fun r37 =>
      mo (field_double_plus (r37.1, r37.2) (List.getD (field_Elem_Least a) 1 0) (List.getD (field_Elem_Least b) 1 0)) none fun r38 =>
      mo (field_double_plus (r38.1, r38.2) (List.getD (field_Elem_Least a) 2 0) (List.getD (field_Elem_Least b) 0 0)) none fun r39 =>
      mo (field_double_plus (r39.1, r39.2) x5 (List.getD (field_Elem_Least b) 4 0)) none fun r40 =>
      mo (field_double_plus (r40.1, r40.2) x6 (List.getD (field_Elem_Least b) 3 0)) none fun r41 =>
      mo (field_double_plus (0, 0) (List.getD (field_Elem_Least a) 0 0) (List.getD (field_Elem_Least b) 3 0)) none fun r42 =>
      mo (field_double_plus (r42.1, r42.2) (List.getD (field_Elem_Least a) 1 0) (List.getD (field_Elem_Least b) 2 0)) none fun r43 =>
      mo (field_double_plus (r43.1, r43.2) (List.getD (field_Elem_Least a) 2 0) (List.getD (field_Elem_Least b) 1 0)) none fun r44 =>
      mo (field_double_plus (r44.1, r44.2) (List.getD (field_Elem_Least a) 3 0) (List.getD (field_Elem_Least b) 0 0)) none fun r45 =>
      mo (field_double_plus (r45.1, r45.2) x6 (List.getD (field_Elem_Least b) 4 0)) none fun r46 =>
      mo (field_double_plus (0, 0) (List.getD (field_Elem_Least a) 0 0) (List.getD (field_Elem_Least b) 4 0)) none fun r47 =>
      mo (field_double_plus (r47.1, r47.2) (List.getD (field_Elem_Least a) 1 0) (List.getD (field_Elem_Least b) 3 0)) none fun r48 =>
      mo (field_double_plus (r48.1, r48.2) (List.getD (field_Elem_Least a) 2 0) (List.getD (field_Elem_Least b) 2 0)) none fun r49 =>
      mo (field_double_plus (r49.1, r49.2) (List.getD (field_Elem_Least a) 3 0) (List.getD (field_Elem_Least b) 1 0)) none fun r50 =>
      mo (field_double_plus (r50.1, r50.2) (List.getD (field_Elem_Least a) 4 0) (List.getD (field_Elem_Least b) 0 0)) none fun r51 =>
      mo (field_carried (r31.1, r31.2) (r36.1, r36.2) (r41.1, r41.2) (r46.1, r46.2) (r51.1, r51.2)) none fun r52 =>
      some r52
    ) (
      mo (field_double_plus (0, 0) (List.getD a 0 0) (List.getD b 0 0)) none fun r53 =>
      mo (field_double_plus (r53.1, r53.2) (ibin .mul .u64 19 (List.getD a 1 0)) (List.getD b 4 0)) none fun r54 =>
      let x7 := (ibin .mul .u64 19 (List.getD a 2 0))
      mo (field_double_plus (r54.1, r54.2) x7 (List.getD b 3 0)) none fun r55 =>
      let x8 := (ibin .mul .u64 19 (List.getD a 3 0))
      mo (field_double_plus (r55.1, r55.2) x8 (List.getD b 2 0)) none fun r56 =>
      let x9 := (ibin .mul .u64 19 (List.getD a 4 0))
      mo (field_double_plus (r56.1, r56.2) x9 (List.getD b 1 0)) none fun r57 =>
      mo (field_double_plus (0, 0) (List.getD a 0 0) (List.getD b 1 0)) none fun r58 =>
      mo (field_double_plus (r58.1, r58.2) (List.getD a 1 0) (List.getD b 0 0)) none fun r59 =>
      mo (field_double_plus (r59.1, r59.2) x7 (List.getD b 4 0)) none fun r60 =>
      mo (field_double_plus (r60.1, r60.2) x8 (List.getD b 3 0)) none fun r61 =>
      mo (field_double_plus (r61.1, r61.2) x9 (List.getD b 2 0)) none fun r62 =>
      mo (field_double_plus (0, 0) (List.getD a 0 0) (List.getD b 2 0)) none fun r63 =>
      mo (field_double_plus (r63.1, r63.2) (List.getD a 1 0) (List.getD b 1 0)) none fun r64 =>
      mo (field_double_plus (r64.1, r64.2) (List.getD a 2 0) (List.getD b 0 0)) none fun r65 =>
      mo (field_double_plus (r65.1, r65.2) x8 (List.getD b 4 0)) none fun r66 =>
      mo (field_double_plus (r66.1, r66.2) x9 (List.getD b 3 0)) none fun r67 =>
      mo (field_double_plus (0, 0) (List.getD a 0 0) (List.getD b 3 0)) none fun r68 =>
      mo (field_double_plus (r68.1, r68.2) (List.getD a 1 0) (List.getD b 2 0)) none fun r69 =>
      mo (field_double_plus (r69.1, r69.2) (List.getD a 2 0) (List.getD b 1 0)) none fun r70 =>
      mo (field_double_plus (r70.1, r70.2) (List.getD a 3 0) (List.getD b 0 0)) none fun r71 =>
      mo (field_double_plus (r71.1, r71.2) x9 (List.getD b 4 0)) none fun r72 =>
      mo (field_double_plus (0, 0) (List.getD a 0 0) (List.getD b 4 0)) none fun r73 =>
      mo (field_double_plus (r73.1, r73.2) (List.getD a 1 0) (List.getD b 3 0)) none fun r74 =>
      mo (field_double_plus (r74.1, r74.2) (List.getD a 2 0) (List.getD b 2 0)) none fun r75 =>
      mo (field_double_plus (r75.1, r75.2) (List.getD a 3 0) (List.getD b 1 0)) none fun r76 =>
      mo (field_double_plus (r76.1, r76.2) (List.getD a 4 0) (List.getD b 0 0)) none fun r77 =>
      mo (field_carried (r57.1, r57.2) (r62.1, r62.2) (r67.1, r67.2) (r72.1, r72.2) (r77.1, r77.2)) none fun r78 =>
      some r78
    )
  )


def field_Elem_Square (a : List Int) : Option (List Int) :=
  cond (!(field_Elem_slim a)) (
    mo (field_double_plus (0, 0) (List.getD (field_Elem_Least a) 0 0) (List.getD (field_Elem_Least a) 0 0)) none fun r1 =>
    mo (field_double_plus (r1.1, r1.2) (ibin .mul .u64 38 (List.getD (field_Elem_Least a) 1 0)) (List.getD (field_Elem_Least a) 4 0)) none fun r2 =>
    let x1 := (ibin .mul .u64 38 (List.getD (field_Elem_Least a) 2 0))
    mo (field_double_plus (r2.1, r2.2) x1 (List.getD (field_Elem_Least a) 3 0)) none fun r3 =>
    let x2 := (ibin .mul .u64 2 (List.getD (field_Elem_Least a) 0 0))
    mo (field_double_plus (0, 0) x2 (List.getD (field_Elem_Least a) 1 0)) none fun r4 =>
    mo (field_double_plus (r4.1, r4.2) x1 (List.getD (field_Elem_Least a) 4 0)) none fun r5 =>
    let x3 := (ibin .mul .u64 19 (List.getD (field_Elem_Least a) 3 0))
    mo (field_double_plus (r5.1, r5.2) x3 (List.getD (field_Elem_Least a) 3 0)) none fun r6 =>
    mo (field_double_plus (0, 0) x2 (List.getD (field_Elem_Least a) 2 0)) none fun r7 =>
    mo (field_double_plus (r7.1, r7.2) (List.getD (field_Elem_Least a) 1 0) (List.getD (field_Elem_Least a) 1 0)) none fun r8 =>
    mo (field_double_plus (r8.1, r8.2) (ibin .mul .u64 2 x3) (List.getD (field_Elem_Least a) 4 0)) none fun r9 =>
    mo (field_double_plus (0, 0) x2 (List.getD (field_Elem_Least a) 3 0)) none fun r10 =>
    let x4 := (ibin .mul .u64 2 (List.getD (field_Elem_Least a) 1 0))
    mo (field_double_plus (r10.1, r10.2) x4 (List.getD (field_Elem_Least a) 2 0)) none fun r11 =>
    mo (field_double_plus (r11.1, r11.2) (ibin .mul .u64 19 (List.getD (field_Elem_Least a) 4 0)) (List.getD (field_Elem_Least a) 4 0)) none fun r12 =>
    mo (field_double_plus (0, 0) x2 (List.getD (field_Elem_Least a) 4 0)) none fun r13 =>
    mo (field_double_plus (r13.1, r13.2) x4 (List.getD (field_Elem_Least a) 3 0)) none fun r14 =>
    mo (field_double_plus (r14.1, r14.2) (List.getD (field_Elem_Least a) 2 0) (List.getD (field_Elem_Least a) 2 0)) none fun r15 =>
    mo (field_carried (r3.1, r3.2) (r6.1, r6.2) (r9.1, r9.2) (r12.1, r12.2) (r15.1, r15.2)) none fun r16 =>
    some r16
  ) (
    mo (field_double_plus (0, 0) (List.getD a 0 0) (List.getD a 0 0)) none fun r17 =>
    mo (field_double_plus (r17.1, r17.2) (ibin .mul .u64 38 (List.getD a 1 0)) (List.getD a 4 0)) none fun r18 =>
    let x5 := (ibin .mul .u64 38 (List.getD a 2 0))
    mo (field_double_plus (r18.1, r18.2) x5 (List.getD a 3 0)) none fun r19 =>
    let x6 := (ibin .mul .u64 2 (List.getD a 0 0))
    mo (field_double_plus (0, 0) x6 (List.getD a 1 0)) none fun r20 =>
    mo (field_double_plus (r20.1, r20.2) x5 (List.getD a 4 0)) none fun r21 =>
    let x7 := (ibin .mul .u64 19 (List.getD a 3 0))
    mo (field_double_plus (r21.1, r21.2) x7 (List.getD a 3 0)) none fun r22 =>
    mo (field_double_plus (0, 0) x6 (List.getD a 2 0)) none fun r23 =>
    mo (field_double_plus (r23.1, r23.2) (List.getD a 1 0) (List.getD a 1 0)) none fun r24 =>
    mo (field_double_plus (r24.1, r24.2) (ibin .mul .u64 2 x7) (List.getD a 4 0)) none fun r25 =>
    mo (field_double_plus (0, 0) x6 (List.getD a 3 0)) none fun r26 =>
    let x8 := (ibin .mul .u64 2 (List.getD a 1 0))
    mo (field_double_plus (r26.1, r26.2) x8 (List.getD a 2 0)) none fun r27 =>
    mo (field_double_plus (r27.1, r27.2) (ibin .mul .u64 19 (List.getD a 4 0)) (List.getD a 4 0)) none fun r28 =>
    mo (field_double_plus (0, 0) x6 (List.getD a 4 0)) none fun r29 =>
    mo (field_double_plus (r29.1, r29.2) x8 (List.getD a 3 0)) none fun r30 =>
    mo (field_double_plus (r30.1, r30.2) (List.getD a 2 0) (List.getD a 2 0)) none fun r31 =>
    mo (field_carried (r19.1, r19.2) (r22.1, r22.2) (r25.1, r25.2) (r28.1, r28.2) (r31.1, r31.2)) none fun r32 =>
    some r32
  )


def field_load (a : List Int) : List Int :=
  let x1 := (ibin .or .u64 (ibin .or .u64 (ibin .or .u64 (ibin .or .u64 (ibin .or .u64 (ibin .or .u64 (ibin .or .u64 (ibin .or .u64 0 (ibin .shl .u64 (IntKind.wrap .u64 (List.getD a 0 0)) 0)) (ibin .shl .u64 (IntKind.wrap .u64 (List.getD a 1 0)) 8)) (ibin .shl .u64 (IntKind.wrap .u64 (List.getD a 2 0)) 16)) (ibin .shl .u64 (IntKind.wrap .u64 (List.getD a 3 0)) 24)) (ibin .shl .u64 (IntKind.wrap .u64 (List.getD a 4 0)) 32)) (ibin .shl .u64 (IntKind.wrap .u64 (List.getD a 5 0)) 40)) (ibin .shl .u64 (IntKind.wrap .u64 (List.getD a 6 0)) 48)) (ibin .shl .u64 (IntKind.wrap .u64 (List.getD a 7 0)) 56))
  let x2 := (ibin .or .u64 (ibin .or .u64 (ibin .or .u64 (ibin .or .u64 (ibin .or .u64 (ibin .or .u64 (ibin .or .u64 (ibin .or .u64 0 (ibin .shl .u64 (IntKind.wrap .u64 (List.getD a 8 0)) 0)) (ibin .shl .u64 (IntKind.wrap .u64 (List.getD a 9 0)) 8)) (ibin .shl .u64 (IntKind.wrap .u64 (List.getD a 10 0)) 16)) (ibin .shl .u64 (IntKind.wrap .u64 (List.getD a 11 0)) 24)) (ibin .shl .u64 (IntKind.wrap .u64 (List.getD a 12 0)) 32)) (ibin .shl .u64 (IntKind.wrap .u64 (List.getD a 13 0)) 40)) (ibin .shl .u64 (IntKind.wrap .u64 (List.getD a 14 0)) 48)) (ibin .shl .u64 (IntKind.wrap .u64 (List.getD a 15 0)) 56))
  let x3 := (ibin .or .u64 (ibin .or .u64 (ibin .or .u64 (ibin .or .u64 (ibin .or .u64 (ibin .or .u64 (ibin .or .u64 (ibin .or .u64 0 (ibin .shl .u64 (IntKind.wrap .u64 (List.getD a 16 0)) 0)) (ibin .shl .u64 (IntKind.wrap .u64 (List.getD a 17 0)) 8)) (ibin .shl .u64 (IntKind.wrap .u64 (List.getD a 18 0)) 16)) (ibin .shl .u64 (IntKind.wrap .u64 (List.getD a 19 0)) 24)) (ibin .shl .u64 (IntKind.wrap .u64 (List.getD a 20 0)) 32)) (ibin .shl .u64 (IntKind.wrap .u64 (List.getD a 21 0)) 40)) (ibin .shl .u64 (IntKind.wrap .u64 (List.getD a 22 0)) 48)) (ibin .shl .u64 (IntKind.wrap .u64 (List.getD a 23 0)) 56))
  let x4 := (ibin .or .u64 (ibin .or .u64 (ibin .or .u64 (ibin .or .u64 (ibin .or .u64 (ibin .or .u64 (ibin .or .u64 (ibin .or .u64 0 (ibin .shl .u64 (IntKind.wrap .u64 (List.getD a 24 0)) 0)) (ibin .shl .u64 (IntKind.wrap .u64 (List.getD a 25 0)) 8)) (ibin .shl .u64 (IntKind.wrap .u64 (List.getD a 26 0)) 16)) (ibin .shl .u64 (IntKind.wrap .u64 (List.getD a 27 0)) 24)) (ibin .shl .u64 (IntKind.wrap .u64 (List.getD a 28 0)) 32)) (ibin .shl .u64 (IntKind.wrap .u64 (List.getD a 29 0)) 40)) (ibin .shl .u64 (IntKind.wrap .u64 (List.getD a 30 0)) 48)) (ibin .shl .u64 (IntKind.wrap .u64 (List.getD a 31 0)) 56))
  [(ibin .and .u64 x1 2251799813685247), (ibin .and .u64 (ibin .or .u64 (ibin .shr .u64 x1 51) (ibin .shl .u64 x2 13)) 2251799813685247), (ibin .and .u64 (ibin .or .u64 (ibin .shr .u64 x2 38) (ibin .shl .u64 x3 26)) 2251799813685247), (ibin .and .u64 (ibin .or .u64 (ibin .shr .u64 x3 25) (ibin .shl .u64 x4 39)) 2251799813685247), (ibin .and .u64 (ibin .shr .u64 x4 12) 2251799813685247)]


def field_Decode (a : List Int) : (List Int × Int) :=
  cond (icmp .gtr (List.getD a 31 0) 127) (
    ([0, 0, 0, 0, 0], 3)
  ) (
    cond (!(decide ((field_load a) = (field_Elem_Least (field_load a))))) (
      ([0, 0, 0, 0, 0], 3)
    ) (
      ((field_load a), 0)
    )
  )

def field_Decode_o (a : List Int) : Option ((List Int × Int)) :=
  cond (icmp .gtr (List.getD a 31 0) 127) (
    some ([0, 0, 0, 0, 0], 3)
  ) (
    cond (!(decide ((field_load a) = (field_Elem_Least (field_load a))))) (
      some ([0, 0, 0, 0, 0], 3)
    ) (
      some ((field_load a), 0)
    )
  )

theorem field_Decode_tot (a : List Int) : field_Decode_o a = some (field_Decode a) := by
  unfold field_Decode_o field_Decode
  repeat' (first | refine cond_tot ?_ ?_ | rfl)

def field_Reduce (a : List Int) : List Int :=
  (field_Elem_Least (field_load a))


def field_Elem_Encode (a : List Int) : List Int :=
  let x1 := (ibin .or .u64 (List.getD (field_Elem_Least a) 0 0) (ibin .shl .u64 (List.getD (field_Elem_Least a) 1 0) 51))
  let x2 := (ibin .or .u64 (ibin .shr .u64 (List.getD (field_Elem_Least a) 1 0) 13) (ibin .shl .u64 (List.getD (field_Elem_Least a) 2 0) 38))
  let x3 := (ibin .or .u64 (ibin .shr .u64 (List.getD (field_Elem_Least a) 2 0) 26) (ibin .shl .u64 (List.getD (field_Elem_Least a) 3 0) 25))
  let x4 := (ibin .or .u64 (ibin .shr .u64 (List.getD (field_Elem_Least a) 3 0) 39) (ibin .shl .u64 (List.getD (field_Elem_Least a) 4 0) 12))
  [(IntKind.wrap .u8 (ibin .shr .u64 x1 0)), (IntKind.wrap .u8 (ibin .shr .u64 x1 8)), (IntKind.wrap .u8 (ibin .shr .u64 x1 16)), (IntKind.wrap .u8 (ibin .shr .u64 x1 24)), (IntKind.wrap .u8 (ibin .shr .u64 x1 32)), (IntKind.wrap .u8 (ibin .shr .u64 x1 40)), (IntKind.wrap .u8 (ibin .shr .u64 x1 48)), (IntKind.wrap .u8 (ibin .shr .u64 x1 56)), (IntKind.wrap .u8 (ibin .shr .u64 x2 0)), (IntKind.wrap .u8 (ibin .shr .u64 x2 8)), (IntKind.wrap .u8 (ibin .shr .u64 x2 16)), (IntKind.wrap .u8 (ibin .shr .u64 x2 24)), (IntKind.wrap .u8 (ibin .shr .u64 x2 32)), (IntKind.wrap .u8 (ibin .shr .u64 x2 40)), (IntKind.wrap .u8 (ibin .shr .u64 x2 48)), (IntKind.wrap .u8 (ibin .shr .u64 x2 56)), (IntKind.wrap .u8 (ibin .shr .u64 x3 0)), (IntKind.wrap .u8 (ibin .shr .u64 x3 8)), (IntKind.wrap .u8 (ibin .shr .u64 x3 16)), (IntKind.wrap .u8 (ibin .shr .u64 x3 24)), (IntKind.wrap .u8 (ibin .shr .u64 x3 32)), (IntKind.wrap .u8 (ibin .shr .u64 x3 40)), (IntKind.wrap .u8 (ibin .shr .u64 x3 48)), (IntKind.wrap .u8 (ibin .shr .u64 x3 56)), (IntKind.wrap .u8 (ibin .shr .u64 x4 0)), (IntKind.wrap .u8 (ibin .shr .u64 x4 8)), (IntKind.wrap .u8 (ibin .shr .u64 x4 16)), (IntKind.wrap .u8 (ibin .shr .u64 x4 24)), (IntKind.wrap .u8 (ibin .shr .u64 x4 32)), (IntKind.wrap .u8 (ibin .shr .u64 x4 40)), (IntKind.wrap .u8 (ibin .shr .u64 x4 48)), (IntKind.wrap .u8 (ibin .shr .u64 x4 56))]


def field_Elem_squares_l0 (N : Nat) (v : (Unit × Unit × Int × Int) × (List Int × Unit)) : Option (((Unit × Unit × Int × Int) × (List Int × Unit)) ⊕ (((Unit × Unit) × (List Int × Unit)) ⊕ (Unit × Unit))) :=
  cond (icmp .lss v.1.2.2.2 v.1.2.2.1) (
    mo (field_Elem_Square v.2.1) none fun r6 =>
    some (.inl (((), (), v.1.2.2.1, (ibin .add .i64 v.1.2.2.2 1)), (r6, ())))
  ) (
    some (.inr (.inl (((), ()), (v.2.1, ()))))
  )

def field_Elem_squares (N : Nat) (a : List Int) (b : Int) : Option (List Int) :=
  mo (loopF (field_Elem_squares_l0 N) N (((), (), b, 0), (a, ()))) none fun r7 =>
  match r7 with
  | .inl u8 => (
    some u8.2.1
  )
  | .inr _ => (
    none
  )


def field_Elem_ones (N : Nat) (a : List Int) : Option ((List Int × List Int)) :=
  mo (field_Elem_Square a) none fun r1 =>
  mo (field_Elem_squares N r1 2) none fun r2 =>
  mo (field_Elem_Mul r2 a) none fun r3 =>
  mo (field_Elem_Mul r3 r1) none fun r4 =>
  mo (field_Elem_Square r4) none fun r5 =>
  mo (field_Elem_Mul r5 r3) none fun r6 =>
  mo (field_Elem_squares N r6 5) none fun r7 =>
  mo (field_Elem_Mul r7 r6) none fun r8 =>
  mo (field_Elem_squares N r8 10) none fun r9 =>
  mo (field_Elem_Mul r9 r8) none fun r10 =>
  mo (field_Elem_squares N r10 20) none fun r11 =>
  mo (field_Elem_Mul r11 r10) none fun r12 =>
  mo (field_Elem_squares N r12 10) none fun r13 =>
  mo (field_Elem_Mul r13 r8) none fun r14 =>
  mo (field_Elem_squares N r14 50) none fun r15 =>
  mo (field_Elem_Mul r15 r14) none fun r16 =>
  mo (field_Elem_squares N r16 100) none fun r17 =>
  mo (field_Elem_Mul r17 r16) none fun r18 =>
  mo (field_Elem_squares N r18 50) none fun r19 =>
  mo (field_Elem_Mul r19 r14) none fun r20 =>
  some (r20, r4)


def field_Elem_Invert (N : Nat) (a : List Int) : Option (List Int) :=
  mo (field_Elem_ones N a) none fun r1 =>
  mo (field_Elem_squares N r1.1 5) none fun r2 =>
  mo (field_Elem_Mul r2 r1.2) none fun r3 =>
  some r3


def field_Elem_root (N : Nat) (a : List Int) : Option (List Int) :=
  mo (field_Elem_ones N a) none fun r1 =>
  mo (field_Elem_squares N r1.1 2) none fun r2 =>
  mo (field_Elem_Mul r2 a) none fun r3 =>
  some r3


def field_Elem_One (a : List Int) : List Int :=
  [1, 0, 0, 0, 0]


def field_Elem_IsZero (a : List Int) : Bool :=
  (decide ((field_Elem_Least a) = [0, 0, 0, 0, 0]))


def field_Elem_Negative (a : List Int) : Bool :=
  (icmp .eql (ibin .and .u64 (List.getD (field_Elem_Least a) 0 0) 1) 1)


def field_Select (a : Int) (b : List Int) (c : List Int) : List Int :=
  let x1 := (ineg .u64 (IntKind.wrap .u64 (ibin .and .i64 a 1)))
  let x2 := (List.set b 0 (ibin .or .u64 (ibin .and .u64 (List.getD b 0 0) x1) (ibin .andNot .u64 (List.getD c 0 0) x1)))
  let x3 := (List.set x2 1 (ibin .or .u64 (ibin .and .u64 (List.getD x2 1 0) x1) (ibin .andNot .u64 (List.getD c 1 0) x1)))
  let x4 := (List.set x3 2 (ibin .or .u64 (ibin .and .u64 (List.getD x3 2 0) x1) (ibin .andNot .u64 (List.getD c 2 0) x1)))
  let x5 := (List.set x4 3 (ibin .or .u64 (ibin .and .u64 (List.getD x4 3 0) x1) (ibin .andNot .u64 (List.getD c 3 0) x1)))
  (field_Elem_Least (List.set x5 4 (ibin .or .u64 (ibin .and .u64 (List.getD x5 4 0) x1) (ibin .andNot .u64 (List.getD c 4 0) x1))))


def field_Elem_Abs (a : List Int) : List Int :=
  (field_Select (IntKind.wrap .i64 (ibin .and .u64 (List.getD (field_Elem_Least a) 0 0) 1)) (field_Elem_Neg a) a)


def field_Const (a : Int) : Option (List Int) :=
  cond (icmp .lss a 0) (
    some [0, 0, 0, 0, 0]
  ) (
    cond (icmp .geq a 7) (
      some [0, 0, 0, 0, 0]
    ) (
      cond (decide (0 ≤ a ∧ a < ((7 : Nat) : Int))) (
        some (field_tab (Int.toNat a))
      ) (
        none
      )
    )
  )


def field_SqrtRatio (N : Nat) (a : List Int) (b : List Int) : Option ((List Int × Bool)) :=
  mo (field_Elem_Square b) none fun r1 =>
  mo (field_Elem_Mul r1 b) none fun r2 =>
  mo (field_Elem_Square r2) none fun r3 =>
  mo (field_Elem_Mul r3 b) none fun r4 =>
  mo (field_Elem_Mul (field_Elem_Least a) r2) none fun r5 =>
  mo (field_Elem_Mul (field_Elem_Least a) r4) none fun r6 =>
  mo (field_Elem_root N r6) none fun r7 =>
  mo (field_Elem_Mul r5 r7) none fun r8 =>
  mo (field_Elem_Square r8) none fun r9 =>
  mo (field_Elem_Mul b r9) none fun r10 =>
  let x1 := (decide (r10 = (field_Elem_Neg (field_Elem_Least a))))
  cond x1 (
    mo (field_Elem_Mul r8 (field_tab 1)) none fun r11 =>
    cond (decide (r10 = (field_Elem_Least a))) (
      some ((field_Elem_Abs r11), true)
    ) (
      some ((field_Elem_Abs r11), x1)
    )
  ) (
    mo (field_Elem_Mul (field_Elem_Neg (field_Elem_Least a)) (field_tab 1)) none fun r12 =>
    cond (decide (r10 = r12)) (
      mo (field_Elem_Mul r8 (field_tab 1)) none fun r13 =>
      cond (decide (r10 = (field_Elem_Least a))) (
        some ((field_Elem_Abs r13), true)
      ) (
        some ((field_Elem_Abs r13), x1)
      )
    ) (
      cond (decide (r10 = (field_Elem_Least a))) (
        some ((field_Elem_Abs r8), true)
      ) (
        some ((field_Elem_Abs r8), x1)
      )
    )
  )


def veilref01_below (a : List Int) (b : List Int) : Bool :=
  cond (icmp .neq (List.getD a 9 0) (List.getD b 9 0)) (
    (icmp .lss (List.getD a 9 0) (List.getD b 9 0))
  ) (
    cond (icmp .neq (List.getD a 8 0) (List.getD b 8 0)) (
      (icmp .lss (List.getD a 8 0) (List.getD b 8 0))
    ) (
      cond (icmp .neq (List.getD a 7 0) (List.getD b 7 0)) (
        (icmp .lss (List.getD a 7 0) (List.getD b 7 0))
      ) (
        cond (icmp .neq (List.getD a 6 0) (List.getD b 6 0)) (
          (icmp .lss (List.getD a 6 0) (List.getD b 6 0))
        ) (
          cond (icmp .neq (List.getD a 5 0) (List.getD b 5 0)) (
            (icmp .lss (List.getD a 5 0) (List.getD b 5 0))
          ) (
            cond (icmp .neq (List.getD a 4 0) (List.getD b 4 0)) (
              (icmp .lss (List.getD a 4 0) (List.getD b 4 0))
            ) (
              cond (icmp .neq (List.getD a 3 0) (List.getD b 3 0)) (
                (icmp .lss (List.getD a 3 0) (List.getD b 3 0))
              ) (
                cond (icmp .neq (List.getD a 2 0) (List.getD b 2 0)) (
                  (icmp .lss (List.getD a 2 0) (List.getD b 2 0))
                ) (
                  cond (icmp .neq (List.getD a 1 0) (List.getD b 1 0)) (
                    (icmp .lss (List.getD a 1 0) (List.getD b 1 0))
                  ) (
                    cond (icmp .neq (List.getD a 0 0) (List.getD b 0 0)) (
                      (icmp .lss (List.getD a 0 0) (List.getD b 0 0))
                    ) (
                      false
                    )
                  )
                )
              )
            )
          )
        )
      )
    )
  )

def veilref01_below_o (a : List Int) (b : List Int) : Option (Bool) :=
  cond (icmp .neq (List.getD a 9 0) (List.getD b 9 0)) (
    some (icmp .lss (List.getD a 9 0) (List.getD b 9 0))
  ) (
    cond (icmp .neq (List.getD a 8 0) (List.getD b 8 0)) (
      some (icmp .lss (List.getD a 8 0) (List.getD b 8 0))
    ) (
      cond (icmp .neq (List.getD a 7 0) (List.getD b 7 0)) (
        some (icmp .lss (List.getD a 7 0) (List.getD b 7 0))
      ) (
        cond (icmp .neq (List.getD a 6 0) (List.getD b 6 0)) (
          some (icmp .lss (List.getD a 6 0) (List.getD b 6 0))
        ) (
          cond (icmp .neq (List.getD a 5 0) (List.getD b 5 0)) (
            some (icmp .lss (List.getD a 5 0) (List.getD b 5 0))
          ) (
            cond (icmp .neq (List.getD a 4 0) (List.getD b 4 0)) (
              some (icmp .lss (List.getD a 4 0) (List.getD b 4 0))
            ) (
              cond (icmp .neq (List.getD a 3 0) (List.getD b 3 0)) (
                some (icmp .lss (List.getD a 3 0) (List.getD b 3 0))
              ) (
                cond (icmp .neq (List.getD a 2 0) (List.getD b 2 0)) (
                  some (icmp .lss (List.getD a 2 0) (List.getD b 2 0))
                ) (
                  cond (icmp .neq (List.getD a 1 0) (List.getD b 1 0)) (
                    some (icmp .lss (List.getD a 1 0) (List.getD b 1 0))
                  ) (
                    cond (icmp .neq (List.getD a 0 0) (List.getD b 0 0)) (
                      some (icmp .lss (List.getD a 0 0) (List.getD b 0 0))
                    ) (
                      some false
                    )
                  )
                )
              )
            )
          )
        )
      )
    )
  )

theorem veilref01_below_tot (a : List Int) (b : List Int) : veilref01_below_o a b = some (veilref01_below a b) := by
  unfold veilref01_below_o veilref01_below
  repeat' (first | refine cond_tot ?_ ?_ | rfl)

def veilref01_minus (a : List Int) (b : List Int) : List Int :=
  let x1 := (ibin .sub .i64 (ibin .add .i64 0 (List.getD a 0 0)) (List.getD b 0 0))
  let x2 := (ibin .sub .i64 (ibin .add .i64 (ibin .shr .i64 x1 26) (List.getD a 1 0)) (List.getD b 1 0))
  let x3 := (ibin .sub .i64 (ibin .add .i64 (ibin .shr .i64 x2 26) (List.getD a 2 0)) (List.getD b 2 0))
  let x4 := (ibin .sub .i64 (ibin .add .i64 (ibin .shr .i64 x3 26) (List.getD a 3 0)) (List.getD b 3 0))
  let x5 := (ibin .sub .i64 (ibin .add .i64 (ibin .shr .i64 x4 26) (List.getD a 4 0)) (List.getD b 4 0))
  let x6 := (ibin .sub .i64 (ibin .add .i64 (ibin .shr .i64 x5 26) (List.getD a 5 0)) (List.getD b 5 0))
  let x7 := (ibin .sub .i64 (ibin .add .i64 (ibin .shr .i64 x6 26) (List.getD a 6 0)) (List.getD b 6 0))
  let x8 := (ibin .sub .i64 (ibin .add .i64 (ibin .shr .i64 x7 26) (List.getD a 7 0)) (List.getD b 7 0))
  let x9 := (ibin .sub .i64 (ibin .add .i64 (ibin .shr .i64 x8 26) (List.getD a 8 0)) (List.getD b 8 0))
  [(ibin .and .i64 x1 67108863), (ibin .and .i64 x2 67108863), (ibin .and .i64 x3 67108863), (ibin .and .i64 x4 67108863), (ibin .and .i64 x5 67108863), (ibin .and .i64 x6 67108863), (ibin .and .i64 x7 67108863), (ibin .and .i64 x8 67108863), (ibin .and .i64 x9 67108863), (ibin .and .i64 (ibin .sub .i64 (ibin .add .i64 (ibin .shr .i64 x9 26) (List.getD a 9 0)) (List.getD b 9 0)) 67108863)]


def veilref01_least_l4 (N : Nat) (v : (Unit × Int × Unit × Bool) × (Unit × Unit × List Int)) : Option (((Unit × Int × Unit × Bool) × (Unit × Unit × List Int)) ⊕ (((Unit × Unit) × (Unit × Unit × List Int)) ⊕ (Unit × Unit))) :=
  cond v.1.2.2.2 (
    let x1 := (List.set v.2.2.2 0 (ibin .add .i64 (List.getD v.2.2.2 0 0) v.1.2.1))
    let x2 := (ibin .add .i64 0 (List.getD x1 0 0))
    let x3 := (List.set x1 0 (ibin .and .i64 x2 67108863))
    let x4 := (ibin .add .i64 (ibin .shr .i64 x2 26) (List.getD x3 1 0))
    let x5 := (List.set x3 1 (ibin .and .i64 x4 67108863))
    let x6 := (ibin .add .i64 (ibin .shr .i64 x4 26) (List.getD x5 2 0))
    let x7 := (List.set x5 2 (ibin .and .i64 x6 67108863))
    let x8 := (ibin .add .i64 (ibin .shr .i64 x6 26) (List.getD x7 3 0))
    let x9 := (List.set x7 3 (ibin .and .i64 x8 67108863))
    let x10 := (ibin .add .i64 (ibin .shr .i64 x8 26) (List.getD x9 4 0))
    let x11 := (List.set x9 4 (ibin .and .i64 x10 67108863))
    let x12 := (ibin .add .i64 (ibin .shr .i64 x10 26) (List.getD x11 5 0))
    let x13 := (List.set x11 5 (ibin .and .i64 x12 67108863))
    let x14 := (ibin .add .i64 (ibin .shr .i64 x12 26) (List.getD x13 6 0))
    let x15 := (List.set x13 6 (ibin .and .i64 x14 67108863))
    let x16 := (ibin .add .i64 (ibin .shr .i64 x14 26) (List.getD x15 7 0))
    let x17 := (List.set x15 7 (ibin .and .i64 x16 67108863))
    let x18 := (ibin .add .i64 (ibin .shr .i64 x16 26) (List.getD x17 8 0))
    let x19 := (List.set x17 8 (ibin .and .i64 x18 67108863))
    let x20 := (ibin .add .i64 (ibin .shr .i64 x18 26) (List.getD x19 9 0))
    let x21 := (List.set x19 9 (ibin .and .i64 x20 67108863))
    let x22 := (List.getD x21 9 0)
    let x23 := (ibin .add .i64 (ibin .mul .i64 608 (ibin .shr .i64 x20 26)) (ibin .mul .i64 19 (ibin .quo .i64 x22 2097152)))
    some (.inl (((), x23, (), (icmp .gtr x23 0)), ((), (), (List.set x21 9 (ibin .rem .i64 x22 2097152)))))
  ) (
    some (.inr (.inl (((), ()), ((), (), v.2.2.2))))
  )

def veilref01_least (N : Nat) (a : List Int) : Option (List Int) :=
  let x1 := (ibin .add .i64 0 (List.getD a 0 0))
  let x2 := (List.set a 0 (ibin .and .i64 x1 67108863))
  let x3 := (ibin .add .i64 (ibin .shr .i64 x1 26) (List.getD x2 1 0))
  let x4 := (List.set x2 1 (ibin .and .i64 x3 67108863))
  let x5 := (ibin .add .i64 (ibin .shr .i64 x3 26) (List.getD x4 2 0))
  let x6 := (List.set x4 2 (ibin .and .i64 x5 67108863))
  let x7 := (ibin .add .i64 (ibin .shr .i64 x5 26) (List.getD x6 3 0))
  let x8 := (List.set x6 3 (ibin .and .i64 x7 67108863))
  let x9 := (ibin .add .i64 (ibin .shr .i64 x7 26) (List.getD x8 4 0))
  let x10 := (List.set x8 4 (ibin .and .i64 x9 67108863))
  let x11 := (ibin .add .i64 (ibin .shr .i64 x9 26) (List.getD x10 5 0))
  let x12 := (List.set x10 5 (ibin .and .i64 x11 67108863))
  let x13 := (ibin .add .i64 (ibin .shr .i64 x11 26) (List.getD x12 6 0))
  let x14 := (List.set x12 6 (ibin .and .i64 x13 67108863))
  let x15 := (ibin .add .i64 (ibin .shr .i64 x13 26) (List.getD x14 7 0))
  let x16 := (List.set x14 7 (ibin .and .i64 x15 67108863))
  let x17 := (ibin .add .i64 (ibin .shr .i64 x15 26) (List.getD x16 8 0))
  let x18 := (List.set x16 8 (ibin .and .i64 x17 67108863))
  let x19 := (ibin .add .i64 (ibin .shr .i64 x17 26) (List.getD x18 9 0))
  let x20 := (List.set x18 9 (ibin .and .i64 x19 67108863))
  let x21 := (ibin .add .i64 (ibin .shr .i64 x19 26) (List.getD x20 10 0))
  let x22 := (List.set x20 10 (ibin .and .i64 x21 67108863))
  let x23 := (ibin .add .i64 (ibin .shr .i64 x21 26) (List.getD x22 11 0))
  let x24 := (List.set x22 11 (ibin .and .i64 x23 67108863))
  let x25 := (ibin .add .i64 (ibin .shr .i64 x23 26) (List.getD x24 12 0))
  let x26 := (List.set x24 12 (ibin .and .i64 x25 67108863))
  let x27 := (ibin .add .i64 (ibin .shr .i64 x25 26) (List.getD x26 13 0))
  let x28 := (List.set x26 13 (ibin .and .i64 x27 67108863))
  let x29 := (ibin .add .i64 (ibin .shr .i64 x27 26) (List.getD x28 14 0))
  let x30 := (List.set x28 14 (ibin .and .i64 x29 67108863))
  let x31 := (ibin .add .i64 (ibin .shr .i64 x29 26) (List.getD x30 15 0))
  let x32 := (List.set x30 15 (ibin .and .i64 x31 67108863))
  let x33 := (ibin .add .i64 (ibin .shr .i64 x31 26) (List.getD x32 16 0))
  let x34 := (List.set x32 16 (ibin .and .i64 x33 67108863))
  let x35 := (ibin .add .i64 (ibin .shr .i64 x33 26) (List.getD x34 17 0))
  let x36 := (List.set x34 17 (ibin .and .i64 x35 67108863))
  let x37 := (ibin .add .i64 (ibin .shr .i64 x35 26) (List.getD x36 18 0))
  let x38 := (List.set x36 18 (ibin .and .i64 x37 67108863))
  let x39 := (List.set x38 19 (ibin .and .i64 (ibin .add .i64 (ibin .shr .i64 x37 26) (List.getD x38 19 0)) 67108863))
  mo (loopF (veilref01_least_l4 N) N (((), 0, (), true), ((), (), [(ibin .add .i64 (List.getD x39 0 0) (ibin .mul .i64 608 (List.getD x39 10 0))), (ibin .add .i64 (List.getD x39 1 0) (ibin .mul .i64 608 (List.getD x39 11 0))), (ibin .add .i64 (List.getD x39 2 0) (ibin .mul .i64 608 (List.getD x39 12 0))), (ibin .add .i64 (List.getD x39 3 0) (ibin .mul .i64 608 (List.getD x39 13 0))), (ibin .add .i64 (List.getD x39 4 0) (ibin .mul .i64 608 (List.getD x39 14 0))), (ibin .add .i64 (List.getD x39 5 0) (ibin .mul .i64 608 (List.getD x39 15 0))), (ibin .add .i64 (List.getD x39 6 0) (ibin .mul .i64 608 (List.getD x39 16 0))), (ibin .add .i64 (List.getD x39 7 0) (ibin .mul .i64 608 (List.getD x39 17 0))), (ibin .add .i64 (List.getD x39 8 0) (ibin .mul .i64 608 (List.getD x39 18 0))), (ibin .add .i64 (List.getD x39 9 0) (ibin .mul .i64 608 (List.getD x39 19 0)))]))) none fun r5 =>
  match r5 with
  | .inl u6 => (
    cond (!(veilref01_below u6.2.2.2 [67108845, 67108863, 67108863, 67108863, 67108863, 67108863, 67108863, 67108863, 67108863, 2097151])) (
      some (veilref01_minus u6.2.2.2 [67108845, 67108863, 67108863, 67108863, 67108863, 67108863, 67108863, 67108863, 67108863, 2097151])
    ) (
      some u6.2.2.2
    )
  )
  | .inr _ => (
    none
  )


def veilref01_Of_l2 (N : Nat) (v : (Unit × Unit × Unit × Int × Int) × (List Int × Unit × List Int)) : Option (((Unit × Unit × Unit × Int × Int) × (List Int × Unit × List Int)) ⊕ (((Unit × Unit × Unit × Int) × (List Int × Unit × List Int)) ⊕ (Unit × Unit))) :=
  cond (icmp .lss v.1.2.2.2.2 64) (
    cond (decide (0 ≤ v.1.2.2.2.1 ∧ v.1.2.2.2.1 < ((5 : Nat) : Int))) (
      cond (decide (0 ≤ v.1.2.2.2.2)) (
        cond (icmp .eql (ibin .and .u64 (ibin .shr .u64 (List.getD v.2.1 (Int.toNat v.1.2.2.2.1) 0) v.1.2.2.2.2) 1) 1) (
          let x1 := (ibin .add .i64 (ibin .mul .i64 51 v.1.2.2.2.1) v.1.2.2.2.2)
          let x2 := (ibin .quo .i64 x1 26)
          let x3 := (decide (0 ≤ x2 ∧ x2 < ((20 : Nat) : Int)))
          cond x3 (
            let x4 := (ibin .rem .i64 x1 26)
            cond (decide (0 ≤ x4)) (
              cond x3 (
                some (.inl (((), (), (), v.1.2.2.2.1, (ibin .add .i64 v.1.2.2.2.2 1)), (v.2.1, (), (List.set v.2.2.2 (Int.toNat x2) (ibin .add .i64 (List.getD v.2.2.2 (Int.toNat x2) 0) (ibin .shl .i64 1 x4))))))
              ) (
                none
              )
            ) (
              none
            )
          ) (
            none
          )
        ) (
          some (.inl (((), (), (), v.1.2.2.2.1, (ibin .add .i64 v.1.2.2.2.2 1)), (v.2.1, (), v.2.2.2)))
        )
      ) (
        none
      )
    ) (
      none
    )
  ) (
    some (.inr (.inl (((), (), (), v.1.2.2.2.1), (v.2.1, (), v.2.2.2))))
  )

def veilref01_Of_l0 (N : Nat) (v : (Unit × Unit × Unit × Int) × (List Int × Unit × List Int)) : Option (((Unit × Unit × Unit × Int) × (List Int × Unit × List Int)) ⊕ (((Unit × Unit) × (Unit × List Int)) ⊕ (Unit × Unit))) :=
  cond (icmp .lss v.1.2.2.2 5) (
    mo (loopF (veilref01_Of_l2 N) N (((), (), (), v.1.2.2.2, 0), (v.2.1, (), v.2.2.2))) none fun r12 =>
    match r12 with
    | .inl u13 => (
      some (.inl (((), (), (), (ibin .add .i64 u13.1.2.2.2 1)), (u13.2.1, (), u13.2.2.2)))
    )
    | .inr w14 => (
      some (.inr (.inr ((), ())))
    )
  ) (
    some (.inr (.inl (((), ()), ((), v.2.2.2))))
  )

def veilref01_Of (N : Nat) (a : List Int) : Option (List Int) :=
  mo (loopF (veilref01_Of_l0 N) N (((), (), (), 0), (a, (), [0, 0, 0, 0, 0, 0, 0, 0, 0, 0, 0, 0, 0, 0, 0, 0, 0, 0, 0, 0]))) none fun r15 =>
  match r15 with
  | .inl u16 => (
    mo (veilref01_least N u16.2.2) none fun r17 =>
    some r17
  )
  | .inr _ => (
    none
  )


def veilref01_Small (N : Nat) (a : Int) : Option (List Int) :=
  mo (veilref01_least N [(IntKind.wrap .i64 (ibin .and .u64 a 67108863)), (IntKind.wrap .i64 (ibin .and .u64 (ibin .shr .u64 a 26) 67108863)), (IntKind.wrap .i64 (ibin .shr .u64 a 52)), 0, 0, 0, 0, 0, 0, 0, 0, 0, 0, 0, 0, 0, 0, 0, 0, 0]) none fun r1 =>
  some r1


def veilref01_F_Add (N : Nat) (a : List Int) (b : List Int) : Option (List Int) :=
  mo (veilref01_least N [(ibin .add .i64 (List.getD a 0 0) (List.getD b 0 0)), (ibin .add .i64 (List.getD a 1 0) (List.getD b 1 0)), (ibin .add .i64 (List.getD a 2 0) (List.getD b 2 0)), (ibin .add .i64 (List.getD a 3 0) (List.getD b 3 0)), (ibin .add .i64 (List.getD a 4 0) (List.getD b 4 0)), (ibin .add .i64 (List.getD a 5 0) (List.getD b 5 0)), (ibin .add .i64 (List.getD a 6 0) (List.getD b 6 0)), (ibin .add .i64 (List.getD a 7 0) (List.getD b 7 0)), (ibin .add .i64 (List.getD a 8 0) (List.getD b 8 0)), (ibin .add .i64 (List.getD a 9 0) (List.getD b 9 0)), 0, 0, 0, 0, 0, 0, 0, 0, 0, 0]) none fun r1 =>
  some r1


def veilref01_F_Neg (a : List Int) : List Int :=
  cond (decide (a = [0, 0, 0, 0, 0, 0, 0, 0, 0, 0])) (
    a
  ) (
    (veilref01_minus [67108845, 67108863, 67108863, 67108863, 67108863, 67108863, 67108863, 67108863, 67108863, 2097151] a)
  )

def veilref01_F_Neg_o (a : List Int) : Option (List Int) :=
  cond (decide (a = [0, 0, 0, 0, 0, 0, 0, 0, 0, 0])) (
    some a
  ) (
    some (veilref01_minus [67108845, 67108863, 67108863, 67108863, 67108863, 67108863, 67108863, 67108863, 67108863, 2097151] a)
  )

theorem veilref01_F_Neg_tot (a : List Int) : veilref01_F_Neg_o a = some (veilref01_F_Neg a) := by
  unfold veilref01_F_Neg_o veilref01_F_Neg
  repeat' (first | refine cond_tot ?_ ?_ | rfl)

def veilref01_F_Sub (N : Nat) (a : List Int) (b : List Int) : Option (List Int) :=
  mo (veilref01_F_Add N a (veilref01_F_Neg b)) none fun r1 =>
  some r1


def veilref01_F_Mul (N : Nat) (a : List Int) (b : List Int) : Option (List Int) :=
  mo (veilref01_least N [(ibin .add .i64 0 (ibin .mul .i64 (List.getD a 0 0) (List.getD b 0 0))), (ibin .add .i64 (ibin .add .i64 0 (ibin .mul .i64 (List.getD a 0 0) (List.getD b 1 0))) (ibin .mul .i64 (List.getD a 1 0) (List.getD b 0 0))), (ibin .add .i64 (ibin .add .i64 (ibin .add .i64 0 (ibin .mul .i64 (List.getD a 0 0) (List.getD b 2 0))) (ibin .mul .i64 (List.getD a 1 0) (List.getD b 1 0))) (ibin .mul .i64 (List.getD a 2 0) (List.getD b 0 0))), (ibin .add .i64 (ibin .add .i64 (ibin .add .i64 (ibin .add .i64 0 (ibin .mul .i64 (List.getD a 0 0) (List.getD b 3 0))) (ibin .mul .i64 (List.getD a 1 0) (List.getD b 2 0))) (ibin .mul .i64 (List.getD a 2 0) (List.getD b 1 0))) (ibin .mul .i64 (List.getD a 3 0) (List.getD b 0 0))), (ibin .add .i64 (ibin .add .i64 (ibin .add .i64 (ibin .add .i64 (ibin .add .i64 0 (ibin .mul .i64 (List.getD a 0 0) (List.getD b 4 0))) (ibin .mul .i64 (List.getD a 1 0) (List.getD b 3 0))) (ibin .mul .i64 (List.getD a 2 0) (List.getD b 2 0))) (ibin .mul .i64 (List.getD a 3 0) (List.getD b 1 0))) (ibin .mul .i64 (List.getD a 4 0) (List.getD b 0 0))), (ibin .add .i64 (ibin .add .i64 (ibin .add .i64 (ibin .add .i64 (ibin .add .i64 (ibin .add .i64 0 (ibin .mul .i64 (List.getD a 0 0) (List.getD b 5 0))) (ibin .mul .i64 (List.getD a 1 0) (List.getD b 4 0))) (ibin .mul .i64 (List.getD a 2 0) (List.getD b 3 0))) (ibin .mul .i64 (List.getD a 3 0) (List.getD b 2 0))) (ibin .mul .i64 (List.getD a 4 0) (List.getD b 1 0))) (ibin .mul .i64 (List.getD a 5 0) (List.getD b 0 0))), (ibin .add .i64 (ibin .add .i64 (ibin .add .i64 (ibin .add .i64 (ibin .add .i64 (ibin .add .i64 (ibin .add .i64 0 (ibin .mul .i64 (List.getD a 0 0) (List.getD b 6 0))) (ibin .mul .i64 (List.getD a 1 0) (List.getD b 5 0))) (ibin .mul .i64 (List.getD a 2 0) (List.getD b 4 0))) (ibin .mul .i64 (List.getD a 3 0) (List.getD b 3 0))) (ibin .mul .i64 (List.getD a 4 0) (List.getD b 2 0))) (ibin .mul .i64 (List.getD a 5 0) (List.getD b 1 0))) (ibin .mul .i64 (List.getD a 6 0) (List.getD b 0 0))), (ibin .add .i64 (ibin .add .i64 (ibin .add .i64 (ibin .add .i64 (ibin .add .i64 (ibin .add .i64 (ibin .add .i64 (ibin .add .i64 0 (ibin .mul .i64 (List.getD a 0 0) (List.getD b 7 0))) (ibin .mul .i64 (List.getD a 1 0) (List.getD b 6 0))) (ibin .mul .i64 (List.getD a 2 0) (List.getD b 5 0))) (ibin .mul .i64 (List.getD a 3 0) (List.getD b 4 0))) (ibin .mul .i64 (List.getD a 4 0) (List.getD b 3 0))) (ibin .mul .i64 (List.getD a 5 0) (List.getD b 2 0))) (ibin .mul .i64 (List.getD a 6 0) (List.getD b 1 0))) (ibin .mul .i64 (List.getD a 7 0) (List.getD b 0 0))), (ibin .add .i64 (ibin .add .i64 (ibin .add .i64 (ibin .add .i64 (ibin .add .i64 (ibin .add .i64 (ibin .add .i64 (ibin .add .i64 (ibin .add .i64 0 (ibin .mul .i64 (List.getD a 0 0) (List.getD b 8 0))) (ibin .mul .i64 (List.getD a 1 0) (List.getD b 7 0))) (ibin .mul .i64 (List.getD a 2 0) (List.getD b 6 0))) (ibin .mul .i64 (List.getD a 3 0) (List.getD b 5 0))) (ibin .mul .i64 (List.getD a 4 0) (List.getD b 4 0))) (ibin .mul .i64 (List.getD a 5 0) (List.getD b 3 0))) (ibin .mul .i64 (List.getD a 6 0) (List.getD b 2 0))) (ibin .mul .i64 (List.getD a 7 0) (List.getD b 1 0))) (ibin .mul .i64 (List.getD a 8 0) (List.getD b 0 0))), (ibin .add .i64 (ibin .add .i64 (ibin .add .i64 (ibin .add .i64 (ibin .add .i64 (ibin .add .i64 (ibin .add .i64 (ibin .add .i64 (ibin .add .i64 (ibin .add .i64 0 (ibin .mul .i64 (List.getD a 0 0) (List.getD b 9 0))) (ibin .mul .i64 (List.getD a 1 0) (List.getD b 8 0))) (ibin .mul .i64 (List.getD a 2 0) (List.getD b 7 0))) (ibin .mul .i64 (List.getD a 3 0) (List.getD b 6 0))) (ibin .mul .i64 (List.getD a 4 0) (List.getD b 5 0))) (ibin .mul .i64 (List.getD a 5 0) (List.getD b 4 0))) (ibin .mul .i64 (List.getD a 6 0) (List.getD b 3 0))) (ibin .mul .i64 (List.getD a 7 0) (List.getD b 2 0))) (ibin .mul .i64 (List.getD a 8 0) (List.getD b 1 0))) (ibin .mul .i64 (List.getD a 9 0) (List.getD b 0 0))), (ibin .add .i64 (ibin .add .i64 (ibin .add .i64 (ibin .add .i64 (ibin .add .i64 (ibin .add .i64 (ibin .add .i64 (ibin .add .i64 (ibin .add .i64 0 (ibin .mul .i64 (List.getD a 1 0) (List.getD b 9 0))) (ibin .mul .i64 (List.getD a 2 0) (List.getD b 8 0))) (ibin .mul .i64 (List.getD a 3 0) (List.getD b 7 0))) (ibin .mul .i64 (List.getD a 4 0) (List.getD b 6 0))) (ibin .mul .i64 (List.getD a 5 0) (List.getD b 5 0))) (ibin .mul .i64 (List.getD a 6 0) (List.getD b 4 0))) (ibin .mul .i64 (List.getD a 7 0) (List.getD b 3 0))) (ibin .mul .i64 (List.getD a 8 0) (List.getD b 2 0))) (ibin .mul .i64 (List.getD a 9 0) (List.getD b 1 0))), (ibin .add .i64 (ibin .add .i64 (ibin .add .i64 (ibin .add .i64 (ibin .add .i64 (ibin .add .i64 (ibin .add .i64 (ibin .add .i64 0 (ibin .mul .i64 (List.getD a 2 0) (List.getD b 9 0))) (ibin .mul .i64 (List.getD a 3 0) (List.getD b 8 0))) (ibin .mul .i64 (List.getD a 4 0) (List.getD b 7 0))) (ibin .mul .i64 (List.getD a 5 0) (List.getD b 6 0))) (ibin .mul .i64 (List.getD a 6 0) (List.getD b 5 0))) (ibin .mul .i64 (List.getD a 7 0) (List.getD b 4 0))) (ibin .mul .i64 (List.getD a 8 0) (List.getD b 3 0))) (ibin .mul .i64 (List.getD a 9 0) (List.getD b 2 0))), (ibin .add .i64 (ibin .add .i64 (ibin .add .i64 (ibin .add .i64 (ibin .add .i64 (ibin .add .i64 (ibin .add .i64 0 (ibin .mul .i64 (List.getD a 3 0) (List.getD b 9 0))) (ibin .mul .i64 (List.getD a 4 0) (List.getD b 8 0))) (ibin .mul .i64 (List.getD a 5 0) (List.getD b 7 0))) (ibin .mul .i64 (List.getD a 6 0) (List.getD b 6 0))) (ibin .mul .i64 (List.getD a 7 0) (List.getD b 5 0))) (ibin .mul .i64 (List.getD a 8 0) (List.getD b 4 0))) (ibin .mul .i64 (List.getD a 9 0) (List.getD b 3 0))), (ibin .add .i64 (ibin .add .i64 (ibin .add .i64 (ibin .add .i64 (ibin .add .i64 (ibin .add .i64 0 (ibin .mul .i64 (List.getD a 4 0) (List.getD b 9 0))) (ibin .mul .i64 (List.getD a 5 0) (List.getD b 8 0))) (ibin .mul .i64 (List.getD a 6 0) (List.getD b 7 0))) (ibin .mul .i64 (List.getD a 7 0) (List.getD b 6 0))) (ibin .mul .i64 (List.getD a 8 0) (List.getD b 5 0))) (ibin .mul .i64 (List.getD a 9 0) (List.getD b 4 0))), (ibin .add .i64 (ibin .add .i64 (ibin .add .i64 (ibin .add .i64 (ibin .add .i64 0 (ibin .mul .i64 (List.getD a 5 0) (List.getD b 9 0))) (ibin .mul .i64 (List.getD a 6 0) (List.getD b 8 0))) (ibin .mul .i64 (List.getD a 7 0) (List.getD b 7 0))) (ibin .mul .i64 (List.getD a 8 0) (List.getD b 6 0))) (ibin .mul .i64 (List.getD a 9 0) (List.getD b 5 0))), (ibin .add .i64 (ibin .add .i64 (ibin .add .i64 (ibin .add .i64 0 (ibin .mul .i64 (List.getD a 6 0) (List.getD b 9 0))) (ibin .mul .i64 (List.getD a 7 0) (List.getD b 8 0))) (ibin .mul .i64 (List.getD a 8 0) (List.getD b 7 0))) (ibin .mul .i64 (List.getD a 9 0) (List.getD b 6 0))), (ibin .add .i64 (ibin .add .i64 (ibin .add .i64 0 (ibin .mul .i64 (List.getD a 7 0) (List.getD b 9 0))) (ibin .mul .i64 (List.getD a 8 0) (List.getD b 8 0))) (ibin .mul .i64 (List.getD a 9 0) (List.getD b 7 0))), (ibin .add .i64 (ibin .add .i64 0 (ibin .mul .i64 (List.getD a 8 0) (List.getD b 9 0))) (ibin .mul .i64 (List.getD a 9 0) (List.getD b 8 0))), (ibin .add .i64 0 (ibin .mul .i64 (List.getD a 9 0) (List.getD b 9 0))), 0]) none fun r1 =>
  some r1


def veilref01_F_ones_l0 (N : Nat) (v : (Int × Unit × Unit × Unit × Unit × Int) × (List Int × Unit × List Int × List Int)) : Option (((Int × Unit × Unit × Unit × Unit × Int) × (List Int × Unit × List Int × List Int)) ⊕ (((Int × Unit × Unit × Unit × Unit) × (List Int × Unit × List Int × List Int)) ⊕ (Unit × Unit))) :=
  cond (icmp .lss v.1.2.2.2.2.2 (ibin .quo .i64 v.1.1 2)) (
    mo (veilref01_F_Mul N v.2.2.2.2 v.2.2.2.2) none fun r11 =>
    some (.inl ((v.1.1, (), (), (), (), (ibin .add .i64 v.1.2.2.2.2.2 1)), (v.2.1, (), v.2.2.2.1, r11)))
  ) (
    some (.inr (.inl ((v.1.1, (), (), (), ()), (v.2.1, (), v.2.2.2.1, v.2.2.2.2))))
  )

def veilref01_F_ones_step (rec : List Int → Int → Option (List Int)) (N : Nat) (a : List Int) (b : Int) : Option (List Int) :=
  cond (icmp .eql b 1) (
    some a
  ) (
    mo (rec a (ibin .quo .i64 b 2)) none fun r1 =>
    mo (loopF (veilref01_F_ones_l0 N) N ((b, (), (), (), (), 0), (a, (), r1, r1))) none fun r12 =>
    match r12 with
    | .inl u13 => (
      mo (veilref01_F_Mul N u13.2.2.2.2 u13.2.2.2.1) none fun r14 =>
      cond (icmp .eql (ibin .rem .i64 u13.1.1 2) 1) (
        mo (veilref01_F_Mul N r14 r14) none fun r15 =>
        mo (veilref01_F_Mul N r15 u13.2.1) none fun r16 =>
        some r16
      ) (
        some r14
      )
    )
    | .inr _ => (
      none
    )
  )

def veilref01_F_ones_go (N : Nat) : Nat → List Int → Int → Option (List Int)
  | 0 => fun _ _ => none
  | m + 1 => veilref01_F_ones_step (veilref01_F_ones_go N m) N
def veilref01_F_ones (N : Nat) (a : List Int) (b : Int) : Option (List Int) := veilref01_F_ones_go N N a b

def veilref01_F_Invert (N : Nat) (a : List Int) : Option (List Int) :=
  mo (veilref01_F_ones N a 250) none fun r1 =>
  mo (veilref01_F_Mul N r1 r1) none fun r2 =>
  mo (veilref01_F_Mul N r2 r2) none fun r3 =>
  mo (veilref01_F_Mul N r3 r3) none fun r4 =>
  mo (veilref01_F_Mul N r4 r4) none fun r5 =>
  mo (veilref01_F_Mul N r5 r5) none fun r6 =>
  mo (veilref01_F_Mul N a a) none fun r7 =>
  mo (veilref01_F_Mul N r7 r7) none fun r8 =>
  mo (veilref01_F_Mul N r8 r7) none fun r9 =>
  mo (veilref01_F_Mul N r9 r7) none fun r10 =>
  mo (veilref01_F_Mul N r6 r10) none fun r11 =>
  mo (veilref01_F_Mul N r11 r7) none fun r12 =>
  mo (veilref01_F_Mul N r12 a) none fun r13 =>
  some r13


def veilref01_F_Negative (a : List Int) : Bool :=
  (icmp .eql (ibin .and .i64 (List.getD a 0 0) 1) 1)


def veilref01_F_Abs (a : List Int) : List Int :=
  cond (icmp .eql (ibin .and .i64 (List.getD a 0 0) 1) 1) (
    (veilref01_F_Neg a)
  ) (
    a
  )

def veilref01_F_Abs_o (a : List Int) : Option (List Int) :=
  cond (icmp .eql (ibin .and .i64 (List.getD a 0 0) 1) 1) (
    some (veilref01_F_Neg a)
  ) (
    some a
  )

theorem veilref01_F_Abs_tot (a : List Int) : veilref01_F_Abs_o a = some (veilref01_F_Abs a) := by
  unfold veilref01_F_Abs_o veilref01_F_Abs
  repeat' (first | refine cond_tot ?_ ?_ | rfl)

def veilref01_I  : List Int :=
  [34513072, 59165138, 38243406, 1750207, 53429016, 58652137, 13633939, 58469549, 8409025, 712905]


def veilref01_D  : List Int :=
  [56195235, 47411844, 25868126, 20251911, 28682, 31357478, 7604119, 66702899, 15608687, 1343707]


def veilref01_root (N : Nat) (a : List Int) : Option ((List Int × Bool)) :=
  mo (veilref01_F_ones N a 251) none fun r1 =>
  mo (veilref01_F_Mul N r1 r1) none fun r2 =>
  mo (veilref01_F_Mul N r2 r2) none fun r3 =>
  cond (decide (r3 = a)) (
    some ((veilref01_F_Abs r2), true)
  ) (
    mo (veilref01_F_Mul N r2 veilref01_I) none fun r4 =>
    mo (veilref01_F_Mul N r4 r4) none fun r5 =>
    cond (decide (r5 = a)) (
      some ((veilref01_F_Abs r4), true)
    ) (
      mo (veilref01_F_Mul N r4 veilref01_I) none fun r6 =>
      some ([0, 0, 0, 0, 0, 0, 0, 0, 0, 0], false)
    )
  )


def veilref01_SqrtRatio (N : Nat) (a : List Int) (b : List Int) : Option ((List Int × Bool)) :=
  cond (decide (a = [0, 0, 0, 0, 0, 0, 0, 0, 0, 0])) (
    some ([0, 0, 0, 0, 0, 0, 0, 0, 0, 0], true)
  ) (
    cond (decide (b = [0, 0, 0, 0, 0, 0, 0, 0, 0, 0])) (
      some ([0, 0, 0, 0, 0, 0, 0, 0, 0, 0], false)
    ) (
      mo (veilref01_F_Invert N b) none fun r1 =>
      mo (veilref01_F_Mul N a r1) none fun r2 =>
      mo (veilref01_root N r2) none fun r3 =>
      cond r3.2 (
        some (r3.1, true)
      ) (
        mo (veilref01_F_Mul N r2 veilref01_I) none fun r4 =>
        mo (veilref01_root N r4) none fun r5 =>
        some (r5.1, false)
      )
    )
  )


def veilref01_Const (N : Nat) (a : Int) : Option (List Int) :=
  cond (icmp .eql a 1) (
    some veilref01_I
  ) (
    cond (icmp .eql a 2) (
      some veilref01_D
    ) (
      cond (icmp .eql a 3) (
        mo (veilref01_F_Sub N (veilref01_F_Neg veilref01_D) [1, 0, 0, 0, 0, 0, 0, 0, 0, 0]) none fun r1 =>
        mo (veilref01_root N r1) none fun r2 =>
        some (veilref01_F_Neg r2.1)
      ) (
        cond (icmp .eql a 4) (
          mo (veilref01_F_Sub N (veilref01_F_Neg [1, 0, 0, 0, 0, 0, 0, 0, 0, 0]) veilref01_D) none fun r3 =>
          mo (veilref01_root N r3) none fun r4 =>
          mo (veilref01_F_Invert N r4.1) none fun r5 =>
          some (veilref01_F_Abs r5)
        ) (
          cond (icmp .eql a 5) (
            mo (veilref01_F_Mul N veilref01_D veilref01_D) none fun r6 =>
            mo (veilref01_F_Sub N [1, 0, 0, 0, 0, 0, 0, 0, 0, 0] r6) none fun r7 =>
            some r7
          ) (
            cond (icmp .eql a 6) (
              mo (veilref01_F_Sub N veilref01_D [1, 0, 0, 0, 0, 0, 0, 0, 0, 0]) none fun r8 =>
              mo (veilref01_F_Mul N r8 r8) none fun r9 =>
              some r9
            ) (
              some [0, 0, 0, 0, 0, 0, 0, 0, 0, 0]
            )
          )
        )
      )
    )
  )


def veilref01_F_Encode_l0 (N : Nat) (v : (Unit × Unit × Unit × Int) × (List Int × Unit × List Int)) : Option (((Unit × Unit × Unit × Int) × (List Int × Unit × List Int)) ⊕ (((Unit × Unit) × (Unit × List Int)) ⊕ (Unit × Unit))) :=
  cond (icmp .lss v.1.2.2.2 255) (
    let x1 := (ibin .quo .i64 v.1.2.2.2 26)
    cond (decide (0 ≤ x1 ∧ x1 < ((10 : Nat) : Int))) (
      let x2 := (ibin .rem .i64 v.1.2.2.2 26)
      cond (decide (0 ≤ x2)) (
        cond (icmp .eql (ibin .and .i64 (ibin .shr .i64 (List.getD v.2.1 (Int.toNat x1) 0) x2) 1) 1) (
          let x3 := (ibin .quo .i64 v.1.2.2.2 8)
          let x4 := (decide (0 ≤ x3 ∧ x3 < ((32 : Nat) : Int)))
          cond x4 (
            let x5 := (ibin .rem .i64 v.1.2.2.2 8)
            cond (decide (0 ≤ x5)) (
              cond x4 (
                some (.inl (((), (), (), (ibin .add .i64 v.1.2.2.2 1)), (v.2.1, (), (List.set v.2.2.2 (Int.toNat x3) (ibin .add .u8 (List.getD v.2.2.2 (Int.toNat x3) 0) (ibin .shl .u8 1 x5))))))
              ) (
                none
              )
            ) (
              none
            )
          ) (
            none
          )
        ) (
          some (.inl (((), (), (), (ibin .add .i64 v.1.2.2.2 1)), (v.2.1, (), v.2.2.2)))
        )
      ) (
        none
      )
    ) (
      none
    )
  ) (
    some (.inr (.inl (((), ()), ((), v.2.2.2))))
  )

def veilref01_F_Encode (N : Nat) (a : List Int) : Option (List Int) :=
  mo (loopF (veilref01_F_Encode_l0 N) N (((), (), (), 0), (a, (), [0, 0, 0, 0, 0, 0, 0, 0, 0, 0, 0, 0, 0, 0, 0, 0, 0, 0, 0, 0, 0, 0, 0, 0, 0, 0, 0, 0, 0, 0, 0, 0]))) none fun r5 =>
  match r5 with
  | .inl u6 => (
    some u6.2.2
  )
  | .inr _ => (
    none
  )


def veilref01_Number_l0 (N : Nat) (v : (Nat × Unit × Unit × Int) × ((Nat × List Int) × Unit × List Int)) : Option (((Nat × Unit × Unit × Int) × ((Nat × List Int) × Unit × List Int)) ⊕ (((Unit × Unit) × (Unit × List Int)) ⊕ (Unit × Unit))) :=
  cond (icmp .lss v.1.2.2.2 (ibin .mul .i64 8 ((v.1.1 : Nat) : Int))) (
    let x1 := (ibin .quo .i64 v.1.2.2.2 8)
    cond (decide (0 ≤ x1 ∧ x1 < ((v.1.1 : Nat) : Int))) (
      let x2 := (ibin .rem .i64 v.1.2.2.2 8)
      cond (decide (0 ≤ x2)) (
        cond (icmp .eql (ibin .and .u8 (ibin .shr .u8 (List.getD v.2.1.2 (Int.toNat x1) 0) x2) 1) 1) (
          let x3 := (ibin .quo .i64 v.1.2.2.2 26)
          let x4 := (decide (0 ≤ x3 ∧ x3 < ((20 : Nat) : Int)))
          cond x4 (
            let x5 := (ibin .rem .i64 v.1.2.2.2 26)
            cond (decide (0 ≤ x5)) (
              cond x4 (
                some (.inl ((v.1.1, (), (), (ibin .add .i64 v.1.2.2.2 1)), ((v.2.1.1, v.2.1.2), (), (List.set v.2.2.2 (Int.toNat x3) (ibin .add .i64 (List.getD v.2.2.2 (Int.toNat x3) 0) (ibin .shl .i64 1 x5))))))
              ) (
                none
              )
            ) (
              none
            )
          ) (
            none
          )
        ) (
          some (.inl ((v.1.1, (), (), (ibin .add .i64 v.1.2.2.2 1)), ((v.2.1.1, v.2.1.2), (), v.2.2.2)))
        )
      ) (
        none
      )
    ) (
      none
    )
  ) (
    some (.inr (.inl (((), ()), ((), v.2.2.2))))
  )

def veilref01_Number (N : Nat) (a : ((Nat × List Int) × Unit)) : Option (List Int) :=
  mo (loopF (veilref01_Number_l0 N) N ((a.1.1, (), (), 0), ((a.1.1, a.1.2), (), [0, 0, 0, 0, 0, 0, 0, 0, 0, 0, 0, 0, 0, 0, 0, 0, 0, 0, 0, 0]))) none fun r9 =>
  match r9 with
  | .inl u10 => (
    mo (veilref01_least N u10.2.2) none fun r11 =>
    some r11
  )
  | .inr _ => (
    none
  )


def veilref01_Decode (N : Nat) (a : List Int) : Option ((List Int × Int)) :=
  mo (veilref01_Number N ((32, a), ())) none fun r1 =>
  mo (veilref01_F_Encode N r1) none fun r2 =>
  cond (!(decide (r2 = a))) (
    some ([0, 0, 0, 0, 0, 0, 0, 0, 0, 0], 3)
  ) (
    some (r1, 0)
  )


def veilref01_Reduce (N : Nat) (a : List Int) : Option (List Int) :=
  mo (veilref01_Number N ((32, (List.set a 31 (ibin .and .u8 (List.getD a 31 0) 127))), ())) none fun r1 =>
  some r1


def curve_place_whole (a : (List Int × List Int × List Int × List Int)) : (List Int × List Int × List Int × List Int) :=
  cond (decide (a.2.2.1 = [0, 0, 0, 0, 0])) (
    ([0, 0, 0, 0, 0], [1, 0, 0, 0, 0], [1, 0, 0, 0, 0], [0, 0, 0, 0, 0])
  ) (
    (a.1, a.2.1, a.2.2.1, a.2.2.2)
  )

def curve_place_whole_o (a : (List Int × List Int × List Int × List Int)) : Option ((List Int × List Int × List Int × List Int)) :=
  cond (decide (a.2.2.1 = [0, 0, 0, 0, 0])) (
    some ([0, 0, 0, 0, 0], [1, 0, 0, 0, 0], [1, 0, 0, 0, 0], [0, 0, 0, 0, 0])
  ) (
    some (a.1, a.2.1, a.2.2.1, a.2.2.2)
  )

theorem curve_place_whole_tot (a : (List Int × List Int × List Int × List Int)) : curve_place_whole_o a = some (curve_place_whole a) := by
  unfold curve_place_whole_o curve_place_whole
  repeat' (first | refine cond_tot ?_ ?_ | rfl)

def curve_at (a : List Int) (b : List Int) : Option ((List Int × List Int × List Int × List Int)) :=
  mo (field_Elem_Mul a b) none fun r1 =>
  some (a, b, [1, 0, 0, 0, 0], r1)


def curve_made (a : List Int) (b : List Int) (c : List Int) (d : List Int) : Option ((List Int × List Int × List Int × List Int)) :=
  mo (field_Elem_Mul a b) none fun r1 =>
  mo (field_Elem_Mul c d) none fun r2 =>
  mo (field_Elem_Mul b c) none fun r3 =>
  mo (field_Elem_Mul a d) none fun r4 =>
  some (r1, r2, r3, r4)


def curve_Point_Add (a : (List Int × List Int × List Int × List Int)) (b : (List Int × List Int × List Int × List Int)) : Option ((List Int × List Int × List Int × List Int)) :=
  mo (field_Elem_Mul (field_Elem_Sub (curve_place_whole (a.1, a.2.1, a.2.2.1, a.2.2.2)).2.1 (curve_place_whole (a.1, a.2.1, a.2.2.1, a.2.2.2)).1) (field_Elem_Sub (curve_place_whole (b.1, b.2.1, b.2.2.1, b.2.2.2)).2.1 (curve_place_whole (b.1, b.2.1, b.2.2.1, b.2.2.2)).1)) none fun r1 =>
  mo (field_Elem_Mul (field_Elem_Add (curve_place_whole (a.1, a.2.1, a.2.2.1, a.2.2.2)).2.1 (curve_place_whole (a.1, a.2.1, a.2.2.1, a.2.2.2)).1) (field_Elem_Add (curve_place_whole (b.1, b.2.1, b.2.2.1, b.2.2.2)).2.1 (curve_place_whole (b.1, b.2.1, b.2.2.1, b.2.2.2)).1)) none fun r2 =>
  mo (field_Elem_Mul (curve_place_whole (a.1, a.2.1, a.2.2.1, a.2.2.2)).2.2.2 [1859910466990425, 932731440258426, 1072319116312658, 1815898335770999, 633789495995903]) none fun r3 =>
  mo (field_Elem_Mul r3 (curve_place_whole (b.1, b.2.1, b.2.2.1, b.2.2.2)).2.2.2) none fun r4 =>
  mo (field_Elem_Mul (curve_place_whole (a.1, a.2.1, a.2.2.1, a.2.2.2)).2.2.1 (curve_place_whole (b.1, b.2.1, b.2.2.1, b.2.2.2)).2.2.1) none fun r5 =>
  mo (curve_made (field_Elem_Sub r2 r1) (field_Elem_Sub (field_Elem_Add r5 r5) r4) (field_Elem_Add (field_Elem_Add r5 r5) r4) (field_Elem_Add r2 r1)) none fun r6 =>
  some (r6.1, r6.2.1, r6.2.2.1, r6.2.2.2)


def curve_Point_Affine (N : Nat) (a : (List Int × List Int × List Int × List Int)) : Option ((List Int × List Int)) :=
  mo (field_Elem_Invert N (curve_place_whole (a.1, a.2.1, a.2.2.1, a.2.2.2)).2.2.1) none fun r1 =>
  mo (field_Elem_Mul (curve_place_whole (a.1, a.2.1, a.2.2.1, a.2.2.2)).1 r1) none fun r2 =>
  mo (field_Elem_Mul (curve_place_whole (a.1, a.2.1, a.2.2.1, a.2.2.2)).2.1 r1) none fun r3 =>
  some (r2, r3)


def curve_FromAffine (a : List Int) (b : List Int) : Option (((List Int × List Int × List Int × List Int) × Int)) :=
  mo (field_Elem_Square (field_Elem_Least a)) none fun r1 =>
  mo (field_Elem_Square (field_Elem_Least b)) none fun r2 =>
  mo (field_Const 2) none fun r3 =>
  mo (field_Elem_Mul r3 r1) none fun r4 =>
  mo (field_Elem_Mul r4 r2) none fun r5 =>
  cond (!(decide ((field_Elem_Sub r2 r1) = (field_Elem_Add [1, 0, 0, 0, 0] r5)))) (
    some (([0, 0, 0, 0, 0], [0, 0, 0, 0, 0], [0, 0, 0, 0, 0], [0, 0, 0, 0, 0]), 40)
  ) (
    mo (curve_at (field_Elem_Least a) (field_Elem_Least b)) none fun r6 =>
    some ((r6.1, r6.2.1, r6.2.2.1, r6.2.2.2), 0)
  )


def curve_Base  : (List Int × List Int × List Int × List Int) :=
  ([1738742601995546, 1146398526822698, 2070867633025821, 562264141797630, 587772402128613], [1801439850948184, 1351079888211148, 450359962737049, 900719925474099, 1801439850948198], [1, 0, 0, 0, 0], [1841354044333475, 16398895984059, 755974180946558, 900171276175154, 1821297809914039])


def veilref04_Neutral  : (List Int × List Int) :=
  ([0, 0, 0, 0, 0, 0, 0, 0, 0, 0], [1, 0, 0, 0, 0, 0, 0, 0, 0, 0])


def veilref04_Point_Add (N : Nat) (a : (List Int × List Int)) (b : (List Int × List Int)) : Option ((List Int × List Int)) :=
  mo (veilref01_F_Mul N a.1 b.2) none fun r1 =>
  mo (veilref01_F_Mul N a.2 b.1) none fun r2 =>
  mo (veilref01_F_Mul N a.1 b.1) none fun r3 =>
  mo (veilref01_F_Mul N a.2 b.2) none fun r4 =>
  mo (veilref01_F_Mul N veilref01_D r3) none fun r5 =>
  mo (veilref01_F_Mul N r5 r4) none fun r6 =>
  mo (veilref01_F_Add N [1, 0, 0, 0, 0, 0, 0, 0, 0, 0] r6) none fun r7 =>
  mo (veilref01_F_Sub N [1, 0, 0, 0, 0, 0, 0, 0, 0, 0] r6) none fun r8 =>
  mo (veilref01_F_Mul N r7 r8) none fun r9 =>
  mo (veilref01_F_Invert N r9) none fun r10 =>
  mo (veilref01_F_Add N r1 r2) none fun r11 =>
  mo (veilref01_F_Mul N r11 r8) none fun r12 =>
  mo (veilref01_F_Mul N r12 r10) none fun r13 =>
  mo (veilref01_F_Add N r4 r3) none fun r14 =>
  mo (veilref01_F_Mul N r14 r7) none fun r15 =>
  mo (veilref01_F_Mul N r15 r10) none fun r16 =>
  some (r13, r16)


def veilref04_XOf (N : Nat) (a : List Int) : Option ((List Int × Bool)) :=
  mo (veilref01_F_Mul N a a) none fun r1 =>
  mo (veilref01_F_Sub N r1 [1, 0, 0, 0, 0, 0, 0, 0, 0, 0]) none fun r2 =>
  mo (veilref01_F_Mul N veilref01_D r1) none fun r3 =>
  mo (veilref01_F_Add N r3 [1, 0, 0, 0, 0, 0, 0, 0, 0, 0]) none fun r4 =>
  mo (veilref01_SqrtRatio N r2 r4) none fun r5 =>
  some (r5.1, r5.2)


def veilref04_Base (N : Nat)  : Option ((List Int × List Int)) :=
  mo (veilref01_Small N 4) none fun r1 =>
  mo (veilref01_Small N 5) none fun r2 =>
  mo (veilref01_F_Invert N r2) none fun r3 =>
  mo (veilref01_F_Mul N r1 r3) none fun r4 =>
  mo (veilref04_XOf N r4) none fun r5 =>
  some (r5.1, r4)


def group_pick (a : Bool) : Int :=
  cond a (
    1
  ) (
    0
  )

def group_pick_o (a : Bool) : Option (Int) :=
  cond a (
    some 1
  ) (
    some 0
  )

theorem group_pick_tot (a : Bool) : group_pick_o a = some (group_pick a) := by
  unfold group_pick_o group_pick
  repeat' (first | refine cond_tot ?_ ?_ | rfl)

def group_Base  : (List Int × List Int × List Int × List Int) :=
  (curve_Base.1, curve_Base.2.1, curve_Base.2.2.1, curve_Base.2.2.2)


def group_Point_Add (a : (List Int × List Int × List Int × List Int)) (b : (List Int × List Int × List Int × List Int)) : Option ((List Int × List Int × List Int × List Int)) :=
  mo (curve_Point_Add (a.1, a.2.1, a.2.2.1, a.2.2.2) (b.1, b.2.1, b.2.2.1, b.2.2.2)) none fun r1 =>
  some (r1.1, r1.2.1, r1.2.2.1, r1.2.2.2)


def group_Point_Encode (N : Nat) (a : (List Int × List Int × List Int × List Int)) : Option (List Int) :=
  mo (curve_Point_Affine N (a.1, a.2.1, a.2.2.1, a.2.2.2)) none fun r1 =>
  mo (field_Elem_Mul r1.1 r1.2) none fun r2 =>
  mo (field_Elem_Mul (field_Elem_Add (field_Elem_One r1.1) r1.2) (field_Elem_Sub (field_Elem_One r1.1) r1.2)) none fun r3 =>
  mo (field_Elem_Square r2) none fun r4 =>
  mo (field_Elem_Mul r3 r4) none fun r5 =>
  mo (field_SqrtRatio N (field_Elem_One r1.1) r5) none fun r6 =>
  mo (field_Elem_Mul r6.1 r3) none fun r7 =>
  mo (field_Elem_Mul r6.1 r2) none fun r8 =>
  mo (field_Elem_Mul r7 r8) none fun r9 =>
  mo (field_Elem_Mul r9 r2) none fun r10 =>
  mo (field_Elem_Mul r2 r10) none fun r11 =>
  mo (field_Const 1) none fun r12 =>
  mo (field_Elem_Mul r1.1 r12) none fun r13 =>
  mo (field_Elem_Mul r1.2 r12) none fun r14 =>
  mo (field_Const 4) none fun r15 =>
  mo (field_Elem_Mul r7 r15) none fun r16 =>
  mo (field_Elem_Mul (field_Select (group_pick (field_Elem_Negative r11)) r14 r1.1) r10) none fun r17 =>
  let x1 := (field_Select (group_pick (field_Elem_Negative r11)) r13 r1.2)
  mo (field_Elem_Mul (field_Select (group_pick (field_Elem_Negative r11)) r16 r8) (field_Elem_Sub (field_Elem_One r1.1) (field_Select (group_pick (field_Elem_Negative r17)) (field_Elem_Neg x1) x1))) none fun r18 =>
  some (field_Elem_Encode (field_Elem_Abs r18))


def group_Point_Decode (N : Nat) (a : (List Int × List Int × List Int × List Int)) (b : List Int) : Option (((List Int × List Int × List Int × List Int) × Int)) :=
  cond (icmp .neq (field_Decode b).2 0) (
    some (([0, 0, 0, 0, 0], [0, 0, 0, 0, 0], [0, 0, 0, 0, 0], [0, 0, 0, 0, 0]), 3)
  ) (
    cond (field_Elem_Negative (field_Decode b).1) (
      some (([0, 0, 0, 0, 0], [0, 0, 0, 0, 0], [0, 0, 0, 0, 0], [0, 0, 0, 0, 0]), 3)
    ) (
      mo (field_Elem_Square (field_Decode b).1) none fun r1 =>
      mo (field_Const 2) none fun r2 =>
      let x1 := (field_Elem_One (field_Decode b).1)
      let x2 := (field_Elem_Sub x1 r1)
      mo (field_Elem_Square x2) none fun r3 =>
      mo (field_Elem_Mul r2 r3) none fun r4 =>
      let x3 := (field_Elem_Add x1 r1)
      let x4 := (field_Elem_Square x3)
      mo x4 none fun r5 =>
      mo x4 none fun r6 =>
      let x5 := (field_Elem_Sub (field_Elem_Neg r4) r5)
      mo (field_Elem_Mul x5 r6) none fun r7 =>
      mo (field_SqrtRatio N x1 r7) none fun r8 =>
      let x6 := (field_Elem_Mul r8.1 x3)
      mo x6 none fun r9 =>
      mo (field_Elem_Mul (field_Elem_Add (field_Decode b).1 (field_Decode b).1) r9) none fun r10 =>
      mo (field_Elem_Mul x2 r8.1) none fun r11 =>
      mo x6 none fun r12 =>
      mo (field_Elem_Mul r11 r12) none fun r13 =>
      mo (field_Elem_Mul r13 x5) none fun r14 =>
      cond (!r8.2) (
        some (([0, 0, 0, 0, 0], [0, 0, 0, 0, 0], [0, 0, 0, 0, 0], [0, 0, 0, 0, 0]), 50)
      ) (
        mo (field_Elem_Mul (field_Elem_Abs r10) r14) none fun r15 =>
        cond (field_Elem_Negative r15) (
          some (([0, 0, 0, 0, 0], [0, 0, 0, 0, 0], [0, 0, 0, 0, 0], [0, 0, 0, 0, 0]), 50)
        ) (
          cond (field_Elem_IsZero r14) (
            some (([0, 0, 0, 0, 0], [0, 0, 0, 0, 0], [0, 0, 0, 0, 0], [0, 0, 0, 0, 0]), 50)
          ) (
            mo (curve_FromAffine (field_Elem_Abs r10) r14) none fun r16 =>
            cond (icmp .neq r16.2 0) (
              some (([0, 0, 0, 0, 0], [0, 0, 0, 0, 0], [0, 0, 0, 0, 0], [0, 0, 0, 0, 0]), 50)
            ) (
              some ((r16.1.1, r16.1.2.1, r16.1.2.2.1, r16.1.2.2.2), 0)
            )
          )
        )
      )
    )
  )


def group_MapHalf (N : Nat) (a : List Int) : Option ((List Int × List Int × List Int × List Int)) :=
  mo (field_Const 1) none fun r1 =>
  mo (field_Const 2) none fun r2 =>
  mo (field_Elem_Square a) none fun r3 =>
  mo (field_Elem_Mul r1 r3) none fun r4 =>
  mo (field_Const 5) none fun r5 =>
  mo (field_Elem_Mul (field_Elem_Add r4 (field_Elem_One a)) r5) none fun r6 =>
  mo (field_Elem_Mul r4 r2) none fun r7 =>
  mo (field_Elem_Mul (field_Elem_Sub (field_Elem_Neg (field_Elem_One a)) r7) (field_Elem_Add r4 r2)) none fun r8 =>
  mo (field_SqrtRatio N r6 r8) none fun r9 =>
  mo (field_Elem_Mul r9.1 a) none fun r10 =>
  mo (field_Elem_Mul (field_Select (group_pick r9.2) (field_Elem_Neg (field_Elem_One a)) r4) (field_Elem_Sub r4 (field_Elem_One a))) none fun r11 =>
  mo (field_Const 6) none fun r12 =>
  mo (field_Elem_Mul r11 r12) none fun r13 =>
  let x1 := (field_Select (group_pick r9.2) r9.1 (field_Elem_Neg (field_Elem_Abs r10)))
  mo (field_Elem_Square x1) none fun r14 =>
  mo (field_Elem_Mul (field_Elem_Add x1 x1) r8) none fun r15 =>
  mo (field_Const 3) none fun r16 =>
  mo (field_Elem_Mul (field_Elem_Sub r13 r8) r16) none fun r17 =>
  mo (field_Elem_Invert N r17) none fun r18 =>
  mo (field_Elem_Mul r15 r18) none fun r19 =>
  mo (field_Elem_Invert N (field_Elem_Add (field_Elem_One a) r14)) none fun r20 =>
  mo (field_Elem_Mul (field_Elem_Sub (field_Elem_One a) r14) r20) none fun r21 =>
  mo (curve_FromAffine r19 r21) none fun r22 =>
  some (r22.1.1, r22.1.2.1, r22.1.2.2.1, r22.1.2.2.2)


def group_Map (N : Nat) (a : List Int) : Option ((List Int × List Int × List Int × List Int)) :=
  mo (group_MapHalf N (field_Reduce (List.take 32 (List.drop 0 a)))) none fun r1 =>
  mo (group_MapHalf N (field_Reduce (List.take 32 (List.drop 32 a)))) none fun r2 =>
  mo (group_Point_Add (r1.1, r1.2.1, r1.2.2.1, r1.2.2.2) (r2.1, r2.2.1, r2.2.2.1, r2.2.2.2)) none fun r3 =>
  some (r3.1, r3.2.1, r3.2.2.1, r3.2.2.2)


def veilref05_Neutral  : (List Int × List Int) :=
  (veilref04_Neutral.1, veilref04_Neutral.2)


def veilref05_Point_at (a : (List Int × List Int)) : (List Int × List Int) :=
  cond ((decide (a.1 = [0, 0, 0, 0, 0, 0, 0, 0, 0, 0])) && ((decide (a.2 = [0, 0, 0, 0, 0, 0, 0, 0, 0, 0])) && true)) (
    (veilref04_Neutral.1, veilref04_Neutral.2)
  ) (
    (a.1, a.2)
  )

def veilref05_Point_at_o (a : (List Int × List Int)) : Option ((List Int × List Int)) :=
  cond ((decide (a.1 = [0, 0, 0, 0, 0, 0, 0, 0, 0, 0])) && ((decide (a.2 = [0, 0, 0, 0, 0, 0, 0, 0, 0, 0])) && true)) (
    some (veilref04_Neutral.1, veilref04_Neutral.2)
  ) (
    some (a.1, a.2)
  )

theorem veilref05_Point_at_tot (a : (List Int × List Int)) : veilref05_Point_at_o a = some (veilref05_Point_at a) := by
  unfold veilref05_Point_at_o veilref05_Point_at
  repeat' (first | refine cond_tot ?_ ?_ | rfl)

def veilref05_coset (N : Nat) (a : (List Int × List Int)) : Option (((List Int × List Int) × (List Int × List Int) × (List Int × List Int) × (List Int × List Int))) :=
  mo (veilref01_F_Mul N a.2 veilref01_I) none fun r1 =>
  mo (veilref01_F_Mul N a.1 veilref01_I) none fun r2 =>
  some ((a.1, a.2), (r1, r2), ((veilref01_F_Neg a.1), (veilref01_F_Neg a.2)), ((veilref01_F_Neg r1), (veilref01_F_Neg r2)))


def veilref05_Point_Same (N : Nat) (a : (List Int × List Int)) (b : (List Int × List Int)) : Option (Bool) :=
  mo (veilref05_coset N ((veilref05_Point_at (b.1, b.2)).1, (veilref05_Point_at (b.1, b.2)).2)) none fun r1 =>
  cond ((decide (r1.1.1 = (veilref05_Point_at (a.1, a.2)).1)) && ((decide (r1.1.2 = (veilref05_Point_at (a.1, a.2)).2)) && true)) (
    some true
  ) (
    cond ((decide (r1.2.1.1 = (veilref05_Point_at (a.1, a.2)).1)) && ((decide (r1.2.1.2 = (veilref05_Point_at (a.1, a.2)).2)) && true)) (
      some true
    ) (
      cond ((decide (r1.2.2.1.1 = (veilref05_Point_at (a.1, a.2)).1)) && ((decide (r1.2.2.1.2 = (veilref05_Point_at (a.1, a.2)).2)) && true)) (
        some true
      ) (
        cond ((decide (r1.2.2.2.1 = (veilref05_Point_at (a.1, a.2)).1)) && ((decide (r1.2.2.2.2 = (veilref05_Point_at (a.1, a.2)).2)) && true)) (
          some true
        ) (
          some false
        )
      )
    )
  )


def veilref05_stands (N : Nat) (a : List Int) : Option (((List Int × List Int) × Bool)) :=
  mo (veilref01_F_Mul N a a) none fun r1 =>
  mo (veilref01_F_Sub N [1, 0, 0, 0, 0, 0, 0, 0, 0, 0] r1) none fun r2 =>
  mo (veilref01_F_Add N [1, 0, 0, 0, 0, 0, 0, 0, 0, 0] r1) none fun r3 =>
  mo (veilref01_F_Mul N r2 r2) none fun r4 =>
  mo (veilref01_F_Mul N (veilref01_F_Neg veilref01_D) r4) none fun r5 =>
  mo (veilref01_F_Mul N r3 r3) none fun r6 =>
  mo (veilref01_F_Sub N r5 r6) none fun r7 =>
  cond (decide (r3 = [0, 0, 0, 0, 0, 0, 0, 0, 0, 0])) (
    some ((veilref04_Neutral.1, veilref04_Neutral.2), false)
  ) (
    cond (decide (r7 = [0, 0, 0, 0, 0, 0, 0, 0, 0, 0])) (
      some ((veilref04_Neutral.1, veilref04_Neutral.2), false)
    ) (
      mo (veilref01_SqrtRatio N r7 [1, 0, 0, 0, 0, 0, 0, 0, 0, 0]) none fun r8 =>
      cond (!r8.2) (
        some ((veilref04_Neutral.1, veilref04_Neutral.2), false)
      ) (
        mo (veilref01_F_Invert N r3) none fun r9 =>
        mo (veilref01_F_Mul N r2 r9) none fun r10 =>
        mo (veilref01_F_Add N r1 r1) none fun r11 =>
        mo (veilref01_F_Add N r11 r1) none fun r12 =>
        mo (veilref01_F_Add N r12 r1) none fun r13 =>
        mo (veilref01_SqrtRatio N r13 r7) none fun r14 =>
        cond (decide (r10 = [0, 0, 0, 0, 0, 0, 0, 0, 0, 0])) (
          some ((veilref04_Neutral.1, veilref04_Neutral.2), false)
        ) (
          mo (veilref01_F_Mul N r14.1 r10) none fun r15 =>
          cond (veilref01_F_Negative r15) (
            some ((veilref04_Neutral.1, veilref04_Neutral.2), false)
          ) (
            some ((r14.1, r10), true)
          )
        )
      )
    )
  )


def veilref05_Decode (N : Nat) (a : List Int) : Option (((List Int × List Int) × Int)) :=
  mo (veilref01_Decode N a) none fun r1 =>
  cond (icmp .neq r1.2 0) (
    some ((veilref05_Neutral.1, veilref05_Neutral.2), 3)
  ) (
    cond (veilref01_F_Negative r1.1) (
      some ((veilref05_Neutral.1, veilref05_Neutral.2), 3)
    ) (
      mo (veilref05_stands N r1.1) none fun r2 =>
      cond (!r2.2) (
        some ((veilref05_Neutral.1, veilref05_Neutral.2), 50)
      ) (
        some ((r2.1.1, r2.1.2), 0)
      )
    )
  )


def veilref05_Point_Encode (N : Nat) (a : (List Int × List Int)) : Option (List Int) :=
  mo (veilref05_coset N ((veilref05_Point_at (a.1, a.2)).1, (veilref05_Point_at (a.1, a.2)).2)) none fun r1 =>
  mo (veilref01_F_Sub N [1, 0, 0, 0, 0, 0, 0, 0, 0, 0] r1.1.2) none fun r2 =>
  mo (veilref01_F_Add N [1, 0, 0, 0, 0, 0, 0, 0, 0, 0] r1.1.2) none fun r3 =>
  mo (veilref01_SqrtRatio N r2 r3) none fun r4 =>
  cond r4.2 (
    mo (veilref05_stands N r4.1) none fun r5 =>
    cond r5.2 (
      mo (veilref05_Point_Same N (a.1, a.2) (r5.1.1, r5.1.2)) none fun r6 =>
      cond r6 (
        mo (veilref01_F_Encode N r4.1) none fun r7 =>
        some r7
      ) (
        mo (veilref01_F_Sub N [1, 0, 0, 0, 0, 0, 0, 0, 0, 0] r1.2.1.2) none fun r8 =>
        mo (veilref01_F_Add N [1, 0, 0, 0, 0, 0, 0, 0, 0, 0] r1.2.1.2) none fun r9 =>
        mo (veilref01_SqrtRatio N r8 r9) none fun r10 =>
        cond r10.2 (
          mo (veilref05_stands N r10.1) none fun r11 =>
          cond r11.2 (
            mo (veilref05_Point_Same N (a.1, a.2) (r11.1.1, r11.1.2)) none fun r12 =>
            cond r12 (
              mo (veilref01_F_Encode N r10.1) none fun r13 =>
              some r13
            ) (
              mo (veilref01_F_Sub N [1, 0, 0, 0, 0, 0, 0, 0, 0, 0] r1.2.2.1.2) none fun r14 =>
              mo (veilref01_F_Add N [1, 0, 0, 0, 0, 0, 0, 0, 0, 0] r1.2.2.1.2) none fun r15 =>
              mo (veilref01_SqrtRatio N r14 r15) none fun r16 =>
              cond r16.2 (
                mo (veilref05_stands N r16.1) none fun r17 =>
                cond r17.2 (
                  mo (veilref05_Point_Same N (a.1, a.2) (r17.1.1, r17.1.2)) none fun r18 =>
                  cond r18 (
                    mo (veilref01_F_Encode N r16.1) none fun r19 =>
                    some r19
                  ) (
                    mo (veilref01_F_Sub N [1, 0, 0, 0, 0, 0, 0, 0, 0, 0] r1.2.2.2.2) none fun r20 =>
                    mo (veilref01_F_Add N [1, 0, 0, 0, 0, 0, 0, 0, 0, 0] r1.2.2.2.2) none fun r21 =>
                    mo (veilref01_SqrtRatio N r20 r21) none fun r22 =>
                    cond r22.2 (
                      mo (veilref05_stands N r22.1) none fun r23 =>
                      cond r23.2 (
                        mo (veilref05_Point_Same N (a.1, a.2) (r23.1.1, r23.1.2)) none fun r24 =>
                        cond r24 (
                          mo (veilref01_F_Encode N r22.1) none fun r25 =>
                          some r25
                        ) (
                          some [0, 0, 0, 0, 0, 0, 0, 0, 0, 0, 0, 0, 0, 0, 0, 0, 0, 0, 0, 0, 0, 0, 0, 0, 0, 0, 0, 0, 0, 0, 0, 0]
                        )
                      ) (
                        some [0, 0, 0, 0, 0, 0, 0, 0, 0, 0, 0, 0, 0, 0, 0, 0, 0, 0, 0, 0, 0, 0, 0, 0, 0, 0, 0, 0, 0, 0, 0, 0]
                      )
                    ) (
                      some [0, 0, 0, 0, 0, 0, 0, 0, 0, 0, 0, 0, 0, 0, 0, 0, 0, 0, 0, 0, 0, 0, 0, 0, 0, 0, 0, 0, 0, 0, 0, 0]
                    )
                  )
                ) (
                  mo (veilref01_F_Sub N [1, 0, 0, 0, 0, 0, 0, 0, 0, 0] r1.2.2.2.2) none fun r26 =>
                  mo (veilref01_F_Add N [1, 0, 0, 0, 0, 0, 0, 0, 0, 0] r1.2.2.2.2) none fun r27 =>
                  mo (veilref01_SqrtRatio N r26 r27) none fun r28 =>
                  cond r28.2 (
                    mo (veilref05_stands N r28.1) none fun r29 =>
                    cond r29.2 (
                      mo (veilref05_Point_Same N (a.1, a.2) (r29.1.1, r29.1.2)) none fun r30 =>
                      cond r30 (
                        mo (veilref01_F_Encode N r28.1) none fun r31 =>
                        some r31
                      ) (
                        some [0, 0, 0, 0, 0, 0, 0, 0, 0, 0, 0, 0, 0, 0, 0, 0, 0, 0, 0, 0, 0, 0, 0, 0, 0, 0, 0, 0, 0, 0, 0, 0]
                      )
                    ) (
                      some [0, 0, 0, 0, 0, 0, 0, 0, 0, 0, 0, 0, 0, 0, 0, 0, 0, 0, 0, 0, 0, 0, 0, 0, 0, 0, 0, 0, 0, 0, 0, 0]
                    )
                  ) (
                    some [0, 0, 0, 0, 0, 0, 0, 0, 0, 0, 0, 0, 0, 0, 0, 0, 0, 0, 0, 0, 0, 0, 0, 0, 0, 0, 0, 0, 0, 0, 0, 0]
                  )
                )
              ) (
                mo (veilref01_F_Sub N [1, 0, 0, 0, 0, 0, 0, 0, 0, 0] r1.2.2.2.2) none fun r32 =>
                mo (veilref01_F_Add N [1, 0, 0, 0, 0, 0, 0, 0, 0, 0] r1.2.2.2.2) none fun r33 =>
                mo (veilref01_SqrtRatio N r32 r33) none fun r34 =>
                cond r34.2 (
                  mo (veilref05_stands N r34.1) none fun r35 =>
                  cond r35.2 (
                    mo (veilref05_Point_Same N (a.1, a.2) (r35.1.1, r35.1.2)) none fun r36 =>
                    cond r36 (
                      mo (veilref01_F_Encode N r34.1) none fun r37 =>
                      some r37
                    ) (
                      some [0, 0, 0, 0, 0, 0, 0, 0, 0, 0, 0, 0, 0, 0, 0, 0, 0, 0, 0, 0, 0, 0, 0, 0, 0, 0, 0, 0, 0, 0, 0, 0]
                    )
                  ) (
                    some [0, 0, 0, 0, 0, 0, 0, 0, 0, 0, 0, 0, 0, 0, 0, 0, 0, 0, 0, 0, 0, 0, 0, 0, 0, 0, 0, 0, 0, 0, 0, 0]
                  )
                ) (
                  some [0, 0, 0, 0, 0, 0, 0, 0, 0, 0, 0, 0, 0, 0, 0, 0, 0, 0, 0, 0, 0, 0, 0, 0, 0, 0, 0, 0, 0, 0, 0, 0]
                )
              )
            )
          ) (
            mo (veilref01_F_Sub N [1, 0, 0, 0, 0, 0, 0, 0, 0, 0] r1.2.2.1.2) none fun r38 =>
            mo (veilref01_F_Add N [1, 0, 0, 0, 0, 0, 0, 0, 0, 0] r1.2.2.1.2) none fun r39 =>
            mo (veilref01_SqrtRatio N r38 r39) none fun r40 =>
            cond r40.2 (
              mo (veilref05_stands N r40.1) none fun r41 =>
              cond r41.2 (
                mo (veilref05_Point_Same N (a.1, a.2) (r41.1.1, r41.1.2)) none fun r42 =>
                cond r42 (
                  mo (veilref01_F_Encode N r40.1) none fun r43 =>
                  some r43
                ) (
                  mo (veilref01_F_Sub N [1, 0, 0, 0, 0, 0, 0, 0, 0, 0] r1.2.2.2.2) none fun r44 =>
                  mo (veilref01_F_Add N [1, 0, 0, 0, 0, 0, 0, 0, 0, 0] r1.2.2.2.2) none fun r45 =>
                  mo (veilref01_SqrtRatio N r44 r45) none fun r46 =>
                  cond r46.2 (
                    mo (veilref05_stands N r46.1) none fun r47 =>
                    cond r47.2 (
                      mo (veilref05_Point_Same N (a.1, a.2) (r47.1.1, r47.1.2)) none fun r48 =>
                      cond r48 (
                        mo (veilref01_F_Encode N r46.1) none fun r49 =>
                        some r49
                      ) (
                        some [0, 0, 0, 0, 0, 0, 0, 0, 0, 0, 0, 0, 0, 0, 0, 0, 0, 0, 0, 0, 0, 0, 0, 0, 0, 0, 0, 0, 0, 0, 0, 0]
                      )
                    ) (
                      some [0, 0, 0, 0, 0, 0, 0, 0, 0, 0, 0, 0, 0, 0, 0, 0, 0, 0, 0, 0, 0, 0, 0, 0, 0, 0, 0, 0, 0, 0, 0, 0]
                    )
                  ) (
                    some [0, 0, 0, 0, 0, 0, 0, 0, 0, 0, 0, 0, 0, 0, 0, 0, 0, 0, 0, 0, 0, 0, 0, 0, 0, 0, 0, 0, 0, 0, 0, 0]
                  )
                )
              ) (
                mo (veilref01_F_Sub N [1, 0, 0, 0, 0, 0, 0, 0, 0, 0] r1.2.2.2.2) none fun r50 =>
                mo (veilref01_F_Add N [1, 0, 0, 0, 0, 0, 0, 0, 0, 0] r1.2.2.2.2) none fun r51 =>
                mo (veilref01_SqrtRatio N r50 r51) none fun r52 =>
                cond r52.2 (
                  mo (veilref05_stands N r52.1) none fun r53 =>
                  cond r53.2 (
                    mo (veilref05_Point_Same N (a.1, a.2) (r53.1.1, r53.1.2)) none fun r54 =>
                    cond r54 (
                      mo (veilref01_F_Encode N r52.1) none fun r55 =>
                      some r55
                    ) (
                      some [0, 0, 0, 0, 0, 0, 0, 0, 0, 0, 0, 0, 0, 0, 0, 0, 0, 0, 0, 0, 0, 0, 0, 0, 0, 0, 0, 0, 0, 0, 0, 0]
                    )
                  ) (
                    some [0, 0, 0, 0, 0, 0, 0, 0, 0, 0, 0, 0, 0, 0, 0, 0, 0, 0, 0, 0, 0, 0, 0, 0, 0, 0, 0, 0, 0, 0, 0, 0]
                  )
                ) (
                  some [0, 0, 0, 0, 0, 0, 0, 0, 0, 0, 0, 0, 0, 0, 0, 0, 0, 0, 0, 0, 0, 0, 0, 0, 0, 0, 0, 0, 0, 0, 0, 0]
                )
              )
            ) (
              mo (veilref01_F_Sub N [1, 0, 0, 0, 0, 0, 0, 0, 0, 0] r1.2.2.2.2) none fun r56 =>
              mo (veilref01_F_Add N [1, 0, 0, 0, 0, 0, 0, 0, 0, 0] r1.2.2.2.2) none fun r57 =>
              mo (veilref01_SqrtRatio N r56 r57) none fun r58 =>
              cond r58.2 (
                mo (veilref05_stands N r58.1) none fun r59 =>
                cond r59.2 (
                  mo (veilref05_Point_Same N (a.1, a.2) (r59.1.1, r59.1.2)) none fun r60 =>
                  cond r60 (
                    mo (veilref01_F_Encode N r58.1) none fun r61 =>
                    some r61
                  ) (
                    some [0, 0, 0, 0, 0, 0, 0, 0, 0, 0, 0, 0, 0, 0, 0, 0, 0, 0, 0, 0, 0, 0, 0, 0, 0, 0, 0, 0, 0, 0, 0, 0]
                  )
                ) (
                  some [0, 0, 0, 0, 0, 0, 0, 0, 0, 0, 0, 0, 0, 0, 0, 0, 0, 0, 0, 0, 0, 0, 0, 0, 0, 0, 0, 0, 0, 0, 0, 0]
                )
              ) (
                some [0, 0, 0, 0, 0, 0, 0, 0, 0, 0, 0, 0, 0, 0, 0, 0, 0, 0, 0, 0, 0, 0, 0, 0, 0, 0, 0, 0, 0, 0, 0, 0]
              )
            )
          )
        ) (
          mo (veilref01_F_Sub N [1, 0, 0, 0, 0, 0, 0, 0, 0, 0] r1.2.2.1.2) none fun r62 =>
          mo (veilref01_F_Add N [1, 0, 0, 0, 0, 0, 0, 0, 0, 0] r1.2.2.1.2) none fun r63 =>
          mo (veilref01_SqrtRatio N r62 r63) none fun r64 =>
          cond r64.2 (
            mo (veilref05_stands N r64.1) none fun r65 =>
            cond r65.2 (
              mo (veilref05_Point_Same N (a.1, a.2) (r65.1.1, r65.1.2)) none fun r66 =>
              cond r66 (
                mo (veilref01_F_Encode N r64.1) none fun r67 =>
                some r67
              ) (
                mo (veilref01_F_Sub N [1, 0, 0, 0, 0, 0, 0, 0, 0, 0] r1.2.2.2.2) none fun r68 =>
                mo (veilref01_F_Add N [1, 0, 0, 0, 0, 0, 0, 0, 0, 0] r1.2.2.2.2) none fun r69 =>
                mo (veilref01_SqrtRatio N r68 r69) none fun r70 =>
                cond r70.2 (
                  mo (veilref05_stands N r70.1) none fun r71 =>
                  cond r71.2 (
                    mo (veilref05_Point_Same N (a.1, a.2) (r71.1.1, r71.1.2)) none fun r72 =>
                    cond r72 (
                      mo (veilref01_F_Encode N r70.1) none fun r73 =>
                      some r73
                    ) (
                      some [0, 0, 0, 0, 0, 0, 0, 0, 0, 0, 0, 0, 0, 0, 0, 0, 0, 0, 0, 0, 0, 0, 0, 0, 0, 0, 0, 0, 0, 0, 0, 0]
                    )
                  ) (
                    some [0, 0, 0, 0, 0, 0, 0, 0, 0, 0, 0, 0, 0, 0, 0, 0, 0, 0, 0, 0, 0, 0, 0, 0, 0, 0, 0, 0, 0, 0, 0, 0]
                  )
                ) (
                  some [0, 0, 0, 0, 0, 0, 0, 0, 0, 0, 0, 0, 0, 0, 0, 0, 0, 0, 0, 0, 0, 0, 0, 0, 0, 0, 0, 0, 0, 0, 0, 0]
                )
              )
            ) (
              mo (veilref01_F_Sub N [1, 0, 0, 0, 0, 0, 0, 0, 0, 0] r1.2.2.2.2) none fun r74 =>
              mo (veilref01_F_Add N [1, 0, 0, 0, 0, 0, 0, 0, 0, 0] r1.2.2.2.2) none fun r75 =>
              mo (veilref01_SqrtRatio N r74 r75) none fun r76 =>
              cond r76.2 (
                mo (veilref05_stands N r76.1) none fun r77 =>
                cond r77.2 (
                  mo (veilref05_Point_Same N (a.1, a.2) (r77.1.1, r77.1.2)) none fun r78 =>
                  cond r78 (
                    mo (veilref01_F_Encode N r76.1) none fun r79 =>
                    some r79
                  ) (
                    some [0, 0, 0, 0, 0, 0, 0, 0, 0, 0, 0, 0, 0, 0, 0, 0, 0, 0, 0, 0, 0, 0, 0, 0, 0, 0, 0, 0, 0, 0, 0, 0]
                  )
                ) (
                  some [0, 0, 0, 0, 0, 0, 0, 0, 0, 0, 0, 0, 0, 0, 0, 0, 0, 0, 0, 0, 0, 0, 0, 0, 0, 0, 0, 0, 0, 0, 0, 0]
                )
              ) (
                some [0, 0, 0, 0, 0, 0, 0, 0, 0, 0, 0, 0, 0, 0, 0, 0, 0, 0, 0, 0, 0, 0, 0, 0, 0, 0, 0, 0, 0, 0, 0, 0]
              )
            )
          ) (
            mo (veilref01_F_Sub N [1, 0, 0, 0, 0, 0, 0, 0, 0, 0] r1.2.2.2.2) none fun r80 =>
            mo (veilref01_F_Add N [1, 0, 0, 0, 0, 0, 0, 0, 0, 0] r1.2.2.2.2) none fun r81 =>
            mo (veilref01_SqrtRatio N r80 r81) none fun r82 =>
            cond r82.2 (
              mo (veilref05_stands N r82.1) none fun r83 =>
              cond r83.2 (
                mo (veilref05_Point_Same N (a.1, a.2) (r83.1.1, r83.1.2)) none fun r84 =>
                cond r84 (
                  mo (veilref01_F_Encode N r82.1) none fun r85 =>
                  some r85
                ) (
                  some [0, 0, 0, 0, 0, 0, 0, 0, 0, 0, 0, 0, 0, 0, 0, 0, 0, 0, 0, 0, 0, 0, 0, 0, 0, 0, 0, 0, 0, 0, 0, 0]
                )
              ) (
                some [0, 0, 0, 0, 0, 0, 0, 0, 0, 0, 0, 0, 0, 0, 0, 0, 0, 0, 0, 0, 0, 0, 0, 0, 0, 0, 0, 0, 0, 0, 0, 0]
              )
            ) (
              some [0, 0, 0, 0, 0, 0, 0, 0, 0, 0, 0, 0, 0, 0, 0, 0, 0, 0, 0, 0, 0, 0, 0, 0, 0, 0, 0, 0, 0, 0, 0, 0]
            )
          )
        )
      )
    ) (
      mo (veilref01_F_Sub N [1, 0, 0, 0, 0, 0, 0, 0, 0, 0] r1.2.1.2) none fun r86 =>
      mo (veilref01_F_Add N [1, 0, 0, 0, 0, 0, 0, 0, 0, 0] r1.2.1.2) none fun r87 =>
      mo (veilref01_SqrtRatio N r86 r87) none fun r88 =>
      cond r88.2 (
        mo (veilref05_stands N r88.1) none fun r89 =>
        cond r89.2 (
          mo (veilref05_Point_Same N (a.1, a.2) (r89.1.1, r89.1.2)) none fun r90 =>
          cond r90 (
            mo (veilref01_F_Encode N r88.1) none fun r91 =>
            some r91
          ) (
            mo (veilref01_F_Sub N [1, 0, 0, 0, 0, 0, 0, 0, 0, 0] r1.2.2.1.2) none fun r92 =>
            mo (veilref01_F_Add N [1, 0, 0, 0, 0, 0, 0, 0, 0, 0] r1.2.2.1.2) none fun r93 =>
            mo (veilref01_SqrtRatio N r92 r93) none fun r94 =>
            cond r94.2 (
              mo (veilref05_stands N r94.1) none fun r95 =>
              cond r95.2 (
                mo (veilref05_Point_Same N (a.1, a.2) (r95.1.1, r95.1.2)) none fun r96 =>
                cond r96 (
                  mo (veilref01_F_Encode N r94.1) none fun r97 =>
                  some r97
                ) (
                  mo (veilref01_F_Sub N [1, 0, 0, 0, 0, 0, 0, 0, 0, 0] r1.2.2.2.2) none fun r98 =>
                  mo (veilref01_F_Add N [1, 0, 0, 0, 0, 0, 0, 0, 0, 0] r1.2.2.2.2) none fun r99 =>
                  mo (veilref01_SqrtRatio N r98 r99) none fun r100 =>
                  cond r100.2 (
                    mo (veilref05_stands N r100.1) none fun r101 =>
                    cond r101.2 (
                      mo (veilref05_Point_Same N (a.1, a.2) (r101.1.1, r101.1.2)) none fun r102 =>
                      cond r102 (
                        mo (veilref01_F_Encode N r100.1) none fun r103 =>
                        some r103
                      ) (
                        some [0, 0, 0, 0, 0, 0, 0, 0, 0, 0, 0, 0, 0, 0, 0, 0, 0, 0, 0, 0, 0, 0, 0, 0, 0, 0, 0, 0, 0, 0, 0, 0]
                      )
                    ) (
                      some [0, 0, 0, 0, 0, 0, 0, 0, 0, 0, 0, 0, 0, 0, 0, 0, 0, 0, 0, 0, 0, 0, 0, 0, 0, 0, 0, 0, 0, 0, 0, 0]
                    )
                  ) (
                    some [0, 0, 0, 0, 0, 0, 0, 0, 0, 0, 0, 0, 0, 0, 0, 0, 0, 0, 0, 0, 0, 0, 0, 0, 0, 0, 0, 0, 0, 0, 0, 0]
                  )
                )
              ) (
                mo (veilref01_F_Sub N [1, 0, 0, 0, 0, 0, 0, 0, 0, 0] r1.2.2.2.2) none fun r104 =>
                mo (veilref01_F_Add N [1, 0, 0, 0, 0, 0, 0, 0, 0, 0] r1.2.2.2.2) none fun r105 =>
                mo (veilref01_SqrtRatio N r104 r105) none fun r106 =>
                cond r106.2 (
                  mo (veilref05_stands N r106.1) none fun r107 =>
                  cond r107.2 (
                    mo (veilref05_Point_Same N (a.1, a.2) (r107.1.1, r107.1.2)) none fun r108 =>
                    cond r108 (
                      mo (veilref01_F_Encode N r106.1) none fun r109 =>
                      some r109
                    ) (
                      some [0, 0, 0, 0, 0, 0, 0, 0, 0, 0, 0, 0, 0, 0, 0, 0, 0, 0, 0, 0, 0, 0, 0, 0, 0, 0, 0, 0, 0, 0, 0, 0]
                    )
                  ) (
                    some [0, 0, 0, 0, 0, 0, 0, 0, 0, 0, 0, 0, 0, 0, 0, 0, 0, 0, 0, 0, 0, 0, 0, 0, 0, 0, 0, 0, 0, 0, 0, 0]
                  )
                ) (
                  some [0, 0, 0, 0, 0, 0, 0, 0, 0, 0, 0, 0, 0, 0, 0, 0, 0, 0, 0, 0, 0, 0, 0, 0, 0, 0, 0, 0, 0, 0, 0, 0]
                )
              )
            ) (
              mo (veilref01_F_Sub N [1, 0, 0, 0, 0, 0, 0, 0, 0, 0] r1.2.2.2.2) none fun r110 =>
              mo (veilref01_F_Add N [1, 0, 0, 0, 0, 0, 0, 0, 0, 0] r1.2.2.2.2) none fun r111 =>
              mo (veilref01_SqrtRatio N r110 r111) none fun r112 =>
              cond r112.2 (
                mo (veilref05_stands N r112.1) none fun r113 =>
                cond r113.2 (
                  mo (veilref05_Point_Same N (a.1, a.2) (r113.1.1, r113.1.2)) none fun r114 =>
                  cond r114 (
                    mo (veilref01_F_Encode N r112.1) none fun r115 =>
                    some r115
                  ) (
                    some [0, 0, 0, 0, 0, 0, 0, 0, 0, 0, 0, 0, 0, 0, 0, 0, 0, 0, 0, 0, 0, 0, 0, 0, 0, 0, 0, 0, 0, 0, 0, 0]
                  )
                ) (
                  some [0, 0, 0, 0, 0, 0, 0, 0, 0, 0, 0, 0, 0, 0, 0, 0, 0, 0, 0, 0, 0, 0, 0, 0, 0, 0, 0, 0, 0, 0, 0, 0]
                )
              ) (
                some [0, 0, 0, 0, 0, 0, 0, 0, 0, 0, 0, 0, 0, 0, 0, 0, 0, 0, 0, 0, 0, 0, 0, 0, 0, 0, 0, 0, 0, 0, 0, 0]
              )
            )
          )
        ) (
          mo (veilref01_F_Sub N [1, 0, 0, 0, 0, 0, 0, 0, 0, 0] r1.2.2.1.2) none fun r116 =>
          mo (veilref01_F_Add N [1, 0, 0, 0, 0, 0, 0, 0, 0, 0] r1.2.2.1.2) none fun r117 =>
          mo (veilref01_SqrtRatio N r116 r117) none fun r118 =>
          cond r118.2 (
            mo (veilref05_stands N r118.1) none fun r119 =>
            cond r119.2 (
              mo (veilref05_Point_Same N (a.1, a.2) (r119.1.1, r119.1.2)) none fun r120 =>
              cond r120 (
                mo (veilref01_F_Encode N r118.1) none fun r121 =>
                some r121
              ) (
                mo (veilref01_F_Sub N [1, 0, 0, 0, 0, 0, 0, 0, 0, 0] r1.2.2.2.2) none fun r122 =>
                mo (veilref01_F_Add N [1, 0, 0, 0, 0, 0, 0, 0, 0, 0] r1.2.2.2.2) none fun r123 =>
                mo (veilref01_SqrtRatio N r122 r123) none fun r124 =>
                cond r124.2 (
                  mo (veilref05_stands N r124.1) none fun r125 =>
                  cond r125.2 (
                    mo (veilref05_Point_Same N (a.1, a.2) (r125.1.1, r125.1.2)) none fun r126 =>
                    cond r126 (
                      mo (veilref01_F_Encode N r124.1) none fun r127 =>
                      some r127
                    ) (
                      some [0, 0, 0, 0, 0, 0, 0, 0, 0, 0, 0, 0, 0, 0, 0, 0, 0, 0, 0, 0, 0, 0, 0, 0, 0, 0, 0, 0, 0, 0, 0, 0]
                    )
                  ) (
                    some [0, 0, 0, 0, 0, 0, 0, 0, 0, 0, 0, 0, 0, 0, 0, 0, 0, 0, 0, 0, 0, 0, 0, 0, 0, 0, 0, 0, 0, 0, 0, 0]
                  )
                ) (
                  some [0, 0, 0, 0, 0, 0, 0, 0, 0, 0, 0, 0, 0, 0, 0, 0, 0, 0, 0, 0, 0, 0, 0, 0, 0, 0, 0, 0, 0, 0, 0, 0]
                )
              )
            ) (
              mo (veilref01_F_Sub N [1, 0, 0, 0, 0, 0, 0, 0, 0, 0] r1.2.2.2.2) none fun r128 =>
              mo (veilref01_F_Add N [1, 0, 0, 0, 0, 0, 0, 0, 0, 0] r1.2.2.2.2) none fun r129 =>
              mo (veilref01_SqrtRatio N r128 r129) none fun r130 =>
              cond r130.2 (
                mo (veilref05_stands N r130.1) none fun r131 =>
                cond r131.2 (
                  mo (veilref05_Point_Same N (a.1, a.2) (r131.1.1, r131.1.2)) none fun r132 =>
                  cond r132 (
                    mo (veilref01_F_Encode N r130.1) none fun r133 =>
                    some r133
                  ) (
                    some [0, 0, 0, 0, 0, 0, 0, 0, 0, 0, 0, 0, 0, 0, 0, 0, 0, 0, 0, 0, 0, 0, 0, 0, 0, 0, 0, 0, 0, 0, 0, 0]
                  )
                ) (
                  some [0, 0, 0, 0, 0, 0, 0, 0, 0, 0, 0, 0, 0, 0, 0, 0, 0, 0, 0, 0, 0, 0, 0, 0, 0, 0, 0, 0, 0, 0, 0, 0]
                )
              ) (
                some [0, 0, 0, 0, 0, 0, 0, 0, 0, 0, 0, 0, 0, 0, 0, 0, 0, 0, 0, 0, 0, 0, 0, 0, 0, 0, 0, 0, 0, 0, 0, 0]
              )
            )
          ) (
            mo (veilref01_F_Sub N [1, 0, 0, 0, 0, 0, 0, 0, 0, 0] r1.2.2.2.2) none fun r134 =>
            mo (veilref01_F_Add N [1, 0, 0, 0, 0, 0, 0, 0, 0, 0] r1.2.2.2.2) none fun r135 =>
            mo (veilref01_SqrtRatio N r134 r135) none fun r136 =>
            cond r136.2 (
              mo (veilref05_stands N r136.1) none fun r137 =>
              cond r137.2 (
                mo (veilref05_Point_Same N (a.1, a.2) (r137.1.1, r137.1.2)) none fun r138 =>
                cond r138 (
                  mo (veilref01_F_Encode N r136.1) none fun r139 =>
                  some r139
                ) (
                  some [0, 0, 0, 0, 0, 0, 0, 0, 0, 0, 0, 0, 0, 0, 0, 0, 0, 0, 0, 0, 0, 0, 0, 0, 0, 0, 0, 0, 0, 0, 0, 0]
                )
              ) (
                some [0, 0, 0, 0, 0, 0, 0, 0, 0, 0, 0, 0, 0, 0, 0, 0, 0, 0, 0, 0, 0, 0, 0, 0, 0, 0, 0, 0, 0, 0, 0, 0]
              )
            ) (
              some [0, 0, 0, 0, 0, 0, 0, 0, 0, 0, 0, 0, 0, 0, 0, 0, 0, 0, 0, 0, 0, 0, 0, 0, 0, 0, 0, 0, 0, 0, 0, 0]
            )
          )
        )
      ) (
        mo (veilref01_F_Sub N [1, 0, 0, 0, 0, 0, 0, 0, 0, 0] r1.2.2.1.2) none fun r140 =>
        mo (veilref01_F_Add N [1, 0, 0, 0, 0, 0, 0, 0, 0, 0] r1.2.2.1.2) none fun r141 =>
        mo (veilref01_SqrtRatio N r140 r141) none fun r142 =>
        cond r142.2 (
          mo (veilref05_stands N r142.1) none fun r143 =>
          cond r143.2 (
            mo (veilref05_Point_Same N (a.1, a.2) (r143.1.1, r143.1.2)) none fun r144 =>
            cond r144 (
              mo (veilref01_F_Encode N r142.1) none fun r145 =>
              some r145
            ) (
              mo (veilref01_F_Sub N [1, 0, 0, 0, 0, 0, 0, 0, 0, 0] r1.2.2.2.2) none fun r146 =>
              mo (veilref01_F_Add N [1, 0, 0, 0, 0, 0, 0, 0, 0, 0] r1.2.2.2.2) none fun r147 =>
              mo (veilref01_SqrtRatio N r146 r147) none fun r148 =>
              cond r148.2 (
                mo (veilref05_stands N r148.1) none fun r149 =>
                cond r149.2 (
                  mo (veilref05_Point_Same N (a.1, a.2) (r149.1.1, r149.1.2)) none fun r150 =>
                  cond r150 (
                    mo (veilref01_F_Encode N r148.1) none fun r151 =>
                    some r151
                  ) (
                    some [0, 0, 0, 0, 0, 0, 0, 0, 0, 0, 0, 0, 0, 0, 0, 0, 0, 0, 0, 0, 0, 0, 0, 0, 0, 0, 0, 0, 0, 0, 0, 0]
                  )
                ) (
                  some [0, 0, 0, 0, 0, 0, 0, 0, 0, 0, 0, 0, 0, 0, 0, 0, 0, 0, 0, 0, 0, 0, 0, 0, 0, 0, 0, 0, 0, 0, 0, 0]
                )
              ) (
                some [0, 0, 0, 0, 0, 0, 0, 0, 0, 0, 0, 0, 0, 0, 0, 0, 0, 0, 0, 0, 0, 0, 0, 0, 0, 0, 0, 0, 0, 0, 0, 0]
              )
            )
          ) (
            mo (veilref01_F_Sub N [1, 0, 0, 0, 0, 0, 0, 0, 0, 0] r1.2.2.2.2) none fun r152 =>
            mo (veilref01_F_Add N [1, 0, 0, 0, 0, 0, 0, 0, 0, 0] r1.2.2.2.2) none fun r153 =>
            mo (veilref01_SqrtRatio N r152 r153) none fun r154 =>
            cond r154.2 (
              mo (veilref05_stands N r154.1) none fun r155 =>
              cond r155.2 (
                mo (veilref05_Point_Same N (a.1, a.2) (r155.1.1, r155.1.2)) none fun r156 =>
                cond r156 (
                  mo (veilref01_F_Encode N r154.1) none fun r157 =>
                  some r157
                ) (
                  some [0, 0, 0, 0, 0, 0, 0, 0, 0, 0, 0, 0, 0, 0, 0, 0, 0, 0, 0, 0, 0, 0, 0, 0, 0, 0, 0, 0, 0, 0, 0, 0]
                )
              ) (
                some [0, 0, 0, 0, 0, 0, 0, 0, 0, 0, 0, 0, 0, 0, 0, 0, 0, 0, 0, 0, 0, 0, 0, 0, 0, 0, 0, 0, 0, 0, 0, 0]
              )
            ) (
              some [0, 0, 0, 0, 0, 0, 0, 0, 0, 0, 0, 0, 0, 0, 0, 0, 0, 0, 0, 0, 0, 0, 0, 0, 0, 0, 0, 0, 0, 0, 0, 0]
            )
          )
        ) (
          mo (veilref01_F_Sub N [1, 0, 0, 0, 0, 0, 0, 0, 0, 0] r1.2.2.2.2) none fun r158 =>
          mo (veilref01_F_Add N [1, 0, 0, 0, 0, 0, 0, 0, 0, 0] r1.2.2.2.2) none fun r159 =>
          mo (veilref01_SqrtRatio N r158 r159) none fun r160 =>
          cond r160.2 (
            mo (veilref05_stands N r160.1) none fun r161 =>
            cond r161.2 (
              mo (veilref05_Point_Same N (a.1, a.2) (r161.1.1, r161.1.2)) none fun r162 =>
              cond r162 (
                mo (veilref01_F_Encode N r160.1) none fun r163 =>
                some r163
              ) (
                some [0, 0, 0, 0, 0, 0, 0, 0, 0, 0, 0, 0, 0, 0, 0, 0, 0, 0, 0, 0, 0, 0, 0, 0, 0, 0, 0, 0, 0, 0, 0, 0]
              )
            ) (
              some [0, 0, 0, 0, 0, 0, 0, 0, 0, 0, 0, 0, 0, 0, 0, 0, 0, 0, 0, 0, 0, 0, 0, 0, 0, 0, 0, 0, 0, 0, 0, 0]
            )
          ) (
            some [0, 0, 0, 0, 0, 0, 0, 0, 0, 0, 0, 0, 0, 0, 0, 0, 0, 0, 0, 0, 0, 0, 0, 0, 0, 0, 0, 0, 0, 0, 0, 0]
          )
        )
      )
    )
  ) (
    mo (veilref01_F_Sub N [1, 0, 0, 0, 0, 0, 0, 0, 0, 0] r1.2.1.2) none fun r164 =>
    mo (veilref01_F_Add N [1, 0, 0, 0, 0, 0, 0, 0, 0, 0] r1.2.1.2) none fun r165 =>
    mo (veilref01_SqrtRatio N r164 r165) none fun r166 =>
    cond r166.2 (
      mo (veilref05_stands N r166.1) none fun r167 =>
      cond r167.2 (
        mo (veilref05_Point_Same N (a.1, a.2) (r167.1.1, r167.1.2)) none fun r168 =>
        cond r168 (
          mo (veilref01_F_Encode N r166.1) none fun r169 =>
          some r169
        ) (
          mo (veilref01_F_Sub N [1, 0, 0, 0, 0, 0, 0, 0, 0, 0] r1.2.2.1.2) none fun r170 =>
          mo (veilref01_F_Add N [1, 0, 0, 0, 0, 0, 0, 0, 0, 0] r1.2.2.1.2) none fun r171 =>
          mo (veilref01_SqrtRatio N r170 r171) none fun r172 =>
          cond r172.2 (
            mo (veilref05_stands N r172.1) none fun r173 =>
            cond r173.2 (
              mo (veilref05_Point_Same N (a.1, a.2) (r173.1.1, r173.1.2)) none fun r174 =>
              cond r174 (
                mo (veilref01_F_Encode N r172.1) none fun r175 =>
                some r175
              ) (
                mo (veilref01_F_Sub N [1, 0, 0, 0, 0, 0, 0, 0, 0, 0] r1.2.2.2.2) none fun r176 =>
                mo (veilref01_F_Add N [1, 0, 0, 0, 0, 0, 0, 0, 0, 0] r1.2.2.2.2) none fun r177 =>
                mo (veilref01_SqrtRatio N r176 r177) none fun r178 =>
                cond r178.2 (
                  mo (veilref05_stands N r178.1) none fun r179 =>
                  cond r179.2 (
                    mo (veilref05_Point_Same N (a.1, a.2) (r179.1.1, r179.1.2)) none fun r180 =>
                    cond r180 (
                      mo (veilref01_F_Encode N r178.1) none fun r181 =>
                      some r181
                    ) (
                      some [0, 0, 0, 0, 0, 0, 0, 0, 0, 0, 0, 0, 0, 0, 0, 0, 0, 0, 0, 0, 0, 0, 0, 0, 0, 0, 0, 0, 0, 0, 0, 0]
                    )
                  ) (
                    some [0, 0, 0, 0, 0, 0, 0, 0, 0, 0, 0, 0, 0, 0, 0, 0, 0, 0, 0, 0, 0, 0, 0, 0, 0, 0, 0, 0, 0, 0, 0, 0]
                  )
                ) (
                  some [0, 0, 0, 0, 0, 0, 0, 0, 0, 0, 0, 0, 0, 0, 0, 0, 0, 0, 0, 0, 0, 0, 0, 0, 0, 0, 0, 0, 0, 0, 0, 0]
                )
              )
            ) (
              mo (veilref01_F_Sub N [1, 0, 0, 0, 0, 0, 0, 0, 0, 0] r1.2.2.2.2) none fun r182 =>
              mo (veilref01_F_Add N [1, 0, 0, 0, 0, 0, 0, 0, 0, 0] r1.2.2.2.2) none fun r183 =>
              mo (veilref01_SqrtRatio N r182 r183) none fun r184 =>
              cond r184.2 (
                mo (veilref05_stands N r184.1) none fun r185 =>
                cond r185.2 (
                  mo (veilref05_Point_Same N (a.1, a.2) (r185.1.1, r185.1.2)) none fun r186 =>
                  cond r186 (
                    mo (veilref01_F_Encode N r184.1) none fun r187 =>
                    some r187
                  ) (
                    some [0, 0, 0, 0, 0, 0, 0, 0, 0, 0, 0, 0, 0, 0, 0, 0, 0, 0, 0, 0, 0, 0, 0, 0, 0, 0, 0, 0, 0, 0, 0, 0]
                  )
                ) (
                  some [0, 0, 0, 0, 0, 0, 0, 0, 0, 0, 0, 0, 0, 0, 0, 0, 0, 0, 0, 0, 0, 0, 0, 0, 0, 0, 0, 0, 0, 0, 0, 0]
                )
              ) (
                some [0, 0, 0, 0, 0, 0, 0, 0, 0, 0, 0, 0, 0, 0, 0, 0, 0, 0, 0, 0, 0, 0, 0, 0, 0, 0, 0, 0, 0, 0, 0, 0]
              )
            )
          ) (
            mo (veilref01_F_Sub N [1, 0, 0, 0, 0, 0, 0, 0, 0, 0] r1.2.2.2.2) none fun r188 =>
            mo (veilref01_F_Add N [1, 0, 0, 0, 0, 0, 0, 0, 0, 0] r1.2.2.2.2) none fun r189 =>
            mo (veilref01_SqrtRatio N r188 r189) none fun r190 =>
            cond r190.2 (
              mo (veilref05_stands N r190.1) none fun r191 =>
              cond r191.2 (
                mo (veilref05_Point_Same N (a.1, a.2) (r191.1.1, r191.1.2)) none fun r192 =>
                cond r192 (
                  mo (veilref01_F_Encode N r190.1) none fun r193 =>
                  some r193
                ) (
                  some [0, 0, 0, 0, 0, 0, 0, 0, 0, 0, 0, 0, 0, 0, 0, 0, 0, 0, 0, 0, 0, 0, 0, 0, 0, 0, 0, 0, 0, 0, 0, 0]
                )
              ) (
                some [0, 0, 0, 0, 0, 0, 0, 0, 0, 0, 0, 0, 0, 0, 0, 0, 0, 0, 0, 0, 0, 0, 0, 0, 0, 0, 0, 0, 0, 0, 0, 0]
              )
            ) (
              some [0, 0, 0, 0, 0, 0, 0, 0, 0, 0, 0, 0, 0, 0, 0, 0, 0, 0, 0, 0, 0, 0, 0, 0, 0, 0, 0, 0, 0, 0, 0, 0]
            )
          )
        )
      ) (
        mo (veilref01_F_Sub N [1, 0, 0, 0, 0, 0, 0, 0, 0, 0] r1.2.2.1.2) none fun r194 =>
        mo (veilref01_F_Add N [1, 0, 0, 0, 0, 0, 0, 0, 0, 0] r1.2.2.1.2) none fun r195 =>
        mo (veilref01_SqrtRatio N r194 r195) none fun r196 =>
        cond r196.2 (
          mo (veilref05_stands N r196.1) none fun r197 =>
          cond r197.2 (
            mo (veilref05_Point_Same N (a.1, a.2) (r197.1.1, r197.1.2)) none fun r198 =>
            cond r198 (
              mo (veilref01_F_Encode N r196.1) none fun r199 =>
              some r199
            ) (
              mo (veilref01_F_Sub N [1, 0, 0, 0, 0, 0, 0, 0, 0, 0] r1.2.2.2.2) none fun r200 =>
              mo (veilref01_F_Add N [1, 0, 0, 0, 0, 0, 0, 0, 0, 0] r1.2.2.2.2) none fun r201 =>
              mo (veilref01_SqrtRatio N r200 r201) none fun r202 =>
              cond r202.2 (
                mo (veilref05_stands N r202.1) none fun r203 =>
                cond r203.2 (
                  mo (veilref05_Point_Same N (a.1, a.2) (r203.1.1, r203.1.2)) none fun r204 =>
                  cond r204 (
                    mo (veilref01_F_Encode N r202.1) none fun r205 =>
                    some r205
                  ) (
                    some [0, 0, 0, 0, 0, 0, 0, 0, 0, 0, 0, 0, 0, 0, 0, 0, 0, 0, 0, 0, 0, 0, 0, 0, 0, 0, 0, 0, 0, 0, 0, 0]
                  )
                ) (
                  some [0, 0, 0, 0, 0, 0, 0, 0, 0, 0, 0, 0, 0, 0, 0, 0, 0, 0, 0, 0, 0, 0, 0, 0, 0, 0, 0, 0, 0, 0, 0, 0]
                )
              ) (
                some [0, 0, 0, 0, 0, 0, 0, 0, 0, 0, 0, 0, 0, 0, 0, 0, 0, 0, 0, 0, 0, 0, 0, 0, 0, 0, 0, 0, 0, 0, 0, 0]
              )
            )
          ) (
            mo (veilref01_F_Sub N [1, 0, 0, 0, 0, 0, 0, 0, 0, 0] r1.2.2.2.2) none fun r206 =>
            mo (veilref01_F_Add N [1, 0, 0, 0, 0, 0, 0, 0, 0, 0] r1.2.2.2.2) none fun r207 =>
            mo (veilref01_SqrtRatio N r206 r207) none fun r208 =>
            cond r208.2 (
              mo (veilref05_stands N r208.1) none fun r209 =>
              cond r209.2 (
                mo (veilref05_Point_Same N (a.1, a.2) (r209.1.1, r209.1.2)) none fun r210 =>
                cond r210 (
                  mo (veilref01_F_Encode N r208.1) none fun r211 =>
                  some r211
                ) (
                  some [0, 0, 0, 0, 0, 0, 0, 0, 0, 0, 0, 0, 0, 0, 0, 0, 0, 0, 0, 0, 0, 0, 0, 0, 0, 0, 0, 0, 0, 0, 0, 0]
                )
              ) (
                some [0, 0, 0, 0, 0, 0, 0, 0, 0, 0, 0, 0, 0, 0, 0, 0, 0, 0, 0, 0, 0, 0, 0, 0, 0, 0, 0, 0, 0, 0, 0, 0]
              )
            ) (
              some [0, 0, 0, 0, 0, 0, 0, 0, 0, 0, 0, 0, 0, 0, 0, 0, 0, 0, 0, 0, 0, 0, 0, 0, 0, 0, 0, 0, 0, 0, 0, 0]
            )
          )
        ) (
          mo (veilref01_F_Sub N [1, 0, 0, 0, 0, 0, 0, 0, 0, 0] r1.2.2.2.2) none fun r212 =>
          mo (veilref01_F_Add N [1, 0, 0, 0, 0, 0, 0, 0, 0, 0] r1.2.2.2.2) none fun r213 =>
          mo (veilref01_SqrtRatio N r212 r213) none fun r214 =>
          cond r214.2 (
            mo (veilref05_stands N r214.1) none fun r215 =>
            cond r215.2 (
              mo (veilref05_Point_Same N (a.1, a.2) (r215.1.1, r215.1.2)) none fun r216 =>
              cond r216 (
                mo (veilref01_F_Encode N r214.1) none fun r217 =>
                some r217
              ) (
                some [0, 0, 0, 0, 0, 0, 0, 0, 0, 0, 0, 0, 0, 0, 0, 0, 0, 0, 0, 0, 0, 0, 0, 0, 0, 0, 0, 0, 0, 0, 0, 0]
              )
            ) (
              some [0, 0, 0, 0, 0, 0, 0, 0, 0, 0, 0, 0, 0, 0, 0, 0, 0, 0, 0, 0, 0, 0, 0, 0, 0, 0, 0, 0, 0, 0, 0, 0]
            )
          ) (
            some [0, 0, 0, 0, 0, 0, 0, 0, 0, 0, 0, 0, 0, 0, 0, 0, 0, 0, 0, 0, 0, 0, 0, 0, 0, 0, 0, 0, 0, 0, 0, 0]
          )
        )
      )
    ) (
      mo (veilref01_F_Sub N [1, 0, 0, 0, 0, 0, 0, 0, 0, 0] r1.2.2.1.2) none fun r218 =>
      mo (veilref01_F_Add N [1, 0, 0, 0, 0, 0, 0, 0, 0, 0] r1.2.2.1.2) none fun r219 =>
      mo (veilref01_SqrtRatio N r218 r219) none fun r220 =>
      cond r220.2 (
        mo (veilref05_stands N r220.1) none fun r221 =>
        cond r221.2 (
          mo (veilref05_Point_Same N (a.1, a.2) (r221.1.1, r221.1.2)) none fun r222 =>
          cond r222 (
            mo (veilref01_F_Encode N r220.1) none fun r223 =>
            some r223
          ) (
            mo (veilref01_F_Sub N [1, 0, 0, 0, 0, 0, 0, 0, 0, 0] r1.2.2.2.2) none fun r224 =>
            mo (veilref01_F_Add N [1, 0, 0, 0, 0, 0, 0, 0, 0, 0] r1.2.2.2.2) none fun r225 =>
            mo (veilref01_SqrtRatio N r224 r225) none fun r226 =>
            cond r226.2 (
              mo (veilref05_stands N r226.1) none fun r227 =>
              cond r227.2 (
                mo (veilref05_Point_Same N (a.1, a.2) (r227.1.1, r227.1.2)) none fun r228 =>
                cond r228 (
                  mo (veilref01_F_Encode N r226.1) none fun r229 =>
                  some r229
                ) (
                  some [0, 0, 0, 0, 0, 0, 0, 0, 0, 0, 0, 0, 0, 0, 0, 0, 0, 0, 0, 0, 0, 0, 0, 0, 0, 0, 0, 0, 0, 0, 0, 0]
                )
              ) (
                some [0, 0, 0, 0, 0, 0, 0, 0, 0, 0, 0, 0, 0, 0, 0, 0, 0, 0, 0, 0, 0, 0, 0, 0, 0, 0, 0, 0, 0, 0, 0, 0]
              )
            ) (
              some [0, 0, 0, 0, 0, 0, 0, 0, 0, 0, 0, 0, 0, 0, 0, 0, 0, 0, 0, 0, 0, 0, 0, 0, 0, 0, 0, 0, 0, 0, 0, 0]
            )
          )
        ) (
          mo (veilref01_F_Sub N [1, 0, 0, 0, 0, 0, 0, 0, 0, 0] r1.2.2.2.2) none fun r230 =>
          mo (veilref01_F_Add N [1, 0, 0, 0, 0, 0, 0, 0, 0, 0] r1.2.2.2.2) none fun r231 =>
          mo (veilref01_SqrtRatio N r230 r231) none fun r232 =>
          cond r232.2 (
            mo (veilref05_stands N r232.1) none fun r233 =>
            cond r233.2 (
              mo (veilref05_Point_Same N (a.1, a.2) (r233.1.1, r233.1.2)) none fun r234 =>
              cond r234 (
                mo (veilref01_F_Encode N r232.1) none fun r235 =>
                some r235
              ) (
                some [0, 0, 0, 0, 0, 0, 0, 0, 0, 0, 0, 0, 0, 0, 0, 0, 0, 0, 0, 0, 0, 0, 0, 0, 0, 0, 0, 0, 0, 0, 0, 0]
              )
            ) (
              some [0, 0, 0, 0, 0, 0, 0, 0, 0, 0, 0, 0, 0, 0, 0, 0, 0, 0, 0, 0, 0, 0, 0, 0, 0, 0, 0, 0, 0, 0, 0, 0]
            )
          ) (
            some [0, 0, 0, 0, 0, 0, 0, 0, 0, 0, 0, 0, 0, 0, 0, 0, 0, 0, 0, 0, 0, 0, 0, 0, 0, 0, 0, 0, 0, 0, 0, 0]
          )
        )
      ) (
        mo (veilref01_F_Sub N [1, 0, 0, 0, 0, 0, 0, 0, 0, 0] r1.2.2.2.2) none fun r236 =>
        mo (veilref01_F_Add N [1, 0, 0, 0, 0, 0, 0, 0, 0, 0] r1.2.2.2.2) none fun r237 =>
        mo (veilref01_SqrtRatio N r236 r237) none fun r238 =>
        cond r238.2 (
          mo (veilref05_stands N r238.1) none fun r239 =>
          cond r239.2 (
            mo (veilref05_Point_Same N (a.1, a.2) (r239.1.1, r239.1.2)) none fun r240 =>
            cond r240 (
              mo (veilref01_F_Encode N r238.1) none fun r241 =>
              some r241
            ) (
              some [0, 0, 0, 0, 0, 0, 0, 0, 0, 0, 0, 0, 0, 0, 0, 0, 0, 0, 0, 0, 0, 0, 0, 0, 0, 0, 0, 0, 0, 0, 0, 0]
            )
          ) (
            some [0, 0, 0, 0, 0, 0, 0, 0, 0, 0, 0, 0, 0, 0, 0, 0, 0, 0, 0, 0, 0, 0, 0, 0, 0, 0, 0, 0, 0, 0, 0, 0]
          )
        ) (
          some [0, 0, 0, 0, 0, 0, 0, 0, 0, 0, 0, 0, 0, 0, 0, 0, 0, 0, 0, 0, 0, 0, 0, 0, 0, 0, 0, 0, 0, 0, 0, 0]
        )
      )
    )
  )


def veilref05_Point_Add (N : Nat) (a : (List Int × List Int)) (b : (List Int × List Int)) : Option ((List Int × List Int)) :=
  mo (veilref04_Point_Add N ((veilref05_Point_at (a.1, a.2)).1, (veilref05_Point_at (a.1, a.2)).2) ((veilref05_Point_at (b.1, b.2)).1, (veilref05_Point_at (b.1, b.2)).2)) none fun r1 =>
  some (r1.1, r1.2)


def veilref05_MapHalf (N : Nat) (a : List Int) : Option ((List Int × List Int)) :=
  mo (veilref01_F_Mul N veilref01_I a) none fun r1 =>
  mo (veilref01_F_Mul N r1 a) none fun r2 =>
  mo (veilref01_F_Add N r2 [1, 0, 0, 0, 0, 0, 0, 0, 0, 0]) none fun r3 =>
  mo (veilref01_F_Mul N veilref01_D veilref01_D) none fun r4 =>
  mo (veilref01_F_Sub N [1, 0, 0, 0, 0, 0, 0, 0, 0, 0] r4) none fun r5 =>
  mo (veilref01_F_Mul N r3 r5) none fun r6 =>
  mo (veilref01_F_Mul N r2 veilref01_D) none fun r7 =>
  let x1 := (veilref01_F_Neg [1, 0, 0, 0, 0, 0, 0, 0, 0, 0])
  mo (veilref01_F_Sub N x1 r7) none fun r8 =>
  mo (veilref01_F_Add N r2 veilref01_D) none fun r9 =>
  mo (veilref01_F_Mul N r8 r9) none fun r10 =>
  mo (veilref01_SqrtRatio N r6 r10) none fun r11 =>
  cond (!r11.2) (
    mo (veilref01_F_Mul N r11.1 a) none fun r12 =>
    mo (veilref01_F_Sub N veilref01_D [1, 0, 0, 0, 0, 0, 0, 0, 0, 0]) none fun r13 =>
    mo (veilref01_F_Sub N r2 [1, 0, 0, 0, 0, 0, 0, 0, 0, 0]) none fun r14 =>
    mo (veilref01_F_Mul N r2 r14) none fun r15 =>
    mo (veilref01_F_Mul N r15 r13) none fun r16 =>
    mo (veilref01_F_Mul N r16 r13) none fun r17 =>
    mo (veilref01_F_Sub N r17 r10) none fun r18 =>
    mo (veilref01_Const N 3) none fun r19 =>
    mo (veilref01_F_Mul N (veilref01_F_Neg (veilref01_F_Abs r12)) (veilref01_F_Neg (veilref01_F_Abs r12))) none fun r20 =>
    mo (veilref01_F_Add N (veilref01_F_Neg (veilref01_F_Abs r12)) (veilref01_F_Neg (veilref01_F_Abs r12))) none fun r21 =>
    mo (veilref01_F_Mul N r21 r10) none fun r22 =>
    mo (veilref01_F_Mul N r18 r19) none fun r23 =>
    mo (veilref01_F_Invert N r23) none fun r24 =>
    mo (veilref01_F_Mul N r22 r24) none fun r25 =>
    mo (veilref01_F_Sub N [1, 0, 0, 0, 0, 0, 0, 0, 0, 0] r20) none fun r26 =>
    mo (veilref01_F_Add N [1, 0, 0, 0, 0, 0, 0, 0, 0, 0] r20) none fun r27 =>
    mo (veilref01_F_Invert N r27) none fun r28 =>
    mo (veilref01_F_Mul N r26 r28) none fun r29 =>
    some (r25, r29)
  ) (
    mo (veilref01_F_Sub N veilref01_D [1, 0, 0, 0, 0, 0, 0, 0, 0, 0]) none fun r30 =>
    mo (veilref01_F_Sub N r2 [1, 0, 0, 0, 0, 0, 0, 0, 0, 0]) none fun r31 =>
    mo (veilref01_F_Mul N x1 r31) none fun r32 =>
    mo (veilref01_F_Mul N r32 r30) none fun r33 =>
    mo (veilref01_F_Mul N r33 r30) none fun r34 =>
    mo (veilref01_F_Sub N r34 r10) none fun r35 =>
    mo (veilref01_Const N 3) none fun r36 =>
    mo (veilref01_F_Mul N r11.1 r11.1) none fun r37 =>
    mo (veilref01_F_Add N r11.1 r11.1) none fun r38 =>
    mo (veilref01_F_Mul N r38 r10) none fun r39 =>
    mo (veilref01_F_Mul N r35 r36) none fun r40 =>
    mo (veilref01_F_Invert N r40) none fun r41 =>
    mo (veilref01_F_Mul N r39 r41) none fun r42 =>
    mo (veilref01_F_Sub N [1, 0, 0, 0, 0, 0, 0, 0, 0, 0] r37) none fun r43 =>
    mo (veilref01_F_Add N [1, 0, 0, 0, 0, 0, 0, 0, 0, 0] r37) none fun r44 =>
    mo (veilref01_F_Invert N r44) none fun r45 =>
    mo (veilref01_F_Mul N r43 r45) none fun r46 =>
    some (r42, r46)
  )


def veilref05_Map_l0 (N : Nat) (v : (Unit × Unit × Unit × Unit × Int) × (List Int × Unit × List Int × List Int)) : Option (((Unit × Unit × Unit × Unit × Int) × (List Int × Unit × List Int × List Int)) ⊕ (((Unit × Unit × Unit) × (Unit × List Int × List Int)) ⊕ (Unit × Unit))) :=
  cond (icmp .lss v.1.2.2.2.2 32) (
    cond (decide (0 ≤ v.1.2.2.2.2 ∧ v.1.2.2.2.2 < ((64 : Nat) : Int))) (
      let x1 := (decide (0 ≤ v.1.2.2.2.2 ∧ v.1.2.2.2.2 < ((32 : Nat) : Int)))
      cond x1 (
        let x2 := (ibin .add .i64 32 v.1.2.2.2.2)
        cond (decide (0 ≤ x2 ∧ x2 < ((64 : Nat) : Int))) (
          cond x1 (
            some (.inl (((), (), (), (), (ibin .add .i64 v.1.2.2.2.2 1)), (v.2.1, (), (List.set v.2.2.2.1 (Int.toNat v.1.2.2.2.2) (List.getD v.2.1 (Int.toNat v.1.2.2.2.2) 0)), (List.set v.2.2.2.2 (Int.toNat v.1.2.2.2.2) (List.getD v.2.1 (Int.toNat x2) 0)))))
          ) (
            none
          )
        ) (
          none
        )
      ) (
        none
      )
    ) (
      none
    )
  ) (
    some (.inr (.inl (((), (), ()), ((), v.2.2.2.1, v.2.2.2.2))))
  )

def veilref05_Map (N : Nat) (a : List Int) : Option ((List Int × List Int)) :=
  mo (loopF (veilref05_Map_l0 N) N (((), (), (), (), 0), (a, (), [0, 0, 0, 0, 0, 0, 0, 0, 0, 0, 0, 0, 0, 0, 0, 0, 0, 0, 0, 0, 0, 0, 0, 0, 0, 0, 0, 0, 0, 0, 0, 0], [0, 0, 0, 0, 0, 0, 0, 0, 0, 0, 0, 0, 0, 0, 0, 0, 0, 0, 0, 0, 0, 0, 0, 0, 0, 0, 0, 0, 0, 0, 0, 0]))) none fun r6 =>
  match r6 with
  | .inl u7 => (
    mo (veilref01_Reduce N u7.2.2.1) none fun r8 =>
    mo (veilref05_MapHalf N r8) none fun r9 =>
    mo (veilref01_Reduce N u7.2.2.2) none fun r10 =>
    mo (veilref05_MapHalf N r10) none fun r11 =>
    mo (veilref05_Point_Add N (r9.1, r9.2) (r11.1, r11.2)) none fun r12 =>
    some (r12.1, r12.2)
  )
  | .inr _ => (
    none
  )


def veilref05_Base (N : Nat)  : Option ((List Int × List Int)) :=
  mo (veilref04_Base N) none fun r1 =>
  some (r1.1, r1.2)


def veillaw05_GroupMaps (N : Nat) (a : List Int) (b : List Int) : Option (Bool) :=
  mo (group_Map N a) none fun r1 =>
  mo (group_Point_Encode N (r1.1, r1.2.1, r1.2.2.1, r1.2.2.2)) none fun r2 =>
  mo (veilref05_Map N a) none fun r3 =>
  mo (veilref05_Point_Encode N (r3.1, r3.2)) none fun r4 =>
  cond (decide (r2 = r4)) (
    mo (group_MapHalf N b) none fun r5 =>
    mo (group_Point_Encode N (r5.1, r5.2.1, r5.2.2.1, r5.2.2.2)) none fun r6 =>
    mo (veilref01_Of N b) none fun r7 =>
    mo (veilref05_MapHalf N r7) none fun r8 =>
    mo (veilref05_Point_Encode N (r8.1, r8.2)) none fun r9 =>
    some (decide (r6 = r9))
  ) (
    some false
  )


def veillaw05_GroupDecodes (N : Nat) (a : List Int) (b : List Int) : Option (Bool) :=
  mo (group_Map N b) none fun r1 =>
  mo (group_Point_Decode N (r1.1, r1.2.1, r1.2.2.1, r1.2.2.2) a) none fun r2 =>
  mo (veilref05_Decode N a) none fun r3 =>
  cond (icmp .neq r2.2 r3.2) (
    some false
  ) (
    cond (icmp .eql r2.2 0) (
      let x1 := (group_Point_Encode N (r2.1.1, r2.1.2.1, r2.1.2.2.1, r2.1.2.2.2))
      mo x1 none fun r4 =>
      cond (!(decide (r4 = a))) (
        some false
      ) (
        mo x1 none fun r5 =>
        mo (veilref05_Point_Encode N (r3.1.1, r3.1.2)) none fun r6 =>
        cond (decide (r5 = r6)) (
          mo (group_Point_Encode N (group_Base.1, group_Base.2.1, group_Base.2.2.1, group_Base.2.2.2)) none fun r7 =>
          mo (veilref05_Base N) none fun r8 =>
          mo (veilref05_Point_Encode N (r8.1, r8.2)) none fun r9 =>
          some (decide (r7 = r9))
        ) (
          some false
        )
      )
    ) (
      mo (group_Point_Encode N (r2.1.1, r2.1.2.1, r2.1.2.2.1, r2.1.2.2.2)) none fun r10 =>
      mo (veilref05_Point_Encode N (r3.1.1, r3.1.2)) none fun r11 =>
      cond (decide (r10 = r11)) (
        mo (group_Point_Encode N (group_Base.1, group_Base.2.1, group_Base.2.2.1, group_Base.2.2.2)) none fun r12 =>
        mo (veilref05_Base N) none fun r13 =>
        mo (veilref05_Point_Encode N (r13.1, r13.2)) none fun r14 =>
        some (decide (r12 = r14))
      ) (
        some false
      )
    )
  )


end Go.Vx
