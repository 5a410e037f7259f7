import Derived.Test.YtoionfdfofmplaaDoorVxR
set_option autoImplicit false
set_option linter.unusedVariables false
set_option linter.unusedSimpArgs false
namespace Go.Vx
open Go

def bits_Mul64 (a : Int) (b : Int) : (Int × Int) :=
  let x1 := (ibin .add .u64 (ibin .mul .u64 (ibin .shr .u64 a 32) (ibin .and .u64 b 4294967295)) (ibin .shr .u64 (ibin .mul .u64 (ibin .and .u64 a 4294967295) (ibin .and .u64 b 4294967295)) 32))
  ((ibin .add .u64 (ibin .add .u64 (ibin .mul .u64 (ibin .shr .u64 a 32) (ibin .shr .u64 b 32)) (ibin .shr .u64 x1 32)) (ibin .shr .u64 (ibin .add .u64 (ibin .and .u64 x1 4294967295) (ibin .mul .u64 (ibin .and .u64 a 4294967295) (ibin .shr .u64 b 32))) 32)), (ibin .mul .u64 a b))

def scalar_minus (a : List Int) (b : List Int) : Option ((List Int × Int)) :=
  mo (bits_Sub64 (List.getD a 0 0) (List.getD b 0 0) 0) none fun r1 =>
  mo (bits_Sub64 (List.getD a 1 0) (List.getD b 1 0) r1.2) none fun r2 =>
  mo (bits_Sub64 (List.getD a 2 0) (List.getD b 2 0) r2.2) none fun r3 =>
  mo (bits_Sub64 (List.getD a 3 0) (List.getD b 3 0) r3.2) none fun r4 =>
  some ([r1.1, r2.1, r3.1, r4.1], r4.2)

def scalar_plus (a : List Int) (b : List Int) : Option ((List Int × Int)) :=
  mo (bits_Add64 (List.getD a 0 0) (List.getD b 0 0) 0) none fun r1 =>
  mo (bits_Add64 (List.getD a 1 0) (List.getD b 1 0) r1.2) none fun r2 =>
  mo (bits_Add64 (List.getD a 2 0) (List.getD b 2 0) r2.2) none fun r3 =>
  mo (bits_Add64 (List.getD a 3 0) (List.getD b 3 0) r3.2) none fun r4 =>
  some ([r1.1, r2.1, r3.1, r4.1], r4.2)

def scalar_choose (a : Int) (b : List Int) (c : List Int) : List Int :=
  let x1 := (List.set b 0 (ibin .or .u64 (ibin .and .u64 (List.getD b 0 0) a) (ibin .andNot .u64 (List.getD c 0 0) a)))
  let x2 := (List.set x1 1 (ibin .or .u64 (ibin .and .u64 (List.getD x1 1 0) a) (ibin .andNot .u64 (List.getD c 1 0) a)))
  let x3 := (List.set x2 2 (ibin .or .u64 (ibin .and .u64 (List.getD x2 2 0) a) (ibin .andNot .u64 (List.getD c 2 0) a)))
  (List.set x3 3 (ibin .or .u64 (ibin .and .u64 (List.getD x3 3 0) a) (ibin .andNot .u64 (List.getD c 3 0) a)))

def scalar_lower (a : List Int) : Option (List Int) :=
  mo (scalar_minus a [6346243789798364141, 1503914060200516822, 0, 1152921504606846976]) none fun r1 =>
  some (scalar_choose (ineg .u64 r1.2) a r1.1)

def scalar_Scalar_Least (a : List Int) : Option (List Int) :=
  cond (icmp .lss (List.getD a 3 0) 1152921504606846976) (
    some a
  ) (
    mo (bits_Add64 (bits_Mul64 (ibin .shr .u64 (List.getD a 3 0) 60) 1503914060200516822).2 (bits_Mul64 (ibin .shr .u64 (List.getD a 3 0) 60) 6346243789798364141).1 0) none fun r1 =>
    mo (scalar_minus (List.set a 3 (ibin .and .u64 (List.getD a 3 0) 1152921504606846975)) [(bits_Mul64 (ibin .shr .u64 (List.getD a 3 0) 60) 6346243789798364141).2, r1.1, (ibin .add .u64 (bits_Mul64 (ibin .shr .u64 (List.getD a 3 0) 60) 1503914060200516822).1 r1.2), 0]) none fun r2 =>
    mo (scalar_plus r2.1 [6346243789798364141, 1503914060200516822, 0, 1152921504606846976]) none fun r3 =>
    mo (scalar_lower (scalar_choose (ineg .u64 r2.2) r3.1 r2.1)) none fun r4 =>
    some r4
  )

def scalar_Scalar_Encode_l0 (N : Nat) (v : (Unit × Unit × Unit × Int) × (List Int × Unit × List Int)) : Option (((Unit × Unit × Unit × Int) × (List Int × Unit × List Int)) ⊕ (((Unit × Unit) × (Unit × List Int)) ⊕ (Unit × Unit))) :=
  cond (icmp .lss v.1.2.2.2 32) (
    let x1 := (ibin .quo .i64 v.1.2.2.2 8)
    cond (decide ((0 : Int) ≤ x1 ∧ x1 < ((4 : Nat) : Int))) (
      let x2 := (ibin .mul .i64 8 (ibin .rem .i64 v.1.2.2.2 8))
      cond (decide ((0 : Int) ≤ x2)) (
        cond (decide ((0 : Int) ≤ v.1.2.2.2 ∧ v.1.2.2.2 < ((32 : Nat) : Int))) (
          some (.inl (((), (), (), (ibin .add .i64 v.1.2.2.2 1)), (v.2.1, (), (List.set v.2.2.2 (Int.toNat v.1.2.2.2) (IntKind.wrap .u8 (ibin .shr .u64 (List.getD v.2.1 (Int.toNat x1) 0) x2))))))
        ) (
          none
        )
      ) (
        none
      )
    ) (
      none
    )
  ) (
    some (.inr (.inl (((), ()), ((), v.2.2.2))))
  )

def scalar_Scalar_Encode (N : Nat) (a : List Int) : Option (List Int) :=
  mo (scalar_Scalar_Least a) none fun r1 =>
  mo (loopF (scalar_Scalar_Encode_l0 N) N (((), (), (), 0), (r1, (), [0, 0, 0, 0, 0, 0, 0, 0, 0, 0, 0, 0, 0, 0, 0, 0, 0, 0, 0, 0, 0, 0, 0, 0, 0, 0, 0, 0, 0, 0, 0, 0]))) none fun r6 =>
  match r6 with
  | .inl u7 => (
    some u7.2.2
  )
  | .inr _ => (
    none
  )

def veilref02_l  : List Int :=
  [6346243789798364141, 1503914060200516822, 0, 1152921504606846976]

def veilref02_below (a : List Int) (b : List Int) : Bool :=
  cond (icmp .neq (List.getD a 3 0) (List.getD b 3 0)) (
    (icmp .lss (List.getD a 3 0) (List.getD b 3 0))
  ) (
    cond (icmp .neq (List.getD a 2 0) (List.getD b 2 0)) (
      (icmp .lss (List.getD a 2 0) (List.getD b 2 0))
    ) (
      cond (icmp .neq (List.getD a 1 0) (List.getD b 1 0)) (
        (icmp .lss (List.getD a 1 0) (List.getD b 1 0))
      ) (
        cond (icmp .neq (List.getD a 0 0) (List.getD b 0 0)) (
          (icmp .lss (List.getD a 0 0) (List.getD b 0 0))
        ) (
          false
        )
      )
    )
  )

def veilref02_below_o (a : List Int) (b : List Int) : Option (Bool) :=
  cond (icmp .neq (List.getD a 3 0) (List.getD b 3 0)) (
    some (icmp .lss (List.getD a 3 0) (List.getD b 3 0))
  ) (
    cond (icmp .neq (List.getD a 2 0) (List.getD b 2 0)) (
      some (icmp .lss (List.getD a 2 0) (List.getD b 2 0))
    ) (
      cond (icmp .neq (List.getD a 1 0) (List.getD b 1 0)) (
        some (icmp .lss (List.getD a 1 0) (List.getD b 1 0))
      ) (
        cond (icmp .neq (List.getD a 0 0) (List.getD b 0 0)) (
          some (icmp .lss (List.getD a 0 0) (List.getD b 0 0))
        ) (
          some false
        )
      )
    )
  )

theorem veilref02_below_tot (a : List Int) (b : List Int) : veilref02_below_o a b = some (veilref02_below a b) := by
  unfold veilref02_below_o veilref02_below
  repeat' (first | refine cond_tot ?_ ?_ | rfl)

def veilref02_plus_l0 (N : Nat) (v : (Unit × Unit × Unit × Unit × Unit × Int × Int) × (List Int × List Int × Unit × List Int)) : Option (((Unit × Unit × Unit × Unit × Unit × Int × Int) × (List Int × List Int × Unit × List Int)) ⊕ (((Unit × Unit × Int) × (Unit × List Int)) ⊕ (Unit × Unit))) :=
  cond (icmp .lss v.1.2.2.2.2.2.2 4) (
    let x1 := (decide ((0 : Int) ≤ v.1.2.2.2.2.2.2 ∧ v.1.2.2.2.2.2.2 < ((4 : Nat) : Int)))
    cond x1 (
      cond x1 (
        cond x1 (
          let x2 := (List.getD v.2.1 (Int.toNat v.1.2.2.2.2.2.2) 0)
          let x3 := (ibin .add .u64 x2 (List.getD v.2.2.1 (Int.toNat v.1.2.2.2.2.2.2) 0))
          cond (icmp .lss x3 x2) (
            let x4 := (ibin .add .u64 x3 v.1.2.2.2.2.2.1)
            cond (icmp .lss x4 x3) (
              cond x1 (
                some (.inl (((), (), (), (), (), 1, (ibin .add .i64 v.1.2.2.2.2.2.2 1)), (v.2.1, v.2.2.1, (), (List.set v.2.2.2.2 (Int.toNat v.1.2.2.2.2.2.2) x4))))
              ) (
                none
              )
            ) (
              cond x1 (
                some (.inl (((), (), (), (), (), 1, (ibin .add .i64 v.1.2.2.2.2.2.2 1)), (v.2.1, v.2.2.1, (), (List.set v.2.2.2.2 (Int.toNat v.1.2.2.2.2.2.2) x4))))
              ) (
                none
              )
            )
          ) (
            let x5 := (ibin .add .u64 x3 v.1.2.2.2.2.2.1)
            cond (icmp .lss x5 x3) (
              cond x1 (
                some (.inl (((), (), (), (), (), 1, (ibin .add .i64 v.1.2.2.2.2.2.2 1)), (v.2.1, v.2.2.1, (), (List.set v.2.2.2.2 (Int.toNat v.1.2.2.2.2.2.2) x5))))
              ) (
                none
              )
            ) (
              cond x1 (
                some (.inl (((), (), (), (), (), 0, (ibin .add .i64 v.1.2.2.2.2.2.2 1)), (v.2.1, v.2.2.1, (), (List.set v.2.2.2.2 (Int.toNat v.1.2.2.2.2.2.2) x5))))
              ) (
                none
              )
            )
          )
        ) (
          none
        )
      ) (
        none
      )
    ) (
      none
    )
  ) (
    some (.inr (.inl (((), (), v.1.2.2.2.2.2.1), ((), v.2.2.2.2))))
  )

def veilref02_plus (N : Nat) (a : List Int) (b : List Int) : Option ((List Int × Int)) :=
  mo (loopF (veilref02_plus_l0 N) N (((), (), (), (), (), 0, 0), (a, b, (), [0, 0, 0, 0]))) none fun r8 =>
  match r8 with
  | .inl u9 => (
    some (u9.2.2, u9.1.2.2)
  )
  | .inr _ => (
    none
  )

def veilref02_minus_l0 (N : Nat) (v : (Unit × Unit × Unit × Unit × Unit × Int × Int) × (List Int × List Int × Unit × List Int)) : Option (((Unit × Unit × Unit × Unit × Unit × Int × Int) × (List Int × List Int × Unit × List Int)) ⊕ (((Unit × Unit × Int) × (Unit × List Int)) ⊕ (Unit × Unit))) :=
  cond (icmp .lss v.1.2.2.2.2.2.2 4) (
    let x1 := (decide ((0 : Int) ≤ v.1.2.2.2.2.2.2 ∧ v.1.2.2.2.2.2.2 < ((4 : Nat) : Int)))
    cond x1 (
      cond x1 (
        cond x1 (
          cond x1 (
            let x2 := (List.getD v.2.1 (Int.toNat v.1.2.2.2.2.2.2) 0)
            let x3 := (List.getD v.2.2.1 (Int.toNat v.1.2.2.2.2.2.2) 0)
            cond (icmp .lss x2 x3) (
              let x4 := (ibin .sub .u64 x2 x3)
              cond (icmp .lss x4 v.1.2.2.2.2.2.1) (
                cond x1 (
                  some (.inl (((), (), (), (), (), 1, (ibin .add .i64 v.1.2.2.2.2.2.2 1)), (v.2.1, v.2.2.1, (), (List.set v.2.2.2.2 (Int.toNat v.1.2.2.2.2.2.2) (ibin .sub .u64 x4 v.1.2.2.2.2.2.1)))))
                ) (
                  none
                )
              ) (
                cond x1 (
                  some (.inl (((), (), (), (), (), 1, (ibin .add .i64 v.1.2.2.2.2.2.2 1)), (v.2.1, v.2.2.1, (), (List.set v.2.2.2.2 (Int.toNat v.1.2.2.2.2.2.2) (ibin .sub .u64 x4 v.1.2.2.2.2.2.1)))))
                ) (
                  none
                )
              )
            ) (
              let x5 := (ibin .sub .u64 x2 x3)
              cond (icmp .lss x5 v.1.2.2.2.2.2.1) (
                cond x1 (
                  some (.inl (((), (), (), (), (), 1, (ibin .add .i64 v.1.2.2.2.2.2.2 1)), (v.2.1, v.2.2.1, (), (List.set v.2.2.2.2 (Int.toNat v.1.2.2.2.2.2.2) (ibin .sub .u64 x5 v.1.2.2.2.2.2.1)))))
                ) (
                  none
                )
              ) (
                cond x1 (
                  some (.inl (((), (), (), (), (), 0, (ibin .add .i64 v.1.2.2.2.2.2.2 1)), (v.2.1, v.2.2.1, (), (List.set v.2.2.2.2 (Int.toNat v.1.2.2.2.2.2.2) (ibin .sub .u64 x5 v.1.2.2.2.2.2.1)))))
                ) (
                  none
                )
              )
            )
          ) (
            none
          )
        ) (
          none
        )
      ) (
        none
      )
    ) (
      none
    )
  ) (
    some (.inr (.inl (((), (), v.1.2.2.2.2.2.1), ((), v.2.2.2.2))))
  )

def veilref02_minus (N : Nat) (a : List Int) (b : List Int) : Option ((List Int × Int)) :=
  mo (loopF (veilref02_minus_l0 N) N (((), (), (), (), (), 0, 0), (a, b, (), [0, 0, 0, 0]))) none fun r8 =>
  match r8 with
  | .inl u9 => (
    some (u9.2.2, u9.1.2.2)
  )
  | .inr _ => (
    none
  )

def veilref02_step (N : Nat) (a : List Int) (b : Int) : Option (List Int) :=
  let x1 := (ibin .shr .u64 (List.getD a 3 0) 44)
  let x2 := (ibin .add .u64 (ibin .mul .u64 (ibin .and .u64 (List.getD veilref02_l 0 0) 4294967295) x1) 0)
  let x3 := (ibin .add .u64 (ibin .mul .u64 (ibin .shr .u64 (List.getD veilref02_l 0 0) 32) x1) (ibin .shr .u64 x2 32))
  let x4 := (ibin .add .u64 (ibin .mul .u64 (ibin .and .u64 (List.getD veilref02_l 1 0) 4294967295) x1) (ibin .shr .u64 x3 32))
  let x5 := (ibin .add .u64 (ibin .mul .u64 (ibin .shr .u64 (List.getD veilref02_l 1 0) 32) x1) (ibin .shr .u64 x4 32))
  mo (veilref02_minus N [(ibin .or .u64 (ibin .shl .u64 (List.getD a 0 0) 16) b), (ibin .or .u64 (ibin .shl .u64 (List.getD a 1 0) 16) (ibin .shr .u64 (List.getD a 0 0) 48)), (ibin .or .u64 (ibin .shl .u64 (List.getD a 2 0) 16) (ibin .shr .u64 (List.getD a 1 0) 48)), (ibin .and .u64 (ibin .or .u64 (ibin .shl .u64 (List.getD a 3 0) 16) (ibin .shr .u64 (List.getD a 2 0) 48)) 1152921504606846975)] [(ibin .or .u64 (ibin .and .u64 x2 4294967295) (ibin .shl .u64 (ibin .and .u64 x3 4294967295) 32)), (ibin .or .u64 (ibin .and .u64 x4 4294967295) (ibin .shl .u64 (ibin .and .u64 x5 4294967295) 32)), (ibin .shr .u64 x5 32), 0]) none fun r1 =>
  cond (icmp .eql r1.2 1) (
    mo (veilref02_plus N r1.1 veilref02_l) none fun r2 =>
    cond (!(veilref02_below r2.1 veilref02_l)) (
      mo (veilref02_minus N r2.1 veilref02_l) none fun r3 =>
      some r3.1
    ) (
      some r2.1
    )
  ) (
    cond (!(veilref02_below r1.1 veilref02_l)) (
      mo (veilref02_minus N r1.1 veilref02_l) none fun r4 =>
      some r4.1
    ) (
      some r1.1
    )
  )

def veilref02_words_l0 (N : Nat) (v : (Nat × Unit × Unit × Int) × ((Nat × List Int) × Unit × List Int)) : Option (((Nat × Unit × Unit × Int) × ((Nat × List Int) × Unit × List Int)) ⊕ (((Unit × Unit) × (Unit × List Int)) ⊕ (Unit × Unit))) :=
  cond (icmp .geq v.1.2.2.2 0) (
    cond (decide ((0 : Int) ≤ v.1.2.2.2 ∧ v.1.2.2.2 < ((v.1.1 : Nat) : Int))) (
      mo (veilref02_step N v.2.2.2 (List.getD v.2.1.2 (Int.toNat v.1.2.2.2) 0)) none fun r10 =>
      some (.inl ((v.1.1, (), (), (ibin .sub .i64 v.1.2.2.2 1)), ((v.2.1.1, v.2.1.2), (), r10)))
    ) (
      none
    )
  ) (
    some (.inr (.inl (((), ()), ((), v.2.2.2))))
  )

def veilref02_words (N : Nat) (a : ((Nat × List Int) × Unit)) : Option (List Int) :=
  mo (loopF (veilref02_words_l0 N) N ((a.1.1, (), (), (ibin .sub .i64 ((a.1.1 : Nat) : Int) 1)), ((a.1.1, a.1.2), (), [0, 0, 0, 0]))) none fun r11 =>
  match r11 with
  | .inl u12 => (
    some u12.2.2
  )
  | .inr _ => (
    none
  )

def veilref02_Least (N : Nat) (a : List Int) : Option (List Int) :=
  cond (decide ((0 + 4) * 8 ≤ 140737488355328 ∧ (0 + 4) ≤ 9223372036854775807)) (
    let x1 := ((0 + 4) + 4)
    cond (decide (x1 * 8 ≤ 140737488355328 ∧ x1 ≤ 9223372036854775807)) (
      let x2 := (x1 + 4)
      cond (decide (x2 * 8 ≤ 140737488355328 ∧ x2 ≤ 9223372036854775807)) (
        let x3 := (x2 + 4)
        cond (decide (x3 * 8 ≤ 140737488355328 ∧ x3 ≤ 9223372036854775807)) (
          mo (veilref02_words N ((x3, ((([(ibin .and .u64 (List.getD a 0 0) 65535), (ibin .and .u64 (ibin .shr .u64 (List.getD a 0 0) 16) 65535), (ibin .and .u64 (ibin .shr .u64 (List.getD a 0 0) 32) 65535), (ibin .shr .u64 (List.getD a 0 0) 48)] ++ [(ibin .and .u64 (List.getD a 1 0) 65535), (ibin .and .u64 (ibin .shr .u64 (List.getD a 1 0) 16) 65535), (ibin .and .u64 (ibin .shr .u64 (List.getD a 1 0) 32) 65535), (ibin .shr .u64 (List.getD a 1 0) 48)]) ++ [(ibin .and .u64 (List.getD a 2 0) 65535), (ibin .and .u64 (ibin .shr .u64 (List.getD a 2 0) 16) 65535), (ibin .and .u64 (ibin .shr .u64 (List.getD a 2 0) 32) 65535), (ibin .shr .u64 (List.getD a 2 0) 48)]) ++ [(ibin .and .u64 (List.getD a 3 0) 65535), (ibin .and .u64 (ibin .shr .u64 (List.getD a 3 0) 16) 65535), (ibin .and .u64 (ibin .shr .u64 (List.getD a 3 0) 32) 65535), (ibin .shr .u64 (List.getD a 3 0) 48)])), ())) none fun r1 =>
          some r1
        ) (
          none
        )
      ) (
        none
      )
    ) (
      none
    )
  ) (
    none
  )

def veilref02_Scalar_Encode_l0 (N : Nat) (v : (Unit × Unit × Unit × Int) × (List Int × Unit × List Int)) : Option (((Unit × Unit × Unit × Int) × (List Int × Unit × List Int)) ⊕ (((Unit × Unit) × (Unit × List Int)) ⊕ (Unit × Unit))) :=
  cond (icmp .lss v.1.2.2.2 32) (
    let x1 := (ibin .quo .i64 v.1.2.2.2 8)
    cond (decide ((0 : Int) ≤ x1 ∧ x1 < ((4 : Nat) : Int))) (
      let x2 := (ibin .mul .i64 8 (ibin .rem .i64 v.1.2.2.2 8))
      cond (decide ((0 : Int) ≤ x2)) (
        cond (decide ((0 : Int) ≤ v.1.2.2.2 ∧ v.1.2.2.2 < ((32 : Nat) : Int))) (
          some (.inl (((), (), (), (ibin .add .i64 v.1.2.2.2 1)), (v.2.1, (), (List.set v.2.2.2 (Int.toNat v.1.2.2.2) (IntKind.wrap .u8 (ibin .shr .u64 (List.getD v.2.1 (Int.toNat x1) 0) x2))))))
        ) (
          none
        )
      ) (
        none
      )
    ) (
      none
    )
  ) (
    some (.inr (.inl (((), ()), ((), v.2.2.2))))
  )

def veilref02_Scalar_Encode (N : Nat) (a : List Int) : Option (List Int) :=
  mo (loopF (veilref02_Scalar_Encode_l0 N) N (((), (), (), 0), (a, (), [0, 0, 0, 0, 0, 0, 0, 0, 0, 0, 0, 0, 0, 0, 0, 0, 0, 0, 0, 0, 0, 0, 0, 0, 0, 0, 0, 0, 0, 0, 0, 0]))) none fun r5 =>
  match r5 with
  | .inl u6 => (
    some u6.2.2
  )
  | .inr _ => (
    none
  )

def veilref07_LineOf (a : List Int) : (Int × (List Int × List Int) × List Int × Unit) :=
  (2, ([0, 0, 0, 0, 0, 0, 0, 0, 0, 0], [0, 0, 0, 0, 0, 0, 0, 0, 0, 0]), a, ())

def veillaw10_lines_l0 (N : Nat) (v : (Nat × Unit × Nat × Int) × (List (List Int) × List (List Int))) : Option (((Nat × Unit × Nat × Int) × (List (List Int) × List (List Int))) ⊕ ((Nat × List (List Int)) ⊕ (Unit × Unit))) :=
  cond (icmp .lss v.1.2.2.2 ((v.1.1 : Nat) : Int)) (
    cond (decide ((0 : Int) ≤ v.1.2.2.2 ∧ v.1.2.2.2 < ((v.1.1 : Nat) : Int))) (
      let x1 := (v.2.2 ++ [(List.getD v.2.1 (Int.toNat v.1.2.2.2) [0, 0, 0, 0])])
      let x2 := (List.length x1)
      cond (decide (x2 * 32 ≤ 140737488355328 ∧ x2 ≤ 9223372036854775807)) (
        some (.inl ((v.1.1, (), x2, (ibin .add .i64 v.1.2.2.2 1)), (v.2.1, x1)))
      ) (
        none
      )
    ) (
      none
    )
  ) (
    some (.inr (.inl (v.1.2.2.1, v.2.2)))
  )

def veillaw10_lines (N : Nat) (a : (List (List Int) × Unit)) : Option ((List (List Int) × Unit)) :=
  mo (loopF (veillaw10_lines_l0 N) N (((List.length a.1), (), 0, 0), (a.1, []))) none fun r12 =>
  match r12 with
  | .inl u13 => (
    some (u13.2, ())
  )
  | .inr _ => (
    none
  )

def veillaw10_WireProof_line (N : Nat) (a : ((List Int × List Int × List Int × List Int) × List Int × List Int × List Int × List (List Int) × List (List Int) × List Int × List Int)) (b : Unit) (m : Unit) : Option ((List Int × List Int × List Int × List Int × List Int × List Int × List Int × Nat × Nat × List Int × List Int) × (List (List Int) × List (List Int))) :=
  mo (veillaw10_lines N (a.2.2.2.2.1, ())) none fun r1 =>
  mo (veillaw10_lines N (a.2.2.2.2.2.1, ())) none fun r2 =>
  some ((a.1.1, a.1.2.1, a.1.2.2.1, a.1.2.2.2, a.2.1, a.2.2.1, a.2.2.2.1, (List.length r1.1), (List.length r2.1), a.2.2.2.2.2.2.1, a.2.2.2.2.2.2.2), (r1.1, r2.1))

def wire_EncodeProof_of_msm_Line_l4 (N : Nat) (v : (Unit × Unit × Unit × Unit × Unit × Nat × Int × Int) × (List (List Int) × List (List Int) × (List Int × List Int × List Int × List Int × List Int × List Int × List Int × Nat × Nat × List Int × List Int) × Nat × (Nat × List Int))) : Option (((Unit × Unit × Unit × Unit × Unit × Nat × Int × Int) × (List (List Int) × List (List Int) × (List Int × List Int × List Int × List Int × List Int × List Int × List Int × Nat × Nat × List Int × List Int) × Nat × (Nat × List Int))) ⊕ (((Unit × Unit × Unit) × (List (List Int) × List (List Int) × (List Int × List Int × List Int × List Int × List Int × List Int × List Int × Nat × Nat × List Int × List Int) × Nat × (Nat × List Int))) ⊕ (Unit × Unit))) :=
  cond (icmp .lss v.1.2.2.2.2.2.2.2 v.1.2.2.2.2.2.2.1) (
    cond (decide ((0 : Int) ≤ v.1.2.2.2.2.2.2.2 ∧ v.1.2.2.2.2.2.2.2 < ((v.1.2.2.2.2.2.1 : Nat) : Int))) (
      mo (scalar_Scalar_Encode N (List.getD v.2.1 (Int.toNat v.1.2.2.2.2.2.2.2) [0, 0, 0, 0])) none fun r45 =>
      let x1 := (v.2.2.2.2.2.1 + 32)
      cond (decide (x1 * 1 ≤ 140737488355328 ∧ x1 ≤ 9223372036854775807)) (
        cond (decide ((0 : Int) ≤ v.1.2.2.2.2.2.2.2 ∧ v.1.2.2.2.2.2.2.2 < ((v.2.2.2.1.2.2.2.2.2.2.2.2.1 : Nat) : Int))) (
          mo (scalar_Scalar_Encode N (List.getD v.2.2.1 (Int.toNat v.1.2.2.2.2.2.2.2) [0, 0, 0, 0])) none fun r46 =>
          let x2 := (x1 + 32)
          cond (decide (x2 * 1 ≤ 140737488355328 ∧ x2 ≤ 9223372036854775807)) (
            some (.inl (((), (), (), (), (), v.1.2.2.2.2.2.1, v.1.2.2.2.2.2.2.1, (ibin .add .i64 v.1.2.2.2.2.2.2.2 1)), (v.2.1, v.2.2.1, (v.2.2.2.1.1, v.2.2.2.1.2.1, v.2.2.2.1.2.2.1, v.2.2.2.1.2.2.2.1, v.2.2.2.1.2.2.2.2.1, v.2.2.2.1.2.2.2.2.2.1, v.2.2.2.1.2.2.2.2.2.2.1, v.2.2.2.1.2.2.2.2.2.2.2.1, v.2.2.2.1.2.2.2.2.2.2.2.2.1, v.2.2.2.1.2.2.2.2.2.2.2.2.2.1, v.2.2.2.1.2.2.2.2.2.2.2.2.2.2), x2, (x2, ((v.2.2.2.2.2.2 ++ (List.take 32 (List.drop 0 r45))) ++ (List.take 32 (List.drop 0 r46)))))))
          ) (
            none
          )
        ) (
          none
        )
      ) (
        none
      )
    ) (
      none
    )
  ) (
    some (.inr (.inl (((), (), ()), (v.2.1, v.2.2.1, (v.2.2.2.1.1, v.2.2.2.1.2.1, v.2.2.2.1.2.2.1, v.2.2.2.1.2.2.2.1, v.2.2.2.1.2.2.2.2.1, v.2.2.2.1.2.2.2.2.2.1, v.2.2.2.1.2.2.2.2.2.2.1, v.2.2.2.1.2.2.2.2.2.2.2.1, v.2.2.2.1.2.2.2.2.2.2.2.2.1, v.2.2.2.1.2.2.2.2.2.2.2.2.2.1, v.2.2.2.1.2.2.2.2.2.2.2.2.2.2), v.2.2.2.2.1, (v.2.2.2.2.2.1, v.2.2.2.2.2.2)))))
  )

def wire_EncodeProof_of_msm_Line (N : Nat) (a : (List Int × List Int × List Int × List Int × List Int × List Int × List Int × Nat × Nat × List Int × List Int)) (b : (List (List Int) × List (List Int))) (m : Unit) : Option ((Nat × Int) × (Nat × List Int)) :=
  let x1 := ((a.2.2.2.2.2.2.2.1 : Nat) : Int)
  cond (icmp .neq x1 ((a.2.2.2.2.2.2.2.2.1 : Nat) : Int)) (
    some ((0, 2), (0, []))
  ) (
    cond (icmp .gtr x1 10) (
      some ((0, 2), (0, []))
    ) (
      mo (scalar_Scalar_Encode N a.1) none fun r1 =>
      cond (decide ((0 + 32) * 1 ≤ 140737488355328 ∧ (0 + 32) ≤ 9223372036854775807)) (
        mo (scalar_Scalar_Encode N a.2.1) none fun r2 =>
        let x2 := ((0 + 32) + 32)
        cond (decide (x2 * 1 ≤ 140737488355328 ∧ x2 ≤ 9223372036854775807)) (
          mo (scalar_Scalar_Encode N a.2.2.1) none fun r3 =>
          let x3 := (x2 + 32)
          cond (decide (x3 * 1 ≤ 140737488355328 ∧ x3 ≤ 9223372036854775807)) (
            mo (scalar_Scalar_Encode N a.2.2.2.1) none fun r4 =>
            let x4 := (x3 + 32)
            cond (decide (x4 * 1 ≤ 140737488355328 ∧ x4 ≤ 9223372036854775807)) (
              mo (scalar_Scalar_Encode N a.2.2.2.2.1) none fun r5 =>
              let x5 := (x4 + 32)
              cond (decide (x5 * 1 ≤ 140737488355328 ∧ x5 ≤ 9223372036854775807)) (
                mo (scalar_Scalar_Encode N a.2.2.2.2.2.1) none fun r6 =>
                let x6 := (x5 + 32)
                cond (decide (x6 * 1 ≤ 140737488355328 ∧ x6 ≤ 9223372036854775807)) (
                  mo (scalar_Scalar_Encode N a.2.2.2.2.2.2.1) none fun r7 =>
                  let x7 := (x6 + 32)
                  cond (decide (x7 * 1 ≤ 140737488355328 ∧ x7 ≤ 9223372036854775807)) (
                    mo (loopF (wire_EncodeProof_of_msm_Line_l4 N) N (((), (), (), (), (), a.2.2.2.2.2.2.2.1, x1, 0), (b.1, b.2, (a.1, a.2.1, a.2.2.1, a.2.2.2.1, a.2.2.2.2.1, a.2.2.2.2.2.1, a.2.2.2.2.2.2.1, a.2.2.2.2.2.2.2.1, a.2.2.2.2.2.2.2.2.1, a.2.2.2.2.2.2.2.2.2.1, a.2.2.2.2.2.2.2.2.2.2), x7, (x7, (((((((List.take 32 (List.drop 0 r1)) ++ (List.take 32 (List.drop 0 r2))) ++ (List.take 32 (List.drop 0 r3))) ++ (List.take 32 (List.drop 0 r4))) ++ (List.take 32 (List.drop 0 r5))) ++ (List.take 32 (List.drop 0 r6))) ++ (List.take 32 (List.drop 0 r7))))))) none fun r47 =>
                    match r47 with
                    | .inl u48 => (
                      mo (scalar_Scalar_Encode N u48.2.2.2.1.2.2.2.2.2.2.2.2.2.1) none fun r49 =>
                      let x8 := (u48.2.2.2.2.2.1 + 32)
                      cond (decide (x8 * 1 ≤ 140737488355328 ∧ x8 ≤ 9223372036854775807)) (
                        mo (scalar_Scalar_Encode N u48.2.2.2.1.2.2.2.2.2.2.2.2.2.2) none fun r50 =>
                        let x9 := (x8 + 32)
                        cond (decide (x9 * 1 ≤ 140737488355328 ∧ x9 ≤ 9223372036854775807)) (
                          some ((x9, 0), (x9, ((u48.2.2.2.2.2.2 ++ (List.take 32 (List.drop 0 r49))) ++ (List.take 32 (List.drop 0 r50)))))
                        ) (
                          none
                        )
                      ) (
                        none
                      )
                    )
                    | .inr _ => (
                      none
                    )
                  ) (
                    none
                  )
                ) (
                  none
                )
              ) (
                none
              )
            ) (
              none
            )
          ) (
            none
          )
        ) (
          none
        )
      ) (
        none
      )
    )
  )

def veilref10_EncodeProof_l4 (N : Nat) (v : (Unit × Unit × Nat × Int) × ((Nat × List Int) × (((Int × (List Int × List Int) × List Int × List (List Int)) × (Int × (List Int × List Int) × List Int × List (List Int)) × (Int × (List Int × List Int) × List Int × List (List Int)) × (Int × (List Int × List Int) × List Int × List (List Int))) × (List Int × List Int × List Int) × List ((Int × (List Int × List Int) × List Int × List (List Int))) × (List Int × List Int)))) : Option (((Unit × Unit × Nat × Int) × ((Nat × List Int) × (((Int × (List Int × List Int) × List Int × List (List Int)) × (Int × (List Int × List Int) × List Int × List (List Int)) × (Int × (List Int × List Int) × List Int × List (List Int)) × (Int × (List Int × List Int) × List Int × List (List Int))) × (List Int × List Int × List Int) × List ((Int × (List Int × List Int) × List Int × List (List Int))) × (List Int × List Int)))) ⊕ (((Unit × Nat) × ((Nat × List Int) × (((Int × (List Int × List Int) × List Int × List (List Int)) × (Int × (List Int × List Int) × List Int × List (List Int)) × (Int × (List Int × List Int) × List Int × List (List Int)) × (Int × (List Int × List Int) × List Int × List (List Int))) × (List Int × List Int × List Int) × List ((Int × (List Int × List Int) × List Int × List (List Int))) × (List Int × List Int)))) ⊕ (Unit × Unit))) :=
  let x1 := (List.length v.2.2.2.2.1)
  cond (icmp .lss v.1.2.2.2 ((x1 : Nat) : Int)) (
    cond (decide ((0 : Int) ≤ v.1.2.2.2 ∧ v.1.2.2.2 < ((x1 : Nat) : Int))) (
      let x2 := (List.getD v.2.2.2.2.1 (Int.toNat v.1.2.2.2) (0, ([0, 0, 0, 0, 0, 0, 0, 0, 0, 0], [0, 0, 0, 0, 0, 0, 0, 0, 0, 0]), [0, 0, 0, 0], []))
      cond (icmp .eql x2.1 1) (
        none
      ) (
        cond (icmp .eql x2.1 2) (
          mo (veilref02_Scalar_Encode N x2.2.2.1) none fun r67 =>
          let x3 := (v.2.1.1 + 32)
          cond (decide (x3 * 1 ≤ 140737488355328 ∧ x3 ≤ 9223372036854775807)) (
            some (.inl (((), (), x3, (ibin .add .i64 v.1.2.2.2 1)), ((x3, (v.2.1.2 ++ (List.take 32 (List.drop 0 r67)))), (((v.2.2.1.1.1, (v.2.2.1.1.2.1.1, v.2.2.1.1.2.1.2), v.2.2.1.1.2.2.1, v.2.2.1.1.2.2.2), (v.2.2.1.2.1.1, (v.2.2.1.2.1.2.1.1, v.2.2.1.2.1.2.1.2), v.2.2.1.2.1.2.2.1, v.2.2.1.2.1.2.2.2), (v.2.2.1.2.2.1.1, (v.2.2.1.2.2.1.2.1.1, v.2.2.1.2.2.1.2.1.2), v.2.2.1.2.2.1.2.2.1, v.2.2.1.2.2.1.2.2.2), (v.2.2.1.2.2.2.1, (v.2.2.1.2.2.2.2.1.1, v.2.2.1.2.2.2.2.1.2), v.2.2.1.2.2.2.2.2.1, v.2.2.1.2.2.2.2.2.2)), (v.2.2.2.1.1, v.2.2.2.1.2.1, v.2.2.2.1.2.2), v.2.2.2.2.1, (v.2.2.2.2.2.1, v.2.2.2.2.2.2)))))
          ) (
            none
          )
        ) (
          none
        )
      )
    ) (
      none
    )
  ) (
    some (.inr (.inl (((), v.1.2.2.1), ((v.2.1.1, v.2.1.2), (((v.2.2.1.1.1, (v.2.2.1.1.2.1.1, v.2.2.1.1.2.1.2), v.2.2.1.1.2.2.1, v.2.2.1.1.2.2.2), (v.2.2.1.2.1.1, (v.2.2.1.2.1.2.1.1, v.2.2.1.2.1.2.1.2), v.2.2.1.2.1.2.2.1, v.2.2.1.2.1.2.2.2), (v.2.2.1.2.2.1.1, (v.2.2.1.2.2.1.2.1.1, v.2.2.1.2.2.1.2.1.2), v.2.2.1.2.2.1.2.2.1, v.2.2.1.2.2.1.2.2.2), (v.2.2.1.2.2.2.1, (v.2.2.1.2.2.2.2.1.1, v.2.2.1.2.2.2.2.1.2), v.2.2.1.2.2.2.2.2.1, v.2.2.1.2.2.2.2.2.2)), (v.2.2.2.1.1, v.2.2.2.1.2.1, v.2.2.2.1.2.2), v.2.2.2.2.1, (v.2.2.2.2.2.1, v.2.2.2.2.2.2))))))
  )

def veilref10_EncodeProof (N : Nat) (a : (((Int × (List Int × List Int) × List Int × List (List Int)) × (Int × (List Int × List Int) × List Int × List (List Int)) × (Int × (List Int × List Int) × List Int × List (List Int)) × (Int × (List Int × List Int) × List Int × List (List Int))) × (List Int × List Int × List Int) × List ((Int × (List Int × List Int) × List Int × List (List Int))) × (List Int × List Int))) (b : Unit) (m : Unit) : Option (Nat × (Nat × List Int)) :=
  cond (icmp .eql a.1.1.1 1) (
    none
  ) (
    cond (icmp .eql a.1.1.1 2) (
      mo (veilref02_Scalar_Encode N a.1.1.2.2.1) none fun r1 =>
      cond (decide ((0 + 32) * 1 ≤ 140737488355328 ∧ (0 + 32) ≤ 9223372036854775807)) (
        cond (icmp .eql a.1.2.1.1 1) (
          none
        ) (
          cond (icmp .eql a.1.2.1.1 2) (
            mo (veilref02_Scalar_Encode N a.1.2.1.2.2.1) none fun r2 =>
            let x1 := ((0 + 32) + 32)
            cond (decide (x1 * 1 ≤ 140737488355328 ∧ x1 ≤ 9223372036854775807)) (
              cond (icmp .eql a.1.2.2.1.1 1) (
                none
              ) (
                cond (icmp .eql a.1.2.2.1.1 2) (
                  mo (veilref02_Scalar_Encode N a.1.2.2.1.2.2.1) none fun r3 =>
                  let x2 := (x1 + 32)
                  cond (decide (x2 * 1 ≤ 140737488355328 ∧ x2 ≤ 9223372036854775807)) (
                    cond (icmp .eql a.1.2.2.2.1 1) (
                      none
                    ) (
                      cond (icmp .eql a.1.2.2.2.1 2) (
                        mo (veilref02_Scalar_Encode N a.1.2.2.2.2.2.1) none fun r4 =>
                        let x3 := (x2 + 32)
                        cond (decide (x3 * 1 ≤ 140737488355328 ∧ x3 ≤ 9223372036854775807)) (
                          mo (veilref02_Scalar_Encode N a.2.1.1) none fun r5 =>
                          let x4 := (x3 + 32)
                          cond (decide (x4 * 1 ≤ 140737488355328 ∧ x4 ≤ 9223372036854775807)) (
                            mo (veilref02_Scalar_Encode N a.2.1.2.1) none fun r6 =>
                            let x5 := (x4 + 32)
                            cond (decide (x5 * 1 ≤ 140737488355328 ∧ x5 ≤ 9223372036854775807)) (
                              mo (veilref02_Scalar_Encode N a.2.1.2.2) none fun r7 =>
                              let x6 := (x5 + 32)
                              cond (decide (x6 * 1 ≤ 140737488355328 ∧ x6 ≤ 9223372036854775807)) (
                                mo (loopF (veilref10_EncodeProof_l4 N) N (((), (), x6, 0), ((x6, (((((((List.take 32 (List.drop 0 r1)) ++ (List.take 32 (List.drop 0 r2))) ++ (List.take 32 (List.drop 0 r3))) ++ (List.take 32 (List.drop 0 r4))) ++ (List.take 32 (List.drop 0 r5))) ++ (List.take 32 (List.drop 0 r6))) ++ (List.take 32 (List.drop 0 r7)))), (((a.1.1.1, (a.1.1.2.1.1, a.1.1.2.1.2), a.1.1.2.2.1, a.1.1.2.2.2), (a.1.2.1.1, (a.1.2.1.2.1.1, a.1.2.1.2.1.2), a.1.2.1.2.2.1, a.1.2.1.2.2.2), (a.1.2.2.1.1, (a.1.2.2.1.2.1.1, a.1.2.2.1.2.1.2), a.1.2.2.1.2.2.1, a.1.2.2.1.2.2.2), (a.1.2.2.2.1, (a.1.2.2.2.2.1.1, a.1.2.2.2.2.1.2), a.1.2.2.2.2.2.1, a.1.2.2.2.2.2.2)), (a.2.1.1, a.2.1.2.1, a.2.1.2.2), a.2.2.1, (a.2.2.2.1, a.2.2.2.2))))) none fun r68 =>
                                match r68 with
                                | .inl u69 => (
                                  mo (veilref02_Scalar_Encode N u69.2.2.2.2.2.1) none fun r70 =>
                                  let x7 := (u69.2.1.1 + 32)
                                  cond (decide (x7 * 1 ≤ 140737488355328 ∧ x7 ≤ 9223372036854775807)) (
                                    mo (veilref02_Scalar_Encode N u69.2.2.2.2.2.2) none fun r71 =>
                                    let x8 := (x7 + 32)
                                    cond (decide (x8 * 1 ≤ 140737488355328 ∧ x8 ≤ 9223372036854775807)) (
                                      some (x8, (x8, ((u69.2.1.2 ++ (List.take 32 (List.drop 0 r70))) ++ (List.take 32 (List.drop 0 r71)))))
                                    ) (
                                      none
                                    )
                                  ) (
                                    none
                                  )
                                )
                                | .inr _ => (
                                  none
                                )
                              ) (
                                none
                              )
                            ) (
                              none
                            )
                          ) (
                            none
                          )
                        ) (
                          none
                        )
                      ) (
                        none
                      )
                    )
                  ) (
                    none
                  )
                ) (
                  none
                )
              )
            ) (
              none
            )
          ) (
            none
          )
        )
      ) (
        none
      )
    ) (
      none
    )
  )

def veillaw10_WireProof_bytes_l2 (N : Nat) (v : (Unit × Unit × Unit × Int) × (Unit × ((List Int × List Int × List Int × List Int) × List Int × List Int × List Int × List (List Int) × List (List Int) × List Int × List Int) × (((Int × (List Int × List Int) × List Int × Unit) × (Int × (List Int × List Int) × List Int × Unit) × (Int × (List Int × List Int) × List Int × Unit) × (Int × (List Int × List Int) × List Int × Unit)) × (List Int × List Int × List Int) × List ((Int × (List Int × List Int) × List Int × List (List Int))) × (List Int × List Int)))) : Option (((Unit × Unit × Unit × Int) × (Unit × ((List Int × List Int × List Int × List Int) × List Int × List Int × List Int × List (List Int) × List (List Int) × List Int × List Int) × (((Int × (List Int × List Int) × List Int × Unit) × (Int × (List Int × List Int) × List Int × Unit) × (Int × (List Int × List Int) × List Int × Unit) × (Int × (List Int × List Int) × List Int × Unit)) × (List Int × List Int × List Int) × List ((Int × (List Int × List Int) × List Int × List (List Int))) × (List Int × List Int)))) ⊕ (((Unit × Unit) × (Unit × ((List Int × List Int × List Int × List Int) × List Int × List Int × List Int × List (List Int) × List (List Int) × List Int × List Int) × (((Int × (List Int × List Int) × List Int × Unit) × (Int × (List Int × List Int) × List Int × Unit) × (Int × (List Int × List Int) × List Int × Unit) × (Int × (List Int × List Int) × List Int × Unit)) × (List Int × List Int × List Int) × List ((Int × (List Int × List Int) × List Int × List (List Int))) × (List Int × List Int)))) ⊕ (Unit × Unit))) :=
  let x1 := (List.length v.2.2.1.2.2.2.2.1)
  cond (icmp .lss v.1.2.2.2 ((x1 : Nat) : Int)) (
    let x2 := (List.length v.2.2.1.2.2.2.2.2.1)
    cond (icmp .lss v.1.2.2.2 ((x2 : Nat) : Int)) (
      cond (decide ((0 : Int) ≤ v.1.2.2.2 ∧ v.1.2.2.2 < ((x1 : Nat) : Int))) (
        mo (veilref02_Least N (List.getD v.2.2.1.2.2.2.2.1 (Int.toNat v.1.2.2.2) [0, 0, 0, 0])) none fun r107 =>
        cond (decide ((0 : Int) ≤ v.1.2.2.2 ∧ v.1.2.2.2 < ((x2 : Nat) : Int))) (
          mo (veilref02_Least N (List.getD v.2.2.1.2.2.2.2.2.1 (Int.toNat v.1.2.2.2) [0, 0, 0, 0])) none fun r108 =>
          let x3 := (v.2.2.2.2.2.1 ++ [((veilref07_LineOf r107).1, ((veilref07_LineOf r107).2.1.1, (veilref07_LineOf r107).2.1.2), (veilref07_LineOf r107).2.2.1, []), ((veilref07_LineOf r108).1, ((veilref07_LineOf r108).2.1.1, (veilref07_LineOf r108).2.1.2), (veilref07_LineOf r108).2.2.1, [])])
          cond (decide ((List.length x3) * 224 ≤ 140737488355328 ∧ (List.length x3) ≤ 9223372036854775807)) (
            some (.inl (((), (), (), (ibin .add .i64 v.1.2.2.2 1)), ((), ((v.2.2.1.1.1, v.2.2.1.1.2.1, v.2.2.1.1.2.2.1, v.2.2.1.1.2.2.2), v.2.2.1.2.1, v.2.2.1.2.2.1, v.2.2.1.2.2.2.1, v.2.2.1.2.2.2.2.1, v.2.2.1.2.2.2.2.2.1, v.2.2.1.2.2.2.2.2.2.1, v.2.2.1.2.2.2.2.2.2.2), (((v.2.2.2.1.1.1, (v.2.2.2.1.1.2.1.1, v.2.2.2.1.1.2.1.2), v.2.2.2.1.1.2.2.1, ()), (v.2.2.2.1.2.1.1, (v.2.2.2.1.2.1.2.1.1, v.2.2.2.1.2.1.2.1.2), v.2.2.2.1.2.1.2.2.1, ()), (v.2.2.2.1.2.2.1.1, (v.2.2.2.1.2.2.1.2.1.1, v.2.2.2.1.2.2.1.2.1.2), v.2.2.2.1.2.2.1.2.2.1, ()), (v.2.2.2.1.2.2.2.1, (v.2.2.2.1.2.2.2.2.1.1, v.2.2.2.1.2.2.2.2.1.2), v.2.2.2.1.2.2.2.2.2.1, ())), (v.2.2.2.2.1.1, v.2.2.2.2.1.2.1, v.2.2.2.2.1.2.2), x3, (v.2.2.2.2.2.2.1, v.2.2.2.2.2.2.2)))))
          ) (
            none
          )
        ) (
          none
        )
      ) (
        none
      )
    ) (
      some (.inr (.inl (((), ()), ((), ((v.2.2.1.1.1, v.2.2.1.1.2.1, v.2.2.1.1.2.2.1, v.2.2.1.1.2.2.2), v.2.2.1.2.1, v.2.2.1.2.2.1, v.2.2.1.2.2.2.1, v.2.2.1.2.2.2.2.1, v.2.2.1.2.2.2.2.2.1, v.2.2.1.2.2.2.2.2.2.1, v.2.2.1.2.2.2.2.2.2.2), (((v.2.2.2.1.1.1, (v.2.2.2.1.1.2.1.1, v.2.2.2.1.1.2.1.2), v.2.2.2.1.1.2.2.1, ()), (v.2.2.2.1.2.1.1, (v.2.2.2.1.2.1.2.1.1, v.2.2.2.1.2.1.2.1.2), v.2.2.2.1.2.1.2.2.1, ()), (v.2.2.2.1.2.2.1.1, (v.2.2.2.1.2.2.1.2.1.1, v.2.2.2.1.2.2.1.2.1.2), v.2.2.2.1.2.2.1.2.2.1, ()), (v.2.2.2.1.2.2.2.1, (v.2.2.2.1.2.2.2.2.1.1, v.2.2.2.1.2.2.2.2.1.2), v.2.2.2.1.2.2.2.2.2.1, ())), (v.2.2.2.2.1.1, v.2.2.2.2.1.2.1, v.2.2.2.2.1.2.2), v.2.2.2.2.2.1, (v.2.2.2.2.2.2.1, v.2.2.2.2.2.2.2))))))
    )
  ) (
    some (.inr (.inl (((), ()), ((), ((v.2.2.1.1.1, v.2.2.1.1.2.1, v.2.2.1.1.2.2.1, v.2.2.1.1.2.2.2), v.2.2.1.2.1, v.2.2.1.2.2.1, v.2.2.1.2.2.2.1, v.2.2.1.2.2.2.2.1, v.2.2.1.2.2.2.2.2.1, v.2.2.1.2.2.2.2.2.2.1, v.2.2.1.2.2.2.2.2.2.2), (((v.2.2.2.1.1.1, (v.2.2.2.1.1.2.1.1, v.2.2.2.1.1.2.1.2), v.2.2.2.1.1.2.2.1, ()), (v.2.2.2.1.2.1.1, (v.2.2.2.1.2.1.2.1.1, v.2.2.2.1.2.1.2.1.2), v.2.2.2.1.2.1.2.2.1, ()), (v.2.2.2.1.2.2.1.1, (v.2.2.2.1.2.2.1.2.1.1, v.2.2.2.1.2.2.1.2.1.2), v.2.2.2.1.2.2.1.2.2.1, ()), (v.2.2.2.1.2.2.2.1, (v.2.2.2.1.2.2.2.2.1.1, v.2.2.2.1.2.2.2.2.1.2), v.2.2.2.1.2.2.2.2.2.1, ())), (v.2.2.2.2.1.1, v.2.2.2.2.1.2.1, v.2.2.2.2.1.2.2), v.2.2.2.2.2.1, (v.2.2.2.2.2.2.1, v.2.2.2.2.2.2.2))))))
  )

def veillaw10_WireProof_bytes (N : Nat) (a : ((List Int × List Int × List Int × List Int) × List Int × List Int × List Int × List (List Int) × List (List Int) × List Int × List Int)) (b : Unit) (m : Unit) : Option (Nat × (Nat × List Int)) :=
  mo (veilref02_Least N a.1.1) none fun r1 =>
  mo (veilref02_Least N a.1.2.1) none fun r2 =>
  mo (veilref02_Least N a.1.2.2.1) none fun r3 =>
  mo (veilref02_Least N a.1.2.2.2) none fun r4 =>
  mo (veilref02_Least N a.2.1) none fun r5 =>
  mo (veilref02_Least N a.2.2.1) none fun r6 =>
  mo (veilref02_Least N a.2.2.2.1) none fun r7 =>
  mo (loopF (veillaw10_WireProof_bytes_l2 N) N (((), (), (), 0), ((), ((a.1.1, a.1.2.1, a.1.2.2.1, a.1.2.2.2), a.2.1, a.2.2.1, a.2.2.2.1, a.2.2.2.2.1, a.2.2.2.2.2.1, a.2.2.2.2.2.2.1, a.2.2.2.2.2.2.2), ((((veilref07_LineOf r1).1, ((veilref07_LineOf r1).2.1.1, (veilref07_LineOf r1).2.1.2), (veilref07_LineOf r1).2.2.1, ()), ((veilref07_LineOf r2).1, ((veilref07_LineOf r2).2.1.1, (veilref07_LineOf r2).2.1.2), (veilref07_LineOf r2).2.2.1, ()), ((veilref07_LineOf r3).1, ((veilref07_LineOf r3).2.1.1, (veilref07_LineOf r3).2.1.2), (veilref07_LineOf r3).2.2.1, ()), ((veilref07_LineOf r4).1, ((veilref07_LineOf r4).2.1.1, (veilref07_LineOf r4).2.1.2), (veilref07_LineOf r4).2.2.1, ())), (r5, r6, r7), [], ([0, 0, 0, 0], [0, 0, 0, 0]))))) none fun r109 =>
  match r109 with
  | .inl u110 => (
    mo (veilref02_Least N u110.2.2.1.2.2.2.2.2.2.1) none fun r111 =>
    mo (veilref02_Least N u110.2.2.1.2.2.2.2.2.2.2) none fun r112 =>
    mo (veilref10_EncodeProof N (((u110.2.2.2.1.1.1, (u110.2.2.2.1.1.2.1.1, u110.2.2.2.1.1.2.1.2), u110.2.2.2.1.1.2.2.1, []), (u110.2.2.2.1.2.1.1, (u110.2.2.2.1.2.1.2.1.1, u110.2.2.2.1.2.1.2.1.2), u110.2.2.2.1.2.1.2.2.1, []), (u110.2.2.2.1.2.2.1.1, (u110.2.2.2.1.2.2.1.2.1.1, u110.2.2.2.1.2.2.1.2.1.2), u110.2.2.2.1.2.2.1.2.2.1, []), (u110.2.2.2.1.2.2.2.1, (u110.2.2.2.1.2.2.2.2.1.1, u110.2.2.2.1.2.2.2.2.1.2), u110.2.2.2.1.2.2.2.2.2.1, [])), (u110.2.2.2.2.1.1, u110.2.2.2.2.1.2.1, u110.2.2.2.2.1.2.2), u110.2.2.2.2.2.1, (r111, r112)) () ()) none fun r113 =>
    some (r113.1, (r113.2.1, r113.2.2))
  )
  | .inr _ => (
    none
  )

def veillaw10_WireEncodes_l0 (N : Nat) (v : (Unit × Unit × Nat × Int × Nat × Int) × ((Nat × List Int) × (Nat × List Int) × ((List Int × List Int × List Int × List Int) × List Int × List Int × List Int × List (List Int) × List (List Int) × List Int × List Int))) : Option (((Unit × Unit × Nat × Int × Nat × Int) × ((Nat × List Int) × (Nat × List Int) × ((List Int × List Int × List Int × List Int) × List Int × List Int × List Int × List (List Int) × List (List Int) × List Int × List Int))) ⊕ (((Unit × Nat × Int × Nat) × ((Nat × List Int) × (Nat × List Int) × ((List Int × List Int × List Int × List Int) × List Int × List Int × List Int × List (List Int) × List (List Int) × List Int × List Int))) ⊕ (Unit × Unit))) :=
  cond (icmp .lss v.1.2.2.2.2.2 ((v.1.2.2.2.2.1 : Nat) : Int)) (
    let x1 := (decide ((0 : Int) ≤ v.1.2.2.2.2.2 ∧ v.1.2.2.2.2.2 < ((v.1.2.2.2.2.1 : Nat) : Int)))
    cond x1 (
      cond x1 (
        some (.inl (((), (), v.1.2.2.1, v.1.2.2.2.1, v.1.2.2.2.2.1, (ibin .add .i64 v.1.2.2.2.2.2 1)), ((v.2.1.1, v.2.1.2), (v.2.2.1.1, (List.set v.2.2.1.2 (Int.toNat v.1.2.2.2.2.2) (ibin .add .u8 (List.getD v.2.2.1.2 (Int.toNat v.1.2.2.2.2.2) 0) 1))), ((v.2.2.2.1.1, v.2.2.2.1.2.1, v.2.2.2.1.2.2.1, v.2.2.2.1.2.2.2), v.2.2.2.2.1, v.2.2.2.2.2.1, v.2.2.2.2.2.2.1, v.2.2.2.2.2.2.2.1, v.2.2.2.2.2.2.2.2.1, v.2.2.2.2.2.2.2.2.2.1, v.2.2.2.2.2.2.2.2.2.2))))
      ) (
        none
      )
    ) (
      none
    )
  ) (
    some (.inr (.inl (((), v.1.2.2.1, v.1.2.2.2.1, v.1.2.2.2.2.1), ((v.2.1.1, v.2.1.2), (v.2.2.1.1, v.2.2.1.2), ((v.2.2.2.1.1, v.2.2.2.1.2.1, v.2.2.2.1.2.2.1, v.2.2.2.1.2.2.2), v.2.2.2.2.1, v.2.2.2.2.2.1, v.2.2.2.2.2.2.1, v.2.2.2.2.2.2.2.1, v.2.2.2.2.2.2.2.2.1, v.2.2.2.2.2.2.2.2.2.1, v.2.2.2.2.2.2.2.2.2.2)))))
  )

set_option maxRecDepth 100000 in
def veillaw10_WireEncodes (N : Nat) (a : ((List Int × List Int × List Int × List Int) × List Int × List Int × List Int × List (List Int) × List (List Int) × List Int × List Int)) (b : Unit) (m : Unit) : Option (Bool × Unit) :=
  let x1 := (veillaw10_WireProof_line N ((a.1.1, a.1.2.1, a.1.2.2.1, a.1.2.2.2), a.2.1, a.2.2.1, a.2.2.2.1, a.2.2.2.2.1, a.2.2.2.2.2.1, a.2.2.2.2.2.2.1, a.2.2.2.2.2.2.2) () ())
  mo x1 none fun r1 =>
  mo (wire_EncodeProof_of_msm_Line N (r1.1.1, r1.1.2.1, r1.1.2.2.1, r1.1.2.2.2.1, r1.1.2.2.2.2.1, r1.1.2.2.2.2.2.1, r1.1.2.2.2.2.2.2.1, r1.1.2.2.2.2.2.2.2.1, r1.1.2.2.2.2.2.2.2.2.1, r1.1.2.2.2.2.2.2.2.2.2.1, r1.1.2.2.2.2.2.2.2.2.2.2) (r1.2.1, r1.2.2) ()) none fun r2 =>
  mo x1 none fun r3 =>
  mo (wire_EncodeProof_of_msm_Line N (r3.1.1, r3.1.2.1, r3.1.2.2.1, r3.1.2.2.2.1, r3.1.2.2.2.2.1, r3.1.2.2.2.2.2.1, r3.1.2.2.2.2.2.2.1, r3.1.2.2.2.2.2.2.2.1, r3.1.2.2.2.2.2.2.2.2.1, r3.1.2.2.2.2.2.2.2.2.2.1, r3.1.2.2.2.2.2.2.2.2.2.2) (r3.2.1, r3.2.2) ()) none fun r4 =>
  cond (!((bStr r2.2.2) == (bStr r4.2.2))) (
    some (false, ())
  ) (
    mo (loopF (veillaw10_WireEncodes_l0 N) N (((), (), r2.1.1, r2.1.2, r4.1.1, 0), ((r2.2.1, r2.2.2), (r4.2.1, r4.2.2), ((a.1.1, a.1.2.1, a.1.2.2.1, a.1.2.2.2), a.2.1, a.2.2.1, a.2.2.2.1, a.2.2.2.2.1, a.2.2.2.2.2.1, a.2.2.2.2.2.2.1, a.2.2.2.2.2.2.2)))) none fun r42 =>
    match r42 with
    | .inl u43 => (
      let x2 := (u43.2.2.1.1 + 1)
      cond (decide (x2 * 1 ≤ 140737488355328 ∧ x2 ≤ 9223372036854775807)) (
        let x3 := (x2 + 1)
        cond (decide (x3 * 1 ≤ 140737488355328 ∧ x3 ≤ 9223372036854775807)) (
          let x4 := (x3 + 1)
          cond (decide (x4 * 1 ≤ 140737488355328 ∧ x4 ≤ 9223372036854775807)) (
            let x5 := (x4 + 1)
            cond (decide (x5 * 1 ≤ 140737488355328 ∧ x5 ≤ 9223372036854775807)) (
              let x6 := (x5 + 1)
              cond (decide (x6 * 1 ≤ 140737488355328 ∧ x6 ≤ 9223372036854775807)) (
                let x7 := (x6 + 1)
                cond (decide (x7 * 1 ≤ 140737488355328 ∧ x7 ≤ 9223372036854775807)) (
                  let x8 := (x7 + 1)
                  cond (decide (x8 * 1 ≤ 140737488355328 ∧ x8 ≤ 9223372036854775807)) (
                    let x9 := (x8 + 1)
                    cond (decide (x9 * 1 ≤ 140737488355328 ∧ x9 ≤ 9223372036854775807)) (
                      let x10 := (x9 + 1)
                      cond (decide (x10 * 1 ≤ 140737488355328 ∧ x10 ≤ 9223372036854775807)) (
                        let x11 := (x10 + 1)
                        cond (decide (x11 * 1 ≤ 140737488355328 ∧ x11 ≤ 9223372036854775807)) (
                          let x12 := (x11 + 1)
                          cond (decide (x12 * 1 ≤ 140737488355328 ∧ x12 ≤ 9223372036854775807)) (
                            let x13 := (x12 + 1)
                            cond (decide (x13 * 1 ≤ 140737488355328 ∧ x13 ≤ 9223372036854775807)) (
                              let x14 := (x13 + 1)
                              cond (decide (x14 * 1 ≤ 140737488355328 ∧ x14 ≤ 9223372036854775807)) (
                                let x15 := (x14 + 1)
                                cond (decide (x15 * 1 ≤ 140737488355328 ∧ x15 ≤ 9223372036854775807)) (
                                  let x16 := (x15 + 1)
                                  cond (decide (x16 * 1 ≤ 140737488355328 ∧ x16 ≤ 9223372036854775807)) (
                                    let x17 := (x16 + 1)
                                    cond (decide (x17 * 1 ≤ 140737488355328 ∧ x17 ≤ 9223372036854775807)) (
                                      let x18 := (x17 + 1)
                                      cond (decide (x18 * 1 ≤ 140737488355328 ∧ x18 ≤ 9223372036854775807)) (
                                        let x19 := (x18 + 1)
                                        cond (decide (x19 * 1 ≤ 140737488355328 ∧ x19 ≤ 9223372036854775807)) (
                                          let x20 := (x19 + 1)
                                          cond (decide (x20 * 1 ≤ 140737488355328 ∧ x20 ≤ 9223372036854775807)) (
                                            let x21 := (x20 + 1)
                                            cond (decide (x21 * 1 ≤ 140737488355328 ∧ x21 ≤ 9223372036854775807)) (
                                              let x22 := (x21 + 1)
                                              cond (decide (x22 * 1 ≤ 140737488355328 ∧ x22 ≤ 9223372036854775807)) (
                                                let x23 := (x22 + 1)
                                                cond (decide (x23 * 1 ≤ 140737488355328 ∧ x23 ≤ 9223372036854775807)) (
                                                  let x24 := (x23 + 1)
                                                  cond (decide (x24 * 1 ≤ 140737488355328 ∧ x24 ≤ 9223372036854775807)) (
                                                    let x25 := (x24 + 1)
                                                    cond (decide (x25 * 1 ≤ 140737488355328 ∧ x25 ≤ 9223372036854775807)) (
                                                      let x26 := (x25 + 1)
                                                      cond (decide (x26 * 1 ≤ 140737488355328 ∧ x26 ≤ 9223372036854775807)) (
                                                        let x27 := (x26 + 1)
                                                        cond (decide (x27 * 1 ≤ 140737488355328 ∧ x27 ≤ 9223372036854775807)) (
                                                          let x28 := (x27 + 1)
                                                          cond (decide (x28 * 1 ≤ 140737488355328 ∧ x28 ≤ 9223372036854775807)) (
                                                            let x29 := (x28 + 1)
                                                            cond (decide (x29 * 1 ≤ 140737488355328 ∧ x29 ≤ 9223372036854775807)) (
                                                              let x30 := (x29 + 1)
                                                              cond (decide (x30 * 1 ≤ 140737488355328 ∧ x30 ≤ 9223372036854775807)) (
                                                                let x31 := (x30 + 1)
                                                                cond (decide (x31 * 1 ≤ 140737488355328 ∧ x31 ≤ 9223372036854775807)) (
                                                                  let x32 := (x31 + 1)
                                                                  cond (decide (x32 * 1 ≤ 140737488355328 ∧ x32 ≤ 9223372036854775807)) (
                                                                    let x33 := (x32 + 1)
                                                                    cond (decide (x33 * 1 ≤ 140737488355328 ∧ x33 ≤ 9223372036854775807)) (
                                                                      let x34 := (x33 + 1)
                                                                      cond (decide (x34 * 1 ≤ 140737488355328 ∧ x34 ≤ 9223372036854775807)) (
                                                                        let x35 := (x34 + 1)
                                                                        cond (decide (x35 * 1 ≤ 140737488355328 ∧ x35 ≤ 9223372036854775807)) (
                                                                          let x36 := (x35 + 1)
                                                                          cond (decide (x36 * 1 ≤ 140737488355328 ∧ x36 ≤ 9223372036854775807)) (
                                                                            let x37 := (x36 + 1)
                                                                            cond (decide (x37 * 1 ≤ 140737488355328 ∧ x37 ≤ 9223372036854775807)) (
                                                                              let x38 := (x37 + 1)
                                                                              cond (decide (x38 * 1 ≤ 140737488355328 ∧ x38 ≤ 9223372036854775807)) (
                                                                                let x39 := (x38 + 1)
                                                                                cond (decide (x39 * 1 ≤ 140737488355328 ∧ x39 ≤ 9223372036854775807)) (
                                                                                  let x40 := (x39 + 1)
                                                                                  cond (decide (x40 * 1 ≤ 140737488355328 ∧ x40 ≤ 9223372036854775807)) (
                                                                                    let x41 := (x40 + 1)
                                                                                    cond (decide (x41 * 1 ≤ 140737488355328 ∧ x41 ≤ 9223372036854775807)) (
                                                                                      let x42 := (x41 + 1)
                                                                                      cond (decide (x42 * 1 ≤ 140737488355328 ∧ x42 ≤ 9223372036854775807)) (
                                                                                        let x43 := (x42 + 1)
                                                                                        cond (decide (x43 * 1 ≤ 140737488355328 ∧ x43 ≤ 9223372036854775807)) (
                                                                                          let x44 := (x43 + 1)
                                                                                          cond (decide (x44 * 1 ≤ 140737488355328 ∧ x44 ≤ 9223372036854775807)) (
                                                                                            let x45 := (x44 + 1)
                                                                                            cond (decide (x45 * 1 ≤ 140737488355328 ∧ x45 ≤ 9223372036854775807)) (
                                                                                              let x46 := (x45 + 1)
                                                                                              cond (decide (x46 * 1 ≤ 140737488355328 ∧ x46 ≤ 9223372036854775807)) (
                                                                                                let x47 := (x46 + 1)
                                                                                                cond (decide (x47 * 1 ≤ 140737488355328 ∧ x47 ≤ 9223372036854775807)) (
                                                                                                  let x48 := (x47 + 1)
                                                                                                  cond (decide (x48 * 1 ≤ 140737488355328 ∧ x48 ≤ 9223372036854775807)) (
                                                                                                    let x49 := (x48 + 1)
                                                                                                    cond (decide (x49 * 1 ≤ 140737488355328 ∧ x49 ≤ 9223372036854775807)) (
                                                                                                      let x50 := (x49 + 1)
                                                                                                      cond (decide (x50 * 1 ≤ 140737488355328 ∧ x50 ≤ 9223372036854775807)) (
                                                                                                        let x51 := (x50 + 1)
                                                                                                        cond (decide (x51 * 1 ≤ 140737488355328 ∧ x51 ≤ 9223372036854775807)) (
                                                                                                          let x52 := (x51 + 1)
                                                                                                          cond (decide (x52 * 1 ≤ 140737488355328 ∧ x52 ≤ 9223372036854775807)) (
                                                                                                            let x53 := (x52 + 1)
                                                                                                            cond (decide (x53 * 1 ≤ 140737488355328 ∧ x53 ≤ 9223372036854775807)) (
                                                                                                              let x54 := (x53 + 1)
                                                                                                              cond (decide (x54 * 1 ≤ 140737488355328 ∧ x54 ≤ 9223372036854775807)) (
                                                                                                                let x55 := (x54 + 1)
                                                                                                                cond (decide (x55 * 1 ≤ 140737488355328 ∧ x55 ≤ 9223372036854775807)) (
                                                                                                                  let x56 := (x55 + 1)
                                                                                                                  cond (decide (x56 * 1 ≤ 140737488355328 ∧ x56 ≤ 9223372036854775807)) (
                                                                                                                    let x57 := (x56 + 1)
                                                                                                                    cond (decide (x57 * 1 ≤ 140737488355328 ∧ x57 ≤ 9223372036854775807)) (
                                                                                                                      let x58 := (x57 + 1)
                                                                                                                      cond (decide (x58 * 1 ≤ 140737488355328 ∧ x58 ≤ 9223372036854775807)) (
                                                                                                                        let x59 := (x58 + 1)
                                                                                                                        cond (decide (x59 * 1 ≤ 140737488355328 ∧ x59 ≤ 9223372036854775807)) (
                                                                                                                          let x60 := (x59 + 1)
                                                                                                                          cond (decide (x60 * 1 ≤ 140737488355328 ∧ x60 ≤ 9223372036854775807)) (
                                                                                                                            let x61 := (x60 + 1)
                                                                                                                            cond (decide (x61 * 1 ≤ 140737488355328 ∧ x61 ≤ 9223372036854775807)) (
                                                                                                                              let x62 := (x61 + 1)
                                                                                                                              cond (decide (x62 * 1 ≤ 140737488355328 ∧ x62 ≤ 9223372036854775807)) (
                                                                                                                                let x63 := (x62 + 1)
                                                                                                                                cond (decide (x63 * 1 ≤ 140737488355328 ∧ x63 ≤ 9223372036854775807)) (
                                                                                                                                  let x64 := (x63 + 1)
                                                                                                                                  cond (decide (x64 * 1 ≤ 140737488355328 ∧ x64 ≤ 9223372036854775807)) (
                                                                                                                                    cond (decide ((x64 + 1) * 1 ≤ 140737488355328 ∧ (x64 + 1) ≤ 9223372036854775807)) (
                                                                                                                                      let x65 := (((List.length u43.2.2.2.2.2.2.2.1) : Nat) : Int)
                                                                                                                                      cond (icmp .neq x65 (((List.length u43.2.2.2.2.2.2.2.2.1) : Nat) : Int)) (
                                                                                                                                        cond (icmp .eql u43.1.2.2.1 2) (
                                                                                                                                          some ((icmp .eql ((u43.1.2.1 : Nat) : Int) 0), ())
                                                                                                                                        ) (
                                                                                                                                          some (false, ())
                                                                                                                                        )
                                                                                                                                      ) (
                                                                                                                                        cond (icmp .gtr x65 10) (
                                                                                                                                          cond (icmp .eql u43.1.2.2.1 2) (
                                                                                                                                            some ((icmp .eql ((u43.1.2.1 : Nat) : Int) 0), ())
                                                                                                                                          ) (
                                                                                                                                            some (false, ())
                                                                                                                                          )
                                                                                                                                        ) (
                                                                                                                                          cond (icmp .eql u43.1.2.2.1 0) (
                                                                                                                                            mo (veillaw10_WireProof_bytes N ((u43.2.2.2.1.1, u43.2.2.2.1.2.1, u43.2.2.2.1.2.2.1, u43.2.2.2.1.2.2.2), u43.2.2.2.2.1, u43.2.2.2.2.2.1, u43.2.2.2.2.2.2.1, u43.2.2.2.2.2.2.2.1, u43.2.2.2.2.2.2.2.2.1, u43.2.2.2.2.2.2.2.2.2.1, u43.2.2.2.2.2.2.2.2.2.2) () ()) none fun r44 =>
                                                                                                                                            some (((bStr u43.2.1.2) == (bStr r44.2.2)), ())
                                                                                                                                          ) (
                                                                                                                                            some (false, ())
                                                                                                                                          )
                                                                                                                                        )
                                                                                                                                      )
                                                                                                                                    ) (
                                                                                                                                      none
                                                                                                                                    )
                                                                                                                                  ) (
                                                                                                                                    none
                                                                                                                                  )
                                                                                                                                ) (
                                                                                                                                  none
                                                                                                                                )
                                                                                                                              ) (
                                                                                                                                none
                                                                                                                              )
                                                                                                                            ) (
                                                                                                                              none
                                                                                                                            )
                                                                                                                          ) (
                                                                                                                            none
                                                                                                                          )
                                                                                                                        ) (
                                                                                                                          none
                                                                                                                        )
                                                                                                                      ) (
                                                                                                                        none
                                                                                                                      )
                                                                                                                    ) (
                                                                                                                      none
                                                                                                                    )
                                                                                                                  ) (
                                                                                                                    none
                                                                                                                  )
                                                                                                                ) (
                                                                                                                  none
                                                                                                                )
                                                                                                              ) (
                                                                                                                none
                                                                                                              )
                                                                                                            ) (
                                                                                                              none
                                                                                                            )
                                                                                                          ) (
                                                                                                            none
                                                                                                          )
                                                                                                        ) (
                                                                                                          none
                                                                                                        )
                                                                                                      ) (
                                                                                                        none
                                                                                                      )
                                                                                                    ) (
                                                                                                      none
                                                                                                    )
                                                                                                  ) (
                                                                                                    none
                                                                                                  )
                                                                                                ) (
                                                                                                  none
                                                                                                )
                                                                                              ) (
                                                                                                none
                                                                                              )
                                                                                            ) (
                                                                                              none
                                                                                            )
                                                                                          ) (
                                                                                            none
                                                                                          )
                                                                                        ) (
                                                                                          none
                                                                                        )
                                                                                      ) (
                                                                                        none
                                                                                      )
                                                                                    ) (
                                                                                      none
                                                                                    )
                                                                                  ) (
                                                                                    none
                                                                                  )
                                                                                ) (
                                                                                  none
                                                                                )
                                                                              ) (
                                                                                none
                                                                              )
                                                                            ) (
                                                                              none
                                                                            )
                                                                          ) (
                                                                            none
                                                                          )
                                                                        ) (
                                                                          none
                                                                        )
                                                                      ) (
                                                                        none
                                                                      )
                                                                    ) (
                                                                      none
                                                                    )
                                                                  ) (
                                                                    none
                                                                  )
                                                                ) (
                                                                  none
                                                                )
                                                              ) (
                                                                none
                                                              )
                                                            ) (
                                                              none
                                                            )
                                                          ) (
                                                            none
                                                          )
                                                        ) (
                                                          none
                                                        )
                                                      ) (
                                                        none
                                                      )
                                                    ) (
                                                      none
                                                    )
                                                  ) (
                                                    none
                                                  )
                                                ) (
                                                  none
                                                )
                                              ) (
                                                none
                                              )
                                            ) (
                                              none
                                            )
                                          ) (
                                            none
                                          )
                                        ) (
                                          none
                                        )
                                      ) (
                                        none
                                      )
                                    ) (
                                      none
                                    )
                                  ) (
                                    none
                                  )
                                ) (
                                  none
                                )
                              ) (
                                none
                              )
                            ) (
                              none
                            )
                          ) (
                            none
                          )
                        ) (
                          none
                        )
                      ) (
                        none
                      )
                    ) (
                      none
                    )
                  ) (
                    none
                  )
                ) (
                  none
                )
              ) (
                none
              )
            ) (
              none
            )
          ) (
            none
          )
        ) (
          none
        )
      ) (
        none
      )
    )
    | .inr _ => (
      none
    )
  )

end Go.Vx
