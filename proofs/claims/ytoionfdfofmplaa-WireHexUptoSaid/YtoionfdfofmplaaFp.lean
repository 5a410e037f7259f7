import Derived.Test.YtoionfdfofmplaaVxR
set_option autoImplicit false
set_option linter.unusedVariables false
set_option linter.unusedSimpArgs false
namespace Go.Vx
open Go

def veillaw10_room (a : ((Nat × List Int) × Unit)) : Option (((Nat × List Int) × Unit)) :=
  let x1 := (0 + a.1.1)
  cond (decide (x1 * 1 ≤ 140737488355328 ∧ x1 ≤ 9223372036854775807)) (
    let x2 := (x1 + 3)
    cond (decide (x2 * 1 ≤ 140737488355328 ∧ x2 ≤ 9223372036854775807)) (
      some ((x2, (a.1.2 ++ [201, 202, 203])), ())
    ) (
      none
    )
  ) (
    none
  )


def veillaw10_same (a : ((Nat × List Int) × Unit)) (b : ((Nat × List Int) × Unit)) : Bool :=
  ((bStr a.1.2) == (bStr b.1.2))


def veillaw10_roomy (a : ((Nat × List Int) × Unit)) (b : ((Nat × List Int) × Unit)) : Option (Bool) :=
  let x1 := ((b.1.1 : Nat) : Int)
  cond (decide (0 ≤ x1 ∧ x1 ≤ ((a.1.1 : Nat) : Int))) (
    let x2 := (Int.toNat x1)
    cond (veillaw10_same ((x2, (List.take x2 (List.drop 0 a.1.2))), ()) ((b.1.1, b.1.2), ())) (
      cond (decide (0 ≤ x1 ∧ x1 < ((a.1.1 : Nat) : Int))) (
        cond (icmp .eql (List.getD a.1.2 (Int.toNat x1) 0) 201) (
          let x3 := (ibin .add .i64 x1 1)
          cond (decide (0 ≤ x3 ∧ x3 < ((a.1.1 : Nat) : Int))) (
            cond (icmp .eql (List.getD a.1.2 (Int.toNat x3) 0) 202) (
              let x4 := (ibin .add .i64 x1 2)
              cond (decide (0 ≤ x4 ∧ x4 < ((a.1.1 : Nat) : Int))) (
                some (icmp .eql (List.getD a.1.2 (Int.toNat x4) 0) 203)
              ) (
                none
              )
            ) (
              some false
            )
          ) (
            none
          )
        ) (
          some false
        )
      ) (
        none
      )
    ) (
      some false
    )
  ) (
    none
  )


def wire_Hex_l0 (N : Nat) (v : (ByteArray × Nat × Nat × Int × Int) × ((Nat × List Int) × (Nat × List Int))) : Option (((ByteArray × Nat × Nat × Int × Int) × ((Nat × List Int) × (Nat × List Int))) ⊕ ((Nat × (Nat × List Int)) ⊕ (Unit × Unit))) :=
  cond (icmp .lss v.1.2.2.2.2 v.1.2.2.2.1) (
    cond (decide (0 ≤ v.1.2.2.2.2 ∧ v.1.2.2.2.2 < ((v.1.2.2.1 : Nat) : Int))) (
      let x1 := (List.getD v.2.1.2 (Int.toNat v.1.2.2.2.2) 0)
      let x2 := (ibin .shr .u8 x1 4)
      cond (decide (0 ≤ x2 ∧ x2 < ((16 : Nat) : Int))) (
        let x3 := (ibin .and .u8 x1 15)
        cond (decide (0 ≤ x3 ∧ x3 < ((16 : Nat) : Int))) (
          let x4 := (v.2.2.1 + 2)
          cond (decide (x4 * 1 ≤ 140737488355328 ∧ x4 ≤ 9223372036854775807)) (
            let x5 := (ByteArray.mk (List.toArray [48, 49, 50, 51, 52, 53, 54, 55, 56, 57, 97, 98, 99, 100, 101, 102]))
            some (.inl ((v.1.1, x4, v.1.2.2.1, v.1.2.2.2.1, (ibin .add .i64 v.1.2.2.2.2 1)), ((v.2.1.1, v.2.1.2), (x4, (v.2.2.2 ++ [(strAt x5 x2), (strAt x5 x3)])))))
          ) (
            none
          )
        ) (
          none
        )
      ) (
        none
      )
    ) (
      none
    )
  ) (
    some (.inr (.inl (v.1.2.1, (v.2.2.1, v.2.2.2))))
  )

def wire_Hex (N : Nat) (a : ((Nat × List Int) × Unit)) : Option (ByteArray) :=
  let x1 := ((a.1.1 : Nat) : Int)
  cond ((decide ((0 : Int) ≤ 0 ∧ (0 : Int) ≤ (ibin .mul .i64 2 x1)) && decide (Int.toNat (ibin .mul .i64 2 x1) * 1 ≤ 140737488355328 ∧ Int.toNat (ibin .mul .i64 2 x1) ≤ 9223372036854775807)) && true) (
    mo (loopF (wire_Hex_l0 N) N (((ByteArray.mk (List.toArray [])), 0, a.1.1, x1, 0), ((a.1.1, a.1.2), (0, [])))) none fun r18 =>
    match r18 with
    | .inl u19 => (
      some (bStr u19.2.2)
    )
    | .inr _ => (
      none
    )
  ) (
    none
  )


def veilref10_Hex_l0 (N : Nat) (v : (Nat × ByteArray × ByteArray × Int) × (Nat × List Int)) : Option (((Nat × ByteArray × ByteArray × Int) × (Nat × List Int)) ⊕ ((ByteArray × Unit) ⊕ (Unit × Unit))) :=
  cond (icmp .lss v.1.2.2.2 ((v.1.1 : Nat) : Int)) (
    let x1 := (decide (0 ≤ v.1.2.2.2 ∧ v.1.2.2.2 < ((v.1.1 : Nat) : Int)))
    cond x1 (
      cond x1 (
        let x2 := (List.getD v.2.2 (Int.toNat v.1.2.2.2) 0)
        let x3 := (ibin .quo .u8 x2 16)
        let x4 := (ibin .add .u8 x3 1)
        cond (decide (0 ≤ x4 ∧ x4 ≤ ((16 : Nat) : Int))) (
          let x5 := (Int.toNat x4)
          cond (decide (0 ≤ x3 ∧ x3 ≤ ((x5 : Nat) : Int))) (
            let x6 := (ByteArray.mk (List.toArray [48, 49, 50, 51, 52, 53, 54, 55, 56, 57, 97, 98, 99, 100, 101, 102]))
            let x7 := (ByteArray.extract x6 (Int.toNat x3) x5)
            cond (inR .i64 ((ByteArray.size v.1.2.2.1 + ByteArray.size x7 : Nat) : Int)) (
              cond x1 (
                cond x1 (
                  let x8 := (ibin .rem .u8 x2 16)
                  let x9 := (ibin .add .u8 x8 1)
                  cond (decide (0 ≤ x9 ∧ x9 ≤ ((16 : Nat) : Int))) (
                    let x10 := (Int.toNat x9)
                    cond (decide (0 ≤ x8 ∧ x8 ≤ ((x10 : Nat) : Int))) (
                      let x11 := (v.1.2.2.1 ++ x7)
                      let x12 := (ByteArray.extract x6 (Int.toNat x8) x10)
                      cond (inR .i64 ((ByteArray.size x11 + ByteArray.size x12 : Nat) : Int)) (
                        some (.inl ((v.1.1, v.1.2.1, (x11 ++ x12), (ibin .add .i64 v.1.2.2.2 1)), (v.2.1, v.2.2)))
                      ) (
                        none
                      )
                    ) (
                      none
                    )
                  ) (
                    none
                  )
                ) (
                  none
                )
              ) (
                none
              )
            ) (
              none
            )
          ) (
            none
          )
        ) (
          none
        )
      ) (
        none
      )
    ) (
      none
    )
  ) (
    some (.inr (.inl (v.1.2.2.1, ())))
  )

def veilref10_Hex (N : Nat) (a : ((Nat × List Int) × Unit)) : Option (ByteArray) :=
  mo (loopF (veilref10_Hex_l0 N) N ((a.1.1, (ByteArray.mk (List.toArray [])), (ByteArray.mk (List.toArray [])), 0), (a.1.1, a.1.2))) none fun r12 =>
  match r12 with
  | .inl u13 => (
    some u13.1
  )
  | .inr _ => (
    none
  )


def wire_digit (a : Int) : Int :=
  cond (icmp .geq a 48) (
    cond (icmp .leq a 57) (
      (IntKind.wrap .u8 (ibin .sub .i32 a 48))
    ) (
      cond (icmp .geq a 97) (
        cond (icmp .leq a 102) (
          (ibin .add .u8 (IntKind.wrap .u8 (ibin .sub .i32 a 97)) 10)
        ) (
          16
        )
      ) (
        16
      )
    )
  ) (
    cond (icmp .geq a 97) (
      cond (icmp .leq a 102) (
        (ibin .add .u8 (IntKind.wrap .u8 (ibin .sub .i32 a 97)) 10)
      ) (
        16
      )
    ) (
      16
    )
  )

def wire_digit_o (a : Int) : Option (Int) :=
  cond (icmp .geq a 48) (
    cond (icmp .leq a 57) (
      some (IntKind.wrap .u8 (ibin .sub .i32 a 48))
    ) (
      cond (icmp .geq a 97) (
        cond (icmp .leq a 102) (
          some (ibin .add .u8 (IntKind.wrap .u8 (ibin .sub .i32 a 97)) 10)
        ) (
          some 16
        )
      ) (
        some 16
      )
    )
  ) (
    cond (icmp .geq a 97) (
      cond (icmp .leq a 102) (
        some (ibin .add .u8 (IntKind.wrap .u8 (ibin .sub .i32 a 97)) 10)
      ) (
        some 16
      )
    ) (
      some 16
    )
  )

theorem wire_digit_tot (a : Int) : wire_digit_o a = some (wire_digit a) := by
  unfold wire_digit_o wire_digit
  repeat' (first | refine cond_tot ?_ ?_ | rfl)

def wire_Unhex_l0 (N : Nat) (v : (Unit × Unit × Nat × Unit) × ((Nat × List Int) × (ByteArray × Nat))) : Option (((Unit × Unit × Nat × Unit) × ((Nat × List Int) × (ByteArray × Nat))) ⊕ ((Nat × (Nat × List Int)) ⊕ ((Unit × Unit) × Unit))) :=
  cond (Nat.blt v.2.2.2 (ByteArray.size v.2.2.1)) (
    let x1 := (wire_digit (((Utf8.decode v.2.2.1 v.2.2.2).1 : Nat) : Int))
    cond (icmp .gtr x1 15) (
      some (.inr (.inr (((), ()), ())))
    ) (
      let x2 := (ibin .quo .i64 ((v.2.2.2 : Nat) : Int) 2)
      let x3 := (decide (0 ≤ x2 ∧ x2 < ((v.1.2.2.1 : Nat) : Int)))
      cond x3 (
        cond x3 (
          some (.inl (((), (), v.1.2.2.1, ()), ((v.2.1.1, (List.set v.2.1.2 (Int.toNat x2) (ibin .or .u8 (ibin .shl .u8 (List.getD v.2.1.2 (Int.toNat x2) 0) 4) x1))), (v.2.2.1, (v.2.2.2 + (Utf8.decode v.2.2.1 v.2.2.2).2)))))
        ) (
          none
        )
      ) (
        none
      )
    )
  ) (
    some (.inr (.inl (v.1.2.2.1, (v.2.1.1, v.2.1.2))))
  )

def wire_Unhex (N : Nat) (a : ByteArray) : Option ((((Nat × List Int) × Unit) × Int)) :=
  cond (icmp .eql (ibin .rem .i64 (((ByteArray.size a) : Nat) : Int) 2) 1) (
    some (((0, []), ()), 104)
  ) (
    let x1 := (ibin .quo .i64 (((ByteArray.size a) : Nat) : Int) 2)
    cond ((decide ((0 : Int) ≤ x1 ∧ (x1 : Int) ≤ x1) && decide (Int.toNat x1 * 1 ≤ 140737488355328 ∧ Int.toNat x1 ≤ 9223372036854775807)) && true) (
      let x2 := (Int.toNat x1)
      mo (loopF (wire_Unhex_l0 N) N (((), (), x2, ()), ((x2, (List.replicate x2 0)), (a, 0)))) none fun r11 =>
      match r11 with
      | .inl u12 => (
        some (((u12.2.1, u12.2.2), ()), 0)
      )
      | .inr w13 => (
        some (((0, []), ()), 104)
      )
    ) (
      none
    )
  )


def veilref10_digit (a : Int) : Int :=
  cond (icmp .eql 48 a) (
    0
  ) (
    cond (icmp .eql 49 a) (
      1
    ) (
      cond (icmp .eql 50 a) (
        2
      ) (
        cond (icmp .eql 51 a) (
          3
        ) (
          cond (icmp .eql 52 a) (
            4
          ) (
            cond (icmp .eql 53 a) (
              5
            ) (
              cond (icmp .eql 54 a) (
                6
              ) (
                cond (icmp .eql 55 a) (
                  7
                ) (
                  cond (icmp .eql 56 a) (
                    8
                  ) (
                    cond (icmp .eql 57 a) (
                      9
                    ) (
                      cond (icmp .eql 97 a) (
                        10
                      ) (
                        cond (icmp .eql 98 a) (
                          11
                        ) (
                          cond (icmp .eql 99 a) (
                            12
                          ) (
                            cond (icmp .eql 100 a) (
                              13
                            ) (
                              cond (icmp .eql 101 a) (
                                14
                              ) (
                                cond (icmp .eql 102 a) (
                                  15
                                ) (
                                  16
                                )
                              )
                            )
                          )
                        )
                      )
                    )
                  )
                )
              )
            )
          )
        )
      )
    )
  )

def veilref10_digit_o (a : Int) : Option (Int) :=
  cond (icmp .eql 48 a) (
    some 0
  ) (
    cond (icmp .eql 49 a) (
      some 1
    ) (
      cond (icmp .eql 50 a) (
        some 2
      ) (
        cond (icmp .eql 51 a) (
          some 3
        ) (
          cond (icmp .eql 52 a) (
            some 4
          ) (
            cond (icmp .eql 53 a) (
              some 5
            ) (
              cond (icmp .eql 54 a) (
                some 6
              ) (
                cond (icmp .eql 55 a) (
                  some 7
                ) (
                  cond (icmp .eql 56 a) (
                    some 8
                  ) (
                    cond (icmp .eql 57 a) (
                      some 9
                    ) (
                      cond (icmp .eql 97 a) (
                        some 10
                      ) (
                        cond (icmp .eql 98 a) (
                          some 11
                        ) (
                          cond (icmp .eql 99 a) (
                            some 12
                          ) (
                            cond (icmp .eql 100 a) (
                              some 13
                            ) (
                              cond (icmp .eql 101 a) (
                                some 14
                              ) (
                                cond (icmp .eql 102 a) (
                                  some 15
                                ) (
                                  some 16
                                )
                              )
                            )
                          )
                        )
                      )
                    )
                  )
                )
              )
            )
          )
        )
      )
    )
  )

theorem veilref10_digit_tot (a : Int) : veilref10_digit_o a = some (veilref10_digit a) := by
  unfold veilref10_digit_o veilref10_digit
  repeat' (first | refine cond_tot ?_ ?_ | rfl)

def veilref10_Unhex_l0 (N : Nat) (v : (ByteArray × Unit × Unit × Nat × Int) × (Nat × List Int)) : Option (((ByteArray × Unit × Unit × Nat × Int) × (Nat × List Int)) ⊕ ((Nat × (Nat × List Int)) ⊕ ((Unit × Unit) × Unit))) :=
  let x1 := (ByteArray.size v.1.1)
  cond (icmp .lss v.1.2.2.2.2 ((x1 : Nat) : Int)) (
    cond (decide (0 ≤ v.1.2.2.2.2 ∧ v.1.2.2.2.2 < ((x1 : Nat) : Int))) (
      let x2 := (ibin .add .i64 v.1.2.2.2.2 1)
      cond (decide (0 ≤ x2 ∧ x2 < ((x1 : Nat) : Int))) (
        let x3 := (veilref10_digit (strAt v.1.1 v.1.2.2.2.2))
        cond (icmp .eql x3 16) (
          some (.inr (.inr (((), ()), ())))
        ) (
          let x4 := (veilref10_digit (strAt v.1.1 x2))
          cond (icmp .eql x4 16) (
            some (.inr (.inr (((), ()), ())))
          ) (
            let x5 := (v.2.1 + 1)
            cond (decide (x5 * 1 ≤ 140737488355328 ∧ x5 ≤ 9223372036854775807)) (
              some (.inl ((v.1.1, (), (), x5, (ibin .add .i64 v.1.2.2.2.2 2)), (x5, (v.2.2 ++ [(IntKind.wrap .u8 (ibin .add .i64 (ibin .mul .i64 16 x3) x4))]))))
            ) (
              none
            )
          )
        )
      ) (
        none
      )
    ) (
      none
    )
  ) (
    some (.inr (.inl (v.1.2.2.2.1, (v.2.1, v.2.2))))
  )

def veilref10_Unhex (N : Nat) (a : ByteArray) : Option ((((Nat × List Int) × Unit) × Int)) :=
  cond (icmp .eql (ibin .rem .i64 (((ByteArray.size a) : Nat) : Int) 2) 1) (
    some (((0, []), ()), 104)
  ) (
    mo (loopF (veilref10_Unhex_l0 N) N ((a, (), (), 0, 0), (0, []))) none fun r11 =>
    match r11 with
    | .inl u12 => (
      some (((u12.2.1, u12.2.2), ()), 0)
    )
    | .inr w13 => (
      some (((0, []), ()), 104)
    )
  )


def veillaw10_WireHex (N : Nat) (a : ((Nat × List Int) × Unit)) (b : ByteArray) : Option (Bool) :=
  mo (veillaw10_room ((a.1.1, a.1.2), ())) none fun r1 =>
  let x1 := ((a.1.1 : Nat) : Int)
  cond (decide (0 ≤ x1 ∧ x1 ≤ ((r1.1.1 : Nat) : Int))) (
    let x2 := (Int.toNat x1)
    mo (wire_Hex N ((x2, (List.take x2 (List.drop 0 r1.1.2))), ())) none fun r2 =>
    mo (veilref10_Hex N ((a.1.1, a.1.2), ())) none fun r3 =>
    cond (!(r2 == r3)) (
      some false
    ) (
      mo (veillaw10_roomy ((r1.1.1, r1.1.2), ()) ((a.1.1, a.1.2), ())) none fun r4 =>
      cond (!r4) (
        some false
      ) (
        mo (wire_Unhex N b) none fun r5 =>
        mo (veilref10_Unhex N b) none fun r6 =>
        cond (icmp .eql r5.2 r6.2) (
          some (veillaw10_same ((r5.1.1.1, r5.1.1.2), ()) ((r6.1.1.1, r6.1.1.2), ()))
        ) (
          some false
        )
      )
    )
  ) (
    none
  )


end Go.Vx
