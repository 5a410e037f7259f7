import Derived.Test.YtoionfdfofmplaaVxR
set_option autoImplicit false
set_option linter.unusedVariables false
set_option linter.unusedSimpArgs false
namespace Go.Vx
open Go

def veillaw10_room (a : ((Nat × List Int) × Unit)) : Option (((Nat × List Int) × Unit)) :=
  let x1 := (0 + a.1.1)
  cond (decide (x1 * 1 ≤ 140737488355328 ∧ x1 ≤ 9223372036854775807)) (
    let x2 := (x1 + 3)
    cond (decide (x2 * 1 ≤ 140737488355328 ∧ x2 ≤ 9223372036854775807)) (
      some ((x2, (a.1.2 ++ [201, 202, 203])), ())
    ) (
      none
    )
  ) (
    none
  )


def veillaw10_same (a : ((Nat × List Int) × Unit)) (b : ((Nat × List Int) × Unit)) : Bool :=
  ((bStr a.1.2) == (bStr b.1.2))


def veillaw10_roomy (a : ((Nat × List Int) × Unit)) (b : ((Nat × List Int) × Unit)) : Option (Bool) :=
  let x1 := ((b.1.1 : Nat) : Int)
  cond (decide ((0 : Int) ≤ x1 ∧ x1 ≤ ((a.1.1 : Nat) : Int))) (
    let x2 := (Int.toNat x1)
    cond (veillaw10_same ((x2, (List.take x2 (List.drop 0 a.1.2))), ()) ((b.1.1, b.1.2), ())) (
      cond (decide ((0 : Int) ≤ x1 ∧ x1 < ((a.1.1 : Nat) : Int))) (
        cond (icmp .eql (List.getD a.1.2 (Int.toNat x1) 0) 201) (
          let x3 := (ibin .add .i64 x1 1)
          cond (decide ((0 : Int) ≤ x3 ∧ x3 < ((a.1.1 : Nat) : Int))) (
            cond (icmp .eql (List.getD a.1.2 (Int.toNat x3) 0) 202) (
              let x4 := (ibin .add .i64 x1 2)
              cond (decide ((0 : Int) ≤ x4 ∧ x4 < ((a.1.1 : Nat) : Int))) (
                some (icmp .eql (List.getD a.1.2 (Int.toNat x4) 0) 203)
              ) (
                none
              )
            ) (
              some false
            )
          ) (
            none
          )
        ) (
          some false
        )
      ) (
        none
      )
    ) (
      some false
    )
  ) (
    none
  )


def wire_Hex_l0 (N : Nat) (v : (ByteArray × Nat × Nat × Int × Int) × ((Nat × List Int) × (Nat × List Int))) : Option (((ByteArray × Nat × Nat × Int × Int) × ((Nat × List Int) × (Nat × List Int))) ⊕ ((Nat × (Nat × List Int)) ⊕ (Unit × Unit))) :=
  cond (icmp .lss v.1.2.2.2.2 v.1.2.2.2.1) (
    cond (decide ((0 : Int) ≤ v.1.2.2.2.2 ∧ v.1.2.2.2.2 < ((v.1.2.2.1 : Nat) : Int))) (
      let x1 := (List.getD v.2.1.2 (Int.toNat v.1.2.2.2.2) 0)
      let x2 := (ibin .shr .u8 x1 4)
      cond (decide ((0 : Int) ≤ x2 ∧ x2 < ((16 : Nat) : Int))) (
        let x3 := (ibin .and .u8 x1 15)
        cond (decide ((0 : Int) ≤ x3 ∧ x3 < ((16 : Nat) : Int))) (
          let x4 := (v.2.2.1 + 2)
          cond (decide (x4 * 1 ≤ 140737488355328 ∧ x4 ≤ 9223372036854775807)) (
            let x5 := (ByteArray.mk (List.toArray [48, 49, 50, 51, 52, 53, 54, 55, 56, 57, 97, 98, 99, 100, 101, 102]))
            some (.inl ((v.1.1, x4, v.1.2.2.1, v.1.2.2.2.1, (ibin .add .i64 v.1.2.2.2.2 1)), ((v.2.1.1, v.2.1.2), (x4, (v.2.2.2 ++ [(strAt x5 x2), (strAt x5 x3)])))))
          ) (
            none
          )
        ) (
          none
        )
      ) (
        none
      )
    ) (
      none
    )
  ) (
    some (.inr (.inl (v.1.2.1, (v.2.2.1, v.2.2.2))))
  )

def wire_Hex (N : Nat) (a : ((Nat × List Int) × Unit)) : Option (ByteArray) :=
  let x1 := ((a.1.1 : Nat) : Int)
  cond ((decide ((0 : Int) ≤ 0 ∧ (0 : Int) ≤ (ibin .mul .i64 2 x1)) && decide (Int.toNat (ibin .mul .i64 2 x1) * 1 ≤ 140737488355328 ∧ Int.toNat (ibin .mul .i64 2 x1) ≤ 9223372036854775807)) && true) (
    mo (loopF (wire_Hex_l0 N) N (((ByteArray.mk (List.toArray [])), 0, a.1.1, x1, 0), ((a.1.1, a.1.2), (0, [])))) none fun r18 =>
    match r18 with
    | .inl u19 => (
      some (bStr u19.2.2)
    )
    | .inr _ => (
      none
    )
  ) (
    none
  )


def veilref10_Hex_l0 (N : Nat) (v : (Nat × ByteArray × ByteArray × Int) × (Nat × List Int)) : Option (((Nat × ByteArray × ByteArray × Int) × (Nat × List Int)) ⊕ ((ByteArray × Unit) ⊕ (Unit × Unit))) :=
  cond (icmp .lss v.1.2.2.2 ((v.1.1 : Nat) : Int)) (
    let x1 := (decide ((0 : Int) ≤ v.1.2.2.2 ∧ v.1.2.2.2 < ((v.1.1 : Nat) : Int)))
    cond x1 (
      cond x1 (
        let x2 := (List.getD v.2.2 (Int.toNat v.1.2.2.2) 0)
        let x3 := (ibin .quo .u8 x2 16)
        let x4 := (ibin .add .u8 x3 1)
        cond (decide ((0 : Int) ≤ x4 ∧ x4 ≤ ((16 : Nat) : Int))) (
          let x5 := (Int.toNat x4)
          cond (decide ((0 : Int) ≤ x3 ∧ x3 ≤ ((x5 : Nat) : Int))) (
            let x6 := (ByteArray.mk (List.toArray [48, 49, 50, 51, 52, 53, 54, 55, 56, 57, 97, 98, 99, 100, 101, 102]))
            let x7 := (ByteArray.extract x6 (Int.toNat x3) x5)
            cond (inR .i64 ((ByteArray.size v.1.2.2.1 + ByteArray.size x7 : Nat) : Int)) (
              cond x1 (
                cond x1 (
                  let x8 := (ibin .rem .u8 x2 16)
                  let x9 := (ibin .add .u8 x8 1)
                  cond (decide ((0 : Int) ≤ x9 ∧ x9 ≤ ((16 : Nat) : Int))) (
                    let x10 := (Int.toNat x9)
                    cond (decide ((0 : Int) ≤ x8 ∧ x8 ≤ ((x10 : Nat) : Int))) (
                      let x11 := (v.1.2.2.1 ++ x7)
                      let x12 := (ByteArray.extract x6 (Int.toNat x8) x10)
                      cond (inR .i64 ((ByteArray.size x11 + ByteArray.size x12 : Nat) : Int)) (
                        some (.inl ((v.1.1, v.1.2.1, (x11 ++ x12), (ibin .add .i64 v.1.2.2.2 1)), (v.2.1, v.2.2)))
                      ) (
                        none
                      )
                    ) (
                      none
                    )
                  ) (
                    none
                  )
                ) (
                  none
                )
              ) (
                none
              )
            ) (
              none
            )
          ) (
            none
          )
        ) (
          none
        )
      ) (
        none
      )
    ) (
      none
    )
  ) (
    some (.inr (.inl (v.1.2.2.1, ())))
  )

def veilref10_Hex (N : Nat) (a : ((Nat × List Int) × Unit)) : Option (ByteArray) :=
  mo (loopF (veilref10_Hex_l0 N) N ((a.1.1, (ByteArray.mk (List.toArray [])), (ByteArray.mk (List.toArray [])), 0), (a.1.1, a.1.2))) none fun r12 =>
  match r12 with
  | .inl u13 => (
    some u13.1
  )
  | .inr _ => (
    none
  )


def wire_digit (a : Int) : Int :=
  cond (icmp .geq a 48) (
    cond (icmp .leq a 57) (
      (IntKind.wrap .u8 (ibin .sub .i32 a 48))
    ) (
      cond (icmp .geq a 97) (
        cond (icmp .leq a 102) (
          (ibin .add .u8 (IntKind.wrap .u8 (ibin .sub .i32 a 97)) 10)
        ) (
          16
        )
      ) (
        16
      )
    )
  ) (
    cond (icmp .geq a 97) (
      cond (icmp .leq a 102) (
        (ibin .add .u8 (IntKind.wrap .u8 (ibin .sub .i32 a 97)) 10)
      ) (
        16
      )
    ) (
      16
    )
  )

def wire_digit_o (a : Int) : Option (Int) :=
  cond (icmp .geq a 48) (
    cond (icmp .leq a 57) (
      some (IntKind.wrap .u8 (ibin .sub .i32 a 48))
    ) (
      cond (icmp .geq a 97) (
        cond (icmp .leq a 102) (
          some (ibin .add .u8 (IntKind.wrap .u8 (ibin .sub .i32 a 97)) 10)
        ) (
          some 16
        )
      ) (
        some 16
      )
    )
  ) (
    cond (icmp .geq a 97) (
      cond (icmp .leq a 102) (
        some (ibin .add .u8 (IntKind.wrap .u8 (ibin .sub .i32 a 97)) 10)
      ) (
        some 16
      )
    ) (
      some 16
    )
  )

theorem wire_digit_tot (a : Int) : wire_digit_o a = some (wire_digit a) := by
  unfold wire_digit_o wire_digit
  repeat' (first | refine cond_tot ?_ ?_ | rfl)

def wire_Unhex_l0 (N : Nat) (v : (Unit × Unit × Nat × Unit) × ((Nat × List Int) × (ByteArray × Nat))) : Option (((Unit × Unit × Nat × Unit) × ((Nat × List Int) × (ByteArray × Nat))) ⊕ ((Nat × (Nat × List Int)) ⊕ ((Unit × Unit) × Unit))) :=
  cond (Nat.blt v.2.2.2 (ByteArray.size v.2.2.1)) (
    let x1 := (wire_digit (((Utf8.decode v.2.2.1 v.2.2.2).1 : Nat) : Int))
    cond (icmp .gtr x1 15) (
      some (.inr (.inr (((), ()), ())))
    ) (
      let x2 := (ibin .quo .i64 ((v.2.2.2 : Nat) : Int) 2)
      let x3 := (decide ((0 : Int) ≤ x2 ∧ x2 < ((v.1.2.2.1 : Nat) : Int)))
      cond x3 (
        cond x3 (
          some (.inl (((), (), v.1.2.2.1, ()), ((v.2.1.1, (List.set v.2.1.2 (Int.toNat x2) (ibin .or .u8 (ibin .shl .u8 (List.getD v.2.1.2 (Int.toNat x2) 0) 4) x1))), (v.2.2.1, (v.2.2.2 + (Utf8.decode v.2.2.1 v.2.2.2).2)))))
        ) (
          none
        )
      ) (
        none
      )
    )
  ) (
    some (.inr (.inl (v.1.2.2.1, (v.2.1.1, v.2.1.2))))
  )

def wire_Unhex (N : Nat) (a : ByteArray) : Option ((((Nat × List Int) × Unit) × Int)) :=
  cond (icmp .eql (ibin .rem .i64 (((ByteArray.size a) : Nat) : Int) 2) 1) (
    some (((0, []), ()), 104)
  ) (
    let x1 := (ibin .quo .i64 (((ByteArray.size a) : Nat) : Int) 2)
    cond ((decide ((0 : Int) ≤ x1 ∧ (x1 : Int) ≤ x1) && decide (Int.toNat x1 * 1 ≤ 140737488355328 ∧ Int.toNat x1 ≤ 9223372036854775807)) && true) (
      let x2 := (Int.toNat x1)
      mo (loopF (wire_Unhex_l0 N) N (((), (), x2, ()), ((x2, (List.replicate x2 0)), (a, 0)))) none fun r11 =>
      match r11 with
      | .inl u12 => (
        some (((u12.2.1, u12.2.2), ()), 0)
      )
      | .inr w13 => (
        some (((0, []), ()), 104)
      )
    ) (
      none
    )
  )


def veilref10_digit (a : Int) : Int :=
  cond (icmp .eql 48 a) (
    0
  ) (
    cond (icmp .eql 49 a) (
      1
    ) (
      cond (icmp .eql 50 a) (
        2
      ) (
        cond (icmp .eql 51 a) (
          3
        ) (
          cond (icmp .eql 52 a) (
            4
          ) (
            cond (icmp .eql 53 a) (
              5
            ) (
              cond (icmp .eql 54 a) (
                6
              ) (
                cond (icmp .eql 55 a) (
                  7
                ) (
                  cond (icmp .eql 56 a) (
                    8
                  ) (
                    cond (icmp .eql 57 a) (
                      9
                    ) (
                      cond (icmp .eql 97 a) (
                        10
                      ) (
                        cond (icmp .eql 98 a) (
                          11
                        ) (
                          cond (icmp .eql 99 a) (
                            12
                          ) (
                            cond (icmp .eql 100 a) (
                              13
                            ) (
                              cond (icmp .eql 101 a) (
                                14
                              ) (
                                cond (icmp .eql 102 a) (
                                  15
                                ) (
                                  16
                                )
                              )
                            )
                          )
                        )
                      )
                    )
                  )
                )
              )
            )
          )
        )
      )
    )
  )

def veilref10_digit_o (a : Int) : Option (Int) :=
  cond (icmp .eql 48 a) (
    some 0
  ) (
    cond (icmp .eql 49 a) (
      some 1
    ) (
      cond (icmp .eql 50 a) (
        some 2
      ) (
        cond (icmp .eql 51 a) (
          some 3
        ) (
          cond (icmp .eql 52 a) (
            some 4
          ) (
            cond (icmp .eql 53 a) (
              some 5
            ) (
              cond (icmp .eql 54 a) (
                some 6
              ) (
                cond (icmp .eql 55 a) (
                  some 7
                ) (
                  cond (icmp .eql 56 a) (
                    some 8
                  ) (
                    cond (icmp .eql 57 a) (
                      some 9
                    ) (
                      cond (icmp .eql 97 a) (
                        some 10
                      ) (
                        cond (icmp .eql 98 a) (
                          some 11
                        ) (
                          cond (icmp .eql 99 a) (
                            some 12
                          ) (
                            cond (icmp .eql 100 a) (
                              some 13
                            ) (
                              cond (icmp .eql 101 a) (
                                some 14
                              ) (
                                cond (icmp .eql 102 a) (
                                  some 15
                                ) (
                                  some 16
                                )
                              )
                            )
                          )
                        )
                      )
                    )
                  )
                )
              )
            )
          )
        )
      )
    )
  )

theorem veilref10_digit_tot (a : Int) : veilref10_digit_o a = some (veilref10_digit a) := by
  unfold veilref10_digit_o veilref10_digit
  repeat' (first | refine cond_tot ?_ ?_ | rfl)

def veilref10_Unhex_l0 (N : Nat) (v : (ByteArray × Unit × Unit × Nat × Int) × (Nat × List Int)) : Option (((ByteArray × Unit × Unit × Nat × Int) × (Nat × List Int)) ⊕ ((Nat × (Nat × List Int)) ⊕ ((Unit × Unit) × Unit))) :=
  let x1 := (ByteArray.size v.1.1)
  cond (icmp .lss v.1.2.2.2.2 ((x1 : Nat) : Int)) (
    cond (decide ((0 : Int) ≤ v.1.2.2.2.2 ∧ v.1.2.2.2.2 < ((x1 : Nat) : Int))) (
      let x2 := (ibin .add .i64 v.1.2.2.2.2 1)
      cond (decide ((0 : Int) ≤ x2 ∧ x2 < ((x1 : Nat) : Int))) (
        let x3 := (veilref10_digit (strAt v.1.1 v.1.2.2.2.2))
        cond (icmp .eql x3 16) (
          some (.inr (.inr (((), ()), ())))
        ) (
          let x4 := (veilref10_digit (strAt v.1.1 x2))
          cond (icmp .eql x4 16) (
            some (.inr (.inr (((), ()), ())))
          ) (
            let x5 := (v.2.1 + 1)
            cond (decide (x5 * 1 ≤ 140737488355328 ∧ x5 ≤ 9223372036854775807)) (
              some (.inl ((v.1.1, (), (), x5, (ibin .add .i64 v.1.2.2.2.2 2)), (x5, (v.2.2 ++ [(IntKind.wrap .u8 (ibin .add .i64 (ibin .mul .i64 16 x3) x4))]))))
            ) (
              none
            )
          )
        )
      ) (
        none
      )
    ) (
      none
    )
  ) (
    some (.inr (.inl (v.1.2.2.2.1, (v.2.1, v.2.2))))
  )

def veilref10_Unhex (N : Nat) (a : ByteArray) : Option ((((Nat × List Int) × Unit) × Int)) :=
  cond (icmp .eql (ibin .rem .i64 (((ByteArray.size a) : Nat) : Int) 2) 1) (
    some (((0, []), ()), 104)
  ) (
    mo (loopF (veilref10_Unhex_l0 N) N ((a, (), (), 0, 0), (0, []))) none fun r11 =>
    match r11 with
    | .inl u12 => (
      some (((u12.2.1, u12.2.2), ()), 0)
    )
    | .inr w13 => (
      some (((0, []), ()), 104)
    )
  )


def veillaw10_WireHex (N : Nat) (a : ((Nat × List Int) × Unit)) (b : ByteArray) : Option (Bool) :=
  mo (veillaw10_room ((a.1.1, a.1.2), ())) none fun r1 =>
  let x1 := ((a.1.1 : Nat) : Int)
  cond (decide ((0 : Int) ≤ x1 ∧ x1 ≤ ((r1.1.1 : Nat) : Int))) (
    let x2 := (Int.toNat x1)
    mo (wire_Hex N ((x2, (List.take x2 (List.drop 0 r1.1.2))), ())) none fun r2 =>
    mo (veilref10_Hex N ((a.1.1, a.1.2), ())) none fun r3 =>
    cond (!(r2 == r3)) (
      some false
    ) (
      mo (veillaw10_roomy ((r1.1.1, r1.1.2), ()) ((a.1.1, a.1.2), ())) none fun r4 =>
      cond (!r4) (
        some false
      ) (
        mo (wire_Unhex N b) none fun r5 =>
        mo (veilref10_Unhex N b) none fun r6 =>
        cond (icmp .eql r5.2 r6.2) (
          some (veillaw10_same ((r5.1.1.1, r5.1.1.2), ()) ((r6.1.1.1, r6.1.1.2), ()))
        ) (
          some false
        )
      )
    )
  ) (
    none
  )


def wire_AppendNumber_nil_l0 (N : Nat) (v : (Int × Unit × Nat) × (Nat × List Int)) : Option (((Int × Unit × Nat) × (Nat × List Int)) ⊕ (((Int × Nat) × (Nat × List Int)) ⊕ (Unit × Unit))) :=
  cond (icmp .gtr v.1.1 127) (
    let x1 := (v.2.1 + 1)
    cond (decide (x1 * 1 ≤ 140737488355328 ∧ x1 ≤ 9223372036854775807)) (
      some (.inl (((ibin .shr .u64 v.1.1 7), (), x1), (x1, (v.2.2 ++ [(ibin .or .u8 (IntKind.wrap .u8 v.1.1) 128)]))))
    ) (
      none
    )
  ) (
    some (.inr (.inl ((v.1.1, v.1.2.2), (v.2.1, v.2.2))))
  )

def wire_AppendNumber_nil (N : Nat) (a : Unit) (b : Int) : Option (((Nat × List Int) × Unit)) :=
  mo (loopF (wire_AppendNumber_nil_l0 N) N ((b, (), 0), (0, []))) none fun r10 =>
  match r10 with
  | .inl u11 => (
    let x1 := (u11.2.1 + 1)
    cond (decide (x1 * 1 ≤ 140737488355328 ∧ x1 ≤ 9223372036854775807)) (
      some ((x1, (u11.2.2 ++ [(IntKind.wrap .u8 u11.1.1)])), ())
    ) (
      none
    )
  )
  | .inr _ => (
    none
  )


def wire_AppendNumber_l0 (N : Nat) (v : (Int × Unit × Nat) × (Nat × List Int)) : Option (((Int × Unit × Nat) × (Nat × List Int)) ⊕ (((Int × Nat) × (Nat × List Int)) ⊕ (Unit × Unit))) :=
  cond (icmp .gtr v.1.1 127) (
    let x1 := (v.2.1 + 1)
    cond (decide (x1 * 1 ≤ 140737488355328 ∧ x1 ≤ 9223372036854775807)) (
      some (.inl (((ibin .shr .u64 v.1.1 7), (), x1), (x1, (v.2.2 ++ [(ibin .or .u8 (IntKind.wrap .u8 v.1.1) 128)]))))
    ) (
      none
    )
  ) (
    some (.inr (.inl ((v.1.1, v.1.2.2), (v.2.1, v.2.2))))
  )

def wire_AppendNumber (N : Nat) (a : ((Nat × List Int) × Unit)) (b : Int) : Option (((Nat × List Int) × Unit)) :=
  let x1 := (ibin .add .i64 0 ((a.1.1 : Nat) : Int))
  cond (icmp .lss x1 0) (
    none
  ) (
    let x2 := (ibin .add .i64 x1 0)
    let x3 := (icmp .lss x2 0)
    cond x3 (
      none
    ) (
      cond x3 (
        none
      ) (
        let x4 := (ibin .sub .i64 x2 0)
        cond (icmp .gtr x4 0) (
          cond ((decide ((0 : Int) < x4) && decide (Int.toNat x4 * 1 ≤ 140737488355328 ∧ Int.toNat x4 ≤ 9223372036854775807)) && true) (
            let x5 := (Int.toNat x4)
            cond (decide ((0 : Int) ≤ 0 ∧ 0 ≤ ((x5 : Nat) : Int))) (
              let x6 := (0 + a.1.1)
              cond (decide (x6 * 1 ≤ 140737488355328 ∧ x6 ≤ 9223372036854775807)) (
                mo (loopF (wire_AppendNumber_l0 N) N ((b, (), x6), (x6, ((List.take 0 (List.drop 0 (List.replicate x5 0))) ++ a.1.2)))) none fun r9 =>
                match r9 with
                | .inl u10 => (
                  let x7 := (u10.2.1 + 1)
                  cond (decide (x7 * 1 ≤ 140737488355328 ∧ x7 ≤ 9223372036854775807)) (
                    some ((x7, (u10.2.2 ++ [(IntKind.wrap .u8 u10.1.1)])), ())
                  ) (
                    none
                  )
                )
                | .inr _ => (
                  none
                )
              ) (
                none
              )
            ) (
              none
            )
          ) (
            none
          )
        ) (
          let x8 := (0 + a.1.1)
          cond (decide (x8 * 1 ≤ 140737488355328 ∧ x8 ≤ 9223372036854775807)) (
            mo (loopF (wire_AppendNumber_l0 N) N ((b, (), x8), (x8, a.1.2))) none fun r20 =>
            match r20 with
            | .inl u21 => (
              let x9 := (u21.2.1 + 1)
              cond (decide (x9 * 1 ≤ 140737488355328 ∧ x9 ≤ 9223372036854775807)) (
                some ((x9, (u21.2.2 ++ [(IntKind.wrap .u8 u21.1.1)])), ())
              ) (
                none
              )
            )
            | .inr _ => (
              none
            )
          ) (
            none
          )
        )
      )
    )
  )


def wire_AppendBytes (N : Nat) (a : ((Nat × List Int) × Unit)) (b : ((Nat × List Int) × Unit)) : Option (((Nat × List Int) × Unit)) :=
  mo (wire_AppendNumber N ((a.1.1, a.1.2), ()) (IntKind.wrap .u64 ((b.1.1 : Nat) : Int))) none fun r1 =>
  let x1 := (r1.1.1 + b.1.1)
  cond (decide (x1 * 1 ≤ 140737488355328 ∧ x1 ≤ 9223372036854775807)) (
    some ((x1, (r1.1.2 ++ b.1.2)), ())
  ) (
    none
  )


def veilref10_Number_l0 (N : Nat) (v : (Int × Unit × Nat) × (Nat × List Int)) : Option (((Int × Unit × Nat) × (Nat × List Int)) ⊕ (((Int × Nat) × (Nat × List Int)) ⊕ (Unit × Unit))) :=
  cond (icmp .geq v.1.1 128) (
    let x1 := (v.2.1 + 1)
    cond (decide (x1 * 1 ≤ 140737488355328 ∧ x1 ≤ 9223372036854775807)) (
      some (.inl (((ibin .quo .u64 v.1.1 128), (), x1), (x1, (v.2.2 ++ [(ibin .add .u8 (IntKind.wrap .u8 (ibin .rem .u64 v.1.1 128)) 128)]))))
    ) (
      none
    )
  ) (
    some (.inr (.inl ((v.1.1, v.1.2.2), (v.2.1, v.2.2))))
  )

def veilref10_Number (N : Nat) (a : Int) : Option (((Nat × List Int) × Unit)) :=
  mo (loopF (veilref10_Number_l0 N) N ((a, (), 0), (0, []))) none fun r10 =>
  match r10 with
  | .inl u11 => (
    let x1 := (u11.2.1 + 1)
    cond (decide (x1 * 1 ≤ 140737488355328 ∧ x1 ≤ 9223372036854775807)) (
      some ((x1, (u11.2.2 ++ [(IntKind.wrap .u8 u11.1.1)])), ())
    ) (
      none
    )
  )
  | .inr _ => (
    none
  )


def veilref10_List (N : Nat) (a : ((Nat × List Int) × Unit)) : Option (((Nat × List Int) × Unit)) :=
  mo (veilref10_Number N (IntKind.wrap .u64 ((a.1.1 : Nat) : Int))) none fun r1 =>
  let x1 := (r1.1.1 + a.1.1)
  cond (decide (x1 * 1 ≤ 140737488355328 ∧ x1 ≤ 9223372036854775807)) (
    some ((x1, (r1.1.2 ++ a.1.2)), ())
  ) (
    none
  )


def slices_Clone_of_byte_byte (a : ((Nat × List Int) × Unit)) : Option (((Nat × List Int) × Unit)) :=
  cond (decide ((0 + a.1.1) * 1 ≤ 140737488355328 ∧ 0 + a.1.1 ≤ 9223372036854775807)) (some ((0 + a.1.1, List.take a.1.1 (List.drop 0 a.1.2)), ())) none

def io_veillaw10_live_p_wire_Reader_count (N : Nat) (a : Unit) (b : ((Nat × List Int) × (Unit × (Nat × Nat × Nat) × Int))) : Option (Int × ((Nat × List Int) × (Unit × (Nat × Nat × Nat) × Int))) :=
  let x1 := ((b.2.2.1.2.1 : Nat) : Int)
  cond (icmp .eql 0 x1) (
    cond (icmp .eql b.2.2.2 0) (
      some (0, ((b.1.1, b.1.2), ((), (b.2.2.1.1, b.2.2.1.2.1, b.2.2.1.2.2), 100)))
    ) (
      some (0, ((b.1.1, b.1.2), ((), (b.2.2.1.1, b.2.2.1.2.1, b.2.2.1.2.2), b.2.2.2)))
    )
  ) (
    cond (decide ((0 : Int) ≤ 0 ∧ 0 < ((b.2.2.1.2.1 : Nat) : Int))) (
      let x2 := (List.getD b.1.2 (b.2.2.1.1 + Int.toNat 0) 0)
      cond (icmp .lss x2 128) (
        cond (icmp .eql x2 0) (
          cond (decide ((0 : Int) ≤ 1 ∧ 1 ≤ ((b.2.2.1.2.1 : Nat) : Int))) (
            some ((ibin .or .u64 0 (ibin .shl .u64 (IntKind.wrap .u64 (ibin .and .u8 x2 127)) 0)), ((b.1.1, b.1.2), ((), ((b.2.2.1.1 + 1), (b.2.2.1.2.1 - 1), b.2.2.1.1), b.2.2.2)))
          ) (
            none
          )
        ) (
          cond (decide ((0 : Int) ≤ 1 ∧ 1 ≤ ((b.2.2.1.2.1 : Nat) : Int))) (
            some ((ibin .or .u64 0 (ibin .shl .u64 (IntKind.wrap .u64 (ibin .and .u8 x2 127)) 0)), ((b.1.1, b.1.2), ((), ((b.2.2.1.1 + 1), (b.2.2.1.2.1 - 1), b.2.2.1.1), b.2.2.2)))
          ) (
            none
          )
        )
      ) (
        cond (icmp .eql 1 x1) (
          cond (icmp .eql b.2.2.2 0) (
            some (0, ((b.1.1, b.1.2), ((), (b.2.2.1.1, b.2.2.1.2.1, b.2.2.1.2.2), 100)))
          ) (
            some (0, ((b.1.1, b.1.2), ((), (b.2.2.1.1, b.2.2.1.2.1, b.2.2.1.2.2), b.2.2.2)))
          )
        ) (
          cond (decide ((0 : Int) ≤ 1 ∧ 1 < ((b.2.2.1.2.1 : Nat) : Int))) (
            let x3 := (List.getD b.1.2 (b.2.2.1.1 + Int.toNat 1) 0)
            cond (icmp .lss x3 128) (
              cond (icmp .eql x3 0) (
                cond (icmp .eql b.2.2.2 0) (
                  some (0, ((b.1.1, b.1.2), ((), (b.2.2.1.1, b.2.2.1.2.1, b.2.2.1.2.2), 102)))
                ) (
                  some (0, ((b.1.1, b.1.2), ((), (b.2.2.1.1, b.2.2.1.2.1, b.2.2.1.2.2), b.2.2.2)))
                )
              ) (
                cond (decide ((0 : Int) ≤ 2 ∧ 2 ≤ ((b.2.2.1.2.1 : Nat) : Int))) (
                  some ((ibin .or .u64 (ibin .or .u64 0 (ibin .shl .u64 (IntKind.wrap .u64 (ibin .and .u8 x2 127)) 0)) (ibin .shl .u64 (IntKind.wrap .u64 (ibin .and .u8 x3 127)) 7)), ((b.1.1, b.1.2), ((), ((b.2.2.1.1 + 2), (b.2.2.1.2.1 - 2), b.2.2.1.1), b.2.2.2)))
                ) (
                  none
                )
              )
            ) (
              cond (icmp .eql 2 x1) (
                cond (icmp .eql b.2.2.2 0) (
                  some (0, ((b.1.1, b.1.2), ((), (b.2.2.1.1, b.2.2.1.2.1, b.2.2.1.2.2), 100)))
                ) (
                  some (0, ((b.1.1, b.1.2), ((), (b.2.2.1.1, b.2.2.1.2.1, b.2.2.1.2.2), b.2.2.2)))
                )
              ) (
                cond (decide ((0 : Int) ≤ 2 ∧ 2 < ((b.2.2.1.2.1 : Nat) : Int))) (
                  let x4 := (List.getD b.1.2 (b.2.2.1.1 + Int.toNat 2) 0)
                  cond (icmp .lss x4 128) (
                    cond (icmp .eql x4 0) (
                      cond (icmp .eql b.2.2.2 0) (
                        some (0, ((b.1.1, b.1.2), ((), (b.2.2.1.1, b.2.2.1.2.1, b.2.2.1.2.2), 102)))
                      ) (
                        some (0, ((b.1.1, b.1.2), ((), (b.2.2.1.1, b.2.2.1.2.1, b.2.2.1.2.2), b.2.2.2)))
                      )
                    ) (
                      cond (decide ((0 : Int) ≤ 3 ∧ 3 ≤ ((b.2.2.1.2.1 : Nat) : Int))) (
                        some ((ibin .or .u64 (ibin .or .u64 (ibin .or .u64 0 (ibin .shl .u64 (IntKind.wrap .u64 (ibin .and .u8 x2 127)) 0)) (ibin .shl .u64 (IntKind.wrap .u64 (ibin .and .u8 x3 127)) 7)) (ibin .shl .u64 (IntKind.wrap .u64 (ibin .and .u8 x4 127)) 14)), ((b.1.1, b.1.2), ((), ((b.2.2.1.1 + 3), (b.2.2.1.2.1 - 3), b.2.2.1.1), b.2.2.2)))
                      ) (
                        none
                      )
                    )
                  ) (
                    cond (icmp .eql 3 x1) (
                      cond (icmp .eql b.2.2.2 0) (
                        some (0, ((b.1.1, b.1.2), ((), (b.2.2.1.1, b.2.2.1.2.1, b.2.2.1.2.2), 100)))
                      ) (
                        some (0, ((b.1.1, b.1.2), ((), (b.2.2.1.1, b.2.2.1.2.1, b.2.2.1.2.2), b.2.2.2)))
                      )
                    ) (
                      cond (decide ((0 : Int) ≤ 3 ∧ 3 < ((b.2.2.1.2.1 : Nat) : Int))) (
                        let x5 := (List.getD b.1.2 (b.2.2.1.1 + Int.toNat 3) 0)
                        cond (icmp .lss x5 128) (
                          cond (icmp .eql x5 0) (
                            cond (icmp .eql b.2.2.2 0) (
                              some (0, ((b.1.1, b.1.2), ((), (b.2.2.1.1, b.2.2.1.2.1, b.2.2.1.2.2), 102)))
                            ) (
                              some (0, ((b.1.1, b.1.2), ((), (b.2.2.1.1, b.2.2.1.2.1, b.2.2.1.2.2), b.2.2.2)))
                            )
                          ) (
                            cond (decide ((0 : Int) ≤ 4 ∧ 4 ≤ ((b.2.2.1.2.1 : Nat) : Int))) (
                              some ((ibin .or .u64 (ibin .or .u64 (ibin .or .u64 (ibin .or .u64 0 (ibin .shl .u64 (IntKind.wrap .u64 (ibin .and .u8 x2 127)) 0)) (ibin .shl .u64 (IntKind.wrap .u64 (ibin .and .u8 x3 127)) 7)) (ibin .shl .u64 (IntKind.wrap .u64 (ibin .and .u8 x4 127)) 14)) (ibin .shl .u64 (IntKind.wrap .u64 (ibin .and .u8 x5 127)) 21)), ((b.1.1, b.1.2), ((), ((b.2.2.1.1 + 4), (b.2.2.1.2.1 - 4), b.2.2.1.1), b.2.2.2)))
                            ) (
                              none
                            )
                          )
                        ) (
                          cond (icmp .eql 4 x1) (
                            cond (icmp .eql b.2.2.2 0) (
                              some (0, ((b.1.1, b.1.2), ((), (b.2.2.1.1, b.2.2.1.2.1, b.2.2.1.2.2), 100)))
                            ) (
                              some (0, ((b.1.1, b.1.2), ((), (b.2.2.1.1, b.2.2.1.2.1, b.2.2.1.2.2), b.2.2.2)))
                            )
                          ) (
                            cond (decide ((0 : Int) ≤ 4 ∧ 4 < ((b.2.2.1.2.1 : Nat) : Int))) (
                              let x6 := (List.getD b.1.2 (b.2.2.1.1 + Int.toNat 4) 0)
                              cond (icmp .lss x6 128) (
                                cond (icmp .eql x6 0) (
                                  cond (icmp .eql b.2.2.2 0) (
                                    some (0, ((b.1.1, b.1.2), ((), (b.2.2.1.1, b.2.2.1.2.1, b.2.2.1.2.2), 102)))
                                  ) (
                                    some (0, ((b.1.1, b.1.2), ((), (b.2.2.1.1, b.2.2.1.2.1, b.2.2.1.2.2), b.2.2.2)))
                                  )
                                ) (
                                  cond (decide ((0 : Int) ≤ 5 ∧ 5 ≤ ((b.2.2.1.2.1 : Nat) : Int))) (
                                    some ((ibin .or .u64 (ibin .or .u64 (ibin .or .u64 (ibin .or .u64 (ibin .or .u64 0 (ibin .shl .u64 (IntKind.wrap .u64 (ibin .and .u8 x2 127)) 0)) (ibin .shl .u64 (IntKind.wrap .u64 (ibin .and .u8 x3 127)) 7)) (ibin .shl .u64 (IntKind.wrap .u64 (ibin .and .u8 x4 127)) 14)) (ibin .shl .u64 (IntKind.wrap .u64 (ibin .and .u8 x5 127)) 21)) (ibin .shl .u64 (IntKind.wrap .u64 (ibin .and .u8 x6 127)) 28)), ((b.1.1, b.1.2), ((), ((b.2.2.1.1 + 5), (b.2.2.1.2.1 - 5), b.2.2.1.1), b.2.2.2)))
                                  ) (
                                    none
                                  )
                                )
                              ) (
                                cond (icmp .eql 5 x1) (
                                  cond (icmp .eql b.2.2.2 0) (
                                    some (0, ((b.1.1, b.1.2), ((), (b.2.2.1.1, b.2.2.1.2.1, b.2.2.1.2.2), 100)))
                                  ) (
                                    some (0, ((b.1.1, b.1.2), ((), (b.2.2.1.1, b.2.2.1.2.1, b.2.2.1.2.2), b.2.2.2)))
                                  )
                                ) (
                                  cond (decide ((0 : Int) ≤ 5 ∧ 5 < ((b.2.2.1.2.1 : Nat) : Int))) (
                                    let x7 := (List.getD b.1.2 (b.2.2.1.1 + Int.toNat 5) 0)
                                    cond (icmp .lss x7 128) (
                                      cond (icmp .eql x7 0) (
                                        cond (icmp .eql b.2.2.2 0) (
                                          some (0, ((b.1.1, b.1.2), ((), (b.2.2.1.1, b.2.2.1.2.1, b.2.2.1.2.2), 102)))
                                        ) (
                                          some (0, ((b.1.1, b.1.2), ((), (b.2.2.1.1, b.2.2.1.2.1, b.2.2.1.2.2), b.2.2.2)))
                                        )
                                      ) (
                                        cond (decide ((0 : Int) ≤ 6 ∧ 6 ≤ ((b.2.2.1.2.1 : Nat) : Int))) (
                                          some ((ibin .or .u64 (ibin .or .u64 (ibin .or .u64 (ibin .or .u64 (ibin .or .u64 (ibin .or .u64 0 (ibin .shl .u64 (IntKind.wrap .u64 (ibin .and .u8 x2 127)) 0)) (ibin .shl .u64 (IntKind.wrap .u64 (ibin .and .u8 x3 127)) 7)) (ibin .shl .u64 (IntKind.wrap .u64 (ibin .and .u8 x4 127)) 14)) (ibin .shl .u64 (IntKind.wrap .u64 (ibin .and .u8 x5 127)) 21)) (ibin .shl .u64 (IntKind.wrap .u64 (ibin .and .u8 x6 127)) 28)) (ibin .shl .u64 (IntKind.wrap .u64 (ibin .and .u8 x7 127)) 35)), ((b.1.1, b.1.2), ((), ((b.2.2.1.1 + 6), (b.2.2.1.2.1 - 6), b.2.2.1.1), b.2.2.2)))
                                        ) (
                                          none
                                        )
                                      )
                                    ) (
                                      cond (icmp .eql 6 x1) (
                                        cond (icmp .eql b.2.2.2 0) (
                                          some (0, ((b.1.1, b.1.2), ((), (b.2.2.1.1, b.2.2.1.2.1, b.2.2.1.2.2), 100)))
                                        ) (
                                          some (0, ((b.1.1, b.1.2), ((), (b.2.2.1.1, b.2.2.1.2.1, b.2.2.1.2.2), b.2.2.2)))
                                        )
                                      ) (
                                        cond (decide ((0 : Int) ≤ 6 ∧ 6 < ((b.2.2.1.2.1 : Nat) : Int))) (
                                          let x8 := (List.getD b.1.2 (b.2.2.1.1 + Int.toNat 6) 0)
                                          cond (icmp .lss x8 128) (
                                            cond (icmp .eql x8 0) (
                                              cond (icmp .eql b.2.2.2 0) (
                                                some (0, ((b.1.1, b.1.2), ((), (b.2.2.1.1, b.2.2.1.2.1, b.2.2.1.2.2), 102)))
                                              ) (
                                                some (0, ((b.1.1, b.1.2), ((), (b.2.2.1.1, b.2.2.1.2.1, b.2.2.1.2.2), b.2.2.2)))
                                              )
                                            ) (
                                              cond (decide ((0 : Int) ≤ 7 ∧ 7 ≤ ((b.2.2.1.2.1 : Nat) : Int))) (
                                                some ((ibin .or .u64 (ibin .or .u64 (ibin .or .u64 (ibin .or .u64 (ibin .or .u64 (ibin .or .u64 (ibin .or .u64 0 (ibin .shl .u64 (IntKind.wrap .u64 (ibin .and .u8 x2 127)) 0)) (ibin .shl .u64 (IntKind.wrap .u64 (ibin .and .u8 x3 127)) 7)) (ibin .shl .u64 (IntKind.wrap .u64 (ibin .and .u8 x4 127)) 14)) (ibin .shl .u64 (IntKind.wrap .u64 (ibin .and .u8 x5 127)) 21)) (ibin .shl .u64 (IntKind.wrap .u64 (ibin .and .u8 x6 127)) 28)) (ibin .shl .u64 (IntKind.wrap .u64 (ibin .and .u8 x7 127)) 35)) (ibin .shl .u64 (IntKind.wrap .u64 (ibin .and .u8 x8 127)) 42)), ((b.1.1, b.1.2), ((), ((b.2.2.1.1 + 7), (b.2.2.1.2.1 - 7), b.2.2.1.1), b.2.2.2)))
                                              ) (
                                                none
                                              )
                                            )
                                          ) (
                                            cond (icmp .eql 7 x1) (
                                              cond (icmp .eql b.2.2.2 0) (
                                                some (0, ((b.1.1, b.1.2), ((), (b.2.2.1.1, b.2.2.1.2.1, b.2.2.1.2.2), 100)))
                                              ) (
                                                some (0, ((b.1.1, b.1.2), ((), (b.2.2.1.1, b.2.2.1.2.1, b.2.2.1.2.2), b.2.2.2)))
                                              )
                                            ) (
                                              cond (decide ((0 : Int) ≤ 7 ∧ 7 < ((b.2.2.1.2.1 : Nat) : Int))) (
                                                let x9 := (List.getD b.1.2 (b.2.2.1.1 + Int.toNat 7) 0)
                                                cond (icmp .lss x9 128) (
                                                  cond (icmp .eql x9 0) (
                                                    cond (icmp .eql b.2.2.2 0) (
                                                      some (0, ((b.1.1, b.1.2), ((), (b.2.2.1.1, b.2.2.1.2.1, b.2.2.1.2.2), 102)))
                                                    ) (
                                                      some (0, ((b.1.1, b.1.2), ((), (b.2.2.1.1, b.2.2.1.2.1, b.2.2.1.2.2), b.2.2.2)))
                                                    )
                                                  ) (
                                                    cond (decide ((0 : Int) ≤ 8 ∧ 8 ≤ ((b.2.2.1.2.1 : Nat) : Int))) (
                                                      some ((ibin .or .u64 (ibin .or .u64 (ibin .or .u64 (ibin .or .u64 (ibin .or .u64 (ibin .or .u64 (ibin .or .u64 (ibin .or .u64 0 (ibin .shl .u64 (IntKind.wrap .u64 (ibin .and .u8 x2 127)) 0)) (ibin .shl .u64 (IntKind.wrap .u64 (ibin .and .u8 x3 127)) 7)) (ibin .shl .u64 (IntKind.wrap .u64 (ibin .and .u8 x4 127)) 14)) (ibin .shl .u64 (IntKind.wrap .u64 (ibin .and .u8 x5 127)) 21)) (ibin .shl .u64 (IntKind.wrap .u64 (ibin .and .u8 x6 127)) 28)) (ibin .shl .u64 (IntKind.wrap .u64 (ibin .and .u8 x7 127)) 35)) (ibin .shl .u64 (IntKind.wrap .u64 (ibin .and .u8 x8 127)) 42)) (ibin .shl .u64 (IntKind.wrap .u64 (ibin .and .u8 x9 127)) 49)), ((b.1.1, b.1.2), ((), ((b.2.2.1.1 + 8), (b.2.2.1.2.1 - 8), b.2.2.1.1), b.2.2.2)))
                                                    ) (
                                                      none
                                                    )
                                                  )
                                                ) (
                                                  cond (icmp .eql 8 x1) (
                                                    cond (icmp .eql b.2.2.2 0) (
                                                      some (0, ((b.1.1, b.1.2), ((), (b.2.2.1.1, b.2.2.1.2.1, b.2.2.1.2.2), 100)))
                                                    ) (
                                                      some (0, ((b.1.1, b.1.2), ((), (b.2.2.1.1, b.2.2.1.2.1, b.2.2.1.2.2), b.2.2.2)))
                                                    )
                                                  ) (
                                                    cond (decide ((0 : Int) ≤ 8 ∧ 8 < ((b.2.2.1.2.1 : Nat) : Int))) (
                                                      let x10 := (List.getD b.1.2 (b.2.2.1.1 + Int.toNat 8) 0)
                                                      cond (icmp .lss x10 128) (
                                                        cond (icmp .eql x10 0) (
                                                          cond (icmp .eql b.2.2.2 0) (
                                                            some (0, ((b.1.1, b.1.2), ((), (b.2.2.1.1, b.2.2.1.2.1, b.2.2.1.2.2), 102)))
                                                          ) (
                                                            some (0, ((b.1.1, b.1.2), ((), (b.2.2.1.1, b.2.2.1.2.1, b.2.2.1.2.2), b.2.2.2)))
                                                          )
                                                        ) (
                                                          cond (decide ((0 : Int) ≤ 9 ∧ 9 ≤ ((b.2.2.1.2.1 : Nat) : Int))) (
                                                            some ((ibin .or .u64 (ibin .or .u64 (ibin .or .u64 (ibin .or .u64 (ibin .or .u64 (ibin .or .u64 (ibin .or .u64 (ibin .or .u64 (ibin .or .u64 0 (ibin .shl .u64 (IntKind.wrap .u64 (ibin .and .u8 x2 127)) 0)) (ibin .shl .u64 (IntKind.wrap .u64 (ibin .and .u8 x3 127)) 7)) (ibin .shl .u64 (IntKind.wrap .u64 (ibin .and .u8 x4 127)) 14)) (ibin .shl .u64 (IntKind.wrap .u64 (ibin .and .u8 x5 127)) 21)) (ibin .shl .u64 (IntKind.wrap .u64 (ibin .and .u8 x6 127)) 28)) (ibin .shl .u64 (IntKind.wrap .u64 (ibin .and .u8 x7 127)) 35)) (ibin .shl .u64 (IntKind.wrap .u64 (ibin .and .u8 x8 127)) 42)) (ibin .shl .u64 (IntKind.wrap .u64 (ibin .and .u8 x9 127)) 49)) (ibin .shl .u64 (IntKind.wrap .u64 (ibin .and .u8 x10 127)) 56)), ((b.1.1, b.1.2), ((), ((b.2.2.1.1 + 9), (b.2.2.1.2.1 - 9), b.2.2.1.1), b.2.2.2)))
                                                          ) (
                                                            none
                                                          )
                                                        )
                                                      ) (
                                                        cond (icmp .eql 9 x1) (
                                                          cond (icmp .eql b.2.2.2 0) (
                                                            some (0, ((b.1.1, b.1.2), ((), (b.2.2.1.1, b.2.2.1.2.1, b.2.2.1.2.2), 100)))
                                                          ) (
                                                            some (0, ((b.1.1, b.1.2), ((), (b.2.2.1.1, b.2.2.1.2.1, b.2.2.1.2.2), b.2.2.2)))
                                                          )
                                                        ) (
                                                          cond (decide ((0 : Int) ≤ 9 ∧ 9 < ((b.2.2.1.2.1 : Nat) : Int))) (
                                                            let x11 := (List.getD b.1.2 (b.2.2.1.1 + Int.toNat 9) 0)
                                                            cond (icmp .gtr x11 1) (
                                                              cond (icmp .eql b.2.2.2 0) (
                                                                some (0, ((b.1.1, b.1.2), ((), (b.2.2.1.1, b.2.2.1.2.1, b.2.2.1.2.2), 102)))
                                                              ) (
                                                                some (0, ((b.1.1, b.1.2), ((), (b.2.2.1.1, b.2.2.1.2.1, b.2.2.1.2.2), b.2.2.2)))
                                                              )
                                                            ) (
                                                              cond (icmp .lss x11 128) (
                                                                cond (icmp .eql x11 0) (
                                                                  cond (icmp .eql b.2.2.2 0) (
                                                                    some (0, ((b.1.1, b.1.2), ((), (b.2.2.1.1, b.2.2.1.2.1, b.2.2.1.2.2), 102)))
                                                                  ) (
                                                                    some (0, ((b.1.1, b.1.2), ((), (b.2.2.1.1, b.2.2.1.2.1, b.2.2.1.2.2), b.2.2.2)))
                                                                  )
                                                                ) (
                                                                  cond (decide ((0 : Int) ≤ 10 ∧ 10 ≤ ((b.2.2.1.2.1 : Nat) : Int))) (
                                                                    some ((ibin .or .u64 (ibin .or .u64 (ibin .or .u64 (ibin .or .u64 (ibin .or .u64 (ibin .or .u64 (ibin .or .u64 (ibin .or .u64 (ibin .or .u64 (ibin .or .u64 0 (ibin .shl .u64 (IntKind.wrap .u64 (ibin .and .u8 x2 127)) 0)) (ibin .shl .u64 (IntKind.wrap .u64 (ibin .and .u8 x3 127)) 7)) (ibin .shl .u64 (IntKind.wrap .u64 (ibin .and .u8 x4 127)) 14)) (ibin .shl .u64 (IntKind.wrap .u64 (ibin .and .u8 x5 127)) 21)) (ibin .shl .u64 (IntKind.wrap .u64 (ibin .and .u8 x6 127)) 28)) (ibin .shl .u64 (IntKind.wrap .u64 (ibin .and .u8 x7 127)) 35)) (ibin .shl .u64 (IntKind.wrap .u64 (ibin .and .u8 x8 127)) 42)) (ibin .shl .u64 (IntKind.wrap .u64 (ibin .and .u8 x9 127)) 49)) (ibin .shl .u64 (IntKind.wrap .u64 (ibin .and .u8 x10 127)) 56)) (ibin .shl .u64 (IntKind.wrap .u64 (ibin .and .u8 x11 127)) 63)), ((b.1.1, b.1.2), ((), ((b.2.2.1.1 + 10), (b.2.2.1.2.1 - 10), b.2.2.1.1), b.2.2.2)))
                                                                  ) (
                                                                    none
                                                                  )
                                                                )
                                                              ) (
                                                                cond (icmp .eql b.2.2.2 0) (
                                                                  some (0, ((b.1.1, b.1.2), ((), (b.2.2.1.1, b.2.2.1.2.1, b.2.2.1.2.2), 102)))
                                                                ) (
                                                                  some (0, ((b.1.1, b.1.2), ((), (b.2.2.1.1, b.2.2.1.2.1, b.2.2.1.2.2), b.2.2.2)))
                                                                )
                                                              )
                                                            )
                                                          ) (
                                                            none
                                                          )
                                                        )
                                                      )
                                                    ) (
                                                      none
                                                    )
                                                  )
                                                )
                                              ) (
                                                none
                                              )
                                            )
                                          )
                                        ) (
                                          none
                                        )
                                      )
                                    )
                                  ) (
                                    none
                                  )
                                )
                              )
                            ) (
                              none
                            )
                          )
                        )
                      ) (
                        none
                      )
                    )
                  )
                ) (
                  none
                )
              )
            )
          ) (
            none
          )
        )
      )
    ) (
      none
    )
  )

def veillaw10_live (N : Nat)  : Option (Bool) :=
  mo (wire_AppendNumber_nil N () 300) none fun r1 =>
  mo (slices_Clone_of_byte_byte ((r1.1.1, r1.1.2), ())) none fun r2 =>
  cond (icmp .eql ((r1.1.1 : Nat) : Int) 2) (
    cond (decide ((0 : Int) ≤ 0 ∧ 0 < ((r1.1.1 : Nat) : Int))) (
      cond (icmp .eql (List.getD r1.1.2 0 0) 172) (
        cond (decide ((0 : Int) ≤ 1 ∧ 1 < ((r1.1.1 : Nat) : Int))) (
          cond (icmp .eql (List.getD r1.1.2 1 0) 2) (
            mo (io_veillaw10_live_p_wire_Reader_count N () ((r2.1.1, r2.1.2), ((), (0, r2.1.1, 0), 0))) none fun r3 =>
            let x1 := (icmp .eql r3.2.2.2.2 0)
            cond x1 (
              cond (icmp .gtr r3.1 300) (
                cond x1 (
                  some false
                ) (
                  some false
                )
              ) (
                cond (icmp .eql r3.1 300) (
                  cond x1 (
                    cond (icmp .gtr ((r3.2.2.2.1.2.1 : Nat) : Int) 0) (
                      cond x1 (
                        some false
                      ) (
                        some x1
                      )
                    ) (
                      some x1
                    )
                  ) (
                    some x1
                  )
                ) (
                  some false
                )
              )
            ) (
              cond (icmp .eql r3.1 300) (
                cond x1 (
                  cond (icmp .gtr ((r3.2.2.2.1.2.1 : Nat) : Int) 0) (
                    cond x1 (
                      some false
                    ) (
                      some x1
                    )
                  ) (
                    some x1
                  )
                ) (
                  some x1
                )
              ) (
                some false
              )
            )
          ) (
            some false
          )
        ) (
          none
        )
      ) (
        some false
      )
    ) (
      none
    )
  ) (
    some false
  )


def veillaw10_WireTexts (N : Nat) (a : ((Nat × List Int) × Unit)) (b : ByteArray) : Option (Bool) :=
  mo (veillaw10_live N) none fun r1 =>
  cond (!r1) (
    some false
  ) (
    mo (wire_Hex N ((a.1.1, a.1.2), ())) none fun r2 =>
    mo (wire_Unhex N r2) none fun r3 =>
    cond (icmp .neq r3.2 0) (
      some false
    ) (
      cond (!(veillaw10_same ((r3.1.1.1, r3.1.1.2), ()) ((a.1.1, a.1.2), ()))) (
        some false
      ) (
        cond (icmp .neq (((ByteArray.size r2) : Nat) : Int) (ibin .mul .i64 2 ((a.1.1 : Nat) : Int))) (
          some false
        ) (
          mo (wire_Unhex N b) none fun r4 =>
          cond (icmp .neq r4.2 0) (
            cond (icmp .eql r4.2 104) (
              some (icmp .eql ((r4.1.1.1 : Nat) : Int) 0)
            ) (
              some false
            )
          ) (
            mo (wire_Hex N ((r4.1.1.1, r4.1.1.2), ())) none fun r5 =>
            some (r5 == b)
          )
        )
      )
    )
  )


def wire_AppendBytes_nil (N : Nat) (a : Unit) (b : ((Nat × List Int) × Unit)) : Option (((Nat × List Int) × Unit)) :=
  mo (wire_AppendNumber_nil N () (IntKind.wrap .u64 ((b.1.1 : Nat) : Int))) none fun r1 =>
  let x1 := (r1.1.1 + b.1.1)
  cond (decide (x1 * 1 ≤ 140737488355328 ∧ x1 ≤ 9223372036854775807)) (
    some ((x1, (r1.1.2 ++ b.1.2)), ())
  ) (
    none
  )


def io_veillaw10_WireOne_p_wire_Reader_count (N : Nat) (a : Unit) (b : ((Nat × List Int) × (Unit × (Nat × Nat × Nat) × Int))) : Option (Int × ((Nat × List Int) × (Unit × (Nat × Nat × Nat) × Int))) :=
  let x1 := ((b.2.2.1.2.1 : Nat) : Int)
  cond (icmp .eql 0 x1) (
    cond (icmp .eql b.2.2.2 0) (
      some (0, ((b.1.1, b.1.2), ((), (b.2.2.1.1, b.2.2.1.2.1, b.2.2.1.2.2), 100)))
    ) (
      some (0, ((b.1.1, b.1.2), ((), (b.2.2.1.1, b.2.2.1.2.1, b.2.2.1.2.2), b.2.2.2)))
    )
  ) (
    cond (decide ((0 : Int) ≤ 0 ∧ 0 < ((b.2.2.1.2.1 : Nat) : Int))) (
      let x2 := (List.getD b.1.2 (b.2.2.1.1 + Int.toNat 0) 0)
      cond (icmp .lss x2 128) (
        cond (icmp .eql x2 0) (
          cond (decide ((0 : Int) ≤ 1 ∧ 1 ≤ ((b.2.2.1.2.1 : Nat) : Int))) (
            some ((ibin .or .u64 0 (ibin .shl .u64 (IntKind.wrap .u64 (ibin .and .u8 x2 127)) 0)), ((b.1.1, b.1.2), ((), ((b.2.2.1.1 + 1), (b.2.2.1.2.1 - 1), b.2.2.1.1), b.2.2.2)))
          ) (
            none
          )
        ) (
          cond (decide ((0 : Int) ≤ 1 ∧ 1 ≤ ((b.2.2.1.2.1 : Nat) : Int))) (
            some ((ibin .or .u64 0 (ibin .shl .u64 (IntKind.wrap .u64 (ibin .and .u8 x2 127)) 0)), ((b.1.1, b.1.2), ((), ((b.2.2.1.1 + 1), (b.2.2.1.2.1 - 1), b.2.2.1.1), b.2.2.2)))
          ) (
            none
          )
        )
      ) (
        cond (icmp .eql 1 x1) (
          cond (icmp .eql b.2.2.2 0) (
            some (0, ((b.1.1, b.1.2), ((), (b.2.2.1.1, b.2.2.1.2.1, b.2.2.1.2.2), 100)))
          ) (
            some (0, ((b.1.1, b.1.2), ((), (b.2.2.1.1, b.2.2.1.2.1, b.2.2.1.2.2), b.2.2.2)))
          )
        ) (
          cond (decide ((0 : Int) ≤ 1 ∧ 1 < ((b.2.2.1.2.1 : Nat) : Int))) (
            let x3 := (List.getD b.1.2 (b.2.2.1.1 + Int.toNat 1) 0)
            cond (icmp .lss x3 128) (
              cond (icmp .eql x3 0) (
                cond (icmp .eql b.2.2.2 0) (
                  some (0, ((b.1.1, b.1.2), ((), (b.2.2.1.1, b.2.2.1.2.1, b.2.2.1.2.2), 102)))
                ) (
                  some (0, ((b.1.1, b.1.2), ((), (b.2.2.1.1, b.2.2.1.2.1, b.2.2.1.2.2), b.2.2.2)))
                )
              ) (
                cond (decide ((0 : Int) ≤ 2 ∧ 2 ≤ ((b.2.2.1.2.1 : Nat) : Int))) (
                  some ((ibin .or .u64 (ibin .or .u64 0 (ibin .shl .u64 (IntKind.wrap .u64 (ibin .and .u8 x2 127)) 0)) (ibin .shl .u64 (IntKind.wrap .u64 (ibin .and .u8 x3 127)) 7)), ((b.1.1, b.1.2), ((), ((b.2.2.1.1 + 2), (b.2.2.1.2.1 - 2), b.2.2.1.1), b.2.2.2)))
                ) (
                  none
                )
              )
            ) (
              cond (icmp .eql 2 x1) (
                cond (icmp .eql b.2.2.2 0) (
                  some (0, ((b.1.1, b.1.2), ((), (b.2.2.1.1, b.2.2.1.2.1, b.2.2.1.2.2), 100)))
                ) (
                  some (0, ((b.1.1, b.1.2), ((), (b.2.2.1.1, b.2.2.1.2.1, b.2.2.1.2.2), b.2.2.2)))
                )
              ) (
                cond (decide ((0 : Int) ≤ 2 ∧ 2 < ((b.2.2.1.2.1 : Nat) : Int))) (
                  let x4 := (List.getD b.1.2 (b.2.2.1.1 + Int.toNat 2) 0)
                  cond (icmp .lss x4 128) (
                    cond (icmp .eql x4 0) (
                      cond (icmp .eql b.2.2.2 0) (
                        some (0, ((b.1.1, b.1.2), ((), (b.2.2.1.1, b.2.2.1.2.1, b.2.2.1.2.2), 102)))
                      ) (
                        some (0, ((b.1.1, b.1.2), ((), (b.2.2.1.1, b.2.2.1.2.1, b.2.2.1.2.2), b.2.2.2)))
                      )
                    ) (
                      cond (decide ((0 : Int) ≤ 3 ∧ 3 ≤ ((b.2.2.1.2.1 : Nat) : Int))) (
                        some ((ibin .or .u64 (ibin .or .u64 (ibin .or .u64 0 (ibin .shl .u64 (IntKind.wrap .u64 (ibin .and .u8 x2 127)) 0)) (ibin .shl .u64 (IntKind.wrap .u64 (ibin .and .u8 x3 127)) 7)) (ibin .shl .u64 (IntKind.wrap .u64 (ibin .and .u8 x4 127)) 14)), ((b.1.1, b.1.2), ((), ((b.2.2.1.1 + 3), (b.2.2.1.2.1 - 3), b.2.2.1.1), b.2.2.2)))
                      ) (
                        none
                      )
                    )
                  ) (
                    cond (icmp .eql 3 x1) (
                      cond (icmp .eql b.2.2.2 0) (
                        some (0, ((b.1.1, b.1.2), ((), (b.2.2.1.1, b.2.2.1.2.1, b.2.2.1.2.2), 100)))
                      ) (
                        some (0, ((b.1.1, b.1.2), ((), (b.2.2.1.1, b.2.2.1.2.1, b.2.2.1.2.2), b.2.2.2)))
                      )
                    ) (
                      cond (decide ((0 : Int) ≤ 3 ∧ 3 < ((b.2.2.1.2.1 : Nat) : Int))) (
                        let x5 := (List.getD b.1.2 (b.2.2.1.1 + Int.toNat 3) 0)
                        cond (icmp .lss x5 128) (
                          cond (icmp .eql x5 0) (
                            cond (icmp .eql b.2.2.2 0) (
                              some (0, ((b.1.1, b.1.2), ((), (b.2.2.1.1, b.2.2.1.2.1, b.2.2.1.2.2), 102)))
                            ) (
                              some (0, ((b.1.1, b.1.2), ((), (b.2.2.1.1, b.2.2.1.2.1, b.2.2.1.2.2), b.2.2.2)))
                            )
                          ) (
                            cond (decide ((0 : Int) ≤ 4 ∧ 4 ≤ ((b.2.2.1.2.1 : Nat) : Int))) (
                              some ((ibin .or .u64 (ibin .or .u64 (ibin .or .u64 (ibin .or .u64 0 (ibin .shl .u64 (IntKind.wrap .u64 (ibin .and .u8 x2 127)) 0)) (ibin .shl .u64 (IntKind.wrap .u64 (ibin .and .u8 x3 127)) 7)) (ibin .shl .u64 (IntKind.wrap .u64 (ibin .and .u8 x4 127)) 14)) (ibin .shl .u64 (IntKind.wrap .u64 (ibin .and .u8 x5 127)) 21)), ((b.1.1, b.1.2), ((), ((b.2.2.1.1 + 4), (b.2.2.1.2.1 - 4), b.2.2.1.1), b.2.2.2)))
                            ) (
                              none
                            )
                          )
                        ) (
                          cond (icmp .eql 4 x1) (
                            cond (icmp .eql b.2.2.2 0) (
                              some (0, ((b.1.1, b.1.2), ((), (b.2.2.1.1, b.2.2.1.2.1, b.2.2.1.2.2), 100)))
                            ) (
                              some (0, ((b.1.1, b.1.2), ((), (b.2.2.1.1, b.2.2.1.2.1, b.2.2.1.2.2), b.2.2.2)))
                            )
                          ) (
                            cond (decide ((0 : Int) ≤ 4 ∧ 4 < ((b.2.2.1.2.1 : Nat) : Int))) (
                              let x6 := (List.getD b.1.2 (b.2.2.1.1 + Int.toNat 4) 0)
                              cond (icmp .lss x6 128) (
                                cond (icmp .eql x6 0) (
                                  cond (icmp .eql b.2.2.2 0) (
                                    some (0, ((b.1.1, b.1.2), ((), (b.2.2.1.1, b.2.2.1.2.1, b.2.2.1.2.2), 102)))
                                  ) (
                                    some (0, ((b.1.1, b.1.2), ((), (b.2.2.1.1, b.2.2.1.2.1, b.2.2.1.2.2), b.2.2.2)))
                                  )
                                ) (
                                  cond (decide ((0 : Int) ≤ 5 ∧ 5 ≤ ((b.2.2.1.2.1 : Nat) : Int))) (
                                    some ((ibin .or .u64 (ibin .or .u64 (ibin .or .u64 (ibin .or .u64 (ibin .or .u64 0 (ibin .shl .u64 (IntKind.wrap .u64 (ibin .and .u8 x2 127)) 0)) (ibin .shl .u64 (IntKind.wrap .u64 (ibin .and .u8 x3 127)) 7)) (ibin .shl .u64 (IntKind.wrap .u64 (ibin .and .u8 x4 127)) 14)) (ibin .shl .u64 (IntKind.wrap .u64 (ibin .and .u8 x5 127)) 21)) (ibin .shl .u64 (IntKind.wrap .u64 (ibin .and .u8 x6 127)) 28)), ((b.1.1, b.1.2), ((), ((b.2.2.1.1 + 5), (b.2.2.1.2.1 - 5), b.2.2.1.1), b.2.2.2)))
                                  ) (
                                    none
                                  )
                                )
                              ) (
                                cond (icmp .eql 5 x1) (
                                  cond (icmp .eql b.2.2.2 0) (
                                    some (0, ((b.1.1, b.1.2), ((), (b.2.2.1.1, b.2.2.1.2.1, b.2.2.1.2.2), 100)))
                                  ) (
                                    some (0, ((b.1.1, b.1.2), ((), (b.2.2.1.1, b.2.2.1.2.1, b.2.2.1.2.2), b.2.2.2)))
                                  )
                                ) (
                                  cond (decide ((0 : Int) ≤ 5 ∧ 5 < ((b.2.2.1.2.1 : Nat) : Int))) (
                                    let x7 := (List.getD b.1.2 (b.2.2.1.1 + Int.toNat 5) 0)
                                    cond (icmp .lss x7 128) (
                                      cond (icmp .eql x7 0) (
                                        cond (icmp .eql b.2.2.2 0) (
                                          some (0, ((b.1.1, b.1.2), ((), (b.2.2.1.1, b.2.2.1.2.1, b.2.2.1.2.2), 102)))
                                        ) (
                                          some (0, ((b.1.1, b.1.2), ((), (b.2.2.1.1, b.2.2.1.2.1, b.2.2.1.2.2), b.2.2.2)))
                                        )
                                      ) (
                                        cond (decide ((0 : Int) ≤ 6 ∧ 6 ≤ ((b.2.2.1.2.1 : Nat) : Int))) (
                                          some ((ibin .or .u64 (ibin .or .u64 (ibin .or .u64 (ibin .or .u64 (ibin .or .u64 (ibin .or .u64 0 (ibin .shl .u64 (IntKind.wrap .u64 (ibin .and .u8 x2 127)) 0)) (ibin .shl .u64 (IntKind.wrap .u64 (ibin .and .u8 x3 127)) 7)) (ibin .shl .u64 (IntKind.wrap .u64 (ibin .and .u8 x4 127)) 14)) (ibin .shl .u64 (IntKind.wrap .u64 (ibin .and .u8 x5 127)) 21)) (ibin .shl .u64 (IntKind.wrap .u64 (ibin .and .u8 x6 127)) 28)) (ibin .shl .u64 (IntKind.wrap .u64 (ibin .and .u8 x7 127)) 35)), ((b.1.1, b.1.2), ((), ((b.2.2.1.1 + 6), (b.2.2.1.2.1 - 6), b.2.2.1.1), b.2.2.2)))
                                        ) (
                                          none
                                        )
                                      )
                                    ) (
                                      cond (icmp .eql 6 x1) (
                                        cond (icmp .eql b.2.2.2 0) (
                                          some (0, ((b.1.1, b.1.2), ((), (b.2.2.1.1, b.2.2.1.2.1, b.2.2.1.2.2), 100)))
                                        ) (
                                          some (0, ((b.1.1, b.1.2), ((), (b.2.2.1.1, b.2.2.1.2.1, b.2.2.1.2.2), b.2.2.2)))
                                        )
                                      ) (
                                        cond (decide ((0 : Int) ≤ 6 ∧ 6 < ((b.2.2.1.2.1 : Nat) : Int))) (
                                          let x8 := (List.getD b.1.2 (b.2.2.1.1 + Int.toNat 6) 0)
                                          cond (icmp .lss x8 128) (
                                            cond (icmp .eql x8 0) (
                                              cond (icmp .eql b.2.2.2 0) (
                                                some (0, ((b.1.1, b.1.2), ((), (b.2.2.1.1, b.2.2.1.2.1, b.2.2.1.2.2), 102)))
                                              ) (
                                                some (0, ((b.1.1, b.1.2), ((), (b.2.2.1.1, b.2.2.1.2.1, b.2.2.1.2.2), b.2.2.2)))
                                              )
                                            ) (
                                              cond (decide ((0 : Int) ≤ 7 ∧ 7 ≤ ((b.2.2.1.2.1 : Nat) : Int))) (
                                                some ((ibin .or .u64 (ibin .or .u64 (ibin .or .u64 (ibin .or .u64 (ibin .or .u64 (ibin .or .u64 (ibin .or .u64 0 (ibin .shl .u64 (IntKind.wrap .u64 (ibin .and .u8 x2 127)) 0)) (ibin .shl .u64 (IntKind.wrap .u64 (ibin .and .u8 x3 127)) 7)) (ibin .shl .u64 (IntKind.wrap .u64 (ibin .and .u8 x4 127)) 14)) (ibin .shl .u64 (IntKind.wrap .u64 (ibin .and .u8 x5 127)) 21)) (ibin .shl .u64 (IntKind.wrap .u64 (ibin .and .u8 x6 127)) 28)) (ibin .shl .u64 (IntKind.wrap .u64 (ibin .and .u8 x7 127)) 35)) (ibin .shl .u64 (IntKind.wrap .u64 (ibin .and .u8 x8 127)) 42)), ((b.1.1, b.1.2), ((), ((b.2.2.1.1 + 7), (b.2.2.1.2.1 - 7), b.2.2.1.1), b.2.2.2)))
                                              ) (
                                                none
                                              )
                                            )
                                          ) (
                                            cond (icmp .eql 7 x1) (
                                              cond (icmp .eql b.2.2.2 0) (
                                                some (0, ((b.1.1, b.1.2), ((), (b.2.2.1.1, b.2.2.1.2.1, b.2.2.1.2.2), 100)))
                                              ) (
                                                some (0, ((b.1.1, b.1.2), ((), (b.2.2.1.1, b.2.2.1.2.1, b.2.2.1.2.2), b.2.2.2)))
                                              )
                                            ) (
                                              cond (decide ((0 : Int) ≤ 7 ∧ 7 < ((b.2.2.1.2.1 : Nat) : Int))) (
                                                let x9 := (List.getD b.1.2 (b.2.2.1.1 + Int.toNat 7) 0)
                                                cond (icmp .lss x9 128) (
                                                  cond (icmp .eql x9 0) (
                                                    cond (icmp .eql b.2.2.2 0) (
                                                      some (0, ((b.1.1, b.1.2), ((), (b.2.2.1.1, b.2.2.1.2.1, b.2.2.1.2.2), 102)))
                                                    ) (
                                                      some (0, ((b.1.1, b.1.2), ((), (b.2.2.1.1, b.2.2.1.2.1, b.2.2.1.2.2), b.2.2.2)))
                                                    )
                                                  ) (
                                                    cond (decide ((0 : Int) ≤ 8 ∧ 8 ≤ ((b.2.2.1.2.1 : Nat) : Int))) (
                                                      some ((ibin .or .u64 (ibin .or .u64 (ibin .or .u64 (ibin .or .u64 (ibin .or .u64 (ibin .or .u64 (ibin .or .u64 (ibin .or .u64 0 (ibin .shl .u64 (IntKind.wrap .u64 (ibin .and .u8 x2 127)) 0)) (ibin .shl .u64 (IntKind.wrap .u64 (ibin .and .u8 x3 127)) 7)) (ibin .shl .u64 (IntKind.wrap .u64 (ibin .and .u8 x4 127)) 14)) (ibin .shl .u64 (IntKind.wrap .u64 (ibin .and .u8 x5 127)) 21)) (ibin .shl .u64 (IntKind.wrap .u64 (ibin .and .u8 x6 127)) 28)) (ibin .shl .u64 (IntKind.wrap .u64 (ibin .and .u8 x7 127)) 35)) (ibin .shl .u64 (IntKind.wrap .u64 (ibin .and .u8 x8 127)) 42)) (ibin .shl .u64 (IntKind.wrap .u64 (ibin .and .u8 x9 127)) 49)), ((b.1.1, b.1.2), ((), ((b.2.2.1.1 + 8), (b.2.2.1.2.1 - 8), b.2.2.1.1), b.2.2.2)))
                                                    ) (
                                                      none
                                                    )
                                                  )
                                                ) (
                                                  cond (icmp .eql 8 x1) (
                                                    cond (icmp .eql b.2.2.2 0) (
                                                      some (0, ((b.1.1, b.1.2), ((), (b.2.2.1.1, b.2.2.1.2.1, b.2.2.1.2.2), 100)))
                                                    ) (
                                                      some (0, ((b.1.1, b.1.2), ((), (b.2.2.1.1, b.2.2.1.2.1, b.2.2.1.2.2), b.2.2.2)))
                                                    )
                                                  ) (
                                                    cond (decide ((0 : Int) ≤ 8 ∧ 8 < ((b.2.2.1.2.1 : Nat) : Int))) (
                                                      let x10 := (List.getD b.1.2 (b.2.2.1.1 + Int.toNat 8) 0)
                                                      cond (icmp .lss x10 128) (
                                                        cond (icmp .eql x10 0) (
                                                          cond (icmp .eql b.2.2.2 0) (
                                                            some (0, ((b.1.1, b.1.2), ((), (b.2.2.1.1, b.2.2.1.2.1, b.2.2.1.2.2), 102)))
                                                          ) (
                                                            some (0, ((b.1.1, b.1.2), ((), (b.2.2.1.1, b.2.2.1.2.1, b.2.2.1.2.2), b.2.2.2)))
                                                          )
                                                        ) (
                                                          cond (decide ((0 : Int) ≤ 9 ∧ 9 ≤ ((b.2.2.1.2.1 : Nat) : Int))) (
                                                            some ((ibin .or .u64 (ibin .or .u64 (ibin .or .u64 (ibin .or .u64 (ibin .or .u64 (ibin .or .u64 (ibin .or .u64 (ibin .or .u64 (ibin .or .u64 0 (ibin .shl .u64 (IntKind.wrap .u64 (ibin .and .u8 x2 127)) 0)) (ibin .shl .u64 (IntKind.wrap .u64 (ibin .and .u8 x3 127)) 7)) (ibin .shl .u64 (IntKind.wrap .u64 (ibin .and .u8 x4 127)) 14)) (ibin .shl .u64 (IntKind.wrap .u64 (ibin .and .u8 x5 127)) 21)) (ibin .shl .u64 (IntKind.wrap .u64 (ibin .and .u8 x6 127)) 28)) (ibin .shl .u64 (IntKind.wrap .u64 (ibin .and .u8 x7 127)) 35)) (ibin .shl .u64 (IntKind.wrap .u64 (ibin .and .u8 x8 127)) 42)) (ibin .shl .u64 (IntKind.wrap .u64 (ibin .and .u8 x9 127)) 49)) (ibin .shl .u64 (IntKind.wrap .u64 (ibin .and .u8 x10 127)) 56)), ((b.1.1, b.1.2), ((), ((b.2.2.1.1 + 9), (b.2.2.1.2.1 - 9), b.2.2.1.1), b.2.2.2)))
                                                          ) (
                                                            none
                                                          )
                                                        )
                                                      ) (
                                                        cond (icmp .eql 9 x1) (
                                                          cond (icmp .eql b.2.2.2 0) (
                                                            some (0, ((b.1.1, b.1.2), ((), (b.2.2.1.1, b.2.2.1.2.1, b.2.2.1.2.2), 100)))
                                                          ) (
                                                            some (0, ((b.1.1, b.1.2), ((), (b.2.2.1.1, b.2.2.1.2.1, b.2.2.1.2.2), b.2.2.2)))
                                                          )
                                                        ) (
                                                          cond (decide ((0 : Int) ≤ 9 ∧ 9 < ((b.2.2.1.2.1 : Nat) : Int))) (
                                                            let x11 := (List.getD b.1.2 (b.2.2.1.1 + Int.toNat 9) 0)
                                                            cond (icmp .gtr x11 1) (
                                                              cond (icmp .eql b.2.2.2 0) (
                                                                some (0, ((b.1.1, b.1.2), ((), (b.2.2.1.1, b.2.2.1.2.1, b.2.2.1.2.2), 102)))
                                                              ) (
                                                                some (0, ((b.1.1, b.1.2), ((), (b.2.2.1.1, b.2.2.1.2.1, b.2.2.1.2.2), b.2.2.2)))
                                                              )
                                                            ) (
                                                              cond (icmp .lss x11 128) (
                                                                cond (icmp .eql x11 0) (
                                                                  cond (icmp .eql b.2.2.2 0) (
                                                                    some (0, ((b.1.1, b.1.2), ((), (b.2.2.1.1, b.2.2.1.2.1, b.2.2.1.2.2), 102)))
                                                                  ) (
                                                                    some (0, ((b.1.1, b.1.2), ((), (b.2.2.1.1, b.2.2.1.2.1, b.2.2.1.2.2), b.2.2.2)))
                                                                  )
                                                                ) (
                                                                  cond (decide ((0 : Int) ≤ 10 ∧ 10 ≤ ((b.2.2.1.2.1 : Nat) : Int))) (
                                                                    some ((ibin .or .u64 (ibin .or .u64 (ibin .or .u64 (ibin .or .u64 (ibin .or .u64 (ibin .or .u64 (ibin .or .u64 (ibin .or .u64 (ibin .or .u64 (ibin .or .u64 0 (ibin .shl .u64 (IntKind.wrap .u64 (ibin .and .u8 x2 127)) 0)) (ibin .shl .u64 (IntKind.wrap .u64 (ibin .and .u8 x3 127)) 7)) (ibin .shl .u64 (IntKind.wrap .u64 (ibin .and .u8 x4 127)) 14)) (ibin .shl .u64 (IntKind.wrap .u64 (ibin .and .u8 x5 127)) 21)) (ibin .shl .u64 (IntKind.wrap .u64 (ibin .and .u8 x6 127)) 28)) (ibin .shl .u64 (IntKind.wrap .u64 (ibin .and .u8 x7 127)) 35)) (ibin .shl .u64 (IntKind.wrap .u64 (ibin .and .u8 x8 127)) 42)) (ibin .shl .u64 (IntKind.wrap .u64 (ibin .and .u8 x9 127)) 49)) (ibin .shl .u64 (IntKind.wrap .u64 (ibin .and .u8 x10 127)) 56)) (ibin .shl .u64 (IntKind.wrap .u64 (ibin .and .u8 x11 127)) 63)), ((b.1.1, b.1.2), ((), ((b.2.2.1.1 + 10), (b.2.2.1.2.1 - 10), b.2.2.1.1), b.2.2.2)))
                                                                  ) (
                                                                    none
                                                                  )
                                                                )
                                                              ) (
                                                                cond (icmp .eql b.2.2.2 0) (
                                                                  some (0, ((b.1.1, b.1.2), ((), (b.2.2.1.1, b.2.2.1.2.1, b.2.2.1.2.2), 102)))
                                                                ) (
                                                                  some (0, ((b.1.1, b.1.2), ((), (b.2.2.1.1, b.2.2.1.2.1, b.2.2.1.2.2), b.2.2.2)))
                                                                )
                                                              )
                                                            )
                                                          ) (
                                                            none
                                                          )
                                                        )
                                                      )
                                                    ) (
                                                      none
                                                    )
                                                  )
                                                )
                                              ) (
                                                none
                                              )
                                            )
                                          )
                                        ) (
                                          none
                                        )
                                      )
                                    )
                                  ) (
                                    none
                                  )
                                )
                              )
                            ) (
                              none
                            )
                          )
                        )
                      ) (
                        none
                      )
                    )
                  )
                ) (
                  none
                )
              )
            )
          ) (
            none
          )
        )
      )
    ) (
      none
    )
  )

def veillaw10_WireOne_l0 (N : Nat) (v : (Nat × Unit × Int) × (Nat × List Int)) : Option (((Nat × Unit × Int) × (Nat × List Int)) ⊕ ((Nat × (Nat × List Int)) ⊕ (Unit × Unit))) :=
  cond (icmp .lss v.1.2.2 ((v.1.1 : Nat) : Int)) (
    cond (decide ((0 : Int) ≤ v.1.2.2 ∧ v.1.2.2 < ((v.1.1 : Nat) : Int))) (
      cond (icmp .lss (List.getD v.2.2 (Int.toNat v.1.2.2) 0) 128) (
        some (.inr (.inr ((), ())))
      ) (
        some (.inl ((v.1.1, (), (ibin .add .i64 v.1.2.2 1)), (v.2.1, v.2.2)))
      )
    ) (
      none
    )
  ) (
    some (.inr (.inl (v.1.1, (v.2.1, v.2.2))))
  )

set_option maxRecDepth 100000 in
def veillaw10_WireOne (N : Nat) (a : ((Nat × List Int) × Unit)) : Option (Bool) :=
  mo (veillaw10_live N) none fun r1 =>
  cond (!r1) (
    some false
  ) (
    let x1 := (slices_Clone_of_byte_byte ((a.1.1, a.1.2), ()))
    mo x1 none fun r2 =>
    mo (io_veillaw10_WireOne_p_wire_Reader_count N () ((r2.1.1, r2.1.2), ((), (0, r2.1.1, 0), 0))) none fun r3 =>
    let x2 := (icmp .eql r3.2.2.2.2 0)
    cond x2 (
      cond (icmp .gtr r3.1 18446744073709551615) (
        cond x2 (
          let x3 := ((a.1.1 : Nat) : Int)
          cond (icmp .neq ((r2.1.1 : Nat) : Int) x3) (
            some false
          ) (
            mo x1 none fun r4 =>
            cond (icmp .lss x3 0) (
              some (icmp .eql ((r4.1.1 : Nat) : Int) x3)
            ) (
              mo (io_veillaw10_WireOne_p_wire_Reader_count N () ((r4.1.1, r4.1.2), ((), (0, r4.1.1, 0), 0))) none fun r5 =>
              cond (icmp .neq r5.2.2.2.2 0) (
                cond (icmp .eql r5.2.2.2.2 0) (
                  none
                ) (
                  some (icmp .eql ((r5.2.2.2.1.2.1 : Nat) : Int) x3)
                )
              ) (
                cond (icmp .gtr r5.1 (IntKind.wrap .u64 x3)) (
                  let x4 := (icmp .eql r5.2.2.2.2 0)
                  cond x4 (
                    some (icmp .eql ((r4.1.1 : Nat) : Int) x3)
                  ) (
                    cond x4 (
                      none
                    ) (
                      some (icmp .eql ((r4.1.1 : Nat) : Int) x3)
                    )
                  )
                ) (
                  cond (icmp .gtr r5.1 (IntKind.wrap .u64 ((r5.2.2.2.1.2.1 : Nat) : Int))) (
                    let x5 := (icmp .eql r5.2.2.2.2 0)
                    cond x5 (
                      some (icmp .eql ((r4.1.1 : Nat) : Int) x3)
                    ) (
                      cond x5 (
                        none
                      ) (
                        some (icmp .eql ((r4.1.1 : Nat) : Int) x3)
                      )
                    )
                  ) (
                    let x6 := (decide ((0 : Int) ≤ r5.1 ∧ r5.1 ≤ ((r5.2.2.2.1.2.1 : Nat) : Int)))
                    cond x6 (
                      mo (slices_Clone_of_byte_byte (((Int.toNat r5.1), (List.take (Int.toNat r5.1) (List.drop r5.2.2.2.1.1 r5.2.1.2))), ())) none fun r6 =>
                      cond x6 (
                        cond (icmp .eql r5.2.2.2.2 0) (
                          mo (wire_AppendBytes_nil N () ((r6.1.1, r6.1.2), ())) none fun r7 =>
                          let x7 := (ibin .sub .i64 x3 (((r5.2.2.2.1.2.1 - (Int.toNat r5.1)) : Nat) : Int))
                          cond (decide ((0 : Int) ≤ x7 ∧ x7 ≤ ((a.1.1 : Nat) : Int))) (
                            let x8 := (Int.toNat x7)
                            some (veillaw10_same ((r7.1.1, r7.1.2), ()) ((x8, (List.take x8 (List.drop 0 a.1.2))), ()))
                          ) (
                            none
                          )
                        ) (
                          cond (icmp .eql ((r6.1.1 : Nat) : Int) 0) (
                            some (icmp .eql (((r5.2.2.2.1.2.1 - (Int.toNat r5.1)) : Nat) : Int) x3)
                          ) (
                            some false
                          )
                        )
                      ) (
                        none
                      )
                    ) (
                      none
                    )
                  )
                )
              )
            )
          )
        ) (
          cond x2 (
            mo (wire_AppendNumber_nil N () 0) none fun r8 =>
            let x9 := ((a.1.1 : Nat) : Int)
            let x10 := (ibin .sub .i64 x9 ((r2.1.1 : Nat) : Int))
            cond (decide ((0 : Int) ≤ x10 ∧ x10 ≤ ((a.1.1 : Nat) : Int))) (
              let x11 := (Int.toNat x10)
              cond (!(veillaw10_same ((r8.1.1, r8.1.2), ()) ((x11, (List.take x11 (List.drop 0 a.1.2))), ()))) (
                some false
              ) (
                cond (icmp .eql r3.2.2.2.2 100) (
                  mo (loopF (veillaw10_WireOne_l0 N) N ((a.1.1, (), 0), (a.1.1, a.1.2))) none fun r16 =>
                  match r16 with
                  | .inl u17 => (
                    cond (icmp .gtr ((u17.1 : Nat) : Int) 9) (
                      some false
                    ) (
                      mo (slices_Clone_of_byte_byte ((u17.2.1, u17.2.2), ())) none fun r18 =>
                      cond (icmp .lss ((u17.1 : Nat) : Int) 0) (
                        some (icmp .eql ((r18.1.1 : Nat) : Int) ((u17.1 : Nat) : Int))
                      ) (
                        mo (io_veillaw10_WireOne_p_wire_Reader_count N () ((r18.1.1, r18.1.2), ((), (0, r18.1.1, 0), 0))) none fun r19 =>
                        cond (icmp .neq r19.2.2.2.2 0) (
                          cond (icmp .eql r19.2.2.2.2 0) (
                            none
                          ) (
                            some (icmp .eql ((r19.2.2.2.1.2.1 : Nat) : Int) ((u17.1 : Nat) : Int))
                          )
                        ) (
                          cond (icmp .gtr r19.1 (IntKind.wrap .u64 ((u17.1 : Nat) : Int))) (
                            let x12 := (icmp .eql r19.2.2.2.2 0)
                            cond x12 (
                              some (icmp .eql ((r18.1.1 : Nat) : Int) ((u17.1 : Nat) : Int))
                            ) (
                              cond x12 (
                                none
                              ) (
                                some (icmp .eql ((r18.1.1 : Nat) : Int) ((u17.1 : Nat) : Int))
                              )
                            )
                          ) (
                            cond (icmp .gtr r19.1 (IntKind.wrap .u64 ((r19.2.2.2.1.2.1 : Nat) : Int))) (
                              let x13 := (icmp .eql r19.2.2.2.2 0)
                              cond x13 (
                                some (icmp .eql ((r18.1.1 : Nat) : Int) ((u17.1 : Nat) : Int))
                              ) (
                                cond x13 (
                                  none
                                ) (
                                  some (icmp .eql ((r18.1.1 : Nat) : Int) ((u17.1 : Nat) : Int))
                                )
                              )
                            ) (
                              let x14 := (decide ((0 : Int) ≤ r19.1 ∧ r19.1 ≤ ((r19.2.2.2.1.2.1 : Nat) : Int)))
                              cond x14 (
                                mo (slices_Clone_of_byte_byte (((Int.toNat r19.1), (List.take (Int.toNat r19.1) (List.drop r19.2.2.2.1.1 r19.2.1.2))), ())) none fun r20 =>
                                cond x14 (
                                  cond (icmp .eql r19.2.2.2.2 0) (
                                    mo (wire_AppendBytes_nil N () ((r20.1.1, r20.1.2), ())) none fun r21 =>
                                    let x15 := (ibin .sub .i64 ((u17.1 : Nat) : Int) (((r19.2.2.2.1.2.1 - (Int.toNat r19.1)) : Nat) : Int))
                                    cond (decide ((0 : Int) ≤ x15 ∧ x15 ≤ ((u17.1 : Nat) : Int))) (
                                      let x16 := (Int.toNat x15)
                                      some (veillaw10_same ((r21.1.1, r21.1.2), ()) ((x16, (List.take x16 (List.drop 0 u17.2.2))), ()))
                                    ) (
                                      none
                                    )
                                  ) (
                                    cond (icmp .eql ((r20.1.1 : Nat) : Int) 0) (
                                      some (icmp .eql (((r19.2.2.2.1.2.1 - (Int.toNat r19.1)) : Nat) : Int) ((u17.1 : Nat) : Int))
                                    ) (
                                      some false
                                    )
                                  )
                                ) (
                                  none
                                )
                              ) (
                                none
                              )
                            )
                          )
                        )
                      )
                    )
                  )
                  | .inr w22 => (
                    some false
                  )
                ) (
                  mo x1 none fun r23 =>
                  cond (icmp .lss x9 0) (
                    some (icmp .eql ((r23.1.1 : Nat) : Int) x9)
                  ) (
                    mo (io_veillaw10_WireOne_p_wire_Reader_count N () ((r23.1.1, r23.1.2), ((), (0, r23.1.1, 0), 0))) none fun r24 =>
                    cond (icmp .neq r24.2.2.2.2 0) (
                      cond (icmp .eql r24.2.2.2.2 0) (
                        none
                      ) (
                        some (icmp .eql ((r24.2.2.2.1.2.1 : Nat) : Int) x9)
                      )
                    ) (
                      cond (icmp .gtr r24.1 (IntKind.wrap .u64 x9)) (
                        let x17 := (icmp .eql r24.2.2.2.2 0)
                        cond x17 (
                          some (icmp .eql ((r23.1.1 : Nat) : Int) x9)
                        ) (
                          cond x17 (
                            none
                          ) (
                            some (icmp .eql ((r23.1.1 : Nat) : Int) x9)
                          )
                        )
                      ) (
                        cond (icmp .gtr r24.1 (IntKind.wrap .u64 ((r24.2.2.2.1.2.1 : Nat) : Int))) (
                          let x18 := (icmp .eql r24.2.2.2.2 0)
                          cond x18 (
                            some (icmp .eql ((r23.1.1 : Nat) : Int) x9)
                          ) (
                            cond x18 (
                              none
                            ) (
                              some (icmp .eql ((r23.1.1 : Nat) : Int) x9)
                            )
                          )
                        ) (
                          let x19 := (decide ((0 : Int) ≤ r24.1 ∧ r24.1 ≤ ((r24.2.2.2.1.2.1 : Nat) : Int)))
                          cond x19 (
                            mo (slices_Clone_of_byte_byte (((Int.toNat r24.1), (List.take (Int.toNat r24.1) (List.drop r24.2.2.2.1.1 r24.2.1.2))), ())) none fun r25 =>
                            cond x19 (
                              cond (icmp .eql r24.2.2.2.2 0) (
                                mo (wire_AppendBytes_nil N () ((r25.1.1, r25.1.2), ())) none fun r26 =>
                                let x20 := (ibin .sub .i64 x9 (((r24.2.2.2.1.2.1 - (Int.toNat r24.1)) : Nat) : Int))
                                cond (decide ((0 : Int) ≤ x20 ∧ x20 ≤ ((a.1.1 : Nat) : Int))) (
                                  let x21 := (Int.toNat x20)
                                  some (veillaw10_same ((r26.1.1, r26.1.2), ()) ((x21, (List.take x21 (List.drop 0 a.1.2))), ()))
                                ) (
                                  none
                                )
                              ) (
                                cond (icmp .eql ((r25.1.1 : Nat) : Int) 0) (
                                  some (icmp .eql (((r24.2.2.2.1.2.1 - (Int.toNat r24.1)) : Nat) : Int) x9)
                                ) (
                                  some false
                                )
                              )
                            ) (
                              none
                            )
                          ) (
                            none
                          )
                        )
                      )
                    )
                  )
                )
              )
            ) (
              none
            )
          ) (
            let x22 := ((a.1.1 : Nat) : Int)
            cond (icmp .neq ((r2.1.1 : Nat) : Int) x22) (
              some false
            ) (
              cond (icmp .neq r3.2.2.2.2 100) (
                cond (icmp .neq r3.2.2.2.2 102) (
                  some false
                ) (
                  cond (icmp .eql r3.2.2.2.2 100) (
                    mo (loopF (veillaw10_WireOne_l0 N) N ((a.1.1, (), 0), (a.1.1, a.1.2))) none fun r34 =>
                    match r34 with
                    | .inl u35 => (
                      cond (icmp .gtr ((u35.1 : Nat) : Int) 9) (
                        some false
                      ) (
                        mo (slices_Clone_of_byte_byte ((u35.2.1, u35.2.2), ())) none fun r36 =>
                        cond (icmp .lss ((u35.1 : Nat) : Int) 0) (
                          some (icmp .eql ((r36.1.1 : Nat) : Int) ((u35.1 : Nat) : Int))
                        ) (
                          mo (io_veillaw10_WireOne_p_wire_Reader_count N () ((r36.1.1, r36.1.2), ((), (0, r36.1.1, 0), 0))) none fun r37 =>
                          cond (icmp .neq r37.2.2.2.2 0) (
                            cond (icmp .eql r37.2.2.2.2 0) (
                              none
                            ) (
                              some (icmp .eql ((r37.2.2.2.1.2.1 : Nat) : Int) ((u35.1 : Nat) : Int))
                            )
                          ) (
                            cond (icmp .gtr r37.1 (IntKind.wrap .u64 ((u35.1 : Nat) : Int))) (
                              let x23 := (icmp .eql r37.2.2.2.2 0)
                              cond x23 (
                                some (icmp .eql ((r36.1.1 : Nat) : Int) ((u35.1 : Nat) : Int))
                              ) (
                                cond x23 (
                                  none
                                ) (
                                  some (icmp .eql ((r36.1.1 : Nat) : Int) ((u35.1 : Nat) : Int))
                                )
                              )
                            ) (
                              cond (icmp .gtr r37.1 (IntKind.wrap .u64 ((r37.2.2.2.1.2.1 : Nat) : Int))) (
                                let x24 := (icmp .eql r37.2.2.2.2 0)
                                cond x24 (
                                  some (icmp .eql ((r36.1.1 : Nat) : Int) ((u35.1 : Nat) : Int))
                                ) (
                                  cond x24 (
                                    none
                                  ) (
                                    some (icmp .eql ((r36.1.1 : Nat) : Int) ((u35.1 : Nat) : Int))
                                  )
                                )
                              ) (
                                let x25 := (decide ((0 : Int) ≤ r37.1 ∧ r37.1 ≤ ((r37.2.2.2.1.2.1 : Nat) : Int)))
                                cond x25 (
                                  mo (slices_Clone_of_byte_byte (((Int.toNat r37.1), (List.take (Int.toNat r37.1) (List.drop r37.2.2.2.1.1 r37.2.1.2))), ())) none fun r38 =>
                                  cond x25 (
                                    cond (icmp .eql r37.2.2.2.2 0) (
                                      mo (wire_AppendBytes_nil N () ((r38.1.1, r38.1.2), ())) none fun r39 =>
                                      let x26 := (ibin .sub .i64 ((u35.1 : Nat) : Int) (((r37.2.2.2.1.2.1 - (Int.toNat r37.1)) : Nat) : Int))
                                      cond (decide ((0 : Int) ≤ x26 ∧ x26 ≤ ((u35.1 : Nat) : Int))) (
                                        let x27 := (Int.toNat x26)
                                        some (veillaw10_same ((r39.1.1, r39.1.2), ()) ((x27, (List.take x27 (List.drop 0 u35.2.2))), ()))
                                      ) (
                                        none
                                      )
                                    ) (
                                      cond (icmp .eql ((r38.1.1 : Nat) : Int) 0) (
                                        some (icmp .eql (((r37.2.2.2.1.2.1 - (Int.toNat r37.1)) : Nat) : Int) ((u35.1 : Nat) : Int))
                                      ) (
                                        some false
                                      )
                                    )
                                  ) (
                                    none
                                  )
                                ) (
                                  none
                                )
                              )
                            )
                          )
                        )
                      )
                    )
                    | .inr w40 => (
                      some false
                    )
                  ) (
                    mo x1 none fun r41 =>
                    cond (icmp .lss x22 0) (
                      some (icmp .eql ((r41.1.1 : Nat) : Int) x22)
                    ) (
                      mo (io_veillaw10_WireOne_p_wire_Reader_count N () ((r41.1.1, r41.1.2), ((), (0, r41.1.1, 0), 0))) none fun r42 =>
                      cond (icmp .neq r42.2.2.2.2 0) (
                        cond (icmp .eql r42.2.2.2.2 0) (
                          none
                        ) (
                          some (icmp .eql ((r42.2.2.2.1.2.1 : Nat) : Int) x22)
                        )
                      ) (
                        cond (icmp .gtr r42.1 (IntKind.wrap .u64 x22)) (
                          let x28 := (icmp .eql r42.2.2.2.2 0)
                          cond x28 (
                            some (icmp .eql ((r41.1.1 : Nat) : Int) x22)
                          ) (
                            cond x28 (
                              none
                            ) (
                              some (icmp .eql ((r41.1.1 : Nat) : Int) x22)
                            )
                          )
                        ) (
                          cond (icmp .gtr r42.1 (IntKind.wrap .u64 ((r42.2.2.2.1.2.1 : Nat) : Int))) (
                            let x29 := (icmp .eql r42.2.2.2.2 0)
                            cond x29 (
                              some (icmp .eql ((r41.1.1 : Nat) : Int) x22)
                            ) (
                              cond x29 (
                                none
                              ) (
                                some (icmp .eql ((r41.1.1 : Nat) : Int) x22)
                              )
                            )
                          ) (
                            let x30 := (decide ((0 : Int) ≤ r42.1 ∧ r42.1 ≤ ((r42.2.2.2.1.2.1 : Nat) : Int)))
                            cond x30 (
                              mo (slices_Clone_of_byte_byte (((Int.toNat r42.1), (List.take (Int.toNat r42.1) (List.drop r42.2.2.2.1.1 r42.2.1.2))), ())) none fun r43 =>
                              cond x30 (
                                cond (icmp .eql r42.2.2.2.2 0) (
                                  mo (wire_AppendBytes_nil N () ((r43.1.1, r43.1.2), ())) none fun r44 =>
                                  let x31 := (ibin .sub .i64 x22 (((r42.2.2.2.1.2.1 - (Int.toNat r42.1)) : Nat) : Int))
                                  cond (decide ((0 : Int) ≤ x31 ∧ x31 ≤ ((a.1.1 : Nat) : Int))) (
                                    let x32 := (Int.toNat x31)
                                    some (veillaw10_same ((r44.1.1, r44.1.2), ()) ((x32, (List.take x32 (List.drop 0 a.1.2))), ()))
                                  ) (
                                    none
                                  )
                                ) (
                                  cond (icmp .eql ((r43.1.1 : Nat) : Int) 0) (
                                    some (icmp .eql (((r42.2.2.2.1.2.1 - (Int.toNat r42.1)) : Nat) : Int) x22)
                                  ) (
                                    some false
                                  )
                                )
                              ) (
                                none
                              )
                            ) (
                              none
                            )
                          )
                        )
                      )
                    )
                  )
                )
              ) (
                cond (icmp .eql r3.2.2.2.2 100) (
                  mo (loopF (veillaw10_WireOne_l0 N) N ((a.1.1, (), 0), (a.1.1, a.1.2))) none fun r52 =>
                  match r52 with
                  | .inl u53 => (
                    cond (icmp .gtr ((u53.1 : Nat) : Int) 9) (
                      some false
                    ) (
                      mo (slices_Clone_of_byte_byte ((u53.2.1, u53.2.2), ())) none fun r54 =>
                      cond (icmp .lss ((u53.1 : Nat) : Int) 0) (
                        some (icmp .eql ((r54.1.1 : Nat) : Int) ((u53.1 : Nat) : Int))
                      ) (
                        mo (io_veillaw10_WireOne_p_wire_Reader_count N () ((r54.1.1, r54.1.2), ((), (0, r54.1.1, 0), 0))) none fun r55 =>
                        cond (icmp .neq r55.2.2.2.2 0) (
                          cond (icmp .eql r55.2.2.2.2 0) (
                            none
                          ) (
                            some (icmp .eql ((r55.2.2.2.1.2.1 : Nat) : Int) ((u53.1 : Nat) : Int))
                          )
                        ) (
                          cond (icmp .gtr r55.1 (IntKind.wrap .u64 ((u53.1 : Nat) : Int))) (
                            let x33 := (icmp .eql r55.2.2.2.2 0)
                            cond x33 (
                              some (icmp .eql ((r54.1.1 : Nat) : Int) ((u53.1 : Nat) : Int))
                            ) (
                              cond x33 (
                                none
                              ) (
                                some (icmp .eql ((r54.1.1 : Nat) : Int) ((u53.1 : Nat) : Int))
                              )
                            )
                          ) (
                            cond (icmp .gtr r55.1 (IntKind.wrap .u64 ((r55.2.2.2.1.2.1 : Nat) : Int))) (
                              let x34 := (icmp .eql r55.2.2.2.2 0)
                              cond x34 (
                                some (icmp .eql ((r54.1.1 : Nat) : Int) ((u53.1 : Nat) : Int))
                              ) (
                                cond x34 (
                                  none
                                ) (
                                  some (icmp .eql ((r54.1.1 : Nat) : Int) ((u53.1 : Nat) : Int))
                                )
                              )
                            ) (
                              let x35 := (decide ((0 : Int) ≤ r55.1 ∧ r55.1 ≤ ((r55.2.2.2.1.2.1 : Nat) : Int)))
                              cond x35 (
                                mo (slices_Clone_of_byte_byte (((Int.toNat r55.1), (List.take (Int.toNat r55.1) (List.drop r55.2.2.2.1.1 r55.2.1.2))), ())) none fun r56 =>
                                cond x35 (
                                  cond (icmp .eql r55.2.2.2.2 0) (
                                    mo (wire_AppendBytes_nil N () ((r56.1.1, r56.1.2), ())) none fun r57 =>
                                    let x36 := (ibin .sub .i64 ((u53.1 : Nat) : Int) (((r55.2.2.2.1.2.1 - (Int.toNat r55.1)) : Nat) : Int))
                                    cond (decide ((0 : Int) ≤ x36 ∧ x36 ≤ ((u53.1 : Nat) : Int))) (
                                      let x37 := (Int.toNat x36)
                                      some (veillaw10_same ((r57.1.1, r57.1.2), ()) ((x37, (List.take x37 (List.drop 0 u53.2.2))), ()))
                                    ) (
                                      none
                                    )
                                  ) (
                                    cond (icmp .eql ((r56.1.1 : Nat) : Int) 0) (
                                      some (icmp .eql (((r55.2.2.2.1.2.1 - (Int.toNat r55.1)) : Nat) : Int) ((u53.1 : Nat) : Int))
                                    ) (
                                      some false
                                    )
                                  )
                                ) (
                                  none
                                )
                              ) (
                                none
                              )
                            )
                          )
                        )
                      )
                    )
                  )
                  | .inr w58 => (
                    some false
                  )
                ) (
                  mo x1 none fun r59 =>
                  cond (icmp .lss x22 0) (
                    some (icmp .eql ((r59.1.1 : Nat) : Int) x22)
                  ) (
                    mo (io_veillaw10_WireOne_p_wire_Reader_count N () ((r59.1.1, r59.1.2), ((), (0, r59.1.1, 0), 0))) none fun r60 =>
                    cond (icmp .neq r60.2.2.2.2 0) (
                      cond (icmp .eql r60.2.2.2.2 0) (
                        none
                      ) (
                        some (icmp .eql ((r60.2.2.2.1.2.1 : Nat) : Int) x22)
                      )
                    ) (
                      cond (icmp .gtr r60.1 (IntKind.wrap .u64 x22)) (
                        let x38 := (icmp .eql r60.2.2.2.2 0)
                        cond x38 (
                          some (icmp .eql ((r59.1.1 : Nat) : Int) x22)
                        ) (
                          cond x38 (
                            none
                          ) (
                            some (icmp .eql ((r59.1.1 : Nat) : Int) x22)
                          )
                        )
                      ) (
                        cond (icmp .gtr r60.1 (IntKind.wrap .u64 ((r60.2.2.2.1.2.1 : Nat) : Int))) (
                          let x39 := (icmp .eql r60.2.2.2.2 0)
                          cond x39 (
                            some (icmp .eql ((r59.1.1 : Nat) : Int) x22)
                          ) (
                            cond x39 (
                              none
                            ) (
                              some (icmp .eql ((r59.1.1 : Nat) : Int) x22)
                            )
                          )
                        ) (
                          let x40 := (decide ((0 : Int) ≤ r60.1 ∧ r60.1 ≤ ((r60.2.2.2.1.2.1 : Nat) : Int)))
                          cond x40 (
                            mo (slices_Clone_of_byte_byte (((Int.toNat r60.1), (List.take (Int.toNat r60.1) (List.drop r60.2.2.2.1.1 r60.2.1.2))), ())) none fun r61 =>
                            cond x40 (
                              cond (icmp .eql r60.2.2.2.2 0) (
                                mo (wire_AppendBytes_nil N () ((r61.1.1, r61.1.2), ())) none fun r62 =>
                                let x41 := (ibin .sub .i64 x22 (((r60.2.2.2.1.2.1 - (Int.toNat r60.1)) : Nat) : Int))
                                cond (decide ((0 : Int) ≤ x41 ∧ x41 ≤ ((a.1.1 : Nat) : Int))) (
                                  let x42 := (Int.toNat x41)
                                  some (veillaw10_same ((r62.1.1, r62.1.2), ()) ((x42, (List.take x42 (List.drop 0 a.1.2))), ()))
                                ) (
                                  none
                                )
                              ) (
                                cond (icmp .eql ((r61.1.1 : Nat) : Int) 0) (
                                  some (icmp .eql (((r60.2.2.2.1.2.1 - (Int.toNat r60.1)) : Nat) : Int) x22)
                                ) (
                                  some false
                                )
                              )
                            ) (
                              none
                            )
                          ) (
                            none
                          )
                        )
                      )
                    )
                  )
                )
              )
            )
          )
        )
      ) (
        cond x2 (
          mo (wire_AppendNumber_nil N () r3.1) none fun r63 =>
          let x43 := ((a.1.1 : Nat) : Int)
          let x44 := (ibin .sub .i64 x43 ((r3.2.2.2.1.2.1 : Nat) : Int))
          cond (decide ((0 : Int) ≤ x44 ∧ x44 ≤ ((a.1.1 : Nat) : Int))) (
            let x45 := (Int.toNat x44)
            cond (!(veillaw10_same ((r63.1.1, r63.1.2), ()) ((x45, (List.take x45 (List.drop 0 a.1.2))), ()))) (
              some false
            ) (
              cond (icmp .gtr r3.1 0) (
                mo x1 none fun r64 =>
                mo (io_veillaw10_WireOne_p_wire_Reader_count N () ((r64.1.1, r64.1.2), ((), (0, r64.1.1, 0), 0))) none fun r65 =>
                let x46 := (icmp .eql r65.2.2.2.2 0)
                cond x46 (
                  cond (icmp .gtr r65.1 (ibin .sub .u64 r3.1 1)) (
                    cond x46 (
                      cond (icmp .neq ((r64.1.1 : Nat) : Int) x43) (
                        some false
                      ) (
                        cond (icmp .eql r3.2.2.2.2 100) (
                          mo (loopF (veillaw10_WireOne_l0 N) N ((a.1.1, (), 0), (a.1.1, a.1.2))) none fun r73 =>
                          match r73 with
                          | .inl u74 => (
                            cond (icmp .gtr ((u74.1 : Nat) : Int) 9) (
                              some false
                            ) (
                              mo (slices_Clone_of_byte_byte ((u74.2.1, u74.2.2), ())) none fun r75 =>
                              cond (icmp .lss ((u74.1 : Nat) : Int) 0) (
                                some (icmp .eql ((r75.1.1 : Nat) : Int) ((u74.1 : Nat) : Int))
                              ) (
                                mo (io_veillaw10_WireOne_p_wire_Reader_count N () ((r75.1.1, r75.1.2), ((), (0, r75.1.1, 0), 0))) none fun r76 =>
                                cond (icmp .neq r76.2.2.2.2 0) (
                                  cond (icmp .eql r76.2.2.2.2 0) (
                                    none
                                  ) (
                                    some (icmp .eql ((r76.2.2.2.1.2.1 : Nat) : Int) ((u74.1 : Nat) : Int))
                                  )
                                ) (
                                  cond (icmp .gtr r76.1 (IntKind.wrap .u64 ((u74.1 : Nat) : Int))) (
                                    let x47 := (icmp .eql r76.2.2.2.2 0)
                                    cond x47 (
                                      some (icmp .eql ((r75.1.1 : Nat) : Int) ((u74.1 : Nat) : Int))
                                    ) (
                                      cond x47 (
                                        none
                                      ) (
                                        some (icmp .eql ((r75.1.1 : Nat) : Int) ((u74.1 : Nat) : Int))
                                      )
                                    )
                                  ) (
                                    cond (icmp .gtr r76.1 (IntKind.wrap .u64 ((r76.2.2.2.1.2.1 : Nat) : Int))) (
                                      let x48 := (icmp .eql r76.2.2.2.2 0)
                                      cond x48 (
                                        some (icmp .eql ((r75.1.1 : Nat) : Int) ((u74.1 : Nat) : Int))
                                      ) (
                                        cond x48 (
                                          none
                                        ) (
                                          some (icmp .eql ((r75.1.1 : Nat) : Int) ((u74.1 : Nat) : Int))
                                        )
                                      )
                                    ) (
                                      let x49 := (decide ((0 : Int) ≤ r76.1 ∧ r76.1 ≤ ((r76.2.2.2.1.2.1 : Nat) : Int)))
                                      cond x49 (
                                        mo (slices_Clone_of_byte_byte (((Int.toNat r76.1), (List.take (Int.toNat r76.1) (List.drop r76.2.2.2.1.1 r76.2.1.2))), ())) none fun r77 =>
                                        cond x49 (
                                          cond (icmp .eql r76.2.2.2.2 0) (
                                            mo (wire_AppendBytes_nil N () ((r77.1.1, r77.1.2), ())) none fun r78 =>
                                            let x50 := (ibin .sub .i64 ((u74.1 : Nat) : Int) (((r76.2.2.2.1.2.1 - (Int.toNat r76.1)) : Nat) : Int))
                                            cond (decide ((0 : Int) ≤ x50 ∧ x50 ≤ ((u74.1 : Nat) : Int))) (
                                              let x51 := (Int.toNat x50)
                                              some (veillaw10_same ((r78.1.1, r78.1.2), ()) ((x51, (List.take x51 (List.drop 0 u74.2.2))), ()))
                                            ) (
                                              none
                                            )
                                          ) (
                                            cond (icmp .eql ((r77.1.1 : Nat) : Int) 0) (
                                              some (icmp .eql (((r76.2.2.2.1.2.1 - (Int.toNat r76.1)) : Nat) : Int) ((u74.1 : Nat) : Int))
                                            ) (
                                              some false
                                            )
                                          )
                                        ) (
                                          none
                                        )
                                      ) (
                                        none
                                      )
                                    )
                                  )
                                )
                              )
                            )
                          )
                          | .inr w79 => (
                            some false
                          )
                        ) (
                          mo x1 none fun r80 =>
                          cond (icmp .lss x43 0) (
                            some (icmp .eql ((r80.1.1 : Nat) : Int) x43)
                          ) (
                            mo (io_veillaw10_WireOne_p_wire_Reader_count N () ((r80.1.1, r80.1.2), ((), (0, r80.1.1, 0), 0))) none fun r81 =>
                            cond (icmp .neq r81.2.2.2.2 0) (
                              cond (icmp .eql r81.2.2.2.2 0) (
                                none
                              ) (
                                some (icmp .eql ((r81.2.2.2.1.2.1 : Nat) : Int) x43)
                              )
                            ) (
                              cond (icmp .gtr r81.1 (IntKind.wrap .u64 x43)) (
                                let x52 := (icmp .eql r81.2.2.2.2 0)
                                cond x52 (
                                  some (icmp .eql ((r80.1.1 : Nat) : Int) x43)
                                ) (
                                  cond x52 (
                                    none
                                  ) (
                                    some (icmp .eql ((r80.1.1 : Nat) : Int) x43)
                                  )
                                )
                              ) (
                                cond (icmp .gtr r81.1 (IntKind.wrap .u64 ((r81.2.2.2.1.2.1 : Nat) : Int))) (
                                  let x53 := (icmp .eql r81.2.2.2.2 0)
                                  cond x53 (
                                    some (icmp .eql ((r80.1.1 : Nat) : Int) x43)
                                  ) (
                                    cond x53 (
                                      none
                                    ) (
                                      some (icmp .eql ((r80.1.1 : Nat) : Int) x43)
                                    )
                                  )
                                ) (
                                  let x54 := (decide ((0 : Int) ≤ r81.1 ∧ r81.1 ≤ ((r81.2.2.2.1.2.1 : Nat) : Int)))
                                  cond x54 (
                                    mo (slices_Clone_of_byte_byte (((Int.toNat r81.1), (List.take (Int.toNat r81.1) (List.drop r81.2.2.2.1.1 r81.2.1.2))), ())) none fun r82 =>
                                    cond x54 (
                                      cond (icmp .eql r81.2.2.2.2 0) (
                                        mo (wire_AppendBytes_nil N () ((r82.1.1, r82.1.2), ())) none fun r83 =>
                                        let x55 := (ibin .sub .i64 x43 (((r81.2.2.2.1.2.1 - (Int.toNat r81.1)) : Nat) : Int))
                                        cond (decide ((0 : Int) ≤ x55 ∧ x55 ≤ ((a.1.1 : Nat) : Int))) (
                                          let x56 := (Int.toNat x55)
                                          some (veillaw10_same ((r83.1.1, r83.1.2), ()) ((x56, (List.take x56 (List.drop 0 a.1.2))), ()))
                                        ) (
                                          none
                                        )
                                      ) (
                                        cond (icmp .eql ((r82.1.1 : Nat) : Int) 0) (
                                          some (icmp .eql (((r81.2.2.2.1.2.1 - (Int.toNat r81.1)) : Nat) : Int) x43)
                                        ) (
                                          some false
                                        )
                                      )
                                    ) (
                                      none
                                    )
                                  ) (
                                    none
                                  )
                                )
                              )
                            )
                          )
                        )
                      )
                    ) (
                      cond (icmp .neq r65.2.2.2.2 102) (
                        some false
                      ) (
                        cond (icmp .neq ((r64.1.1 : Nat) : Int) x43) (
                          some false
                        ) (
                          cond (icmp .eql r3.2.2.2.2 100) (
                            mo (loopF (veillaw10_WireOne_l0 N) N ((a.1.1, (), 0), (a.1.1, a.1.2))) none fun r91 =>
                            match r91 with
                            | .inl u92 => (
                              cond (icmp .gtr ((u92.1 : Nat) : Int) 9) (
                                some false
                              ) (
                                mo (slices_Clone_of_byte_byte ((u92.2.1, u92.2.2), ())) none fun r93 =>
                                cond (icmp .lss ((u92.1 : Nat) : Int) 0) (
                                  some (icmp .eql ((r93.1.1 : Nat) : Int) ((u92.1 : Nat) : Int))
                                ) (
                                  mo (io_veillaw10_WireOne_p_wire_Reader_count N () ((r93.1.1, r93.1.2), ((), (0, r93.1.1, 0), 0))) none fun r94 =>
                                  cond (icmp .neq r94.2.2.2.2 0) (
                                    cond (icmp .eql r94.2.2.2.2 0) (
                                      none
                                    ) (
                                      some (icmp .eql ((r94.2.2.2.1.2.1 : Nat) : Int) ((u92.1 : Nat) : Int))
                                    )
                                  ) (
                                    cond (icmp .gtr r94.1 (IntKind.wrap .u64 ((u92.1 : Nat) : Int))) (
                                      let x57 := (icmp .eql r94.2.2.2.2 0)
                                      cond x57 (
                                        some (icmp .eql ((r93.1.1 : Nat) : Int) ((u92.1 : Nat) : Int))
                                      ) (
                                        cond x57 (
                                          none
                                        ) (
                                          some (icmp .eql ((r93.1.1 : Nat) : Int) ((u92.1 : Nat) : Int))
                                        )
                                      )
                                    ) (
                                      cond (icmp .gtr r94.1 (IntKind.wrap .u64 ((r94.2.2.2.1.2.1 : Nat) : Int))) (
                                        let x58 := (icmp .eql r94.2.2.2.2 0)
                                        cond x58 (
                                          some (icmp .eql ((r93.1.1 : Nat) : Int) ((u92.1 : Nat) : Int))
                                        ) (
                                          cond x58 (
                                            none
                                          ) (
                                            some (icmp .eql ((r93.1.1 : Nat) : Int) ((u92.1 : Nat) : Int))
                                          )
                                        )
                                      ) (
                                        let x59 := (decide ((0 : Int) ≤ r94.1 ∧ r94.1 ≤ ((r94.2.2.2.1.2.1 : Nat) : Int)))
                                        cond x59 (
                                          mo (slices_Clone_of_byte_byte (((Int.toNat r94.1), (List.take (Int.toNat r94.1) (List.drop r94.2.2.2.1.1 r94.2.1.2))), ())) none fun r95 =>
                                          cond x59 (
                                            cond (icmp .eql r94.2.2.2.2 0) (
                                              mo (wire_AppendBytes_nil N () ((r95.1.1, r95.1.2), ())) none fun r96 =>
                                              let x60 := (ibin .sub .i64 ((u92.1 : Nat) : Int) (((r94.2.2.2.1.2.1 - (Int.toNat r94.1)) : Nat) : Int))
                                              cond (decide ((0 : Int) ≤ x60 ∧ x60 ≤ ((u92.1 : Nat) : Int))) (
                                                let x61 := (Int.toNat x60)
                                                some (veillaw10_same ((r96.1.1, r96.1.2), ()) ((x61, (List.take x61 (List.drop 0 u92.2.2))), ()))
                                              ) (
                                                none
                                              )
                                            ) (
                                              cond (icmp .eql ((r95.1.1 : Nat) : Int) 0) (
                                                some (icmp .eql (((r94.2.2.2.1.2.1 - (Int.toNat r94.1)) : Nat) : Int) ((u92.1 : Nat) : Int))
                                              ) (
                                                some false
                                              )
                                            )
                                          ) (
                                            none
                                          )
                                        ) (
                                          none
                                        )
                                      )
                                    )
                                  )
                                )
                              )
                            )
                            | .inr w97 => (
                              some false
                            )
                          ) (
                            mo x1 none fun r98 =>
                            cond (icmp .lss x43 0) (
                              some (icmp .eql ((r98.1.1 : Nat) : Int) x43)
                            ) (
                              mo (io_veillaw10_WireOne_p_wire_Reader_count N () ((r98.1.1, r98.1.2), ((), (0, r98.1.1, 0), 0))) none fun r99 =>
                              cond (icmp .neq r99.2.2.2.2 0) (
                                cond (icmp .eql r99.2.2.2.2 0) (
                                  none
                                ) (
                                  some (icmp .eql ((r99.2.2.2.1.2.1 : Nat) : Int) x43)
                                )
                              ) (
                                cond (icmp .gtr r99.1 (IntKind.wrap .u64 x43)) (
                                  let x62 := (icmp .eql r99.2.2.2.2 0)
                                  cond x62 (
                                    some (icmp .eql ((r98.1.1 : Nat) : Int) x43)
                                  ) (
                                    cond x62 (
                                      none
                                    ) (
                                      some (icmp .eql ((r98.1.1 : Nat) : Int) x43)
                                    )
                                  )
                                ) (
                                  cond (icmp .gtr r99.1 (IntKind.wrap .u64 ((r99.2.2.2.1.2.1 : Nat) : Int))) (
                                    let x63 := (icmp .eql r99.2.2.2.2 0)
                                    cond x63 (
                                      some (icmp .eql ((r98.1.1 : Nat) : Int) x43)
                                    ) (
                                      cond x63 (
                                        none
                                      ) (
                                        some (icmp .eql ((r98.1.1 : Nat) : Int) x43)
                                      )
                                    )
                                  ) (
                                    let x64 := (decide ((0 : Int) ≤ r99.1 ∧ r99.1 ≤ ((r99.2.2.2.1.2.1 : Nat) : Int)))
                                    cond x64 (
                                      mo (slices_Clone_of_byte_byte (((Int.toNat r99.1), (List.take (Int.toNat r99.1) (List.drop r99.2.2.2.1.1 r99.2.1.2))), ())) none fun r100 =>
                                      cond x64 (
                                        cond (icmp .eql r99.2.2.2.2 0) (
                                          mo (wire_AppendBytes_nil N () ((r100.1.1, r100.1.2), ())) none fun r101 =>
                                          let x65 := (ibin .sub .i64 x43 (((r99.2.2.2.1.2.1 - (Int.toNat r99.1)) : Nat) : Int))
                                          cond (decide ((0 : Int) ≤ x65 ∧ x65 ≤ ((a.1.1 : Nat) : Int))) (
                                            let x66 := (Int.toNat x65)
                                            some (veillaw10_same ((r101.1.1, r101.1.2), ()) ((x66, (List.take x66 (List.drop 0 a.1.2))), ()))
                                          ) (
                                            none
                                          )
                                        ) (
                                          cond (icmp .eql ((r100.1.1 : Nat) : Int) 0) (
                                            some (icmp .eql (((r99.2.2.2.1.2.1 - (Int.toNat r99.1)) : Nat) : Int) x43)
                                          ) (
                                            some false
                                          )
                                        )
                                      ) (
                                        none
                                      )
                                    ) (
                                      none
                                    )
                                  )
                                )
                              )
                            )
                          )
                        )
                      )
                    )
                  ) (
                    cond (icmp .neq r65.1 0) (
                      some false
                    ) (
                      cond (icmp .neq r65.2.2.2.2 102) (
                        some false
                      ) (
                        cond (icmp .neq ((r65.2.2.2.1.2.1 : Nat) : Int) x43) (
                          some false
                        ) (
                          cond (icmp .eql r3.2.2.2.2 100) (
                            mo (loopF (veillaw10_WireOne_l0 N) N ((a.1.1, (), 0), (a.1.1, a.1.2))) none fun r109 =>
                            match r109 with
                            | .inl u110 => (
                              cond (icmp .gtr ((u110.1 : Nat) : Int) 9) (
                                some false
                              ) (
                                mo (slices_Clone_of_byte_byte ((u110.2.1, u110.2.2), ())) none fun r111 =>
                                cond (icmp .lss ((u110.1 : Nat) : Int) 0) (
                                  some (icmp .eql ((r111.1.1 : Nat) : Int) ((u110.1 : Nat) : Int))
                                ) (
                                  mo (io_veillaw10_WireOne_p_wire_Reader_count N () ((r111.1.1, r111.1.2), ((), (0, r111.1.1, 0), 0))) none fun r112 =>
                                  cond (icmp .neq r112.2.2.2.2 0) (
                                    cond (icmp .eql r112.2.2.2.2 0) (
                                      none
                                    ) (
                                      some (icmp .eql ((r112.2.2.2.1.2.1 : Nat) : Int) ((u110.1 : Nat) : Int))
                                    )
                                  ) (
                                    cond (icmp .gtr r112.1 (IntKind.wrap .u64 ((u110.1 : Nat) : Int))) (
                                      let x67 := (icmp .eql r112.2.2.2.2 0)
                                      cond x67 (
                                        some (icmp .eql ((r111.1.1 : Nat) : Int) ((u110.1 : Nat) : Int))
                                      ) (
                                        cond x67 (
                                          none
                                        ) (
                                          some (icmp .eql ((r111.1.1 : Nat) : Int) ((u110.1 : Nat) : Int))
                                        )
                                      )
                                    ) (
                                      cond (icmp .gtr r112.1 (IntKind.wrap .u64 ((r112.2.2.2.1.2.1 : Nat) : Int))) (
                                        let x68 := (icmp .eql r112.2.2.2.2 0)
                                        cond x68 (
                                          some (icmp .eql ((r111.1.1 : Nat) : Int) ((u110.1 : Nat) : Int))
                                        ) (
                                          cond x68 (
                                            none
                                          ) (
                                            some (icmp .eql ((r111.1.1 : Nat) : Int) ((u110.1 : Nat) : Int))
                                          )
                                        )
                                      ) (
                                        let x69 := (decide ((0 : Int) ≤ r112.1 ∧ r112.1 ≤ ((r112.2.2.2.1.2.1 : Nat) : Int)))
                                        cond x69 (
                                          mo (slices_Clone_of_byte_byte (((Int.toNat r112.1), (List.take (Int.toNat r112.1) (List.drop r112.2.2.2.1.1 r112.2.1.2))), ())) none fun r113 =>
                                          cond x69 (
                                            cond (icmp .eql r112.2.2.2.2 0) (
                                              mo (wire_AppendBytes_nil N () ((r113.1.1, r113.1.2), ())) none fun r114 =>
                                              let x70 := (ibin .sub .i64 ((u110.1 : Nat) : Int) (((r112.2.2.2.1.2.1 - (Int.toNat r112.1)) : Nat) : Int))
                                              cond (decide ((0 : Int) ≤ x70 ∧ x70 ≤ ((u110.1 : Nat) : Int))) (
                                                let x71 := (Int.toNat x70)
                                                some (veillaw10_same ((r114.1.1, r114.1.2), ()) ((x71, (List.take x71 (List.drop 0 u110.2.2))), ()))
                                              ) (
                                                none
                                              )
                                            ) (
                                              cond (icmp .eql ((r113.1.1 : Nat) : Int) 0) (
                                                some (icmp .eql (((r112.2.2.2.1.2.1 - (Int.toNat r112.1)) : Nat) : Int) ((u110.1 : Nat) : Int))
                                              ) (
                                                some false
                                              )
                                            )
                                          ) (
                                            none
                                          )
                                        ) (
                                          none
                                        )
                                      )
                                    )
                                  )
                                )
                              )
                            )
                            | .inr w115 => (
                              some false
                            )
                          ) (
                            mo x1 none fun r116 =>
                            cond (icmp .lss x43 0) (
                              some (icmp .eql ((r116.1.1 : Nat) : Int) x43)
                            ) (
                              mo (io_veillaw10_WireOne_p_wire_Reader_count N () ((r116.1.1, r116.1.2), ((), (0, r116.1.1, 0), 0))) none fun r117 =>
                              cond (icmp .neq r117.2.2.2.2 0) (
                                cond (icmp .eql r117.2.2.2.2 0) (
                                  none
                                ) (
                                  some (icmp .eql ((r117.2.2.2.1.2.1 : Nat) : Int) x43)
                                )
                              ) (
                                cond (icmp .gtr r117.1 (IntKind.wrap .u64 x43)) (
                                  let x72 := (icmp .eql r117.2.2.2.2 0)
                                  cond x72 (
                                    some (icmp .eql ((r116.1.1 : Nat) : Int) x43)
                                  ) (
                                    cond x72 (
                                      none
                                    ) (
                                      some (icmp .eql ((r116.1.1 : Nat) : Int) x43)
                                    )
                                  )
                                ) (
                                  cond (icmp .gtr r117.1 (IntKind.wrap .u64 ((r117.2.2.2.1.2.1 : Nat) : Int))) (
                                    let x73 := (icmp .eql r117.2.2.2.2 0)
                                    cond x73 (
                                      some (icmp .eql ((r116.1.1 : Nat) : Int) x43)
                                    ) (
                                      cond x73 (
                                        none
                                      ) (
                                        some (icmp .eql ((r116.1.1 : Nat) : Int) x43)
                                      )
                                    )
                                  ) (
                                    let x74 := (decide ((0 : Int) ≤ r117.1 ∧ r117.1 ≤ ((r117.2.2.2.1.2.1 : Nat) : Int)))
                                    cond x74 (
                                      mo (slices_Clone_of_byte_byte (((Int.toNat r117.1), (List.take (Int.toNat r117.1) (List.drop r117.2.2.2.1.1 r117.2.1.2))), ())) none fun r118 =>
                                      cond x74 (
                                        cond (icmp .eql r117.2.2.2.2 0) (
                                          mo (wire_AppendBytes_nil N () ((r118.1.1, r118.1.2), ())) none fun r119 =>
                                          let x75 := (ibin .sub .i64 x43 (((r117.2.2.2.1.2.1 - (Int.toNat r117.1)) : Nat) : Int))
                                          cond (decide ((0 : Int) ≤ x75 ∧ x75 ≤ ((a.1.1 : Nat) : Int))) (
                                            let x76 := (Int.toNat x75)
                                            some (veillaw10_same ((r119.1.1, r119.1.2), ()) ((x76, (List.take x76 (List.drop 0 a.1.2))), ()))
                                          ) (
                                            none
                                          )
                                        ) (
                                          cond (icmp .eql ((r118.1.1 : Nat) : Int) 0) (
                                            some (icmp .eql (((r117.2.2.2.1.2.1 - (Int.toNat r117.1)) : Nat) : Int) x43)
                                          ) (
                                            some false
                                          )
                                        )
                                      ) (
                                        none
                                      )
                                    ) (
                                      none
                                    )
                                  )
                                )
                              )
                            )
                          )
                        )
                      )
                    )
                  )
                ) (
                  cond (icmp .neq r65.1 0) (
                    some false
                  ) (
                    cond (icmp .neq r65.2.2.2.2 102) (
                      some false
                    ) (
                      cond (icmp .neq ((r65.2.2.2.1.2.1 : Nat) : Int) x43) (
                        some false
                      ) (
                        cond (icmp .eql r3.2.2.2.2 100) (
                          mo (loopF (veillaw10_WireOne_l0 N) N ((a.1.1, (), 0), (a.1.1, a.1.2))) none fun r127 =>
                          match r127 with
                          | .inl u128 => (
                            cond (icmp .gtr ((u128.1 : Nat) : Int) 9) (
                              some false
                            ) (
                              mo (slices_Clone_of_byte_byte ((u128.2.1, u128.2.2), ())) none fun r129 =>
                              cond (icmp .lss ((u128.1 : Nat) : Int) 0) (
                                some (icmp .eql ((r129.1.1 : Nat) : Int) ((u128.1 : Nat) : Int))
                              ) (
                                mo (io_veillaw10_WireOne_p_wire_Reader_count N () ((r129.1.1, r129.1.2), ((), (0, r129.1.1, 0), 0))) none fun r130 =>
                                cond (icmp .neq r130.2.2.2.2 0) (
                                  cond (icmp .eql r130.2.2.2.2 0) (
                                    none
                                  ) (
                                    some (icmp .eql ((r130.2.2.2.1.2.1 : Nat) : Int) ((u128.1 : Nat) : Int))
                                  )
                                ) (
                                  cond (icmp .gtr r130.1 (IntKind.wrap .u64 ((u128.1 : Nat) : Int))) (
                                    let x77 := (icmp .eql r130.2.2.2.2 0)
                                    cond x77 (
                                      some (icmp .eql ((r129.1.1 : Nat) : Int) ((u128.1 : Nat) : Int))
                                    ) (
                                      cond x77 (
                                        none
                                      ) (
                                        some (icmp .eql ((r129.1.1 : Nat) : Int) ((u128.1 : Nat) : Int))
                                      )
                                    )
                                  ) (
                                    cond (icmp .gtr r130.1 (IntKind.wrap .u64 ((r130.2.2.2.1.2.1 : Nat) : Int))) (
                                      let x78 := (icmp .eql r130.2.2.2.2 0)
                                      cond x78 (
                                        some (icmp .eql ((r129.1.1 : Nat) : Int) ((u128.1 : Nat) : Int))
                                      ) (
                                        cond x78 (
                                          none
                                        ) (
                                          some (icmp .eql ((r129.1.1 : Nat) : Int) ((u128.1 : Nat) : Int))
                                        )
                                      )
                                    ) (
                                      let x79 := (decide ((0 : Int) ≤ r130.1 ∧ r130.1 ≤ ((r130.2.2.2.1.2.1 : Nat) : Int)))
                                      cond x79 (
                                        mo (slices_Clone_of_byte_byte (((Int.toNat r130.1), (List.take (Int.toNat r130.1) (List.drop r130.2.2.2.1.1 r130.2.1.2))), ())) none fun r131 =>
                                        cond x79 (
                                          cond (icmp .eql r130.2.2.2.2 0) (
                                            mo (wire_AppendBytes_nil N () ((r131.1.1, r131.1.2), ())) none fun r132 =>
                                            let x80 := (ibin .sub .i64 ((u128.1 : Nat) : Int) (((r130.2.2.2.1.2.1 - (Int.toNat r130.1)) : Nat) : Int))
                                            cond (decide ((0 : Int) ≤ x80 ∧ x80 ≤ ((u128.1 : Nat) : Int))) (
                                              let x81 := (Int.toNat x80)
                                              some (veillaw10_same ((r132.1.1, r132.1.2), ()) ((x81, (List.take x81 (List.drop 0 u128.2.2))), ()))
                                            ) (
                                              none
                                            )
                                          ) (
                                            cond (icmp .eql ((r131.1.1 : Nat) : Int) 0) (
                                              some (icmp .eql (((r130.2.2.2.1.2.1 - (Int.toNat r130.1)) : Nat) : Int) ((u128.1 : Nat) : Int))
                                            ) (
                                              some false
                                            )
                                          )
                                        ) (
                                          none
                                        )
                                      ) (
                                        none
                                      )
                                    )
                                  )
                                )
                              )
                            )
                          )
                          | .inr w133 => (
                            some false
                          )
                        ) (
                          mo x1 none fun r134 =>
                          cond (icmp .lss x43 0) (
                            some (icmp .eql ((r134.1.1 : Nat) : Int) x43)
                          ) (
                            mo (io_veillaw10_WireOne_p_wire_Reader_count N () ((r134.1.1, r134.1.2), ((), (0, r134.1.1, 0), 0))) none fun r135 =>
                            cond (icmp .neq r135.2.2.2.2 0) (
                              cond (icmp .eql r135.2.2.2.2 0) (
                                none
                              ) (
                                some (icmp .eql ((r135.2.2.2.1.2.1 : Nat) : Int) x43)
                              )
                            ) (
                              cond (icmp .gtr r135.1 (IntKind.wrap .u64 x43)) (
                                let x82 := (icmp .eql r135.2.2.2.2 0)
                                cond x82 (
                                  some (icmp .eql ((r134.1.1 : Nat) : Int) x43)
                                ) (
                                  cond x82 (
                                    none
                                  ) (
                                    some (icmp .eql ((r134.1.1 : Nat) : Int) x43)
                                  )
                                )
                              ) (
                                cond (icmp .gtr r135.1 (IntKind.wrap .u64 ((r135.2.2.2.1.2.1 : Nat) : Int))) (
                                  let x83 := (icmp .eql r135.2.2.2.2 0)
                                  cond x83 (
                                    some (icmp .eql ((r134.1.1 : Nat) : Int) x43)
                                  ) (
                                    cond x83 (
                                      none
                                    ) (
                                      some (icmp .eql ((r134.1.1 : Nat) : Int) x43)
                                    )
                                  )
                                ) (
                                  let x84 := (decide ((0 : Int) ≤ r135.1 ∧ r135.1 ≤ ((r135.2.2.2.1.2.1 : Nat) : Int)))
                                  cond x84 (
                                    mo (slices_Clone_of_byte_byte (((Int.toNat r135.1), (List.take (Int.toNat r135.1) (List.drop r135.2.2.2.1.1 r135.2.1.2))), ())) none fun r136 =>
                                    cond x84 (
                                      cond (icmp .eql r135.2.2.2.2 0) (
                                        mo (wire_AppendBytes_nil N () ((r136.1.1, r136.1.2), ())) none fun r137 =>
                                        let x85 := (ibin .sub .i64 x43 (((r135.2.2.2.1.2.1 - (Int.toNat r135.1)) : Nat) : Int))
                                        cond (decide ((0 : Int) ≤ x85 ∧ x85 ≤ ((a.1.1 : Nat) : Int))) (
                                          let x86 := (Int.toNat x85)
                                          some (veillaw10_same ((r137.1.1, r137.1.2), ()) ((x86, (List.take x86 (List.drop 0 a.1.2))), ()))
                                        ) (
                                          none
                                        )
                                      ) (
                                        cond (icmp .eql ((r136.1.1 : Nat) : Int) 0) (
                                          some (icmp .eql (((r135.2.2.2.1.2.1 - (Int.toNat r135.1)) : Nat) : Int) x43)
                                        ) (
                                          some false
                                        )
                                      )
                                    ) (
                                      none
                                    )
                                  ) (
                                    none
                                  )
                                )
                              )
                            )
                          )
                        )
                      )
                    )
                  )
                )
              ) (
                cond (icmp .eql r3.2.2.2.2 100) (
                  mo (loopF (veillaw10_WireOne_l0 N) N ((a.1.1, (), 0), (a.1.1, a.1.2))) none fun r145 =>
                  match r145 with
                  | .inl u146 => (
                    cond (icmp .gtr ((u146.1 : Nat) : Int) 9) (
                      some false
                    ) (
                      mo (slices_Clone_of_byte_byte ((u146.2.1, u146.2.2), ())) none fun r147 =>
                      cond (icmp .lss ((u146.1 : Nat) : Int) 0) (
                        some (icmp .eql ((r147.1.1 : Nat) : Int) ((u146.1 : Nat) : Int))
                      ) (
                        mo (io_veillaw10_WireOne_p_wire_Reader_count N () ((r147.1.1, r147.1.2), ((), (0, r147.1.1, 0), 0))) none fun r148 =>
                        cond (icmp .neq r148.2.2.2.2 0) (
                          cond (icmp .eql r148.2.2.2.2 0) (
                            none
                          ) (
                            some (icmp .eql ((r148.2.2.2.1.2.1 : Nat) : Int) ((u146.1 : Nat) : Int))
                          )
                        ) (
                          cond (icmp .gtr r148.1 (IntKind.wrap .u64 ((u146.1 : Nat) : Int))) (
                            let x87 := (icmp .eql r148.2.2.2.2 0)
                            cond x87 (
                              some (icmp .eql ((r147.1.1 : Nat) : Int) ((u146.1 : Nat) : Int))
                            ) (
                              cond x87 (
                                none
                              ) (
                                some (icmp .eql ((r147.1.1 : Nat) : Int) ((u146.1 : Nat) : Int))
                              )
                            )
                          ) (
                            cond (icmp .gtr r148.1 (IntKind.wrap .u64 ((r148.2.2.2.1.2.1 : Nat) : Int))) (
                              let x88 := (icmp .eql r148.2.2.2.2 0)
                              cond x88 (
                                some (icmp .eql ((r147.1.1 : Nat) : Int) ((u146.1 : Nat) : Int))
                              ) (
                                cond x88 (
                                  none
                                ) (
                                  some (icmp .eql ((r147.1.1 : Nat) : Int) ((u146.1 : Nat) : Int))
                                )
                              )
                            ) (
                              let x89 := (decide ((0 : Int) ≤ r148.1 ∧ r148.1 ≤ ((r148.2.2.2.1.2.1 : Nat) : Int)))
                              cond x89 (
                                mo (slices_Clone_of_byte_byte (((Int.toNat r148.1), (List.take (Int.toNat r148.1) (List.drop r148.2.2.2.1.1 r148.2.1.2))), ())) none fun r149 =>
                                cond x89 (
                                  cond (icmp .eql r148.2.2.2.2 0) (
                                    mo (wire_AppendBytes_nil N () ((r149.1.1, r149.1.2), ())) none fun r150 =>
                                    let x90 := (ibin .sub .i64 ((u146.1 : Nat) : Int) (((r148.2.2.2.1.2.1 - (Int.toNat r148.1)) : Nat) : Int))
                                    cond (decide ((0 : Int) ≤ x90 ∧ x90 ≤ ((u146.1 : Nat) : Int))) (
                                      let x91 := (Int.toNat x90)
                                      some (veillaw10_same ((r150.1.1, r150.1.2), ()) ((x91, (List.take x91 (List.drop 0 u146.2.2))), ()))
                                    ) (
                                      none
                                    )
                                  ) (
                                    cond (icmp .eql ((r149.1.1 : Nat) : Int) 0) (
                                      some (icmp .eql (((r148.2.2.2.1.2.1 - (Int.toNat r148.1)) : Nat) : Int) ((u146.1 : Nat) : Int))
                                    ) (
                                      some false
                                    )
                                  )
                                ) (
                                  none
                                )
                              ) (
                                none
                              )
                            )
                          )
                        )
                      )
                    )
                  )
                  | .inr w151 => (
                    some false
                  )
                ) (
                  mo x1 none fun r152 =>
                  cond (icmp .lss x43 0) (
                    some (icmp .eql ((r152.1.1 : Nat) : Int) x43)
                  ) (
                    mo (io_veillaw10_WireOne_p_wire_Reader_count N () ((r152.1.1, r152.1.2), ((), (0, r152.1.1, 0), 0))) none fun r153 =>
                    cond (icmp .neq r153.2.2.2.2 0) (
                      cond (icmp .eql r153.2.2.2.2 0) (
                        none
                      ) (
                        some (icmp .eql ((r153.2.2.2.1.2.1 : Nat) : Int) x43)
                      )
                    ) (
                      cond (icmp .gtr r153.1 (IntKind.wrap .u64 x43)) (
                        let x92 := (icmp .eql r153.2.2.2.2 0)
                        cond x92 (
                          some (icmp .eql ((r152.1.1 : Nat) : Int) x43)
                        ) (
                          cond x92 (
                            none
                          ) (
                            some (icmp .eql ((r152.1.1 : Nat) : Int) x43)
                          )
                        )
                      ) (
                        cond (icmp .gtr r153.1 (IntKind.wrap .u64 ((r153.2.2.2.1.2.1 : Nat) : Int))) (
                          let x93 := (icmp .eql r153.2.2.2.2 0)
                          cond x93 (
                            some (icmp .eql ((r152.1.1 : Nat) : Int) x43)
                          ) (
                            cond x93 (
                              none
                            ) (
                              some (icmp .eql ((r152.1.1 : Nat) : Int) x43)
                            )
                          )
                        ) (
                          let x94 := (decide ((0 : Int) ≤ r153.1 ∧ r153.1 ≤ ((r153.2.2.2.1.2.1 : Nat) : Int)))
                          cond x94 (
                            mo (slices_Clone_of_byte_byte (((Int.toNat r153.1), (List.take (Int.toNat r153.1) (List.drop r153.2.2.2.1.1 r153.2.1.2))), ())) none fun r154 =>
                            cond x94 (
                              cond (icmp .eql r153.2.2.2.2 0) (
                                mo (wire_AppendBytes_nil N () ((r154.1.1, r154.1.2), ())) none fun r155 =>
                                let x95 := (ibin .sub .i64 x43 (((r153.2.2.2.1.2.1 - (Int.toNat r153.1)) : Nat) : Int))
                                cond (decide ((0 : Int) ≤ x95 ∧ x95 ≤ ((a.1.1 : Nat) : Int))) (
                                  let x96 := (Int.toNat x95)
                                  some (veillaw10_same ((r155.1.1, r155.1.2), ()) ((x96, (List.take x96 (List.drop 0 a.1.2))), ()))
                                ) (
                                  none
                                )
                              ) (
                                cond (icmp .eql ((r154.1.1 : Nat) : Int) 0) (
                                  some (icmp .eql (((r153.2.2.2.1.2.1 - (Int.toNat r153.1)) : Nat) : Int) x43)
                                ) (
                                  some false
                                )
                              )
                            ) (
                              none
                            )
                          ) (
                            none
                          )
                        )
                      )
                    )
                  )
                )
              )
            )
          ) (
            none
          )
        ) (
          let x97 := ((a.1.1 : Nat) : Int)
          cond (icmp .neq ((r3.2.2.2.1.2.1 : Nat) : Int) x97) (
            some false
          ) (
            cond (icmp .neq r3.1 0) (
              some false
            ) (
              cond (icmp .neq r3.2.2.2.2 100) (
                cond (icmp .neq r3.2.2.2.2 102) (
                  some false
                ) (
                  cond (icmp .eql r3.2.2.2.2 100) (
                    mo (loopF (veillaw10_WireOne_l0 N) N ((a.1.1, (), 0), (a.1.1, a.1.2))) none fun r163 =>
                    match r163 with
                    | .inl u164 => (
                      cond (icmp .gtr ((u164.1 : Nat) : Int) 9) (
                        some false
                      ) (
                        mo (slices_Clone_of_byte_byte ((u164.2.1, u164.2.2), ())) none fun r165 =>
                        cond (icmp .lss ((u164.1 : Nat) : Int) 0) (
                          some (icmp .eql ((r165.1.1 : Nat) : Int) ((u164.1 : Nat) : Int))
                        ) (
                          mo (io_veillaw10_WireOne_p_wire_Reader_count N () ((r165.1.1, r165.1.2), ((), (0, r165.1.1, 0), 0))) none fun r166 =>
                          cond (icmp .neq r166.2.2.2.2 0) (
                            cond (icmp .eql r166.2.2.2.2 0) (
                              none
                            ) (
                              some (icmp .eql ((r166.2.2.2.1.2.1 : Nat) : Int) ((u164.1 : Nat) : Int))
                            )
                          ) (
                            cond (icmp .gtr r166.1 (IntKind.wrap .u64 ((u164.1 : Nat) : Int))) (
                              let x98 := (icmp .eql r166.2.2.2.2 0)
                              cond x98 (
                                some (icmp .eql ((r165.1.1 : Nat) : Int) ((u164.1 : Nat) : Int))
                              ) (
                                cond x98 (
                                  none
                                ) (
                                  some (icmp .eql ((r165.1.1 : Nat) : Int) ((u164.1 : Nat) : Int))
                                )
                              )
                            ) (
                              cond (icmp .gtr r166.1 (IntKind.wrap .u64 ((r166.2.2.2.1.2.1 : Nat) : Int))) (
                                let x99 := (icmp .eql r166.2.2.2.2 0)
                                cond x99 (
                                  some (icmp .eql ((r165.1.1 : Nat) : Int) ((u164.1 : Nat) : Int))
                                ) (
                                  cond x99 (
                                    none
                                  ) (
                                    some (icmp .eql ((r165.1.1 : Nat) : Int) ((u164.1 : Nat) : Int))
                                  )
                                )
                              ) (
                                let x100 := (decide ((0 : Int) ≤ r166.1 ∧ r166.1 ≤ ((r166.2.2.2.1.2.1 : Nat) : Int)))
                                cond x100 (
                                  mo (slices_Clone_of_byte_byte (((Int.toNat r166.1), (List.take (Int.toNat r166.1) (List.drop r166.2.2.2.1.1 r166.2.1.2))), ())) none fun r167 =>
                                  cond x100 (
                                    cond (icmp .eql r166.2.2.2.2 0) (
                                      mo (wire_AppendBytes_nil N () ((r167.1.1, r167.1.2), ())) none fun r168 =>
                                      let x101 := (ibin .sub .i64 ((u164.1 : Nat) : Int) (((r166.2.2.2.1.2.1 - (Int.toNat r166.1)) : Nat) : Int))
                                      cond (decide ((0 : Int) ≤ x101 ∧ x101 ≤ ((u164.1 : Nat) : Int))) (
                                        let x102 := (Int.toNat x101)
                                        some (veillaw10_same ((r168.1.1, r168.1.2), ()) ((x102, (List.take x102 (List.drop 0 u164.2.2))), ()))
                                      ) (
                                        none
                                      )
                                    ) (
                                      cond (icmp .eql ((r167.1.1 : Nat) : Int) 0) (
                                        some (icmp .eql (((r166.2.2.2.1.2.1 - (Int.toNat r166.1)) : Nat) : Int) ((u164.1 : Nat) : Int))
                                      ) (
                                        some false
                                      )
                                    )
                                  ) (
                                    none
                                  )
                                ) (
                                  none
                                )
                              )
                            )
                          )
                        )
                      )
                    )
                    | .inr w169 => (
                      some false
                    )
                  ) (
                    mo x1 none fun r170 =>
                    cond (icmp .lss x97 0) (
                      some (icmp .eql ((r170.1.1 : Nat) : Int) x97)
                    ) (
                      mo (io_veillaw10_WireOne_p_wire_Reader_count N () ((r170.1.1, r170.1.2), ((), (0, r170.1.1, 0), 0))) none fun r171 =>
                      cond (icmp .neq r171.2.2.2.2 0) (
                        cond (icmp .eql r171.2.2.2.2 0) (
                          none
                        ) (
                          some (icmp .eql ((r171.2.2.2.1.2.1 : Nat) : Int) x97)
                        )
                      ) (
                        cond (icmp .gtr r171.1 (IntKind.wrap .u64 x97)) (
                          let x103 := (icmp .eql r171.2.2.2.2 0)
                          cond x103 (
                            some (icmp .eql ((r170.1.1 : Nat) : Int) x97)
                          ) (
                            cond x103 (
                              none
                            ) (
                              some (icmp .eql ((r170.1.1 : Nat) : Int) x97)
                            )
                          )
                        ) (
                          cond (icmp .gtr r171.1 (IntKind.wrap .u64 ((r171.2.2.2.1.2.1 : Nat) : Int))) (
                            let x104 := (icmp .eql r171.2.2.2.2 0)
                            cond x104 (
                              some (icmp .eql ((r170.1.1 : Nat) : Int) x97)
                            ) (
                              cond x104 (
                                none
                              ) (
                                some (icmp .eql ((r170.1.1 : Nat) : Int) x97)
                              )
                            )
                          ) (
                            let x105 := (decide ((0 : Int) ≤ r171.1 ∧ r171.1 ≤ ((r171.2.2.2.1.2.1 : Nat) : Int)))
                            cond x105 (
                              mo (slices_Clone_of_byte_byte (((Int.toNat r171.1), (List.take (Int.toNat r171.1) (List.drop r171.2.2.2.1.1 r171.2.1.2))), ())) none fun r172 =>
                              cond x105 (
                                cond (icmp .eql r171.2.2.2.2 0) (
                                  mo (wire_AppendBytes_nil N () ((r172.1.1, r172.1.2), ())) none fun r173 =>
                                  let x106 := (ibin .sub .i64 x97 (((r171.2.2.2.1.2.1 - (Int.toNat r171.1)) : Nat) : Int))
                                  cond (decide ((0 : Int) ≤ x106 ∧ x106 ≤ ((a.1.1 : Nat) : Int))) (
                                    let x107 := (Int.toNat x106)
                                    some (veillaw10_same ((r173.1.1, r173.1.2), ()) ((x107, (List.take x107 (List.drop 0 a.1.2))), ()))
                                  ) (
                                    none
                                  )
                                ) (
                                  cond (icmp .eql ((r172.1.1 : Nat) : Int) 0) (
                                    some (icmp .eql (((r171.2.2.2.1.2.1 - (Int.toNat r171.1)) : Nat) : Int) x97)
                                  ) (
                                    some false
                                  )
                                )
                              ) (
                                none
                              )
                            ) (
                              none
                            )
                          )
                        )
                      )
                    )
                  )
                )
              ) (
                cond (icmp .eql r3.2.2.2.2 100) (
                  mo (loopF (veillaw10_WireOne_l0 N) N ((a.1.1, (), 0), (a.1.1, a.1.2))) none fun r181 =>
                  match r181 with
                  | .inl u182 => (
                    cond (icmp .gtr ((u182.1 : Nat) : Int) 9) (
                      some false
                    ) (
                      mo (slices_Clone_of_byte_byte ((u182.2.1, u182.2.2), ())) none fun r183 =>
                      cond (icmp .lss ((u182.1 : Nat) : Int) 0) (
                        some (icmp .eql ((r183.1.1 : Nat) : Int) ((u182.1 : Nat) : Int))
                      ) (
                        mo (io_veillaw10_WireOne_p_wire_Reader_count N () ((r183.1.1, r183.1.2), ((), (0, r183.1.1, 0), 0))) none fun r184 =>
                        cond (icmp .neq r184.2.2.2.2 0) (
                          cond (icmp .eql r184.2.2.2.2 0) (
                            none
                          ) (
                            some (icmp .eql ((r184.2.2.2.1.2.1 : Nat) : Int) ((u182.1 : Nat) : Int))
                          )
                        ) (
                          cond (icmp .gtr r184.1 (IntKind.wrap .u64 ((u182.1 : Nat) : Int))) (
                            let x108 := (icmp .eql r184.2.2.2.2 0)
                            cond x108 (
                              some (icmp .eql ((r183.1.1 : Nat) : Int) ((u182.1 : Nat) : Int))
                            ) (
                              cond x108 (
                                none
                              ) (
                                some (icmp .eql ((r183.1.1 : Nat) : Int) ((u182.1 : Nat) : Int))
                              )
                            )
                          ) (
                            cond (icmp .gtr r184.1 (IntKind.wrap .u64 ((r184.2.2.2.1.2.1 : Nat) : Int))) (
                              let x109 := (icmp .eql r184.2.2.2.2 0)
                              cond x109 (
                                some (icmp .eql ((r183.1.1 : Nat) : Int) ((u182.1 : Nat) : Int))
                              ) (
                                cond x109 (
                                  none
                                ) (
                                  some (icmp .eql ((r183.1.1 : Nat) : Int) ((u182.1 : Nat) : Int))
                                )
                              )
                            ) (
                              let x110 := (decide ((0 : Int) ≤ r184.1 ∧ r184.1 ≤ ((r184.2.2.2.1.2.1 : Nat) : Int)))
                              cond x110 (
                                mo (slices_Clone_of_byte_byte (((Int.toNat r184.1), (List.take (Int.toNat r184.1) (List.drop r184.2.2.2.1.1 r184.2.1.2))), ())) none fun r185 =>
                                cond x110 (
                                  cond (icmp .eql r184.2.2.2.2 0) (
                                    mo (wire_AppendBytes_nil N () ((r185.1.1, r185.1.2), ())) none fun r186 =>
                                    let x111 := (ibin .sub .i64 ((u182.1 : Nat) : Int) (((r184.2.2.2.1.2.1 - (Int.toNat r184.1)) : Nat) : Int))
                                    cond (decide ((0 : Int) ≤ x111 ∧ x111 ≤ ((u182.1 : Nat) : Int))) (
                                      let x112 := (Int.toNat x111)
                                      some (veillaw10_same ((r186.1.1, r186.1.2), ()) ((x112, (List.take x112 (List.drop 0 u182.2.2))), ()))
                                    ) (
                                      none
                                    )
                                  ) (
                                    cond (icmp .eql ((r185.1.1 : Nat) : Int) 0) (
                                      some (icmp .eql (((r184.2.2.2.1.2.1 - (Int.toNat r184.1)) : Nat) : Int) ((u182.1 : Nat) : Int))
                                    ) (
                                      some false
                                    )
                                  )
                                ) (
                                  none
                                )
                              ) (
                                none
                              )
                            )
                          )
                        )
                      )
                    )
                  )
                  | .inr w187 => (
                    some false
                  )
                ) (
                  mo x1 none fun r188 =>
                  cond (icmp .lss x97 0) (
                    some (icmp .eql ((r188.1.1 : Nat) : Int) x97)
                  ) (
                    mo (io_veillaw10_WireOne_p_wire_Reader_count N () ((r188.1.1, r188.1.2), ((), (0, r188.1.1, 0), 0))) none fun r189 =>
                    cond (icmp .neq r189.2.2.2.2 0) (
                      cond (icmp .eql r189.2.2.2.2 0) (
                        none
                      ) (
                        some (icmp .eql ((r189.2.2.2.1.2.1 : Nat) : Int) x97)
                      )
                    ) (
                      cond (icmp .gtr r189.1 (IntKind.wrap .u64 x97)) (
                        let x113 := (icmp .eql r189.2.2.2.2 0)
                        cond x113 (
                          some (icmp .eql ((r188.1.1 : Nat) : Int) x97)
                        ) (
                          cond x113 (
                            none
                          ) (
                            some (icmp .eql ((r188.1.1 : Nat) : Int) x97)
                          )
                        )
                      ) (
                        cond (icmp .gtr r189.1 (IntKind.wrap .u64 ((r189.2.2.2.1.2.1 : Nat) : Int))) (
                          let x114 := (icmp .eql r189.2.2.2.2 0)
                          cond x114 (
                            some (icmp .eql ((r188.1.1 : Nat) : Int) x97)
                          ) (
                            cond x114 (
                              none
                            ) (
                              some (icmp .eql ((r188.1.1 : Nat) : Int) x97)
                            )
                          )
                        ) (
                          let x115 := (decide ((0 : Int) ≤ r189.1 ∧ r189.1 ≤ ((r189.2.2.2.1.2.1 : Nat) : Int)))
                          cond x115 (
                            mo (slices_Clone_of_byte_byte (((Int.toNat r189.1), (List.take (Int.toNat r189.1) (List.drop r189.2.2.2.1.1 r189.2.1.2))), ())) none fun r190 =>
                            cond x115 (
                              cond (icmp .eql r189.2.2.2.2 0) (
                                mo (wire_AppendBytes_nil N () ((r190.1.1, r190.1.2), ())) none fun r191 =>
                                let x116 := (ibin .sub .i64 x97 (((r189.2.2.2.1.2.1 - (Int.toNat r189.1)) : Nat) : Int))
                                cond (decide ((0 : Int) ≤ x116 ∧ x116 ≤ ((a.1.1 : Nat) : Int))) (
                                  let x117 := (Int.toNat x116)
                                  some (veillaw10_same ((r191.1.1, r191.1.2), ()) ((x117, (List.take x117 (List.drop 0 a.1.2))), ()))
                                ) (
                                  none
                                )
                              ) (
                                cond (icmp .eql ((r190.1.1 : Nat) : Int) 0) (
                                  some (icmp .eql (((r189.2.2.2.1.2.1 - (Int.toNat r189.1)) : Nat) : Int) x97)
                                ) (
                                  some false
                                )
                              )
                            ) (
                              none
                            )
                          ) (
                            none
                          )
                        )
                      )
                    )
                  )
                )
              )
            )
          )
        )
      )
    ) (
      cond x2 (
        mo (wire_AppendNumber_nil N () r3.1) none fun r192 =>
        let x118 := ((a.1.1 : Nat) : Int)
        let x119 := (ibin .sub .i64 x118 ((r3.2.2.2.1.2.1 : Nat) : Int))
        cond (decide ((0 : Int) ≤ x119 ∧ x119 ≤ ((a.1.1 : Nat) : Int))) (
          let x120 := (Int.toNat x119)
          cond (!(veillaw10_same ((r192.1.1, r192.1.2), ()) ((x120, (List.take x120 (List.drop 0 a.1.2))), ()))) (
            some false
          ) (
            cond (icmp .gtr r3.1 0) (
              mo x1 none fun r193 =>
              mo (io_veillaw10_WireOne_p_wire_Reader_count N () ((r193.1.1, r193.1.2), ((), (0, r193.1.1, 0), 0))) none fun r194 =>
              let x121 := (icmp .eql r194.2.2.2.2 0)
              cond x121 (
                cond (icmp .gtr r194.1 (ibin .sub .u64 r3.1 1)) (
                  cond x121 (
                    cond (icmp .neq ((r193.1.1 : Nat) : Int) x118) (
                      some false
                    ) (
                      cond (icmp .eql r3.2.2.2.2 100) (
                        mo (loopF (veillaw10_WireOne_l0 N) N ((a.1.1, (), 0), (a.1.1, a.1.2))) none fun r202 =>
                        match r202 with
                        | .inl u203 => (
                          cond (icmp .gtr ((u203.1 : Nat) : Int) 9) (
                            some false
                          ) (
                            mo (slices_Clone_of_byte_byte ((u203.2.1, u203.2.2), ())) none fun r204 =>
                            cond (icmp .lss ((u203.1 : Nat) : Int) 0) (
                              some (icmp .eql ((r204.1.1 : Nat) : Int) ((u203.1 : Nat) : Int))
                            ) (
                              mo (io_veillaw10_WireOne_p_wire_Reader_count N () ((r204.1.1, r204.1.2), ((), (0, r204.1.1, 0), 0))) none fun r205 =>
                              cond (icmp .neq r205.2.2.2.2 0) (
                                cond (icmp .eql r205.2.2.2.2 0) (
                                  none
                                ) (
                                  some (icmp .eql ((r205.2.2.2.1.2.1 : Nat) : Int) ((u203.1 : Nat) : Int))
                                )
                              ) (
                                cond (icmp .gtr r205.1 (IntKind.wrap .u64 ((u203.1 : Nat) : Int))) (
                                  let x122 := (icmp .eql r205.2.2.2.2 0)
                                  cond x122 (
                                    some (icmp .eql ((r204.1.1 : Nat) : Int) ((u203.1 : Nat) : Int))
                                  ) (
                                    cond x122 (
                                      none
                                    ) (
                                      some (icmp .eql ((r204.1.1 : Nat) : Int) ((u203.1 : Nat) : Int))
                                    )
                                  )
                                ) (
                                  cond (icmp .gtr r205.1 (IntKind.wrap .u64 ((r205.2.2.2.1.2.1 : Nat) : Int))) (
                                    let x123 := (icmp .eql r205.2.2.2.2 0)
                                    cond x123 (
                                      some (icmp .eql ((r204.1.1 : Nat) : Int) ((u203.1 : Nat) : Int))
                                    ) (
                                      cond x123 (
                                        none
                                      ) (
                                        some (icmp .eql ((r204.1.1 : Nat) : Int) ((u203.1 : Nat) : Int))
                                      )
                                    )
                                  ) (
                                    let x124 := (decide ((0 : Int) ≤ r205.1 ∧ r205.1 ≤ ((r205.2.2.2.1.2.1 : Nat) : Int)))
                                    cond x124 (
                                      mo (slices_Clone_of_byte_byte (((Int.toNat r205.1), (List.take (Int.toNat r205.1) (List.drop r205.2.2.2.1.1 r205.2.1.2))), ())) none fun r206 =>
                                      cond x124 (
                                        cond (icmp .eql r205.2.2.2.2 0) (
                                          mo (wire_AppendBytes_nil N () ((r206.1.1, r206.1.2), ())) none fun r207 =>
                                          let x125 := (ibin .sub .i64 ((u203.1 : Nat) : Int) (((r205.2.2.2.1.2.1 - (Int.toNat r205.1)) : Nat) : Int))
                                          cond (decide ((0 : Int) ≤ x125 ∧ x125 ≤ ((u203.1 : Nat) : Int))) (
                                            let x126 := (Int.toNat x125)
                                            some (veillaw10_same ((r207.1.1, r207.1.2), ()) ((x126, (List.take x126 (List.drop 0 u203.2.2))), ()))
                                          ) (
                                            none
                                          )
                                        ) (
                                          cond (icmp .eql ((r206.1.1 : Nat) : Int) 0) (
                                            some (icmp .eql (((r205.2.2.2.1.2.1 - (Int.toNat r205.1)) : Nat) : Int) ((u203.1 : Nat) : Int))
                                          ) (
                                            some false
                                          )
                                        )
                                      ) (
                                        none
                                      )
                                    ) (
                                      none
                                    )
                                  )
                                )
                              )
                            )
                          )
                        )
                        | .inr w208 => (
                          some false
                        )
                      ) (
                        mo x1 none fun r209 =>
                        cond (icmp .lss x118 0) (
                          some (icmp .eql ((r209.1.1 : Nat) : Int) x118)
                        ) (
                          mo (io_veillaw10_WireOne_p_wire_Reader_count N () ((r209.1.1, r209.1.2), ((), (0, r209.1.1, 0), 0))) none fun r210 =>
                          cond (icmp .neq r210.2.2.2.2 0) (
                            cond (icmp .eql r210.2.2.2.2 0) (
                              none
                            ) (
                              some (icmp .eql ((r210.2.2.2.1.2.1 : Nat) : Int) x118)
                            )
                          ) (
                            cond (icmp .gtr r210.1 (IntKind.wrap .u64 x118)) (
                              let x127 := (icmp .eql r210.2.2.2.2 0)
                              cond x127 (
                                some (icmp .eql ((r209.1.1 : Nat) : Int) x118)
                              ) (
                                cond x127 (
                                  none
                                ) (
                                  some (icmp .eql ((r209.1.1 : Nat) : Int) x118)
                                )
                              )
                            ) (
                              cond (icmp .gtr r210.1 (IntKind.wrap .u64 ((r210.2.2.2.1.2.1 : Nat) : Int))) (
                                let x128 := (icmp .eql r210.2.2.2.2 0)
                                cond x128 (
                                  some (icmp .eql ((r209.1.1 : Nat) : Int) x118)
                                ) (
                                  cond x128 (
                                    none
                                  ) (
                                    some (icmp .eql ((r209.1.1 : Nat) : Int) x118)
                                  )
                                )
                              ) (
                                let x129 := (decide ((0 : Int) ≤ r210.1 ∧ r210.1 ≤ ((r210.2.2.2.1.2.1 : Nat) : Int)))
                                cond x129 (
                                  mo (slices_Clone_of_byte_byte (((Int.toNat r210.1), (List.take (Int.toNat r210.1) (List.drop r210.2.2.2.1.1 r210.2.1.2))), ())) none fun r211 =>
                                  cond x129 (
                                    cond (icmp .eql r210.2.2.2.2 0) (
                                      mo (wire_AppendBytes_nil N () ((r211.1.1, r211.1.2), ())) none fun r212 =>
                                      let x130 := (ibin .sub .i64 x118 (((r210.2.2.2.1.2.1 - (Int.toNat r210.1)) : Nat) : Int))
                                      cond (decide ((0 : Int) ≤ x130 ∧ x130 ≤ ((a.1.1 : Nat) : Int))) (
                                        let x131 := (Int.toNat x130)
                                        some (veillaw10_same ((r212.1.1, r212.1.2), ()) ((x131, (List.take x131 (List.drop 0 a.1.2))), ()))
                                      ) (
                                        none
                                      )
                                    ) (
                                      cond (icmp .eql ((r211.1.1 : Nat) : Int) 0) (
                                        some (icmp .eql (((r210.2.2.2.1.2.1 - (Int.toNat r210.1)) : Nat) : Int) x118)
                                      ) (
                                        some false
                                      )
                                    )
                                  ) (
                                    none
                                  )
                                ) (
                                  none
                                )
                              )
                            )
                          )
                        )
                      )
                    )
                  ) (
                    cond (icmp .neq r194.2.2.2.2 102) (
                      some false
                    ) (
                      cond (icmp .neq ((r193.1.1 : Nat) : Int) x118) (
                        some false
                      ) (
                        cond (icmp .eql r3.2.2.2.2 100) (
                          mo (loopF (veillaw10_WireOne_l0 N) N ((a.1.1, (), 0), (a.1.1, a.1.2))) none fun r220 =>
                          match r220 with
                          | .inl u221 => (
                            cond (icmp .gtr ((u221.1 : Nat) : Int) 9) (
                              some false
                            ) (
                              mo (slices_Clone_of_byte_byte ((u221.2.1, u221.2.2), ())) none fun r222 =>
                              cond (icmp .lss ((u221.1 : Nat) : Int) 0) (
                                some (icmp .eql ((r222.1.1 : Nat) : Int) ((u221.1 : Nat) : Int))
                              ) (
                                mo (io_veillaw10_WireOne_p_wire_Reader_count N () ((r222.1.1, r222.1.2), ((), (0, r222.1.1, 0), 0))) none fun r223 =>
                                cond (icmp .neq r223.2.2.2.2 0) (
                                  cond (icmp .eql r223.2.2.2.2 0) (
                                    none
                                  ) (
                                    some (icmp .eql ((r223.2.2.2.1.2.1 : Nat) : Int) ((u221.1 : Nat) : Int))
                                  )
                                ) (
                                  cond (icmp .gtr r223.1 (IntKind.wrap .u64 ((u221.1 : Nat) : Int))) (
                                    let x132 := (icmp .eql r223.2.2.2.2 0)
                                    cond x132 (
                                      some (icmp .eql ((r222.1.1 : Nat) : Int) ((u221.1 : Nat) : Int))
                                    ) (
                                      cond x132 (
                                        none
                                      ) (
                                        some (icmp .eql ((r222.1.1 : Nat) : Int) ((u221.1 : Nat) : Int))
                                      )
                                    )
                                  ) (
                                    cond (icmp .gtr r223.1 (IntKind.wrap .u64 ((r223.2.2.2.1.2.1 : Nat) : Int))) (
                                      let x133 := (icmp .eql r223.2.2.2.2 0)
                                      cond x133 (
                                        some (icmp .eql ((r222.1.1 : Nat) : Int) ((u221.1 : Nat) : Int))
                                      ) (
                                        cond x133 (
                                          none
                                        ) (
                                          some (icmp .eql ((r222.1.1 : Nat) : Int) ((u221.1 : Nat) : Int))
                                        )
                                      )
                                    ) (
                                      let x134 := (decide ((0 : Int) ≤ r223.1 ∧ r223.1 ≤ ((r223.2.2.2.1.2.1 : Nat) : Int)))
                                      cond x134 (
                                        mo (slices_Clone_of_byte_byte (((Int.toNat r223.1), (List.take (Int.toNat r223.1) (List.drop r223.2.2.2.1.1 r223.2.1.2))), ())) none fun r224 =>
                                        cond x134 (
                                          cond (icmp .eql r223.2.2.2.2 0) (
                                            mo (wire_AppendBytes_nil N () ((r224.1.1, r224.1.2), ())) none fun r225 =>
                                            let x135 := (ibin .sub .i64 ((u221.1 : Nat) : Int) (((r223.2.2.2.1.2.1 - (Int.toNat r223.1)) : Nat) : Int))
                                            cond (decide ((0 : Int) ≤ x135 ∧ x135 ≤ ((u221.1 : Nat) : Int))) (
                                              let x136 := (Int.toNat x135)
                                              some (veillaw10_same ((r225.1.1, r225.1.2), ()) ((x136, (List.take x136 (List.drop 0 u221.2.2))), ()))
                                            ) (
                                              none
                                            )
                                          ) (
                                            cond (icmp .eql ((r224.1.1 : Nat) : Int) 0) (
                                              some (icmp .eql (((r223.2.2.2.1.2.1 - (Int.toNat r223.1)) : Nat) : Int) ((u221.1 : Nat) : Int))
                                            ) (
                                              some false
                                            )
                                          )
                                        ) (
                                          none
                                        )
                                      ) (
                                        none
                                      )
                                    )
                                  )
                                )
                              )
                            )
                          )
                          | .inr w226 => (
                            some false
                          )
                        ) (
                          mo x1 none fun r227 =>
                          cond (icmp .lss x118 0) (
                            some (icmp .eql ((r227.1.1 : Nat) : Int) x118)
                          ) (
                            mo (io_veillaw10_WireOne_p_wire_Reader_count N () ((r227.1.1, r227.1.2), ((), (0, r227.1.1, 0), 0))) none fun r228 =>
                            cond (icmp .neq r228.2.2.2.2 0) (
                              cond (icmp .eql r228.2.2.2.2 0) (
                                none
                              ) (
                                some (icmp .eql ((r228.2.2.2.1.2.1 : Nat) : Int) x118)
                              )
                            ) (
                              cond (icmp .gtr r228.1 (IntKind.wrap .u64 x118)) (
                                let x137 := (icmp .eql r228.2.2.2.2 0)
                                cond x137 (
                                  some (icmp .eql ((r227.1.1 : Nat) : Int) x118)
                                ) (
                                  cond x137 (
                                    none
                                  ) (
                                    some (icmp .eql ((r227.1.1 : Nat) : Int) x118)
                                  )
                                )
                              ) (
                                cond (icmp .gtr r228.1 (IntKind.wrap .u64 ((r228.2.2.2.1.2.1 : Nat) : Int))) (
                                  let x138 := (icmp .eql r228.2.2.2.2 0)
                                  cond x138 (
                                    some (icmp .eql ((r227.1.1 : Nat) : Int) x118)
                                  ) (
                                    cond x138 (
                                      none
                                    ) (
                                      some (icmp .eql ((r227.1.1 : Nat) : Int) x118)
                                    )
                                  )
                                ) (
                                  let x139 := (decide ((0 : Int) ≤ r228.1 ∧ r228.1 ≤ ((r228.2.2.2.1.2.1 : Nat) : Int)))
                                  cond x139 (
                                    mo (slices_Clone_of_byte_byte (((Int.toNat r228.1), (List.take (Int.toNat r228.1) (List.drop r228.2.2.2.1.1 r228.2.1.2))), ())) none fun r229 =>
                                    cond x139 (
                                      cond (icmp .eql r228.2.2.2.2 0) (
                                        mo (wire_AppendBytes_nil N () ((r229.1.1, r229.1.2), ())) none fun r230 =>
                                        let x140 := (ibin .sub .i64 x118 (((r228.2.2.2.1.2.1 - (Int.toNat r228.1)) : Nat) : Int))
                                        cond (decide ((0 : Int) ≤ x140 ∧ x140 ≤ ((a.1.1 : Nat) : Int))) (
                                          let x141 := (Int.toNat x140)
                                          some (veillaw10_same ((r230.1.1, r230.1.2), ()) ((x141, (List.take x141 (List.drop 0 a.1.2))), ()))
                                        ) (
                                          none
                                        )
                                      ) (
                                        cond (icmp .eql ((r229.1.1 : Nat) : Int) 0) (
                                          some (icmp .eql (((r228.2.2.2.1.2.1 - (Int.toNat r228.1)) : Nat) : Int) x118)
                                        ) (
                                          some false
                                        )
                                      )
                                    ) (
                                      none
                                    )
                                  ) (
                                    none
                                  )
                                )
                              )
                            )
                          )
                        )
                      )
                    )
                  )
                ) (
                  cond (icmp .neq r194.1 0) (
                    some false
                  ) (
                    cond (icmp .neq r194.2.2.2.2 102) (
                      some false
                    ) (
                      cond (icmp .neq ((r194.2.2.2.1.2.1 : Nat) : Int) x118) (
                        some false
                      ) (
                        cond (icmp .eql r3.2.2.2.2 100) (
                          mo (loopF (veillaw10_WireOne_l0 N) N ((a.1.1, (), 0), (a.1.1, a.1.2))) none fun r238 =>
                          match r238 with
                          | .inl u239 => (
                            cond (icmp .gtr ((u239.1 : Nat) : Int) 9) (
                              some false
                            ) (
                              mo (slices_Clone_of_byte_byte ((u239.2.1, u239.2.2), ())) none fun r240 =>
                              cond (icmp .lss ((u239.1 : Nat) : Int) 0) (
                                some (icmp .eql ((r240.1.1 : Nat) : Int) ((u239.1 : Nat) : Int))
                              ) (
                                mo (io_veillaw10_WireOne_p_wire_Reader_count N () ((r240.1.1, r240.1.2), ((), (0, r240.1.1, 0), 0))) none fun r241 =>
                                cond (icmp .neq r241.2.2.2.2 0) (
                                  cond (icmp .eql r241.2.2.2.2 0) (
                                    none
                                  ) (
                                    some (icmp .eql ((r241.2.2.2.1.2.1 : Nat) : Int) ((u239.1 : Nat) : Int))
                                  )
                                ) (
                                  cond (icmp .gtr r241.1 (IntKind.wrap .u64 ((u239.1 : Nat) : Int))) (
                                    let x142 := (icmp .eql r241.2.2.2.2 0)
                                    cond x142 (
                                      some (icmp .eql ((r240.1.1 : Nat) : Int) ((u239.1 : Nat) : Int))
                                    ) (
                                      cond x142 (
                                        none
                                      ) (
                                        some (icmp .eql ((r240.1.1 : Nat) : Int) ((u239.1 : Nat) : Int))
                                      )
                                    )
                                  ) (
                                    cond (icmp .gtr r241.1 (IntKind.wrap .u64 ((r241.2.2.2.1.2.1 : Nat) : Int))) (
                                      let x143 := (icmp .eql r241.2.2.2.2 0)
                                      cond x143 (
                                        some (icmp .eql ((r240.1.1 : Nat) : Int) ((u239.1 : Nat) : Int))
                                      ) (
                                        cond x143 (
                                          none
                                        ) (
                                          some (icmp .eql ((r240.1.1 : Nat) : Int) ((u239.1 : Nat) : Int))
                                        )
                                      )
                                    ) (
                                      let x144 := (decide ((0 : Int) ≤ r241.1 ∧ r241.1 ≤ ((r241.2.2.2.1.2.1 : Nat) : Int)))
                                      cond x144 (
                                        mo (slices_Clone_of_byte_byte (((Int.toNat r241.1), (List.take (Int.toNat r241.1) (List.drop r241.2.2.2.1.1 r241.2.1.2))), ())) none fun r242 =>
                                        cond x144 (
                                          cond (icmp .eql r241.2.2.2.2 0) (
                                            mo (wire_AppendBytes_nil N () ((r242.1.1, r242.1.2), ())) none fun r243 =>
                                            let x145 := (ibin .sub .i64 ((u239.1 : Nat) : Int) (((r241.2.2.2.1.2.1 - (Int.toNat r241.1)) : Nat) : Int))
                                            cond (decide ((0 : Int) ≤ x145 ∧ x145 ≤ ((u239.1 : Nat) : Int))) (
                                              let x146 := (Int.toNat x145)
                                              some (veillaw10_same ((r243.1.1, r243.1.2), ()) ((x146, (List.take x146 (List.drop 0 u239.2.2))), ()))
                                            ) (
                                              none
                                            )
                                          ) (
                                            cond (icmp .eql ((r242.1.1 : Nat) : Int) 0) (
                                              some (icmp .eql (((r241.2.2.2.1.2.1 - (Int.toNat r241.1)) : Nat) : Int) ((u239.1 : Nat) : Int))
                                            ) (
                                              some false
                                            )
                                          )
                                        ) (
                                          none
                                        )
                                      ) (
                                        none
                                      )
                                    )
                                  )
                                )
                              )
                            )
                          )
                          | .inr w244 => (
                            some false
                          )
                        ) (
                          mo x1 none fun r245 =>
                          cond (icmp .lss x118 0) (
                            some (icmp .eql ((r245.1.1 : Nat) : Int) x118)
                          ) (
                            mo (io_veillaw10_WireOne_p_wire_Reader_count N () ((r245.1.1, r245.1.2), ((), (0, r245.1.1, 0), 0))) none fun r246 =>
                            cond (icmp .neq r246.2.2.2.2 0) (
                              cond (icmp .eql r246.2.2.2.2 0) (
                                none
                              ) (
                                some (icmp .eql ((r246.2.2.2.1.2.1 : Nat) : Int) x118)
                              )
                            ) (
                              cond (icmp .gtr r246.1 (IntKind.wrap .u64 x118)) (
                                let x147 := (icmp .eql r246.2.2.2.2 0)
                                cond x147 (
                                  some (icmp .eql ((r245.1.1 : Nat) : Int) x118)
                                ) (
                                  cond x147 (
                                    none
                                  ) (
                                    some (icmp .eql ((r245.1.1 : Nat) : Int) x118)
                                  )
                                )
                              ) (
                                cond (icmp .gtr r246.1 (IntKind.wrap .u64 ((r246.2.2.2.1.2.1 : Nat) : Int))) (
                                  let x148 := (icmp .eql r246.2.2.2.2 0)
                                  cond x148 (
                                    some (icmp .eql ((r245.1.1 : Nat) : Int) x118)
                                  ) (
                                    cond x148 (
                                      none
                                    ) (
                                      some (icmp .eql ((r245.1.1 : Nat) : Int) x118)
                                    )
                                  )
                                ) (
                                  let x149 := (decide ((0 : Int) ≤ r246.1 ∧ r246.1 ≤ ((r246.2.2.2.1.2.1 : Nat) : Int)))
                                  cond x149 (
                                    mo (slices_Clone_of_byte_byte (((Int.toNat r246.1), (List.take (Int.toNat r246.1) (List.drop r246.2.2.2.1.1 r246.2.1.2))), ())) none fun r247 =>
                                    cond x149 (
                                      cond (icmp .eql r246.2.2.2.2 0) (
                                        mo (wire_AppendBytes_nil N () ((r247.1.1, r247.1.2), ())) none fun r248 =>
                                        let x150 := (ibin .sub .i64 x118 (((r246.2.2.2.1.2.1 - (Int.toNat r246.1)) : Nat) : Int))
                                        cond (decide ((0 : Int) ≤ x150 ∧ x150 ≤ ((a.1.1 : Nat) : Int))) (
                                          let x151 := (Int.toNat x150)
                                          some (veillaw10_same ((r248.1.1, r248.1.2), ()) ((x151, (List.take x151 (List.drop 0 a.1.2))), ()))
                                        ) (
                                          none
                                        )
                                      ) (
                                        cond (icmp .eql ((r247.1.1 : Nat) : Int) 0) (
                                          some (icmp .eql (((r246.2.2.2.1.2.1 - (Int.toNat r246.1)) : Nat) : Int) x118)
                                        ) (
                                          some false
                                        )
                                      )
                                    ) (
                                      none
                                    )
                                  ) (
                                    none
                                  )
                                )
                              )
                            )
                          )
                        )
                      )
                    )
                  )
                )
              ) (
                cond (icmp .neq r194.1 0) (
                  some false
                ) (
                  cond (icmp .neq r194.2.2.2.2 102) (
                    some false
                  ) (
                    cond (icmp .neq ((r194.2.2.2.1.2.1 : Nat) : Int) x118) (
                      some false
                    ) (
                      cond (icmp .eql r3.2.2.2.2 100) (
                        mo (loopF (veillaw10_WireOne_l0 N) N ((a.1.1, (), 0), (a.1.1, a.1.2))) none fun r256 =>
                        match r256 with
                        | .inl u257 => (
                          cond (icmp .gtr ((u257.1 : Nat) : Int) 9) (
                            some false
                          ) (
                            mo (slices_Clone_of_byte_byte ((u257.2.1, u257.2.2), ())) none fun r258 =>
                            cond (icmp .lss ((u257.1 : Nat) : Int) 0) (
                              some (icmp .eql ((r258.1.1 : Nat) : Int) ((u257.1 : Nat) : Int))
                            ) (
                              mo (io_veillaw10_WireOne_p_wire_Reader_count N () ((r258.1.1, r258.1.2), ((), (0, r258.1.1, 0), 0))) none fun r259 =>
                              cond (icmp .neq r259.2.2.2.2 0) (
                                cond (icmp .eql r259.2.2.2.2 0) (
                                  none
                                ) (
                                  some (icmp .eql ((r259.2.2.2.1.2.1 : Nat) : Int) ((u257.1 : Nat) : Int))
                                )
                              ) (
                                cond (icmp .gtr r259.1 (IntKind.wrap .u64 ((u257.1 : Nat) : Int))) (
                                  let x152 := (icmp .eql r259.2.2.2.2 0)
                                  cond x152 (
                                    some (icmp .eql ((r258.1.1 : Nat) : Int) ((u257.1 : Nat) : Int))
                                  ) (
                                    cond x152 (
                                      none
                                    ) (
                                      some (icmp .eql ((r258.1.1 : Nat) : Int) ((u257.1 : Nat) : Int))
                                    )
                                  )
                                ) (
                                  cond (icmp .gtr r259.1 (IntKind.wrap .u64 ((r259.2.2.2.1.2.1 : Nat) : Int))) (
                                    let x153 := (icmp .eql r259.2.2.2.2 0)
                                    cond x153 (
                                      some (icmp .eql ((r258.1.1 : Nat) : Int) ((u257.1 : Nat) : Int))
                                    ) (
                                      cond x153 (
                                        none
                                      ) (
                                        some (icmp .eql ((r258.1.1 : Nat) : Int) ((u257.1 : Nat) : Int))
                                      )
                                    )
                                  ) (
                                    let x154 := (decide ((0 : Int) ≤ r259.1 ∧ r259.1 ≤ ((r259.2.2.2.1.2.1 : Nat) : Int)))
                                    cond x154 (
                                      mo (slices_Clone_of_byte_byte (((Int.toNat r259.1), (List.take (Int.toNat r259.1) (List.drop r259.2.2.2.1.1 r259.2.1.2))), ())) none fun r260 =>
                                      cond x154 (
                                        cond (icmp .eql r259.2.2.2.2 0) (
                                          mo (wire_AppendBytes_nil N () ((r260.1.1, r260.1.2), ())) none fun r261 =>
                                          let x155 := (ibin .sub .i64 ((u257.1 : Nat) : Int) (((r259.2.2.2.1.2.1 - (Int.toNat r259.1)) : Nat) : Int))
                                          cond (decide ((0 : Int) ≤ x155 ∧ x155 ≤ ((u257.1 : Nat) : Int))) (
                                            let x156 := (Int.toNat x155)
                                            some (veillaw10_same ((r261.1.1, r261.1.2), ()) ((x156, (List.take x156 (List.drop 0 u257.2.2))), ()))
                                          ) (
                                            none
                                          )
                                        ) (
                                          cond (icmp .eql ((r260.1.1 : Nat) : Int) 0) (
                                            some (icmp .eql (((r259.2.2.2.1.2.1 - (Int.toNat r259.1)) : Nat) : Int) ((u257.1 : Nat) : Int))
                                          ) (
                                            some false
                                          )
                                        )
                                      ) (
                                        none
                                      )
                                    ) (
                                      none
                                    )
                                  )
                                )
                              )
                            )
                          )
                        )
                        | .inr w262 => (
                          some false
                        )
                      ) (
                        mo x1 none fun r263 =>
                        cond (icmp .lss x118 0) (
                          some (icmp .eql ((r263.1.1 : Nat) : Int) x118)
                        ) (
                          mo (io_veillaw10_WireOne_p_wire_Reader_count N () ((r263.1.1, r263.1.2), ((), (0, r263.1.1, 0), 0))) none fun r264 =>
                          cond (icmp .neq r264.2.2.2.2 0) (
                            cond (icmp .eql r264.2.2.2.2 0) (
                              none
                            ) (
                              some (icmp .eql ((r264.2.2.2.1.2.1 : Nat) : Int) x118)
                            )
                          ) (
                            cond (icmp .gtr r264.1 (IntKind.wrap .u64 x118)) (
                              let x157 := (icmp .eql r264.2.2.2.2 0)
                              cond x157 (
                                some (icmp .eql ((r263.1.1 : Nat) : Int) x118)
                              ) (
                                cond x157 (
                                  none
                                ) (
                                  some (icmp .eql ((r263.1.1 : Nat) : Int) x118)
                                )
                              )
                            ) (
                              cond (icmp .gtr r264.1 (IntKind.wrap .u64 ((r264.2.2.2.1.2.1 : Nat) : Int))) (
                                let x158 := (icmp .eql r264.2.2.2.2 0)
                                cond x158 (
                                  some (icmp .eql ((r263.1.1 : Nat) : Int) x118)
                                ) (
                                  cond x158 (
                                    none
                                  ) (
                                    some (icmp .eql ((r263.1.1 : Nat) : Int) x118)
                                  )
                                )
                              ) (
                                let x159 := (decide ((0 : Int) ≤ r264.1 ∧ r264.1 ≤ ((r264.2.2.2.1.2.1 : Nat) : Int)))
                                cond x159 (
                                  mo (slices_Clone_of_byte_byte (((Int.toNat r264.1), (List.take (Int.toNat r264.1) (List.drop r264.2.2.2.1.1 r264.2.1.2))), ())) none fun r265 =>
                                  cond x159 (
                                    cond (icmp .eql r264.2.2.2.2 0) (
                                      mo (wire_AppendBytes_nil N () ((r265.1.1, r265.1.2), ())) none fun r266 =>
                                      let x160 := (ibin .sub .i64 x118 (((r264.2.2.2.1.2.1 - (Int.toNat r264.1)) : Nat) : Int))
                                      cond (decide ((0 : Int) ≤ x160 ∧ x160 ≤ ((a.1.1 : Nat) : Int))) (
                                        let x161 := (Int.toNat x160)
                                        some (veillaw10_same ((r266.1.1, r266.1.2), ()) ((x161, (List.take x161 (List.drop 0 a.1.2))), ()))
                                      ) (
                                        none
                                      )
                                    ) (
                                      cond (icmp .eql ((r265.1.1 : Nat) : Int) 0) (
                                        some (icmp .eql (((r264.2.2.2.1.2.1 - (Int.toNat r264.1)) : Nat) : Int) x118)
                                      ) (
                                        some false
                                      )
                                    )
                                  ) (
                                    none
                                  )
                                ) (
                                  none
                                )
                              )
                            )
                          )
                        )
                      )
                    )
                  )
                )
              )
            ) (
              cond (icmp .eql r3.2.2.2.2 100) (
                mo (loopF (veillaw10_WireOne_l0 N) N ((a.1.1, (), 0), (a.1.1, a.1.2))) none fun r274 =>
                match r274 with
                | .inl u275 => (
                  cond (icmp .gtr ((u275.1 : Nat) : Int) 9) (
                    some false
                  ) (
                    mo (slices_Clone_of_byte_byte ((u275.2.1, u275.2.2), ())) none fun r276 =>
                    cond (icmp .lss ((u275.1 : Nat) : Int) 0) (
                      some (icmp .eql ((r276.1.1 : Nat) : Int) ((u275.1 : Nat) : Int))
                    ) (
                      mo (io_veillaw10_WireOne_p_wire_Reader_count N () ((r276.1.1, r276.1.2), ((), (0, r276.1.1, 0), 0))) none fun r277 =>
                      cond (icmp .neq r277.2.2.2.2 0) (
                        cond (icmp .eql r277.2.2.2.2 0) (
                          none
                        ) (
                          some (icmp .eql ((r277.2.2.2.1.2.1 : Nat) : Int) ((u275.1 : Nat) : Int))
                        )
                      ) (
                        cond (icmp .gtr r277.1 (IntKind.wrap .u64 ((u275.1 : Nat) : Int))) (
                          let x162 := (icmp .eql r277.2.2.2.2 0)
                          cond x162 (
                            some (icmp .eql ((r276.1.1 : Nat) : Int) ((u275.1 : Nat) : Int))
                          ) (
                            cond x162 (
                              none
                            ) (
                              some (icmp .eql ((r276.1.1 : Nat) : Int) ((u275.1 : Nat) : Int))
                            )
                          )
                        ) (
                          cond (icmp .gtr r277.1 (IntKind.wrap .u64 ((r277.2.2.2.1.2.1 : Nat) : Int))) (
                            let x163 := (icmp .eql r277.2.2.2.2 0)
                            cond x163 (
                              some (icmp .eql ((r276.1.1 : Nat) : Int) ((u275.1 : Nat) : Int))
                            ) (
                              cond x163 (
                                none
                              ) (
                                some (icmp .eql ((r276.1.1 : Nat) : Int) ((u275.1 : Nat) : Int))
                              )
                            )
                          ) (
                            let x164 := (decide ((0 : Int) ≤ r277.1 ∧ r277.1 ≤ ((r277.2.2.2.1.2.1 : Nat) : Int)))
                            cond x164 (
                              mo (slices_Clone_of_byte_byte (((Int.toNat r277.1), (List.take (Int.toNat r277.1) (List.drop r277.2.2.2.1.1 r277.2.1.2))), ())) none fun r278 =>
                              cond x164 (
                                cond (icmp .eql r277.2.2.2.2 0) (
                                  mo (wire_AppendBytes_nil N () ((r278.1.1, r278.1.2), ())) none fun r279 =>
                                  let x165 := (ibin .sub .i64 ((u275.1 : Nat) : Int) (((r277.2.2.2.1.2.1 - (Int.toNat r277.1)) : Nat) : Int))
                                  cond (decide ((0 : Int) ≤ x165 ∧ x165 ≤ ((u275.1 : Nat) : Int))) (
                                    let x166 := (Int.toNat x165)
                                    some (veillaw10_same ((r279.1.1, r279.1.2), ()) ((x166, (List.take x166 (List.drop 0 u275.2.2))), ()))
                                  ) (
                                    none
                                  )
                                ) (
                                  cond (icmp .eql ((r278.1.1 : Nat) : Int) 0) (
                                    some (icmp .eql (((r277.2.2.2.1.2.1 - (Int.toNat r277.1)) : Nat) : Int) ((u275.1 : Nat) : Int))
                                  ) (
                                    some false
                                  )
                                )
                              ) (
                                none
                              )
                            ) (
                              none
                            )
                          )
                        )
                      )
                    )
                  )
                )
                | .inr w280 => (
                  some false
                )
              ) (
                mo x1 none fun r281 =>
                cond (icmp .lss x118 0) (
                  some (icmp .eql ((r281.1.1 : Nat) : Int) x118)
                ) (
                  mo (io_veillaw10_WireOne_p_wire_Reader_count N () ((r281.1.1, r281.1.2), ((), (0, r281.1.1, 0), 0))) none fun r282 =>
                  cond (icmp .neq r282.2.2.2.2 0) (
                    cond (icmp .eql r282.2.2.2.2 0) (
                      none
                    ) (
                      some (icmp .eql ((r282.2.2.2.1.2.1 : Nat) : Int) x118)
                    )
                  ) (
                    cond (icmp .gtr r282.1 (IntKind.wrap .u64 x118)) (
                      let x167 := (icmp .eql r282.2.2.2.2 0)
                      cond x167 (
                        some (icmp .eql ((r281.1.1 : Nat) : Int) x118)
                      ) (
                        cond x167 (
                          none
                        ) (
                          some (icmp .eql ((r281.1.1 : Nat) : Int) x118)
                        )
                      )
                    ) (
                      cond (icmp .gtr r282.1 (IntKind.wrap .u64 ((r282.2.2.2.1.2.1 : Nat) : Int))) (
                        let x168 := (icmp .eql r282.2.2.2.2 0)
                        cond x168 (
                          some (icmp .eql ((r281.1.1 : Nat) : Int) x118)
                        ) (
                          cond x168 (
                            none
                          ) (
                            some (icmp .eql ((r281.1.1 : Nat) : Int) x118)
                          )
                        )
                      ) (
                        let x169 := (decide ((0 : Int) ≤ r282.1 ∧ r282.1 ≤ ((r282.2.2.2.1.2.1 : Nat) : Int)))
                        cond x169 (
                          mo (slices_Clone_of_byte_byte (((Int.toNat r282.1), (List.take (Int.toNat r282.1) (List.drop r282.2.2.2.1.1 r282.2.1.2))), ())) none fun r283 =>
                          cond x169 (
                            cond (icmp .eql r282.2.2.2.2 0) (
                              mo (wire_AppendBytes_nil N () ((r283.1.1, r283.1.2), ())) none fun r284 =>
                              let x170 := (ibin .sub .i64 x118 (((r282.2.2.2.1.2.1 - (Int.toNat r282.1)) : Nat) : Int))
                              cond (decide ((0 : Int) ≤ x170 ∧ x170 ≤ ((a.1.1 : Nat) : Int))) (
                                let x171 := (Int.toNat x170)
                                some (veillaw10_same ((r284.1.1, r284.1.2), ()) ((x171, (List.take x171 (List.drop 0 a.1.2))), ()))
                              ) (
                                none
                              )
                            ) (
                              cond (icmp .eql ((r283.1.1 : Nat) : Int) 0) (
                                some (icmp .eql (((r282.2.2.2.1.2.1 - (Int.toNat r282.1)) : Nat) : Int) x118)
                              ) (
                                some false
                              )
                            )
                          ) (
                            none
                          )
                        ) (
                          none
                        )
                      )
                    )
                  )
                )
              )
            )
          )
        ) (
          none
        )
      ) (
        let x172 := ((a.1.1 : Nat) : Int)
        cond (icmp .neq ((r3.2.2.2.1.2.1 : Nat) : Int) x172) (
          some false
        ) (
          cond (icmp .neq r3.1 0) (
            some false
          ) (
            cond (icmp .neq r3.2.2.2.2 100) (
              cond (icmp .neq r3.2.2.2.2 102) (
                some false
              ) (
                cond (icmp .eql r3.2.2.2.2 100) (
                  mo (loopF (veillaw10_WireOne_l0 N) N ((a.1.1, (), 0), (a.1.1, a.1.2))) none fun r292 =>
                  match r292 with
                  | .inl u293 => (
                    cond (icmp .gtr ((u293.1 : Nat) : Int) 9) (
                      some false
                    ) (
                      mo (slices_Clone_of_byte_byte ((u293.2.1, u293.2.2), ())) none fun r294 =>
                      cond (icmp .lss ((u293.1 : Nat) : Int) 0) (
                        some (icmp .eql ((r294.1.1 : Nat) : Int) ((u293.1 : Nat) : Int))
                      ) (
                        mo (io_veillaw10_WireOne_p_wire_Reader_count N () ((r294.1.1, r294.1.2), ((), (0, r294.1.1, 0), 0))) none fun r295 =>
                        cond (icmp .neq r295.2.2.2.2 0) (
                          cond (icmp .eql r295.2.2.2.2 0) (
                            none
                          ) (
                            some (icmp .eql ((r295.2.2.2.1.2.1 : Nat) : Int) ((u293.1 : Nat) : Int))
                          )
                        ) (
                          cond (icmp .gtr r295.1 (IntKind.wrap .u64 ((u293.1 : Nat) : Int))) (
                            let x173 := (icmp .eql r295.2.2.2.2 0)
                            cond x173 (
                              some (icmp .eql ((r294.1.1 : Nat) : Int) ((u293.1 : Nat) : Int))
                            ) (
                              cond x173 (
                                none
                              ) (
                                some (icmp .eql ((r294.1.1 : Nat) : Int) ((u293.1 : Nat) : Int))
                              )
                            )
                          ) (
                            cond (icmp .gtr r295.1 (IntKind.wrap .u64 ((r295.2.2.2.1.2.1 : Nat) : Int))) (
                              let x174 := (icmp .eql r295.2.2.2.2 0)
                              cond x174 (
                                some (icmp .eql ((r294.1.1 : Nat) : Int) ((u293.1 : Nat) : Int))
                              ) (
                                cond x174 (
                                  none
                                ) (
                                  some (icmp .eql ((r294.1.1 : Nat) : Int) ((u293.1 : Nat) : Int))
                                )
                              )
                            ) (
                              let x175 := (decide ((0 : Int) ≤ r295.1 ∧ r295.1 ≤ ((r295.2.2.2.1.2.1 : Nat) : Int)))
                              cond x175 (
                                mo (slices_Clone_of_byte_byte (((Int.toNat r295.1), (List.take (Int.toNat r295.1) (List.drop r295.2.2.2.1.1 r295.2.1.2))), ())) none fun r296 =>
                                cond x175 (
                                  cond (icmp .eql r295.2.2.2.2 0) (
                                    mo (wire_AppendBytes_nil N () ((r296.1.1, r296.1.2), ())) none fun r297 =>
                                    let x176 := (ibin .sub .i64 ((u293.1 : Nat) : Int) (((r295.2.2.2.1.2.1 - (Int.toNat r295.1)) : Nat) : Int))
                                    cond (decide ((0 : Int) ≤ x176 ∧ x176 ≤ ((u293.1 : Nat) : Int))) (
                                      let x177 := (Int.toNat x176)
                                      some (veillaw10_same ((r297.1.1, r297.1.2), ()) ((x177, (List.take x177 (List.drop 0 u293.2.2))), ()))
                                    ) (
                                      none
                                    )
                                  ) (
                                    cond (icmp .eql ((r296.1.1 : Nat) : Int) 0) (
                                      some (icmp .eql (((r295.2.2.2.1.2.1 - (Int.toNat r295.1)) : Nat) : Int) ((u293.1 : Nat) : Int))
                                    ) (
                                      some false
                                    )
                                  )
                                ) (
                                  none
                                )
                              ) (
                                none
                              )
                            )
                          )
                        )
                      )
                    )
                  )
                  | .inr w298 => (
                    some false
                  )
                ) (
                  mo x1 none fun r299 =>
                  cond (icmp .lss x172 0) (
                    some (icmp .eql ((r299.1.1 : Nat) : Int) x172)
                  ) (
                    mo (io_veillaw10_WireOne_p_wire_Reader_count N () ((r299.1.1, r299.1.2), ((), (0, r299.1.1, 0), 0))) none fun r300 =>
                    cond (icmp .neq r300.2.2.2.2 0) (
                      cond (icmp .eql r300.2.2.2.2 0) (
                        none
                      ) (
                        some (icmp .eql ((r300.2.2.2.1.2.1 : Nat) : Int) x172)
                      )
                    ) (
                      cond (icmp .gtr r300.1 (IntKind.wrap .u64 x172)) (
                        let x178 := (icmp .eql r300.2.2.2.2 0)
                        cond x178 (
                          some (icmp .eql ((r299.1.1 : Nat) : Int) x172)
                        ) (
                          cond x178 (
                            none
                          ) (
                            some (icmp .eql ((r299.1.1 : Nat) : Int) x172)
                          )
                        )
                      ) (
                        cond (icmp .gtr r300.1 (IntKind.wrap .u64 ((r300.2.2.2.1.2.1 : Nat) : Int))) (
                          let x179 := (icmp .eql r300.2.2.2.2 0)
                          cond x179 (
                            some (icmp .eql ((r299.1.1 : Nat) : Int) x172)
                          ) (
                            cond x179 (
                              none
                            ) (
                              some (icmp .eql ((r299.1.1 : Nat) : Int) x172)
                            )
                          )
                        ) (
                          let x180 := (decide ((0 : Int) ≤ r300.1 ∧ r300.1 ≤ ((r300.2.2.2.1.2.1 : Nat) : Int)))
                          cond x180 (
                            mo (slices_Clone_of_byte_byte (((Int.toNat r300.1), (List.take (Int.toNat r300.1) (List.drop r300.2.2.2.1.1 r300.2.1.2))), ())) none fun r301 =>
                            cond x180 (
                              cond (icmp .eql r300.2.2.2.2 0) (
                                mo (wire_AppendBytes_nil N () ((r301.1.1, r301.1.2), ())) none fun r302 =>
                                let x181 := (ibin .sub .i64 x172 (((r300.2.2.2.1.2.1 - (Int.toNat r300.1)) : Nat) : Int))
                                cond (decide ((0 : Int) ≤ x181 ∧ x181 ≤ ((a.1.1 : Nat) : Int))) (
                                  let x182 := (Int.toNat x181)
                                  some (veillaw10_same ((r302.1.1, r302.1.2), ()) ((x182, (List.take x182 (List.drop 0 a.1.2))), ()))
                                ) (
                                  none
                                )
                              ) (
                                cond (icmp .eql ((r301.1.1 : Nat) : Int) 0) (
                                  some (icmp .eql (((r300.2.2.2.1.2.1 - (Int.toNat r300.1)) : Nat) : Int) x172)
                                ) (
                                  some false
                                )
                              )
                            ) (
                              none
                            )
                          ) (
                            none
                          )
                        )
                      )
                    )
                  )
                )
              )
            ) (
              cond (icmp .eql r3.2.2.2.2 100) (
                mo (loopF (veillaw10_WireOne_l0 N) N ((a.1.1, (), 0), (a.1.1, a.1.2))) none fun r310 =>
                match r310 with
                | .inl u311 => (
                  cond (icmp .gtr ((u311.1 : Nat) : Int) 9) (
                    some false
                  ) (
                    mo (slices_Clone_of_byte_byte ((u311.2.1, u311.2.2), ())) none fun r312 =>
                    cond (icmp .lss ((u311.1 : Nat) : Int) 0) (
                      some (icmp .eql ((r312.1.1 : Nat) : Int) ((u311.1 : Nat) : Int))
                    ) (
                      mo (io_veillaw10_WireOne_p_wire_Reader_count N () ((r312.1.1, r312.1.2), ((), (0, r312.1.1, 0), 0))) none fun r313 =>
                      cond (icmp .neq r313.2.2.2.2 0) (
                        cond (icmp .eql r313.2.2.2.2 0) (
                          none
                        ) (
                          some (icmp .eql ((r313.2.2.2.1.2.1 : Nat) : Int) ((u311.1 : Nat) : Int))
                        )
                      ) (
                        cond (icmp .gtr r313.1 (IntKind.wrap .u64 ((u311.1 : Nat) : Int))) (
                          let x183 := (icmp .eql r313.2.2.2.2 0)
                          cond x183 (
                            some (icmp .eql ((r312.1.1 : Nat) : Int) ((u311.1 : Nat) : Int))
                          ) (
                            cond x183 (
                              none
                            ) (
                              some (icmp .eql ((r312.1.1 : Nat) : Int) ((u311.1 : Nat) : Int))
                            )
                          )
                        ) (
                          cond (icmp .gtr r313.1 (IntKind.wrap .u64 ((r313.2.2.2.1.2.1 : Nat) : Int))) (
                            let x184 := (icmp .eql r313.2.2.2.2 0)
                            cond x184 (
                              some (icmp .eql ((r312.1.1 : Nat) : Int) ((u311.1 : Nat) : Int))
                            ) (
                              cond x184 (
                                none
                              ) (
                                some (icmp .eql ((r312.1.1 : Nat) : Int) ((u311.1 : Nat) : Int))
                              )
                            )
                          ) (
                            let x185 := (decide ((0 : Int) ≤ r313.1 ∧ r313.1 ≤ ((r313.2.2.2.1.2.1 : Nat) : Int)))
                            cond x185 (
                              mo (slices_Clone_of_byte_byte (((Int.toNat r313.1), (List.take (Int.toNat r313.1) (List.drop r313.2.2.2.1.1 r313.2.1.2))), ())) none fun r314 =>
                              cond x185 (
                                cond (icmp .eql r313.2.2.2.2 0) (
                                  mo (wire_AppendBytes_nil N () ((r314.1.1, r314.1.2), ())) none fun r315 =>
                                  let x186 := (ibin .sub .i64 ((u311.1 : Nat) : Int) (((r313.2.2.2.1.2.1 - (Int.toNat r313.1)) : Nat) : Int))
                                  cond (decide ((0 : Int) ≤ x186 ∧ x186 ≤ ((u311.1 : Nat) : Int))) (
                                    let x187 := (Int.toNat x186)
                                    some (veillaw10_same ((r315.1.1, r315.1.2), ()) ((x187, (List.take x187 (List.drop 0 u311.2.2))), ()))
                                  ) (
                                    none
                                  )
                                ) (
                                  cond (icmp .eql ((r314.1.1 : Nat) : Int) 0) (
                                    some (icmp .eql (((r313.2.2.2.1.2.1 - (Int.toNat r313.1)) : Nat) : Int) ((u311.1 : Nat) : Int))
                                  ) (
                                    some false
                                  )
                                )
                              ) (
                                none
                              )
                            ) (
                              none
                            )
                          )
                        )
                      )
                    )
                  )
                )
                | .inr w316 => (
                  some false
                )
              ) (
                mo x1 none fun r317 =>
                cond (icmp .lss x172 0) (
                  some (icmp .eql ((r317.1.1 : Nat) : Int) x172)
                ) (
                  mo (io_veillaw10_WireOne_p_wire_Reader_count N () ((r317.1.1, r317.1.2), ((), (0, r317.1.1, 0), 0))) none fun r318 =>
                  cond (icmp .neq r318.2.2.2.2 0) (
                    cond (icmp .eql r318.2.2.2.2 0) (
                      none
                    ) (
                      some (icmp .eql ((r318.2.2.2.1.2.1 : Nat) : Int) x172)
                    )
                  ) (
                    cond (icmp .gtr r318.1 (IntKind.wrap .u64 x172)) (
                      let x188 := (icmp .eql r318.2.2.2.2 0)
                      cond x188 (
                        some (icmp .eql ((r317.1.1 : Nat) : Int) x172)
                      ) (
                        cond x188 (
                          none
                        ) (
                          some (icmp .eql ((r317.1.1 : Nat) : Int) x172)
                        )
                      )
                    ) (
                      cond (icmp .gtr r318.1 (IntKind.wrap .u64 ((r318.2.2.2.1.2.1 : Nat) : Int))) (
                        let x189 := (icmp .eql r318.2.2.2.2 0)
                        cond x189 (
                          some (icmp .eql ((r317.1.1 : Nat) : Int) x172)
                        ) (
                          cond x189 (
                            none
                          ) (
                            some (icmp .eql ((r317.1.1 : Nat) : Int) x172)
                          )
                        )
                      ) (
                        let x190 := (decide ((0 : Int) ≤ r318.1 ∧ r318.1 ≤ ((r318.2.2.2.1.2.1 : Nat) : Int)))
                        cond x190 (
                          mo (slices_Clone_of_byte_byte (((Int.toNat r318.1), (List.take (Int.toNat r318.1) (List.drop r318.2.2.2.1.1 r318.2.1.2))), ())) none fun r319 =>
                          cond x190 (
                            cond (icmp .eql r318.2.2.2.2 0) (
                              mo (wire_AppendBytes_nil N () ((r319.1.1, r319.1.2), ())) none fun r320 =>
                              let x191 := (ibin .sub .i64 x172 (((r318.2.2.2.1.2.1 - (Int.toNat r318.1)) : Nat) : Int))
                              cond (decide ((0 : Int) ≤ x191 ∧ x191 ≤ ((a.1.1 : Nat) : Int))) (
                                let x192 := (Int.toNat x191)
                                some (veillaw10_same ((r320.1.1, r320.1.2), ()) ((x192, (List.take x192 (List.drop 0 a.1.2))), ()))
                              ) (
                                none
                              )
                            ) (
                              cond (icmp .eql ((r319.1.1 : Nat) : Int) 0) (
                                some (icmp .eql (((r318.2.2.2.1.2.1 - (Int.toNat r318.1)) : Nat) : Int) x172)
                              ) (
                                some false
                              )
                            )
                          ) (
                            none
                          )
                        ) (
                          none
                        )
                      )
                    )
                  )
                )
              )
            )
          )
        )
      )
    )
  )


end Go.Vx
