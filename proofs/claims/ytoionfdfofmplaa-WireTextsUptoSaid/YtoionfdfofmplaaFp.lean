import Derived.Test.YtoionfdfofmplaaVxR
set_option autoImplicit false
set_option linter.unusedVariables false
set_option linter.unusedSimpArgs false
namespace Go.Vx
open Go

def veillaw10_room (a : ((Nat × List Int) × Unit)) : Option (((Nat × List Int) × Unit)) :=
  let x1 := (0 + a.1.1)
  cond (decide (x1 * 1 ≤ 140737488355328 ∧ x1 ≤ 9223372036854775807)) (
    let x2 := (x1 + 3)
    cond (decide (x2 * 1 ≤ 140737488355328 ∧ x2 ≤ 9223372036854775807)) (
      some ((x2, (a.1.2 ++ [201, 202, 203])), ())
    ) (
      none
    )
  ) (
    none
  )


def veillaw10_same (a : ((Nat × List Int) × Unit)) (b : ((Nat × List Int) × Unit)) : Bool :=
  ((bStr a.1.2) == (bStr b.1.2))


def veillaw10_roomy (a : ((Nat × List Int) × Unit)) (b : ((Nat × List Int) × Unit)) : Option (Bool) :=
  let x1 := ((b.1.1 : Nat) : Int)
  cond (decide ((0 : Int) ≤ x1 ∧ x1 ≤ ((a.1.1 : Nat) : Int))) (
    let x2 := (Int.toNat x1)
    cond (veillaw10_same ((x2, (List.take x2 (List.drop 0 a.1.2))), ()) ((b.1.1, b.1.2), ())) (
      cond (decide ((0 : Int) ≤ x1 ∧ x1 < ((a.1.1 : Nat) : Int))) (
        cond (icmp .eql (List.getD a.1.2 (Int.toNat x1) 0) 201) (
          let x3 := (ibin .add .i64 x1 1)
          cond (decide ((0 : Int) ≤ x3 ∧ x3 < ((a.1.1 : Nat) : Int))) (
            cond (icmp .eql (List.getD a.1.2 (Int.toNat x3) 0) 202) (
              let x4 := (ibin .add .i64 x1 2)
              cond (decide ((0 : Int) ≤ x4 ∧ x4 < ((a.1.1 : Nat) : Int))) (
                some (icmp .eql (List.getD a.1.2 (Int.toNat x4) 0) 203)
              ) (
                none
              )
            ) (
              some false
            )
          ) (
            none
          )
        ) (
          some false
        )
      ) (
        none
      )
    ) (
      some false
    )
  ) (
    none
  )


def wire_Hex_l0 (N : Nat) (v : (ByteArray × Nat × Nat × Int × Int) × ((Nat × List Int) × (Nat × List Int))) : Option (((ByteArray × Nat × Nat × Int × Int) × ((Nat × List Int) × (Nat × List Int))) ⊕ ((Nat × (Nat × List Int)) ⊕ (Unit × Unit))) :=
  cond (icmp .lss v.1.2.2.2.2 v.1.2.2.2.1) (
    cond (decide ((0 : Int) ≤ v.1.2.2.2.2 ∧ v.1.2.2.2.2 < ((v.1.2.2.1 : Nat) : Int))) (
      let x1 := (List.getD v.2.1.2 (Int.toNat v.1.2.2.2.2) 0)
      let x2 := (ibin .shr .u8 x1 4)
      cond (decide ((0 : Int) ≤ x2 ∧ x2 < ((16 : Nat) : Int))) (
        let x3 := (ibin .and .u8 x1 15)
        cond (decide ((0 : Int) ≤ x3 ∧ x3 < ((16 : Nat) : Int))) (
          let x4 := (v.2.2.1 + 2)
          cond (decide (x4 * 1 ≤ 140737488355328 ∧ x4 ≤ 9223372036854775807)) (
            let x5 := (ByteArray.mk (List.toArray [48, 49, 50, 51, 52, 53, 54, 55, 56, 57, 97, 98, 99, 100, 101, 102]))
            some (.inl ((v.1.1, x4, v.1.2.2.1, v.1.2.2.2.1, (ibin .add .i64 v.1.2.2.2.2 1)), ((v.2.1.1, v.2.1.2), (x4, (v.2.2.2 ++ [(strAt x5 x2), (strAt x5 x3)])))))
          ) (
            none
          )
        ) (
          none
        )
      ) (
        none
      )
    ) (
      none
    )
  ) (
    some (.inr (.inl (v.1.2.1, (v.2.2.1, v.2.2.2))))
  )

def wire_Hex (N : Nat) (a : ((Nat × List Int) × Unit)) : Option (ByteArray) :=
  let x1 := ((a.1.1 : Nat) : Int)
  cond ((decide ((0 : Int) ≤ 0 ∧ (0 : Int) ≤ (ibin .mul .i64 2 x1)) && decide (Int.toNat (ibin .mul .i64 2 x1) * 1 ≤ 140737488355328 ∧ Int.toNat (ibin .mul .i64 2 x1) ≤ 9223372036854775807)) && true) (
    mo (loopF (wire_Hex_l0 N) N (((ByteArray.mk (List.toArray [])), 0, a.1.1, x1, 0), ((a.1.1, a.1.2), (0, [])))) none fun r18 =>
    match r18 with
    | .inl u19 => (
      some (bStr u19.2.2)
    )
    | .inr _ => (
      none
    )
  ) (
    none
  )


def veilref10_Hex_l0 (N : Nat) (v : (Nat × ByteArray × ByteArray × Int) × (Nat × List Int)) : Option (((Nat × ByteArray × ByteArray × Int) × (Nat × List Int)) ⊕ ((ByteArray × Unit) ⊕ (Unit × Unit))) :=
  cond (icmp .lss v.1.2.2.2 ((v.1.1 : Nat) : Int)) (
    let x1 := (decide ((0 : Int) ≤ v.1.2.2.2 ∧ v.1.2.2.2 < ((v.1.1 : Nat) : Int)))
    cond x1 (
      cond x1 (
        let x2 := (List.getD v.2.2 (Int.toNat v.1.2.2.2) 0)
        let x3 := (ibin .quo .u8 x2 16)
        let x4 := (ibin .add .u8 x3 1)
        cond (decide ((0 : Int) ≤ x4 ∧ x4 ≤ ((16 : Nat) : Int))) (
          let x5 := (Int.toNat x4)
          cond (decide ((0 : Int) ≤ x3 ∧ x3 ≤ ((x5 : Nat) : Int))) (
            let x6 := (ByteArray.mk (List.toArray [48, 49, 50, 51, 52, 53, 54, 55, 56, 57, 97, 98, 99, 100, 101, 102]))
            let x7 := (ByteArray.extract x6 (Int.toNat x3) x5)
            cond (inR .i64 ((ByteArray.size v.1.2.2.1 + ByteArray.size x7 : Nat) : Int)) (
              cond x1 (
                cond x1 (
                  let x8 := (ibin .rem .u8 x2 16)
                  let x9 := (ibin .add .u8 x8 1)
                  cond (decide ((0 : Int) ≤ x9 ∧ x9 ≤ ((16 : Nat) : Int))) (
                    let x10 := (Int.toNat x9)
                    cond (decide ((0 : Int) ≤ x8 ∧ x8 ≤ ((x10 : Nat) : Int))) (
                      let x11 := (v.1.2.2.1 ++ x7)
                      let x12 := (ByteArray.extract x6 (Int.toNat x8) x10)
                      cond (inR .i64 ((ByteArray.size x11 + ByteArray.size x12 : Nat) : Int)) (
                        some (.inl ((v.1.1, v.1.2.1, (x11 ++ x12), (ibin .add .i64 v.1.2.2.2 1)), (v.2.1, v.2.2)))
                      ) (
                        none
                      )
                    ) (
                      none
                    )
                  ) (
                    none
                  )
                ) (
                  none
                )
              ) (
                none
              )
            ) (
              none
            )
          ) (
            none
          )
        ) (
          none
        )
      ) (
        none
      )
    ) (
      none
    )
  ) (
    some (.inr (.inl (v.1.2.2.1, ())))
  )

def veilref10_Hex (N : Nat) (a : ((Nat × List Int) × Unit)) : Option (ByteArray) :=
  mo (loopF (veilref10_Hex_l0 N) N ((a.1.1, (ByteArray.mk (List.toArray [])), (ByteArray.mk (List.toArray [])), 0), (a.1.1, a.1.2))) none fun r12 =>
  match r12 with
  | .inl u13 => (
    some u13.1
  )
  | .inr _ => (
    none
  )


def wire_digit (a : Int) : Int :=
  cond (icmp .geq a 48) (
    cond (icmp .leq a 57) (
      (IntKind.wrap .u8 (ibin .sub .i32 a 48))
    ) (
      cond (icmp .geq a 97) (
        cond (icmp .leq a 102) (
          (ibin .add .u8 (IntKind.wrap .u8 (ibin .sub .i32 a 97)) 10)
        ) (
          16
        )
      ) (
        16
      )
    )
  ) (
    cond (icmp .geq a 97) (
      cond (icmp .leq a 102) (
        (ibin .add .u8 (IntKind.wrap .u8 (ibin .sub .i32 a 97)) 10)
      ) (
        16
      )
    ) (
      16
    )
  )

def wire_digit_o (a : Int) : Option (Int) :=
  cond (icmp .geq a 48) (
    cond (icmp .leq a 57) (
      some (IntKind.wrap .u8 (ibin .sub .i32 a 48))
    ) (
      cond (icmp .geq a 97) (
        cond (icmp .leq a 102) (
          some (ibin .add .u8 (IntKind.wrap .u8 (ibin .sub .i32 a 97)) 10)
        ) (
          some 16
        )
      ) (
        some 16
      )
    )
  ) (
    cond (icmp .geq a 97) (
      cond (icmp .leq a 102) (
        some (ibin .add .u8 (IntKind.wrap .u8 (ibin .sub .i32 a 97)) 10)
      ) (
        some 16
      )
    ) (
      some 16
    )
  )

theorem wire_digit_tot (a : Int) : wire_digit_o a = some (wire_digit a) := by
  unfold wire_digit_o wire_digit
  repeat' (first | refine cond_tot ?_ ?_ | rfl)

def wire_Unhex_l0 (N : Nat) (v : (Unit × Unit × Nat × Unit) × ((Nat × List Int) × (ByteArray × Nat))) : Option (((Unit × Unit × Nat × Unit) × ((Nat × List Int) × (ByteArray × Nat))) ⊕ ((Nat × (Nat × List Int)) ⊕ ((Unit × Unit) × Unit))) :=
  cond (Nat.blt v.2.2.2 (ByteArray.size v.2.2.1)) (
    let x1 := (wire_digit (((Utf8.decode v.2.2.1 v.2.2.2).1 : Nat) : Int))
    cond (icmp .gtr x1 15) (
      some (.inr (.inr (((), ()), ())))
    ) (
      let x2 := (ibin .quo .i64 ((v.2.2.2 : Nat) : Int) 2)
      let x3 := (decide ((0 : Int) ≤ x2 ∧ x2 < ((v.1.2.2.1 : Nat) : Int)))
      cond x3 (
        cond x3 (
          some (.inl (((), (), v.1.2.2.1, ()), ((v.2.1.1, (List.set v.2.1.2 (Int.toNat x2) (ibin .or .u8 (ibin .shl .u8 (List.getD v.2.1.2 (Int.toNat x2) 0) 4) x1))), (v.2.2.1, (v.2.2.2 + (Utf8.decode v.2.2.1 v.2.2.2).2)))))
        ) (
          none
        )
      ) (
        none
      )
    )
  ) (
    some (.inr (.inl (v.1.2.2.1, (v.2.1.1, v.2.1.2))))
  )

def wire_Unhex (N : Nat) (a : ByteArray) : Option ((((Nat × List Int) × Unit) × Int)) :=
  cond (icmp .eql (ibin .rem .i64 (((ByteArray.size a) : Nat) : Int) 2) 1) (
    some (((0, []), ()), 104)
  ) (
    let x1 := (ibin .quo .i64 (((ByteArray.size a) : Nat) : Int) 2)
    cond ((decide ((0 : Int) ≤ x1 ∧ (x1 : Int) ≤ x1) && decide (Int.toNat x1 * 1 ≤ 140737488355328 ∧ Int.toNat x1 ≤ 9223372036854775807)) && true) (
      let x2 := (Int.toNat x1)
      mo (loopF (wire_Unhex_l0 N) N (((), (), x2, ()), ((x2, (List.replicate x2 0)), (a, 0)))) none fun r11 =>
      match r11 with
      | .inl u12 => (
        some (((u12.2.1, u12.2.2), ()), 0)
      )
      | .inr w13 => (
        some (((0, []), ()), 104)
      )
    ) (
      none
    )
  )


def veilref10_digit (a : Int) : Int :=
  cond (icmp .eql 48 a) (
    0
  ) (
    cond (icmp .eql 49 a) (
      1
    ) (
      cond (icmp .eql 50 a) (
        2
      ) (
        cond (icmp .eql 51 a) (
          3
        ) (
          cond (icmp .eql 52 a) (
            4
          ) (
            cond (icmp .eql 53 a) (
              5
            ) (
              cond (icmp .eql 54 a) (
                6
              ) (
                cond (icmp .eql 55 a) (
                  7
                ) (
                  cond (icmp .eql 56 a) (
                    8
                  ) (
                    cond (icmp .eql 57 a) (
                      9
                    ) (
                      cond (icmp .eql 97 a) (
                        10
                      ) (
                        cond (icmp .eql 98 a) (
                          11
                        ) (
                          cond (icmp .eql 99 a) (
                            12
                          ) (
                            cond (icmp .eql 100 a) (
                              13
                            ) (
                              cond (icmp .eql 101 a) (
                                14
                              ) (
                                cond (icmp .eql 102 a) (
                                  15
                                ) (
                                  16
                                )
                              )
                            )
                          )
                        )
                      )
                    )
                  )
                )
              )
            )
          )
        )
      )
    )
  )

def veilref10_digit_o (a : Int) : Option (Int) :=
  cond (icmp .eql 48 a) (
    some 0
  ) (
    cond (icmp .eql 49 a) (
      some 1
    ) (
      cond (icmp .eql 50 a) (
        some 2
      ) (
        cond (icmp .eql 51 a) (
          some 3
        ) (
          cond (icmp .eql 52 a) (
            some 4
          ) (
            cond (icmp .eql 53 a) (
              some 5
            ) (
              cond (icmp .eql 54 a) (
                some 6
              ) (
                cond (icmp .eql 55 a) (
                  some 7
                ) (
                  cond (icmp .eql 56 a) (
                    some 8
                  ) (
                    cond (icmp .eql 57 a) (
                      some 9
                    ) (
                      cond (icmp .eql 97 a) (
                        some 10
                      ) (
                        cond (icmp .eql 98 a) (
                          some 11
                        ) (
                          cond (icmp .eql 99 a) (
                            some 12
                          ) (
                            cond (icmp .eql 100 a) (
                              some 13
                            ) (
                              cond (icmp .eql 101 a) (
                                some 14
                              ) (
                                cond (icmp .eql 102 a) (
                                  some 15
                                ) (
                                  some 16
                                )
                              )
                            )
                          )
                        )
                      )
                    )
                  )
                )
              )
            )
          )
        )
      )
    )
  )

theorem veilref10_digit_tot (a : Int) : veilref10_digit_o a = some (veilref10_digit a) := by
  unfold veilref10_digit_o veilref10_digit
  repeat' (first | refine cond_tot ?_ ?_ | rfl)

def veilref10_Unhex_l0 (N : Nat) (v : (ByteArray × Unit × Unit × Nat × Int) × (Nat × List Int)) : Option (((ByteArray × Unit × Unit × Nat × Int) × (Nat × List Int)) ⊕ ((Nat × (Nat × List Int)) ⊕ ((Unit × Unit) × Unit))) :=
  let x1 := (ByteArray.size v.1.1)
  cond (icmp .lss v.1.2.2.2.2 ((x1 : Nat) : Int)) (
    cond (decide ((0 : Int) ≤ v.1.2.2.2.2 ∧ v.1.2.2.2.2 < ((x1 : Nat) : Int))) (
      let x2 := (ibin .add .i64 v.1.2.2.2.2 1)
      cond (decide ((0 : Int) ≤ x2 ∧ x2 < ((x1 : Nat) : Int))) (
        let x3 := (veilref10_digit (strAt v.1.1 v.1.2.2.2.2))
        cond (icmp .eql x3 16) (
          some (.inr (.inr (((), ()), ())))
        ) (
          let x4 := (veilref10_digit (strAt v.1.1 x2))
          cond (icmp .eql x4 16) (
            some (.inr (.inr (((), ()), ())))
          ) (
            let x5 := (v.2.1 + 1)
            cond (decide (x5 * 1 ≤ 140737488355328 ∧ x5 ≤ 9223372036854775807)) (
              some (.inl ((v.1.1, (), (), x5, (ibin .add .i64 v.1.2.2.2.2 2)), (x5, (v.2.2 ++ [(IntKind.wrap .u8 (ibin .add .i64 (ibin .mul .i64 16 x3) x4))]))))
            ) (
              none
            )
          )
        )
      ) (
        none
      )
    ) (
      none
    )
  ) (
    some (.inr (.inl (v.1.2.2.2.1, (v.2.1, v.2.2))))
  )

def veilref10_Unhex (N : Nat) (a : ByteArray) : Option ((((Nat × List Int) × Unit) × Int)) :=
  cond (icmp .eql (ibin .rem .i64 (((ByteArray.size a) : Nat) : Int) 2) 1) (
    some (((0, []), ()), 104)
  ) (
    mo (loopF (veilref10_Unhex_l0 N) N ((a, (), (), 0, 0), (0, []))) none fun r11 =>
    match r11 with
    | .inl u12 => (
      some (((u12.2.1, u12.2.2), ()), 0)
    )
    | .inr w13 => (
      some (((0, []), ()), 104)
    )
  )


def veillaw10_WireHex (N : Nat) (a : ((Nat × List Int) × Unit)) (b : ByteArray) : Option (Bool) :=
  mo (veillaw10_room ((a.1.1, a.1.2), ())) none fun r1 =>
  let x1 := ((a.1.1 : Nat) : Int)
  cond (decide ((0 : Int) ≤ x1 ∧ x1 ≤ ((r1.1.1 : Nat) : Int))) (
    let x2 := (Int.toNat x1)
    mo (wire_Hex N ((x2, (List.take x2 (List.drop 0 r1.1.2))), ())) none fun r2 =>
    mo (veilref10_Hex N ((a.1.1, a.1.2), ())) none fun r3 =>
    cond (!(r2 == r3)) (
      some false
    ) (
      mo (veillaw10_roomy ((r1.1.1, r1.1.2), ()) ((a.1.1, a.1.2), ())) none fun r4 =>
      cond (!r4) (
        some false
      ) (
        mo (wire_Unhex N b) none fun r5 =>
        mo (veilref10_Unhex N b) none fun r6 =>
        cond (icmp .eql r5.2 r6.2) (
          some (veillaw10_same ((r5.1.1.1, r5.1.1.2), ()) ((r6.1.1.1, r6.1.1.2), ()))
        ) (
          some false
        )
      )
    )
  ) (
    none
  )


def wire_AppendNumber_nil_l0 (N : Nat) (v : (Int × Unit × Nat) × (Nat × List Int)) : Option (((Int × Unit × Nat) × (Nat × List Int)) ⊕ (((Int × Nat) × (Nat × List Int)) ⊕ (Unit × Unit))) :=
  cond (icmp .gtr v.1.1 127) (
    let x1 := (v.2.1 + 1)
    cond (decide (x1 * 1 ≤ 140737488355328 ∧ x1 ≤ 9223372036854775807)) (
      some (.inl (((ibin .shr .u64 v.1.1 7), (), x1), (x1, (v.2.2 ++ [(ibin .or .u8 (IntKind.wrap .u8 v.1.1) 128)]))))
    ) (
      none
    )
  ) (
    some (.inr (.inl ((v.1.1, v.1.2.2), (v.2.1, v.2.2))))
  )

def wire_AppendNumber_nil (N : Nat) (a : Unit) (b : Int) : Option (((Nat × List Int) × Unit)) :=
  mo (loopF (wire_AppendNumber_nil_l0 N) N ((b, (), 0), (0, []))) none fun r10 =>
  match r10 with
  | .inl u11 => (
    let x1 := (u11.2.1 + 1)
    cond (decide (x1 * 1 ≤ 140737488355328 ∧ x1 ≤ 9223372036854775807)) (
      some ((x1, (u11.2.2 ++ [(IntKind.wrap .u8 u11.1.1)])), ())
    ) (
      none
    )
  )
  | .inr _ => (
    none
  )


def wire_AppendNumber_l0 (N : Nat) (v : (Int × Unit × Nat) × (Nat × List Int)) : Option (((Int × Unit × Nat) × (Nat × List Int)) ⊕ (((Int × Nat) × (Nat × List Int)) ⊕ (Unit × Unit))) :=
  cond (icmp .gtr v.1.1 127) (
    let x1 := (v.2.1 + 1)
    cond (decide (x1 * 1 ≤ 140737488355328 ∧ x1 ≤ 9223372036854775807)) (
      some (.inl (((ibin .shr .u64 v.1.1 7), (), x1), (x1, (v.2.2 ++ [(ibin .or .u8 (IntKind.wrap .u8 v.1.1) 128)]))))
    ) (
      none
    )
  ) (
    some (.inr (.inl ((v.1.1, v.1.2.2), (v.2.1, v.2.2))))
  )

def wire_AppendNumber (N : Nat) (a : ((Nat × List Int) × Unit)) (b : Int) : Option (((Nat × List Int) × Unit)) :=
  let x1 := (ibin .add .i64 0 ((a.1.1 : Nat) : Int))
  cond (icmp .lss x1 0) (
    none
  ) (
    let x2 := (ibin .add .i64 x1 0)
    let x3 := (icmp .lss x2 0)
    cond x3 (
      none
    ) (
      cond x3 (
        none
      ) (
        let x4 := (ibin .sub .i64 x2 0)
        cond (icmp .gtr x4 0) (
          cond ((decide ((0 : Int) < x4) && decide (Int.toNat x4 * 1 ≤ 140737488355328 ∧ Int.toNat x4 ≤ 9223372036854775807)) && true) (
            let x5 := (Int.toNat x4)
            cond (decide ((0 : Int) ≤ 0 ∧ 0 ≤ ((x5 : Nat) : Int))) (
              let x6 := (0 + a.1.1)
              cond (decide (x6 * 1 ≤ 140737488355328 ∧ x6 ≤ 9223372036854775807)) (
                mo (loopF (wire_AppendNumber_l0 N) N ((b, (), x6), (x6, ((List.take 0 (List.drop 0 (List.replicate x5 0))) ++ a.1.2)))) none fun r9 =>
                match r9 with
                | .inl u10 => (
                  let x7 := (u10.2.1 + 1)
                  cond (decide (x7 * 1 ≤ 140737488355328 ∧ x7 ≤ 9223372036854775807)) (
                    some ((x7, (u10.2.2 ++ [(IntKind.wrap .u8 u10.1.1)])), ())
                  ) (
                    none
                  )
                )
                | .inr _ => (
                  none
                )
              ) (
                none
              )
            ) (
              none
            )
          ) (
            none
          )
        ) (
          let x8 := (0 + a.1.1)
          cond (decide (x8 * 1 ≤ 140737488355328 ∧ x8 ≤ 9223372036854775807)) (
            mo (loopF (wire_AppendNumber_l0 N) N ((b, (), x8), (x8, a.1.2))) none fun r20 =>
            match r20 with
            | .inl u21 => (
              let x9 := (u21.2.1 + 1)
              cond (decide (x9 * 1 ≤ 140737488355328 ∧ x9 ≤ 9223372036854775807)) (
                some ((x9, (u21.2.2 ++ [(IntKind.wrap .u8 u21.1.1)])), ())
              ) (
                none
              )
            )
            | .inr _ => (
              none
            )
          ) (
            none
          )
        )
      )
    )
  )


def wire_AppendBytes (N : Nat) (a : ((Nat × List Int) × Unit)) (b : ((Nat × List Int) × Unit)) : Option (((Nat × List Int) × Unit)) :=
  mo (wire_AppendNumber N ((a.1.1, a.1.2), ()) (IntKind.wrap .u64 ((b.1.1 : Nat) : Int))) none fun r1 =>
  let x1 := (r1.1.1 + b.1.1)
  cond (decide (x1 * 1 ≤ 140737488355328 ∧ x1 ≤ 9223372036854775807)) (
    some ((x1, (r1.1.2 ++ b.1.2)), ())
  ) (
    none
  )


def veilref10_Number_l0 (N : Nat) (v : (Int × Unit × Nat) × (Nat × List Int)) : Option (((Int × Unit × Nat) × (Nat × List Int)) ⊕ (((Int × Nat) × (Nat × List Int)) ⊕ (Unit × Unit))) :=
  cond (icmp .geq v.1.1 128) (
    let x1 := (v.2.1 + 1)
    cond (decide (x1 * 1 ≤ 140737488355328 ∧ x1 ≤ 9223372036854775807)) (
      some (.inl (((ibin .quo .u64 v.1.1 128), (), x1), (x1, (v.2.2 ++ [(ibin .add .u8 (IntKind.wrap .u8 (ibin .rem .u64 v.1.1 128)) 128)]))))
    ) (
      none
    )
  ) (
    some (.inr (.inl ((v.1.1, v.1.2.2), (v.2.1, v.2.2))))
  )

def veilref10_Number (N : Nat) (a : Int) : Option (((Nat × List Int) × Unit)) :=
  mo (loopF (veilref10_Number_l0 N) N ((a, (), 0), (0, []))) none fun r10 =>
  match r10 with
  | .inl u11 => (
    let x1 := (u11.2.1 + 1)
    cond (decide (x1 * 1 ≤ 140737488355328 ∧ x1 ≤ 9223372036854775807)) (
      some ((x1, (u11.2.2 ++ [(IntKind.wrap .u8 u11.1.1)])), ())
    ) (
      none
    )
  )
  | .inr _ => (
    none
  )


def veilref10_List (N : Nat) (a : ((Nat × List Int) × Unit)) : Option (((Nat × List Int) × Unit)) :=
  mo (veilref10_Number N (IntKind.wrap .u64 ((a.1.1 : Nat) : Int))) none fun r1 =>
  let x1 := (r1.1.1 + a.1.1)
  cond (decide (x1 * 1 ≤ 140737488355328 ∧ x1 ≤ 9223372036854775807)) (
    some ((x1, (r1.1.2 ++ a.1.2)), ())
  ) (
    none
  )


def slices_Clone_of_byte_byte (a : ((Nat × List Int) × Unit)) : Option (((Nat × List Int) × Unit)) :=
  cond (decide ((0 + a.1.1) * 1 ≤ 140737488355328 ∧ 0 + a.1.1 ≤ 9223372036854775807)) (some ((0 + a.1.1, List.take a.1.1 (List.drop 0 a.1.2)), ())) none

set_option maxRecDepth 100000 in
def veillaw10_live (N : Nat)  : Option (Bool) :=
  mo (wire_AppendNumber_nil N () 300) none fun r1 =>
  mo (slices_Clone_of_byte_byte ((r1.1.1, r1.1.2), ())) none fun r2 =>
  cond (icmp .eql ((r1.1.1 : Nat) : Int) 2) (
    cond (decide ((0 : Int) ≤ 0 ∧ 0 < ((r1.1.1 : Nat) : Int))) (
      cond (icmp .eql (List.getD r1.1.2 0 0) 172) (
        cond (decide ((0 : Int) ≤ 1 ∧ 1 < ((r1.1.1 : Nat) : Int))) (
          cond (icmp .eql (List.getD r1.1.2 1 0) 2) (
            let x1 := ((r2.1.1 : Nat) : Int)
            cond (icmp .eql 0 x1) (
              some false
            ) (
              cond (decide ((0 : Int) ≤ 0 ∧ 0 < ((r2.1.1 : Nat) : Int))) (
                cond (icmp .lss (List.getD r2.1.2 0 0) 128) (
                  cond (icmp .eql (List.getD r2.1.2 0 0) 0) (
                    cond (decide ((0 : Int) ≤ 1 ∧ 1 ≤ ((r2.1.1 : Nat) : Int))) (
                      let x2 := (ibin .or .u64 0 (ibin .shl .u64 (IntKind.wrap .u64 (ibin .and .u8 (List.getD r2.1.2 0 0) 127)) 0))
                      cond (icmp .gtr x2 300) (
                        some false
                      ) (
                        cond (icmp .eql x2 300) (
                          cond (icmp .gtr (((r2.1.1 - 1) : Nat) : Int) 0) (
                            some false
                          ) (
                            some true
                          )
                        ) (
                          some false
                        )
                      )
                    ) (
                      none
                    )
                  ) (
                    cond (decide ((0 : Int) ≤ 1 ∧ 1 ≤ ((r2.1.1 : Nat) : Int))) (
                      let x3 := (ibin .or .u64 0 (ibin .shl .u64 (IntKind.wrap .u64 (ibin .and .u8 (List.getD r2.1.2 0 0) 127)) 0))
                      cond (icmp .gtr x3 300) (
                        some false
                      ) (
                        cond (icmp .eql x3 300) (
                          cond (icmp .gtr (((r2.1.1 - 1) : Nat) : Int) 0) (
                            some false
                          ) (
                            some true
                          )
                        ) (
                          some false
                        )
                      )
                    ) (
                      none
                    )
                  )
                ) (
                  cond (icmp .eql 1 x1) (
                    some false
                  ) (
                    cond (decide ((0 : Int) ≤ 1 ∧ 1 < ((r2.1.1 : Nat) : Int))) (
                      cond (icmp .lss (List.getD r2.1.2 1 0) 128) (
                        cond (icmp .eql (List.getD r2.1.2 1 0) 0) (
                          some false
                        ) (
                          cond (decide ((0 : Int) ≤ 2 ∧ 2 ≤ ((r2.1.1 : Nat) : Int))) (
                            let x4 := (ibin .or .u64 (ibin .or .u64 0 (ibin .shl .u64 (IntKind.wrap .u64 (ibin .and .u8 (List.getD r2.1.2 0 0) 127)) 0)) (ibin .shl .u64 (IntKind.wrap .u64 (ibin .and .u8 (List.getD r2.1.2 1 0) 127)) 7))
                            cond (icmp .gtr x4 300) (
                              some false
                            ) (
                              cond (icmp .eql x4 300) (
                                cond (icmp .gtr (((r2.1.1 - 2) : Nat) : Int) 0) (
                                  some false
                                ) (
                                  some true
                                )
                              ) (
                                some false
                              )
                            )
                          ) (
                            none
                          )
                        )
                      ) (
                        cond (icmp .eql 2 x1) (
                          some false
                        ) (
                          cond (decide ((0 : Int) ≤ 2 ∧ 2 < ((r2.1.1 : Nat) : Int))) (
                            cond (icmp .lss (List.getD r2.1.2 2 0) 128) (
                              cond (icmp .eql (List.getD r2.1.2 2 0) 0) (
                                some false
                              ) (
                                cond (decide ((0 : Int) ≤ 3 ∧ 3 ≤ ((r2.1.1 : Nat) : Int))) (
                                  let x5 := (ibin .or .u64 (ibin .or .u64 (ibin .or .u64 0 (ibin .shl .u64 (IntKind.wrap .u64 (ibin .and .u8 (List.getD r2.1.2 0 0) 127)) 0)) (ibin .shl .u64 (IntKind.wrap .u64 (ibin .and .u8 (List.getD r2.1.2 1 0) 127)) 7)) (ibin .shl .u64 (IntKind.wrap .u64 (ibin .and .u8 (List.getD r2.1.2 2 0) 127)) 14))
                                  cond (icmp .gtr x5 300) (
                                    some false
                                  ) (
                                    cond (icmp .eql x5 300) (
                                      cond (icmp .gtr (((r2.1.1 - 3) : Nat) : Int) 0) (
                                        some false
                                      ) (
                                        some true
                                      )
                                    ) (
                                      some false
                                    )
                                  )
                                ) (
                                  none
                                )
                              )
                            ) (
                              cond (icmp .eql 3 x1) (
                                some false
                              ) (
                                cond (decide ((0 : Int) ≤ 3 ∧ 3 < ((r2.1.1 : Nat) : Int))) (
                                  cond (icmp .lss (List.getD r2.1.2 3 0) 128) (
                                    cond (icmp .eql (List.getD r2.1.2 3 0) 0) (
                                      some false
                                    ) (
                                      cond (decide ((0 : Int) ≤ 4 ∧ 4 ≤ ((r2.1.1 : Nat) : Int))) (
                                        let x6 := (ibin .or .u64 (ibin .or .u64 (ibin .or .u64 (ibin .or .u64 0 (ibin .shl .u64 (IntKind.wrap .u64 (ibin .and .u8 (List.getD r2.1.2 0 0) 127)) 0)) (ibin .shl .u64 (IntKind.wrap .u64 (ibin .and .u8 (List.getD r2.1.2 1 0) 127)) 7)) (ibin .shl .u64 (IntKind.wrap .u64 (ibin .and .u8 (List.getD r2.1.2 2 0) 127)) 14)) (ibin .shl .u64 (IntKind.wrap .u64 (ibin .and .u8 (List.getD r2.1.2 3 0) 127)) 21))
                                        cond (icmp .gtr x6 300) (
                                          some false
                                        ) (
                                          cond (icmp .eql x6 300) (
                                            cond (icmp .gtr (((r2.1.1 - 4) : Nat) : Int) 0) (
                                              some false
                                            ) (
                                              some true
                                            )
                                          ) (
                                            some false
                                          )
                                        )
                                      ) (
                                        none
                                      )
                                    )
                                  ) (
                                    cond (icmp .eql 4 x1) (
                                      some false
                                    ) (
                                      cond (decide ((0 : Int) ≤ 4 ∧ 4 < ((r2.1.1 : Nat) : Int))) (
                                        cond (icmp .lss (List.getD r2.1.2 4 0) 128) (
                                          cond (icmp .eql (List.getD r2.1.2 4 0) 0) (
                                            some false
                                          ) (
                                            cond (decide ((0 : Int) ≤ 5 ∧ 5 ≤ ((r2.1.1 : Nat) : Int))) (
                                              let x7 := (ibin .or .u64 (ibin .or .u64 (ibin .or .u64 (ibin .or .u64 (ibin .or .u64 0 (ibin .shl .u64 (IntKind.wrap .u64 (ibin .and .u8 (List.getD r2.1.2 0 0) 127)) 0)) (ibin .shl .u64 (IntKind.wrap .u64 (ibin .and .u8 (List.getD r2.1.2 1 0) 127)) 7)) (ibin .shl .u64 (IntKind.wrap .u64 (ibin .and .u8 (List.getD r2.1.2 2 0) 127)) 14)) (ibin .shl .u64 (IntKind.wrap .u64 (ibin .and .u8 (List.getD r2.1.2 3 0) 127)) 21)) (ibin .shl .u64 (IntKind.wrap .u64 (ibin .and .u8 (List.getD r2.1.2 4 0) 127)) 28))
                                              cond (icmp .gtr x7 300) (
                                                some false
                                              ) (
                                                cond (icmp .eql x7 300) (
                                                  cond (icmp .gtr (((r2.1.1 - 5) : Nat) : Int) 0) (
                                                    some false
                                                  ) (
                                                    some true
                                                  )
                                                ) (
                                                  some false
                                                )
                                              )
                                            ) (
                                              none
                                            )
                                          )
                                        ) (
                                          cond (icmp .eql 5 x1) (
                                            some false
                                          ) (
                                            cond (decide ((0 : Int) ≤ 5 ∧ 5 < ((r2.1.1 : Nat) : Int))) (
                                              cond (icmp .lss (List.getD r2.1.2 5 0) 128) (
                                                cond (icmp .eql (List.getD r2.1.2 5 0) 0) (
                                                  some false
                                                ) (
                                                  cond (decide ((0 : Int) ≤ 6 ∧ 6 ≤ ((r2.1.1 : Nat) : Int))) (
                                                    let x8 := (ibin .or .u64 (ibin .or .u64 (ibin .or .u64 (ibin .or .u64 (ibin .or .u64 (ibin .or .u64 0 (ibin .shl .u64 (IntKind.wrap .u64 (ibin .and .u8 (List.getD r2.1.2 0 0) 127)) 0)) (ibin .shl .u64 (IntKind.wrap .u64 (ibin .and .u8 (List.getD r2.1.2 1 0) 127)) 7)) (ibin .shl .u64 (IntKind.wrap .u64 (ibin .and .u8 (List.getD r2.1.2 2 0) 127)) 14)) (ibin .shl .u64 (IntKind.wrap .u64 (ibin .and .u8 (List.getD r2.1.2 3 0) 127)) 21)) (ibin .shl .u64 (IntKind.wrap .u64 (ibin .and .u8 (List.getD r2.1.2 4 0) 127)) 28)) (ibin .shl .u64 (IntKind.wrap .u64 (ibin .and .u8 (List.getD r2.1.2 5 0) 127)) 35))
                                                    cond (icmp .gtr x8 300) (
                                                      some false
                                                    ) (
                                                      cond (icmp .eql x8 300) (
                                                        cond (icmp .gtr (((r2.1.1 - 6) : Nat) : Int) 0) (
                                                          some false
                                                        ) (
                                                          some true
                                                        )
                                                      ) (
                                                        some false
                                                      )
                                                    )
                                                  ) (
                                                    none
                                                  )
                                                )
                                              ) (
                                                cond (icmp .eql 6 x1) (
                                                  some false
                                                ) (
                                                  cond (decide ((0 : Int) ≤ 6 ∧ 6 < ((r2.1.1 : Nat) : Int))) (
                                                    cond (icmp .lss (List.getD r2.1.2 6 0) 128) (
                                                      cond (icmp .eql (List.getD r2.1.2 6 0) 0) (
                                                        some false
                                                      ) (
                                                        cond (decide ((0 : Int) ≤ 7 ∧ 7 ≤ ((r2.1.1 : Nat) : Int))) (
                                                          let x9 := (ibin .or .u64 (ibin .or .u64 (ibin .or .u64 (ibin .or .u64 (ibin .or .u64 (ibin .or .u64 (ibin .or .u64 0 (ibin .shl .u64 (IntKind.wrap .u64 (ibin .and .u8 (List.getD r2.1.2 0 0) 127)) 0)) (ibin .shl .u64 (IntKind.wrap .u64 (ibin .and .u8 (List.getD r2.1.2 1 0) 127)) 7)) (ibin .shl .u64 (IntKind.wrap .u64 (ibin .and .u8 (List.getD r2.1.2 2 0) 127)) 14)) (ibin .shl .u64 (IntKind.wrap .u64 (ibin .and .u8 (List.getD r2.1.2 3 0) 127)) 21)) (ibin .shl .u64 (IntKind.wrap .u64 (ibin .and .u8 (List.getD r2.1.2 4 0) 127)) 28)) (ibin .shl .u64 (IntKind.wrap .u64 (ibin .and .u8 (List.getD r2.1.2 5 0) 127)) 35)) (ibin .shl .u64 (IntKind.wrap .u64 (ibin .and .u8 (List.getD r2.1.2 6 0) 127)) 42))
                                                          cond (icmp .gtr x9 300) (
                                                            some false
                                                          ) (
                                                            cond (icmp .eql x9 300) (
                                                              cond (icmp .gtr (((r2.1.1 - 7) : Nat) : Int) 0) (
                                                                some false
                                                              ) (
                                                                some true
                                                              )
                                                            ) (
                                                              some false
                                                            )
                                                          )
                                                        ) (
                                                          none
                                                        )
                                                      )
                                                    ) (
                                                      cond (icmp .eql 7 x1) (
                                                        some false
                                                      ) (
                                                        cond (decide ((0 : Int) ≤ 7 ∧ 7 < ((r2.1.1 : Nat) : Int))) (
                                                          cond (icmp .lss (List.getD r2.1.2 7 0) 128) (
                                                            cond (icmp .eql (List.getD r2.1.2 7 0) 0) (
                                                              some false
                                                            ) (
                                                              cond (decide ((0 : Int) ≤ 8 ∧ 8 ≤ ((r2.1.1 : Nat) : Int))) (
                                                                let x10 := (ibin .or .u64 (ibin .or .u64 (ibin .or .u64 (ibin .or .u64 (ibin .or .u64 (ibin .or .u64 (ibin .or .u64 (ibin .or .u64 0 (ibin .shl .u64 (IntKind.wrap .u64 (ibin .and .u8 (List.getD r2.1.2 0 0) 127)) 0)) (ibin .shl .u64 (IntKind.wrap .u64 (ibin .and .u8 (List.getD r2.1.2 1 0) 127)) 7)) (ibin .shl .u64 (IntKind.wrap .u64 (ibin .and .u8 (List.getD r2.1.2 2 0) 127)) 14)) (ibin .shl .u64 (IntKind.wrap .u64 (ibin .and .u8 (List.getD r2.1.2 3 0) 127)) 21)) (ibin .shl .u64 (IntKind.wrap .u64 (ibin .and .u8 (List.getD r2.1.2 4 0) 127)) 28)) (ibin .shl .u64 (IntKind.wrap .u64 (ibin .and .u8 (List.getD r2.1.2 5 0) 127)) 35)) (ibin .shl .u64 (IntKind.wrap .u64 (ibin .and .u8 (List.getD r2.1.2 6 0) 127)) 42)) (ibin .shl .u64 (IntKind.wrap .u64 (ibin .and .u8 (List.getD r2.1.2 7 0) 127)) 49))
                                                                cond (icmp .gtr x10 300) (
                                                                  some false
                                                                ) (
                                                                  cond (icmp .eql x10 300) (
                                                                    cond (icmp .gtr (((r2.1.1 - 8) : Nat) : Int) 0) (
                                                                      some false
                                                                    ) (
                                                                      some true
                                                                    )
                                                                  ) (
                                                                    some false
                                                                  )
                                                                )
                                                              ) (
                                                                none
                                                              )
                                                            )
                                                          ) (
                                                            cond (icmp .eql 8 x1) (
                                                              some false
                                                            ) (
                                                              cond (decide ((0 : Int) ≤ 8 ∧ 8 < ((r2.1.1 : Nat) : Int))) (
                                                                cond (icmp .lss (List.getD r2.1.2 8 0) 128) (
                                                                  cond (icmp .eql (List.getD r2.1.2 8 0) 0) (
                                                                    some false
                                                                  ) (
                                                                    cond (decide ((0 : Int) ≤ 9 ∧ 9 ≤ ((r2.1.1 : Nat) : Int))) (
                                                                      let x11 := (ibin .or .u64 (ibin .or .u64 (ibin .or .u64 (ibin .or .u64 (ibin .or .u64 (ibin .or .u64 (ibin .or .u64 (ibin .or .u64 (ibin .or .u64 0 (ibin .shl .u64 (IntKind.wrap .u64 (ibin .and .u8 (List.getD r2.1.2 0 0) 127)) 0)) (ibin .shl .u64 (IntKind.wrap .u64 (ibin .and .u8 (List.getD r2.1.2 1 0) 127)) 7)) (ibin .shl .u64 (IntKind.wrap .u64 (ibin .and .u8 (List.getD r2.1.2 2 0) 127)) 14)) (ibin .shl .u64 (IntKind.wrap .u64 (ibin .and .u8 (List.getD r2.1.2 3 0) 127)) 21)) (ibin .shl .u64 (IntKind.wrap .u64 (ibin .and .u8 (List.getD r2.1.2 4 0) 127)) 28)) (ibin .shl .u64 (IntKind.wrap .u64 (ibin .and .u8 (List.getD r2.1.2 5 0) 127)) 35)) (ibin .shl .u64 (IntKind.wrap .u64 (ibin .and .u8 (List.getD r2.1.2 6 0) 127)) 42)) (ibin .shl .u64 (IntKind.wrap .u64 (ibin .and .u8 (List.getD r2.1.2 7 0) 127)) 49)) (ibin .shl .u64 (IntKind.wrap .u64 (ibin .and .u8 (List.getD r2.1.2 8 0) 127)) 56))
                                                                      cond (icmp .gtr x11 300) (
                                                                        some false
                                                                      ) (
                                                                        cond (icmp .eql x11 300) (
                                                                          cond (icmp .gtr (((r2.1.1 - 9) : Nat) : Int) 0) (
                                                                            some false
                                                                          ) (
                                                                            some true
                                                                          )
                                                                        ) (
                                                                          some false
                                                                        )
                                                                      )
                                                                    ) (
                                                                      none
                                                                    )
                                                                  )
                                                                ) (
                                                                  cond (icmp .eql 9 x1) (
                                                                    some false
                                                                  ) (
                                                                    cond (decide ((0 : Int) ≤ 9 ∧ 9 < ((r2.1.1 : Nat) : Int))) (
                                                                      cond (icmp .gtr (List.getD r2.1.2 9 0) 1) (
                                                                        some false
                                                                      ) (
                                                                        cond (icmp .lss (List.getD r2.1.2 9 0) 128) (
                                                                          cond (icmp .eql (List.getD r2.1.2 9 0) 0) (
                                                                            some false
                                                                          ) (
                                                                            cond (decide ((0 : Int) ≤ 10 ∧ 10 ≤ ((r2.1.1 : Nat) : Int))) (
                                                                              let x12 := (ibin .or .u64 (ibin .or .u64 (ibin .or .u64 (ibin .or .u64 (ibin .or .u64 (ibin .or .u64 (ibin .or .u64 (ibin .or .u64 (ibin .or .u64 (ibin .or .u64 0 (ibin .shl .u64 (IntKind.wrap .u64 (ibin .and .u8 (List.getD r2.1.2 0 0) 127)) 0)) (ibin .shl .u64 (IntKind.wrap .u64 (ibin .and .u8 (List.getD r2.1.2 1 0) 127)) 7)) (ibin .shl .u64 (IntKind.wrap .u64 (ibin .and .u8 (List.getD r2.1.2 2 0) 127)) 14)) (ibin .shl .u64 (IntKind.wrap .u64 (ibin .and .u8 (List.getD r2.1.2 3 0) 127)) 21)) (ibin .shl .u64 (IntKind.wrap .u64 (ibin .and .u8 (List.getD r2.1.2 4 0) 127)) 28)) (ibin .shl .u64 (IntKind.wrap .u64 (ibin .and .u8 (List.getD r2.1.2 5 0) 127)) 35)) (ibin .shl .u64 (IntKind.wrap .u64 (ibin .and .u8 (List.getD r2.1.2 6 0) 127)) 42)) (ibin .shl .u64 (IntKind.wrap .u64 (ibin .and .u8 (List.getD r2.1.2 7 0) 127)) 49)) (ibin .shl .u64 (IntKind.wrap .u64 (ibin .and .u8 (List.getD r2.1.2 8 0) 127)) 56)) (ibin .shl .u64 (IntKind.wrap .u64 (ibin .and .u8 (List.getD r2.1.2 9 0) 127)) 63))
                                                                              cond (icmp .gtr x12 300) (
                                                                                some false
                                                                              ) (
                                                                                cond (icmp .eql x12 300) (
                                                                                  cond (icmp .gtr (((r2.1.1 - 10) : Nat) : Int) 0) (
                                                                                    some false
                                                                                  ) (
                                                                                    some true
                                                                                  )
                                                                                ) (
                                                                                  some false
                                                                                )
                                                                              )
                                                                            ) (
                                                                              none
                                                                            )
                                                                          )
                                                                        ) (
                                                                          some false
                                                                        )
                                                                      )
                                                                    ) (
                                                                      none
                                                                    )
                                                                  )
                                                                )
                                                              ) (
                                                                none
                                                              )
                                                            )
                                                          )
                                                        ) (
                                                          none
                                                        )
                                                      )
                                                    )
                                                  ) (
                                                    none
                                                  )
                                                )
                                              )
                                            ) (
                                              none
                                            )
                                          )
                                        )
                                      ) (
                                        none
                                      )
                                    )
                                  )
                                ) (
                                  none
                                )
                              )
                            )
                          ) (
                            none
                          )
                        )
                      )
                    ) (
                      none
                    )
                  )
                )
              ) (
                none
              )
            )
          ) (
            some false
          )
        ) (
          none
        )
      ) (
        some false
      )
    ) (
      none
    )
  ) (
    some false
  )


def veillaw10_WireTexts (N : Nat) (a : ((Nat × List Int) × Unit)) (b : ByteArray) : Option (Bool) :=
  mo (veillaw10_live N) none fun r1 =>
  cond (!r1) (
    some false
  ) (
    mo (wire_Hex N ((a.1.1, a.1.2), ())) none fun r2 =>
    mo (wire_Unhex N r2) none fun r3 =>
    cond (icmp .neq r3.2 0) (
      some false
    ) (
      cond (!(veillaw10_same ((r3.1.1.1, r3.1.1.2), ()) ((a.1.1, a.1.2), ()))) (
        some false
      ) (
        cond (icmp .neq (((ByteArray.size r2) : Nat) : Int) (ibin .mul .i64 2 ((a.1.1 : Nat) : Int))) (
          some false
        ) (
          mo (wire_Unhex N b) none fun r4 =>
          cond (icmp .neq r4.2 0) (
            cond (icmp .eql r4.2 104) (
              some (icmp .eql ((r4.1.1.1 : Nat) : Int) 0)
            ) (
              some false
            )
          ) (
            mo (wire_Hex N ((r4.1.1.1, r4.1.1.2), ())) none fun r5 =>
            some (r5 == b)
          )
        )
      )
    )
  )


end Go.Vx
