import Derived.Test.YtoionfdfofmplaaVxR
set_option autoImplicit false
set_option linter.unusedVariables false
set_option linter.unusedSimpArgs false
namespace Go.Vx
open Go

def wire_AppendNumber_l0 (N : Nat) (v : (Int × Unit × Nat) × (Nat × List Int)) : Option (((Int × Unit × Nat) × (Nat × List Int)) ⊕ (((Int × Nat) × (Nat × List Int)) ⊕ (Unit × Unit))) :=
  cond (icmp .gtr v.1.1 127) (
    let x1 := (v.2.1 + 1)
    cond (decide (x1 * 1 ≤ 140737488355328 ∧ x1 ≤ 9223372036854775807)) (
      some (.inl (((ibin .shr .u64 v.1.1 7), (), x1), (x1, (v.2.2 ++ [(ibin .or .u8 (IntKind.wrap .u8 v.1.1) 128)]))))
    ) (
      none
    )
  ) (
    some (.inr (.inl ((v.1.1, v.1.2.2), (v.2.1, v.2.2))))
  )

def wire_AppendNumber (N : Nat) (a : ((Nat × List Int) × Unit)) (b : Int) : Option (((Nat × List Int) × Unit)) :=
  let x1 := (ibin .add .i64 0 ((a.1.1 : Nat) : Int))
  cond (icmp .lss x1 0) (
    none
  ) (
    let x2 := (ibin .add .i64 x1 0)
    let x3 := (icmp .lss x2 0)
    cond x3 (
      none
    ) (
      cond x3 (
        none
      ) (
        let x4 := (ibin .sub .i64 x2 0)
        cond (icmp .gtr x4 0) (
          cond ((decide ((0 : Int) < x4) && decide (Int.toNat x4 * 1 ≤ 140737488355328 ∧ Int.toNat x4 ≤ 9223372036854775807)) && true) (
            let x5 := (Int.toNat x4)
            cond (decide ((0 : Int) ≤ 0 ∧ 0 ≤ ((x5 : Nat) : Int))) (
              let x6 := (0 + a.1.1)
              cond (decide (x6 * 1 ≤ 140737488355328 ∧ x6 ≤ 9223372036854775807)) (
                mo (loopF (wire_AppendNumber_l0 N) N ((b, (), x6), (x6, ((List.take 0 (List.drop 0 (List.replicate x5 0))) ++ a.1.2)))) none fun r9 =>
                match r9 with
                | .inl u10 => (
                  let x7 := (u10.2.1 + 1)
                  cond (decide (x7 * 1 ≤ 140737488355328 ∧ x7 ≤ 9223372036854775807)) (
                    some ((x7, (u10.2.2 ++ [(IntKind.wrap .u8 u10.1.1)])), ())
                  ) (
                    none
                  )
                )
                | .inr _ => (
                  none
                )
              ) (
                none
              )
            ) (
              none
            )
          ) (
            none
          )
        ) (
          let x8 := (0 + a.1.1)
          cond (decide (x8 * 1 ≤ 140737488355328 ∧ x8 ≤ 9223372036854775807)) (
            mo (loopF (wire_AppendNumber_l0 N) N ((b, (), x8), (x8, a.1.2))) none fun r20 =>
            match r20 with
            | .inl u21 => (
              let x9 := (u21.2.1 + 1)
              cond (decide (x9 * 1 ≤ 140737488355328 ∧ x9 ≤ 9223372036854775807)) (
                some ((x9, (u21.2.2 ++ [(IntKind.wrap .u8 u21.1.1)])), ())
              ) (
                none
              )
            )
            | .inr _ => (
              none
            )
          ) (
            none
          )
        )
      )
    )
  )

def wire_AppendBytes (N : Nat) (a : ((Nat × List Int) × Unit)) (b : ((Nat × List Int) × Unit)) : Option (((Nat × List Int) × Unit)) :=
  mo (wire_AppendNumber N ((a.1.1, a.1.2), ()) (IntKind.wrap .u64 ((b.1.1 : Nat) : Int))) none fun r1 =>
  let x1 := (r1.1.1 + b.1.1)
  cond (decide (x1 * 1 ≤ 140737488355328 ∧ x1 ≤ 9223372036854775807)) (
    some ((x1, (r1.1.2 ++ b.1.2)), ())
  ) (
    none
  )

def veilref10_Number_l0 (N : Nat) (v : (Int × Unit × Nat) × (Nat × List Int)) : Option (((Int × Unit × Nat) × (Nat × List Int)) ⊕ (((Int × Nat) × (Nat × List Int)) ⊕ (Unit × Unit))) :=
  cond (icmp .geq v.1.1 128) (
    let x1 := (v.2.1 + 1)
    cond (decide (x1 * 1 ≤ 140737488355328 ∧ x1 ≤ 9223372036854775807)) (
      some (.inl (((ibin .quo .u64 v.1.1 128), (), x1), (x1, (v.2.2 ++ [(ibin .add .u8 (IntKind.wrap .u8 (ibin .rem .u64 v.1.1 128)) 128)]))))
    ) (
      none
    )
  ) (
    some (.inr (.inl ((v.1.1, v.1.2.2), (v.2.1, v.2.2))))
  )

def veilref10_Number (N : Nat) (a : Int) : Option (((Nat × List Int) × Unit)) :=
  mo (loopF (veilref10_Number_l0 N) N ((a, (), 0), (0, []))) none fun r10 =>
  match r10 with
  | .inl u11 => (
    let x1 := (u11.2.1 + 1)
    cond (decide (x1 * 1 ≤ 140737488355328 ∧ x1 ≤ 9223372036854775807)) (
      some ((x1, (u11.2.2 ++ [(IntKind.wrap .u8 u11.1.1)])), ())
    ) (
      none
    )
  )
  | .inr _ => (
    none
  )

def veillaw10_WireWrites_l0 (N : Nat) (v : (List (Int) × List (Int) × Unit × Nat × Nat × Nat × Nat × Int) × ((Nat × List Int) × (Nat × List Int) × (Nat × List Int) × (Nat × List Int))) : Option (((List (Int) × List (Int) × Unit × Nat × Nat × Nat × Nat × Int) × ((Nat × List Int) × (Nat × List Int) × (Nat × List Int) × (Nat × List Int))) ⊕ (((List (Int) × List (Int) × Nat × Nat × Nat × Nat) × ((Nat × List Int) × (Nat × List Int) × (Nat × List Int) × (Nat × List Int))) ⊕ (Unit × Unit))) :=
  cond (icmp .lss v.1.2.2.2.2.2.2.2 ((v.1.2.2.2.2.2.1 : Nat) : Int)) (
    cond (decide ((0 : Int) ≤ v.1.2.2.2.2.2.2.2 ∧ v.1.2.2.2.2.2.2.2 < ((v.1.2.2.2.2.2.1 : Nat) : Int))) (
      some (.inl ((v.1.1, v.1.2.1, (), v.1.2.2.2.1, v.1.2.2.2.2.1, v.1.2.2.2.2.2.1, v.1.2.2.2.2.2.2.1, (ibin .add .i64 v.1.2.2.2.2.2.2.2 1)), ((v.2.1.1, v.2.1.2), (v.2.2.1.1, v.2.2.1.2), (v.2.2.2.1.1, (List.set v.2.2.2.1.2 (Int.toNat v.1.2.2.2.2.2.2.2) 77)), (v.2.2.2.2.1, v.2.2.2.2.2))))
    ) (
      none
    )
  ) (
    some (.inr (.inl ((v.1.1, v.1.2.1, v.1.2.2.2.1, v.1.2.2.2.2.1, v.1.2.2.2.2.2.1, v.1.2.2.2.2.2.2.1), ((v.2.1.1, v.2.1.2), (v.2.2.1.1, v.2.2.1.2), (v.2.2.2.1.1, v.2.2.2.1.2), (v.2.2.2.2.1, v.2.2.2.2.2)))))
  )

def veillaw10_WireWrites_l2 (N : Nat) (v : (List (Int) × List (Int) × Nat × Nat × Nat × Nat × Int) × ((Nat × List Int) × (Nat × List Int) × (Nat × List Int) × (Nat × List Int))) : Option (((List (Int) × List (Int) × Nat × Nat × Nat × Nat × Int) × ((Nat × List Int) × (Nat × List Int) × (Nat × List Int) × (Nat × List Int))) ⊕ (((List (Int) × List (Int) × Nat × Nat × Nat × Nat) × ((Nat × List Int) × (Nat × List Int) × (Nat × List Int) × (Nat × List Int))) ⊕ (Unit × Unit))) :=
  cond (icmp .lss v.1.2.2.2.2.2.2 ((v.1.2.2.2.2.2.1 : Nat) : Int)) (
    cond (decide ((0 : Int) ≤ v.1.2.2.2.2.2.2 ∧ v.1.2.2.2.2.2.2 < ((v.1.2.2.2.2.2.1 : Nat) : Int))) (
      some (.inl ((v.1.1, v.1.2.1, v.1.2.2.1, v.1.2.2.2.1, v.1.2.2.2.2.1, v.1.2.2.2.2.2.1, (ibin .add .i64 v.1.2.2.2.2.2.2 1)), ((v.2.1.1, v.2.1.2), (v.2.2.1.1, v.2.2.1.2), (v.2.2.2.1.1, v.2.2.2.1.2), (v.2.2.2.2.1, (List.set v.2.2.2.2.2 (Int.toNat v.1.2.2.2.2.2.2) 78)))))
    ) (
      none
    )
  ) (
    some (.inr (.inl ((v.1.1, v.1.2.1, v.1.2.2.1, v.1.2.2.2.1, v.1.2.2.2.2.1, v.1.2.2.2.2.2.1), ((v.2.1.1, v.2.1.2), (v.2.2.1.1, v.2.2.1.2), (v.2.2.2.1.1, v.2.2.2.1.2), (v.2.2.2.2.1, v.2.2.2.2.2)))))
  )

set_option maxRecDepth 100000 in
def veillaw10_WireWrites (N : Nat) (a : (List (Int) × List (Int) × Int)) (b : Unit) (m : Unit) : Option (Bool × Unit) :=
  let x1 := (0 + (List.length a.1))
  let x2 := (decide (x1 * 1 ≤ 140737488355328 ∧ x1 ≤ 9223372036854775807))
  cond x2 (
    let x3 := (x1 + 3)
    cond (decide (x3 * 1 ≤ 140737488355328 ∧ x3 ≤ 9223372036854775807)) (
      let x4 := (List.length a.2.1)
      let x5 := (0 + x4)
      cond (decide (x5 * 1 ≤ 140737488355328 ∧ x5 ≤ 9223372036854775807)) (
        let x6 := (x5 + 3)
        cond (decide (x6 * 1 ≤ 140737488355328 ∧ x6 ≤ 9223372036854775807)) (
          let x7 := (((List.length a.1) : Nat) : Int)
          let x8 := (decide ((0 : Int) ≤ x7 ∧ x7 ≤ ((x3 : Nat) : Int)))
          cond x8 (
            let x9 := (Int.toNat x7)
            let x10 := (a.1 ++ [201, 202, 203])
            let x11 := (List.take x9 (List.drop 0 x10))
            mo (wire_AppendNumber N ((x9, x11), ()) a.2.2) none fun r1 =>
            cond x8 (
              let x12 := ((x4 : Nat) : Int)
              let x13 := (decide ((0 : Int) ≤ x12 ∧ x12 ≤ ((x6 : Nat) : Int)))
              cond x13 (
                let x14 := (Int.toNat x12)
                let x15 := (a.2.1 ++ [201, 202, 203])
                let x16 := (List.take x14 (List.drop 0 x15))
                mo (wire_AppendBytes N ((x9, x11), ()) ((x14, x16), ())) none fun r2 =>
                cond x2 (
                  mo (veilref10_Number N a.2.2) none fun r3 =>
                  cond (decide ((x1 + r3.1.1) * 1 ≤ 140737488355328 ∧ (x1 + r3.1.1) ≤ 9223372036854775807)) (
                    cond x2 (
                      mo (veilref10_Number N (IntKind.wrap .u64 x12)) none fun r4 =>
                      let x17 := (r4.1.1 + x4)
                      cond (decide (x17 * 1 ≤ 140737488355328 ∧ x17 ≤ 9223372036854775807)) (
                        cond (decide ((x1 + x17) * 1 ≤ 140737488355328 ∧ (x1 + x17) ≤ 9223372036854775807)) (
                          cond (!((bStr r1.1.2) == (bStr (a.1 ++ r3.1.2)))) (
                            some (false, ())
                          ) (
                            cond (!((bStr r2.1.2) == (bStr (a.1 ++ (r4.1.2 ++ a.2.1))))) (
                              some (false, ())
                            ) (
                              cond x8 (
                                cond ((bStr x11) == (bStr a.1)) (
                                  cond (decide ((0 : Int) ≤ x7 ∧ x7 < ((x3 : Nat) : Int))) (
                                    cond (icmp .eql (List.getD x10 (Int.toNat x7) 0) 201) (
                                      let x18 := (ibin .add .i64 x7 1)
                                      cond (decide ((0 : Int) ≤ x18 ∧ x18 < ((x3 : Nat) : Int))) (
                                        cond (icmp .eql (List.getD x10 (Int.toNat x18) 0) 202) (
                                          let x19 := (ibin .add .i64 x7 2)
                                          cond (decide ((0 : Int) ≤ x19 ∧ x19 < ((x3 : Nat) : Int))) (
                                            cond (!(icmp .eql (List.getD x10 (Int.toNat x19) 0) 203)) (
                                              some (false, ())
                                            ) (
                                              cond x13 (
                                                cond ((bStr x16) == (bStr a.2.1)) (
                                                  cond (decide ((0 : Int) ≤ x12 ∧ x12 < ((x6 : Nat) : Int))) (
                                                    cond (icmp .eql (List.getD x15 (Int.toNat x12) 0) 201) (
                                                      let x20 := (ibin .add .i64 x12 1)
                                                      cond (decide ((0 : Int) ≤ x20 ∧ x20 < ((x6 : Nat) : Int))) (
                                                        cond (icmp .eql (List.getD x15 (Int.toNat x20) 0) 202) (
                                                          let x21 := (ibin .add .i64 x12 2)
                                                          cond (decide ((0 : Int) ≤ x21 ∧ x21 < ((x6 : Nat) : Int))) (
                                                            cond (!(icmp .eql (List.getD x15 (Int.toNat x21) 0) 203)) (
                                                              some (false, ())
                                                            ) (
                                                              mo (loopF (veillaw10_WireWrites_l0 N) N ((a.1, a.2.1, (), x3, x6, r1.1.1, r2.1.1, 0), ((x3, x10), (x6, x15), (r1.1.1, r1.1.2), (r2.1.1, r2.1.2)))) none fun r34 =>
                                                              match r34 with
                                                              | .inl u35 => (
                                                                mo (loopF (veillaw10_WireWrites_l2 N) N ((u35.1.1, u35.1.2.1, u35.1.2.2.1, u35.1.2.2.2.1, u35.1.2.2.2.2.1, u35.1.2.2.2.2.2, 0), ((u35.2.1.1, u35.2.1.2), (u35.2.2.1.1, u35.2.2.1.2), (u35.2.2.2.1.1, u35.2.2.2.1.2), (u35.2.2.2.2.1, u35.2.2.2.2.2)))) none fun r65 =>
                                                                match r65 with
                                                                | .inl u66 => (
                                                                  cond (decide ((u66.2.2.2.1.1 + 1) * 1 ≤ 140737488355328 ∧ (u66.2.2.2.1.1 + 1) ≤ 9223372036854775807)) (
                                                                    cond (decide ((u66.2.2.2.2.1 + 1) * 1 ≤ 140737488355328 ∧ (u66.2.2.2.2.1 + 1) ≤ 9223372036854775807)) (
                                                                      let x22 := (((List.length u66.1.1) : Nat) : Int)
                                                                      cond (decide ((0 : Int) ≤ x22 ∧ x22 ≤ ((u66.1.2.2.1 : Nat) : Int))) (
                                                                        cond ((bStr (List.take (Int.toNat x22) (List.drop 0 u66.2.1.2))) == (bStr u66.1.1)) (
                                                                          cond (decide ((0 : Int) ≤ x22 ∧ x22 < ((u66.1.2.2.1 : Nat) : Int))) (
                                                                            cond (icmp .eql (List.getD u66.2.1.2 (Int.toNat x22) 0) 201) (
                                                                              let x23 := (ibin .add .i64 x22 1)
                                                                              cond (decide ((0 : Int) ≤ x23 ∧ x23 < ((u66.1.2.2.1 : Nat) : Int))) (
                                                                                cond (icmp .eql (List.getD u66.2.1.2 (Int.toNat x23) 0) 202) (
                                                                                  let x24 := (ibin .add .i64 x22 2)
                                                                                  cond (decide ((0 : Int) ≤ x24 ∧ x24 < ((u66.1.2.2.1 : Nat) : Int))) (
                                                                                    cond (icmp .eql (List.getD u66.2.1.2 (Int.toNat x24) 0) 203) (
                                                                                      let x25 := (((List.length u66.1.2.1) : Nat) : Int)
                                                                                      cond (decide ((0 : Int) ≤ x25 ∧ x25 ≤ ((u66.1.2.2.2.1 : Nat) : Int))) (
                                                                                        cond ((bStr (List.take (Int.toNat x25) (List.drop 0 u66.2.2.1.2))) == (bStr u66.1.2.1)) (
                                                                                          cond (decide ((0 : Int) ≤ x25 ∧ x25 < ((u66.1.2.2.2.1 : Nat) : Int))) (
                                                                                            cond (icmp .eql (List.getD u66.2.2.1.2 (Int.toNat x25) 0) 201) (
                                                                                              let x26 := (ibin .add .i64 x25 1)
                                                                                              cond (decide ((0 : Int) ≤ x26 ∧ x26 < ((u66.1.2.2.2.1 : Nat) : Int))) (
                                                                                                cond (icmp .eql (List.getD u66.2.2.1.2 (Int.toNat x26) 0) 202) (
                                                                                                  let x27 := (ibin .add .i64 x25 2)
                                                                                                  cond (decide ((0 : Int) ≤ x27 ∧ x27 < ((u66.1.2.2.2.1 : Nat) : Int))) (
                                                                                                    cond (icmp .eql (List.getD u66.2.2.1.2 (Int.toNat x27) 0) 203) (
                                                                                                      let x28 := (u66.2.2.2.1.2 ++ [77])
                                                                                                      let x29 := (List.length x28)
                                                                                                      let x30 := (ibin .sub .i64 ((x29 : Nat) : Int) 1)
                                                                                                      cond (decide ((0 : Int) ≤ x30 ∧ x30 < ((x29 : Nat) : Int))) (
                                                                                                        cond (icmp .eql (List.getD x28 (Int.toNat x30) 0) 77) (
                                                                                                          let x31 := (u66.2.2.2.2.2 ++ [78])
                                                                                                          let x32 := (List.length x31)
                                                                                                          let x33 := (ibin .sub .i64 ((x32 : Nat) : Int) 1)
                                                                                                          cond (decide ((0 : Int) ≤ x33 ∧ x33 < ((x32 : Nat) : Int))) (
                                                                                                            cond (icmp .eql (List.getD x31 (Int.toNat x33) 0) 78) (
                                                                                                              let x34 := (List.length u66.2.2.2.1.2)
                                                                                                              cond (icmp .eql ((x34 : Nat) : Int) 0) (
                                                                                                                let x35 := (List.length u66.2.2.2.2.2)
                                                                                                                cond (icmp .eql ((x35 : Nat) : Int) 0) (
                                                                                                                  some (true, ())
                                                                                                                ) (
                                                                                                                  cond (decide ((0 : Int) ≤ 0 ∧ 0 < ((x35 : Nat) : Int))) (
                                                                                                                    some ((icmp .eql (List.getD u66.2.2.2.2.2 0 0) 78), ())
                                                                                                                  ) (
                                                                                                                    none
                                                                                                                  )
                                                                                                                )
                                                                                                              ) (
                                                                                                                cond (decide ((0 : Int) ≤ 0 ∧ 0 < ((x34 : Nat) : Int))) (
                                                                                                                  cond (icmp .eql (List.getD u66.2.2.2.1.2 0 0) 77) (
                                                                                                                    let x36 := (List.length u66.2.2.2.2.2)
                                                                                                                    cond (icmp .eql ((x36 : Nat) : Int) 0) (
                                                                                                                      some (true, ())
                                                                                                                    ) (
                                                                                                                      cond (decide ((0 : Int) ≤ 0 ∧ 0 < ((x36 : Nat) : Int))) (
                                                                                                                        some ((icmp .eql (List.getD u66.2.2.2.2.2 0 0) 78), ())
                                                                                                                      ) (
                                                                                                                        none
                                                                                                                      )
                                                                                                                    )
                                                                                                                  ) (
                                                                                                                    some (false, ())
                                                                                                                  )
                                                                                                                ) (
                                                                                                                  none
                                                                                                                )
                                                                                                              )
                                                                                                            ) (
                                                                                                              some (false, ())
                                                                                                            )
                                                                                                          ) (
                                                                                                            none
                                                                                                          )
                                                                                                        ) (
                                                                                                          some (false, ())
                                                                                                        )
                                                                                                      ) (
                                                                                                        none
                                                                                                      )
                                                                                                    ) (
                                                                                                      some (false, ())
                                                                                                    )
                                                                                                  ) (
                                                                                                    none
                                                                                                  )
                                                                                                ) (
                                                                                                  some (false, ())
                                                                                                )
                                                                                              ) (
                                                                                                none
                                                                                              )
                                                                                            ) (
                                                                                              some (false, ())
                                                                                            )
                                                                                          ) (
                                                                                            none
                                                                                          )
                                                                                        ) (
                                                                                          some (false, ())
                                                                                        )
                                                                                      ) (
                                                                                        none
                                                                                      )
                                                                                    ) (
                                                                                      some (false, ())
                                                                                    )
                                                                                  ) (
                                                                                    none
                                                                                  )
                                                                                ) (
                                                                                  some (false, ())
                                                                                )
                                                                              ) (
                                                                                none
                                                                              )
                                                                            ) (
                                                                              some (false, ())
                                                                            )
                                                                          ) (
                                                                            none
                                                                          )
                                                                        ) (
                                                                          some (false, ())
                                                                        )
                                                                      ) (
                                                                        none
                                                                      )
                                                                    ) (
                                                                      none
                                                                    )
                                                                  ) (
                                                                    none
                                                                  )
                                                                )
                                                                | .inr _ => (
                                                                  none
                                                                )
                                                              )
                                                              | .inr _ => (
                                                                none
                                                              )
                                                            )
                                                          ) (
                                                            none
                                                          )
                                                        ) (
                                                          some (false, ())
                                                        )
                                                      ) (
                                                        none
                                                      )
                                                    ) (
                                                      some (false, ())
                                                    )
                                                  ) (
                                                    none
                                                  )
                                                ) (
                                                  some (false, ())
                                                )
                                              ) (
                                                none
                                              )
                                            )
                                          ) (
                                            none
                                          )
                                        ) (
                                          some (false, ())
                                        )
                                      ) (
                                        none
                                      )
                                    ) (
                                      some (false, ())
                                    )
                                  ) (
                                    none
                                  )
                                ) (
                                  some (false, ())
                                )
                              ) (
                                none
                              )
                            )
                          )
                        ) (
                          none
                        )
                      ) (
                        none
                      )
                    ) (
                      none
                    )
                  ) (
                    none
                  )
                ) (
                  none
                )
              ) (
                none
              )
            ) (
              none
            )
          ) (
            none
          )
        ) (
          none
        )
      ) (
        none
      )
    ) (
      none
    )
  ) (
    none
  )

end Go.Vx
