import Derived.Test.YtoionfdfofmplaaVxR
set_option autoImplicit false
set_option linter.unusedVariables false
set_option linter.unusedSimpArgs false
namespace Go.Vx
open Go

def wire_AppendNumber_nil_l0 (N : Nat) (v : (Int × Unit × Nat) × (Nat × List Int)) : Option (((Int × Unit × Nat) × (Nat × List Int)) ⊕ (((Int × Nat) × (Nat × List Int)) ⊕ (Unit × Unit))) :=
  cond (icmp .gtr v.1.1 127) (
    let x1 := (v.2.1 + 1)
    cond (decide (x1 * 1 ≤ 140737488355328 ∧ x1 ≤ 9223372036854775807)) (
      some (.inl (((ibin .shr .u64 v.1.1 7), (), x1), (x1, (v.2.2 ++ [(ibin .or .u8 (IntKind.wrap .u8 v.1.1) 128)]))))
    ) (
      none
    )
  ) (
    some (.inr (.inl ((v.1.1, v.1.2.2), (v.2.1, v.2.2))))
  )

def wire_AppendNumber_nil (N : Nat) (a : Unit) (b : Int) : Option (((Nat × List Int) × Unit)) :=
  mo (loopF (wire_AppendNumber_nil_l0 N) N ((b, (), 0), (0, []))) none fun r10 =>
  match r10 with
  | .inl u11 => (
    let x1 := (u11.2.1 + 1)
    cond (decide (x1 * 1 ≤ 140737488355328 ∧ x1 ≤ 9223372036854775807)) (
      some ((x1, (u11.2.2 ++ [(IntKind.wrap .u8 u11.1.1)])), ())
    ) (
      none
    )
  )
  | .inr _ => (
    none
  )

def wire_AppendNumber_l0 (N : Nat) (v : (Int × Unit × Nat) × (Nat × List Int)) : Option (((Int × Unit × Nat) × (Nat × List Int)) ⊕ (((Int × Nat) × (Nat × List Int)) ⊕ (Unit × Unit))) :=
  cond (icmp .gtr v.1.1 127) (
    let x1 := (v.2.1 + 1)
    cond (decide (x1 * 1 ≤ 140737488355328 ∧ x1 ≤ 9223372036854775807)) (
      some (.inl (((ibin .shr .u64 v.1.1 7), (), x1), (x1, (v.2.2 ++ [(ibin .or .u8 (IntKind.wrap .u8 v.1.1) 128)]))))
    ) (
      none
    )
  ) (
    some (.inr (.inl ((v.1.1, v.1.2.2), (v.2.1, v.2.2))))
  )

def wire_AppendNumber (N : Nat) (a : ((Nat × List Int) × Unit)) (b : Int) : Option (((Nat × List Int) × Unit)) :=
  let x1 := (ibin .add .i64 0 ((a.1.1 : Nat) : Int))
  cond (icmp .lss x1 0) (
    none
  ) (
    let x2 := (ibin .add .i64 x1 0)
    let x3 := (icmp .lss x2 0)
    cond x3 (
      none
    ) (
      cond x3 (
        none
      ) (
        let x4 := (ibin .sub .i64 x2 0)
        cond (icmp .gtr x4 0) (
          cond ((decide ((0 : Int) < x4) && decide (Int.toNat x4 * 1 ≤ 140737488355328 ∧ Int.toNat x4 ≤ 9223372036854775807)) && true) (
            let x5 := (Int.toNat x4)
            cond (decide ((0 : Int) ≤ 0 ∧ 0 ≤ ((x5 : Nat) : Int))) (
              let x6 := (0 + a.1.1)
              cond (decide (x6 * 1 ≤ 140737488355328 ∧ x6 ≤ 9223372036854775807)) (
                mo (loopF (wire_AppendNumber_l0 N) N ((b, (), x6), (x6, ((List.take 0 (List.drop 0 (List.replicate x5 0))) ++ a.1.2)))) none fun r9 =>
                match r9 with
                | .inl u10 => (
                  let x7 := (u10.2.1 + 1)
                  cond (decide (x7 * 1 ≤ 140737488355328 ∧ x7 ≤ 9223372036854775807)) (
                    some ((x7, (u10.2.2 ++ [(IntKind.wrap .u8 u10.1.1)])), ())
                  ) (
                    none
                  )
                )
                | .inr _ => (
                  none
                )
              ) (
                none
              )
            ) (
              none
            )
          ) (
            none
          )
        ) (
          let x8 := (0 + a.1.1)
          cond (decide (x8 * 1 ≤ 140737488355328 ∧ x8 ≤ 9223372036854775807)) (
            mo (loopF (wire_AppendNumber_l0 N) N ((b, (), x8), (x8, a.1.2))) none fun r20 =>
            match r20 with
            | .inl u21 => (
              let x9 := (u21.2.1 + 1)
              cond (decide (x9 * 1 ≤ 140737488355328 ∧ x9 ≤ 9223372036854775807)) (
                some ((x9, (u21.2.2 ++ [(IntKind.wrap .u8 u21.1.1)])), ())
              ) (
                none
              )
            )
            | .inr _ => (
              none
            )
          ) (
            none
          )
        )
      )
    )
  )

def slices_Clone_of_byte_byte (a : ((Nat × List Int) × Unit)) : Option (((Nat × List Int) × Unit)) :=
  cond (decide ((0 + a.1.1) * 1 ≤ 140737488355328 ∧ 0 + a.1.1 ≤ 9223372036854775807)) (some ((0 + a.1.1, List.take a.1.1 (List.drop 0 a.1.2)), ())) none

def wire_NewReader (a : (Nat × Nat × Nat)) (b : (Nat × List Int)) (m : Unit) : Option (Unit × ((Bool × (Nat × Nat × Nat) × Int) × (Nat × List Int))) :=
  mo (slices_Clone_of_byte_byte ((a.2.1, (List.take a.2.1 (List.drop a.1 b.2))), ())) none fun r1 =>
  some ((), ((true, (0, r1.1.1, 0), 0), (r1.1.1, r1.1.2)))

def p_wire_Reader_is (a : Unit) (b : ((Bool × (Nat × Nat × Nat) × Int) × (Nat × List Int))) (m : Unit) : Option (Bool × Unit) :=
  some (b.1.1, ())

def p_wire_Reader_sound (a : Unit) (b : ((Bool × (Nat × Nat × Nat) × Int) × (Nat × List Int))) (m : Unit) : Option (Bool × Unit) :=
  mo (p_wire_Reader_is () ((b.1.1, (b.1.2.1.1, b.1.2.1.2.1, b.1.2.1.2.2), b.1.2.2), (b.2.1, b.2.2)) ()) none fun r1 =>
  cond r1.1 (
    some ((icmp .eql b.1.2.2 0), ())
  ) (
    some (false, ())
  )

def p_wire_Reader_Fail (a : (Unit × Int)) (b : (Nat × List Int)) (m : (Bool × (Nat × Nat × Nat) × Int)) : Option (Unit × (Bool × (Nat × Nat × Nat) × Int)) :=
  mo (p_wire_Reader_sound () ((m.1, (m.2.1.1, m.2.1.2.1, m.2.1.2.2), m.2.2), (b.1, b.2)) ()) none fun r1 =>
  cond r1.1 (
    some ((), (m.1, (m.2.1.1, m.2.1.2.1, m.2.1.2.2), a.2))
  ) (
    some ((), (m.1, (m.2.1.1, m.2.1.2.1, m.2.1.2.2), m.2.2))
  )

def p_wire_Reader_count (a : Unit) (b : (Nat × List Int)) (m : (Bool × (Nat × Nat × Nat) × Int)) : Option (Int × (Bool × (Nat × Nat × Nat) × Int)) :=
  let x1 := ((m.2.1.2.1 : Nat) : Int)
  cond (icmp .eql 0 x1) (
    mo (p_wire_Reader_Fail ((), 100) (b.1, b.2) (m.1, (m.2.1.1, m.2.1.2.1, m.2.1.2.2), m.2.2)) none fun r1 =>
    some (0, (r1.2.1, (r1.2.2.1.1, r1.2.2.1.2.1, r1.2.2.1.2.2), r1.2.2.2))
  ) (
    cond (decide ((0 : Int) ≤ 0 ∧ 0 < ((m.2.1.2.1 : Nat) : Int))) (
      let x2 := (List.getD b.2 (m.2.1.1 + Int.toNat 0) 0)
      cond (icmp .lss x2 128) (
        cond (icmp .eql x2 0) (
          cond (decide ((0 : Int) ≤ 1 ∧ 1 ≤ ((m.2.1.2.1 : Nat) : Int))) (
            some ((ibin .or .u64 0 (ibin .shl .u64 (IntKind.wrap .u64 (ibin .and .u8 x2 127)) 0)), (m.1, ((m.2.1.1 + 1), (m.2.1.2.1 - 1), m.2.1.1), m.2.2))
          ) (
            none
          )
        ) (
          cond (decide ((0 : Int) ≤ 1 ∧ 1 ≤ ((m.2.1.2.1 : Nat) : Int))) (
            some ((ibin .or .u64 0 (ibin .shl .u64 (IntKind.wrap .u64 (ibin .and .u8 x2 127)) 0)), (m.1, ((m.2.1.1 + 1), (m.2.1.2.1 - 1), m.2.1.1), m.2.2))
          ) (
            none
          )
        )
      ) (
        cond (icmp .eql 1 x1) (
          mo (p_wire_Reader_Fail ((), 100) (b.1, b.2) (m.1, (m.2.1.1, m.2.1.2.1, m.2.1.2.2), m.2.2)) none fun r2 =>
          some (0, (r2.2.1, (r2.2.2.1.1, r2.2.2.1.2.1, r2.2.2.1.2.2), r2.2.2.2))
        ) (
          cond (decide ((0 : Int) ≤ 1 ∧ 1 < ((m.2.1.2.1 : Nat) : Int))) (
            let x3 := (List.getD b.2 (m.2.1.1 + Int.toNat 1) 0)
            cond (icmp .lss x3 128) (
              cond (icmp .eql x3 0) (
                mo (p_wire_Reader_Fail ((), 102) (b.1, b.2) (m.1, (m.2.1.1, m.2.1.2.1, m.2.1.2.2), m.2.2)) none fun r3 =>
                some (0, (r3.2.1, (r3.2.2.1.1, r3.2.2.1.2.1, r3.2.2.1.2.2), r3.2.2.2))
              ) (
                cond (decide ((0 : Int) ≤ 2 ∧ 2 ≤ ((m.2.1.2.1 : Nat) : Int))) (
                  some ((ibin .or .u64 (ibin .or .u64 0 (ibin .shl .u64 (IntKind.wrap .u64 (ibin .and .u8 x2 127)) 0)) (ibin .shl .u64 (IntKind.wrap .u64 (ibin .and .u8 x3 127)) 7)), (m.1, ((m.2.1.1 + 2), (m.2.1.2.1 - 2), m.2.1.1), m.2.2))
                ) (
                  none
                )
              )
            ) (
              cond (icmp .eql 2 x1) (
                mo (p_wire_Reader_Fail ((), 100) (b.1, b.2) (m.1, (m.2.1.1, m.2.1.2.1, m.2.1.2.2), m.2.2)) none fun r4 =>
                some (0, (r4.2.1, (r4.2.2.1.1, r4.2.2.1.2.1, r4.2.2.1.2.2), r4.2.2.2))
              ) (
                cond (decide ((0 : Int) ≤ 2 ∧ 2 < ((m.2.1.2.1 : Nat) : Int))) (
                  let x4 := (List.getD b.2 (m.2.1.1 + Int.toNat 2) 0)
                  cond (icmp .lss x4 128) (
                    cond (icmp .eql x4 0) (
                      mo (p_wire_Reader_Fail ((), 102) (b.1, b.2) (m.1, (m.2.1.1, m.2.1.2.1, m.2.1.2.2), m.2.2)) none fun r5 =>
                      some (0, (r5.2.1, (r5.2.2.1.1, r5.2.2.1.2.1, r5.2.2.1.2.2), r5.2.2.2))
                    ) (
                      cond (decide ((0 : Int) ≤ 3 ∧ 3 ≤ ((m.2.1.2.1 : Nat) : Int))) (
                        some ((ibin .or .u64 (ibin .or .u64 (ibin .or .u64 0 (ibin .shl .u64 (IntKind.wrap .u64 (ibin .and .u8 x2 127)) 0)) (ibin .shl .u64 (IntKind.wrap .u64 (ibin .and .u8 x3 127)) 7)) (ibin .shl .u64 (IntKind.wrap .u64 (ibin .and .u8 x4 127)) 14)), (m.1, ((m.2.1.1 + 3), (m.2.1.2.1 - 3), m.2.1.1), m.2.2))
                      ) (
                        none
                      )
                    )
                  ) (
                    cond (icmp .eql 3 x1) (
                      mo (p_wire_Reader_Fail ((), 100) (b.1, b.2) (m.1, (m.2.1.1, m.2.1.2.1, m.2.1.2.2), m.2.2)) none fun r6 =>
                      some (0, (r6.2.1, (r6.2.2.1.1, r6.2.2.1.2.1, r6.2.2.1.2.2), r6.2.2.2))
                    ) (
                      cond (decide ((0 : Int) ≤ 3 ∧ 3 < ((m.2.1.2.1 : Nat) : Int))) (
                        let x5 := (List.getD b.2 (m.2.1.1 + Int.toNat 3) 0)
                        cond (icmp .lss x5 128) (
                          cond (icmp .eql x5 0) (
                            mo (p_wire_Reader_Fail ((), 102) (b.1, b.2) (m.1, (m.2.1.1, m.2.1.2.1, m.2.1.2.2), m.2.2)) none fun r7 =>
                            some (0, (r7.2.1, (r7.2.2.1.1, r7.2.2.1.2.1, r7.2.2.1.2.2), r7.2.2.2))
                          ) (
                            cond (decide ((0 : Int) ≤ 4 ∧ 4 ≤ ((m.2.1.2.1 : Nat) : Int))) (
                              some ((ibin .or .u64 (ibin .or .u64 (ibin .or .u64 (ibin .or .u64 0 (ibin .shl .u64 (IntKind.wrap .u64 (ibin .and .u8 x2 127)) 0)) (ibin .shl .u64 (IntKind.wrap .u64 (ibin .and .u8 x3 127)) 7)) (ibin .shl .u64 (IntKind.wrap .u64 (ibin .and .u8 x4 127)) 14)) (ibin .shl .u64 (IntKind.wrap .u64 (ibin .and .u8 x5 127)) 21)), (m.1, ((m.2.1.1 + 4), (m.2.1.2.1 - 4), m.2.1.1), m.2.2))
                            ) (
                              none
                            )
                          )
                        ) (
                          cond (icmp .eql 4 x1) (
                            mo (p_wire_Reader_Fail ((), 100) (b.1, b.2) (m.1, (m.2.1.1, m.2.1.2.1, m.2.1.2.2), m.2.2)) none fun r8 =>
                            some (0, (r8.2.1, (r8.2.2.1.1, r8.2.2.1.2.1, r8.2.2.1.2.2), r8.2.2.2))
                          ) (
                            cond (decide ((0 : Int) ≤ 4 ∧ 4 < ((m.2.1.2.1 : Nat) : Int))) (
                              let x6 := (List.getD b.2 (m.2.1.1 + Int.toNat 4) 0)
                              cond (icmp .lss x6 128) (
                                cond (icmp .eql x6 0) (
                                  mo (p_wire_Reader_Fail ((), 102) (b.1, b.2) (m.1, (m.2.1.1, m.2.1.2.1, m.2.1.2.2), m.2.2)) none fun r9 =>
                                  some (0, (r9.2.1, (r9.2.2.1.1, r9.2.2.1.2.1, r9.2.2.1.2.2), r9.2.2.2))
                                ) (
                                  cond (decide ((0 : Int) ≤ 5 ∧ 5 ≤ ((m.2.1.2.1 : Nat) : Int))) (
                                    some ((ibin .or .u64 (ibin .or .u64 (ibin .or .u64 (ibin .or .u64 (ibin .or .u64 0 (ibin .shl .u64 (IntKind.wrap .u64 (ibin .and .u8 x2 127)) 0)) (ibin .shl .u64 (IntKind.wrap .u64 (ibin .and .u8 x3 127)) 7)) (ibin .shl .u64 (IntKind.wrap .u64 (ibin .and .u8 x4 127)) 14)) (ibin .shl .u64 (IntKind.wrap .u64 (ibin .and .u8 x5 127)) 21)) (ibin .shl .u64 (IntKind.wrap .u64 (ibin .and .u8 x6 127)) 28)), (m.1, ((m.2.1.1 + 5), (m.2.1.2.1 - 5), m.2.1.1), m.2.2))
                                  ) (
                                    none
                                  )
                                )
                              ) (
                                cond (icmp .eql 5 x1) (
                                  mo (p_wire_Reader_Fail ((), 100) (b.1, b.2) (m.1, (m.2.1.1, m.2.1.2.1, m.2.1.2.2), m.2.2)) none fun r10 =>
                                  some (0, (r10.2.1, (r10.2.2.1.1, r10.2.2.1.2.1, r10.2.2.1.2.2), r10.2.2.2))
                                ) (
                                  cond (decide ((0 : Int) ≤ 5 ∧ 5 < ((m.2.1.2.1 : Nat) : Int))) (
                                    let x7 := (List.getD b.2 (m.2.1.1 + Int.toNat 5) 0)
                                    cond (icmp .lss x7 128) (
                                      cond (icmp .eql x7 0) (
                                        mo (p_wire_Reader_Fail ((), 102) (b.1, b.2) (m.1, (m.2.1.1, m.2.1.2.1, m.2.1.2.2), m.2.2)) none fun r11 =>
                                        some (0, (r11.2.1, (r11.2.2.1.1, r11.2.2.1.2.1, r11.2.2.1.2.2), r11.2.2.2))
                                      ) (
                                        cond (decide ((0 : Int) ≤ 6 ∧ 6 ≤ ((m.2.1.2.1 : Nat) : Int))) (
                                          some ((ibin .or .u64 (ibin .or .u64 (ibin .or .u64 (ibin .or .u64 (ibin .or .u64 (ibin .or .u64 0 (ibin .shl .u64 (IntKind.wrap .u64 (ibin .and .u8 x2 127)) 0)) (ibin .shl .u64 (IntKind.wrap .u64 (ibin .and .u8 x3 127)) 7)) (ibin .shl .u64 (IntKind.wrap .u64 (ibin .and .u8 x4 127)) 14)) (ibin .shl .u64 (IntKind.wrap .u64 (ibin .and .u8 x5 127)) 21)) (ibin .shl .u64 (IntKind.wrap .u64 (ibin .and .u8 x6 127)) 28)) (ibin .shl .u64 (IntKind.wrap .u64 (ibin .and .u8 x7 127)) 35)), (m.1, ((m.2.1.1 + 6), (m.2.1.2.1 - 6), m.2.1.1), m.2.2))
                                        ) (
                                          none
                                        )
                                      )
                                    ) (
                                      cond (icmp .eql 6 x1) (
                                        mo (p_wire_Reader_Fail ((), 100) (b.1, b.2) (m.1, (m.2.1.1, m.2.1.2.1, m.2.1.2.2), m.2.2)) none fun r12 =>
                                        some (0, (r12.2.1, (r12.2.2.1.1, r12.2.2.1.2.1, r12.2.2.1.2.2), r12.2.2.2))
                                      ) (
                                        cond (decide ((0 : Int) ≤ 6 ∧ 6 < ((m.2.1.2.1 : Nat) : Int))) (
                                          let x8 := (List.getD b.2 (m.2.1.1 + Int.toNat 6) 0)
                                          cond (icmp .lss x8 128) (
                                            cond (icmp .eql x8 0) (
                                              mo (p_wire_Reader_Fail ((), 102) (b.1, b.2) (m.1, (m.2.1.1, m.2.1.2.1, m.2.1.2.2), m.2.2)) none fun r13 =>
                                              some (0, (r13.2.1, (r13.2.2.1.1, r13.2.2.1.2.1, r13.2.2.1.2.2), r13.2.2.2))
                                            ) (
                                              cond (decide ((0 : Int) ≤ 7 ∧ 7 ≤ ((m.2.1.2.1 : Nat) : Int))) (
                                                some ((ibin .or .u64 (ibin .or .u64 (ibin .or .u64 (ibin .or .u64 (ibin .or .u64 (ibin .or .u64 (ibin .or .u64 0 (ibin .shl .u64 (IntKind.wrap .u64 (ibin .and .u8 x2 127)) 0)) (ibin .shl .u64 (IntKind.wrap .u64 (ibin .and .u8 x3 127)) 7)) (ibin .shl .u64 (IntKind.wrap .u64 (ibin .and .u8 x4 127)) 14)) (ibin .shl .u64 (IntKind.wrap .u64 (ibin .and .u8 x5 127)) 21)) (ibin .shl .u64 (IntKind.wrap .u64 (ibin .and .u8 x6 127)) 28)) (ibin .shl .u64 (IntKind.wrap .u64 (ibin .and .u8 x7 127)) 35)) (ibin .shl .u64 (IntKind.wrap .u64 (ibin .and .u8 x8 127)) 42)), (m.1, ((m.2.1.1 + 7), (m.2.1.2.1 - 7), m.2.1.1), m.2.2))
                                              ) (
                                                none
                                              )
                                            )
                                          ) (
                                            cond (icmp .eql 7 x1) (
                                              mo (p_wire_Reader_Fail ((), 100) (b.1, b.2) (m.1, (m.2.1.1, m.2.1.2.1, m.2.1.2.2), m.2.2)) none fun r14 =>
                                              some (0, (r14.2.1, (r14.2.2.1.1, r14.2.2.1.2.1, r14.2.2.1.2.2), r14.2.2.2))
                                            ) (
                                              cond (decide ((0 : Int) ≤ 7 ∧ 7 < ((m.2.1.2.1 : Nat) : Int))) (
                                                let x9 := (List.getD b.2 (m.2.1.1 + Int.toNat 7) 0)
                                                cond (icmp .lss x9 128) (
                                                  cond (icmp .eql x9 0) (
                                                    mo (p_wire_Reader_Fail ((), 102) (b.1, b.2) (m.1, (m.2.1.1, m.2.1.2.1, m.2.1.2.2), m.2.2)) none fun r15 =>
                                                    some (0, (r15.2.1, (r15.2.2.1.1, r15.2.2.1.2.1, r15.2.2.1.2.2), r15.2.2.2))
                                                  ) (
                                                    cond (decide ((0 : Int) ≤ 8 ∧ 8 ≤ ((m.2.1.2.1 : Nat) : Int))) (
                                                      some ((ibin .or .u64 (ibin .or .u64 (ibin .or .u64 (ibin .or .u64 (ibin .or .u64 (ibin .or .u64 (ibin .or .u64 (ibin .or .u64 0 (ibin .shl .u64 (IntKind.wrap .u64 (ibin .and .u8 x2 127)) 0)) (ibin .shl .u64 (IntKind.wrap .u64 (ibin .and .u8 x3 127)) 7)) (ibin .shl .u64 (IntKind.wrap .u64 (ibin .and .u8 x4 127)) 14)) (ibin .shl .u64 (IntKind.wrap .u64 (ibin .and .u8 x5 127)) 21)) (ibin .shl .u64 (IntKind.wrap .u64 (ibin .and .u8 x6 127)) 28)) (ibin .shl .u64 (IntKind.wrap .u64 (ibin .and .u8 x7 127)) 35)) (ibin .shl .u64 (IntKind.wrap .u64 (ibin .and .u8 x8 127)) 42)) (ibin .shl .u64 (IntKind.wrap .u64 (ibin .and .u8 x9 127)) 49)), (m.1, ((m.2.1.1 + 8), (m.2.1.2.1 - 8), m.2.1.1), m.2.2))
                                                    ) (
                                                      none
                                                    )
                                                  )
                                                ) (
                                                  cond (icmp .eql 8 x1) (
                                                    mo (p_wire_Reader_Fail ((), 100) (b.1, b.2) (m.1, (m.2.1.1, m.2.1.2.1, m.2.1.2.2), m.2.2)) none fun r16 =>
                                                    some (0, (r16.2.1, (r16.2.2.1.1, r16.2.2.1.2.1, r16.2.2.1.2.2), r16.2.2.2))
                                                  ) (
                                                    cond (decide ((0 : Int) ≤ 8 ∧ 8 < ((m.2.1.2.1 : Nat) : Int))) (
                                                      let x10 := (List.getD b.2 (m.2.1.1 + Int.toNat 8) 0)
                                                      cond (icmp .lss x10 128) (
                                                        cond (icmp .eql x10 0) (
                                                          mo (p_wire_Reader_Fail ((), 102) (b.1, b.2) (m.1, (m.2.1.1, m.2.1.2.1, m.2.1.2.2), m.2.2)) none fun r17 =>
                                                          some (0, (r17.2.1, (r17.2.2.1.1, r17.2.2.1.2.1, r17.2.2.1.2.2), r17.2.2.2))
                                                        ) (
                                                          cond (decide ((0 : Int) ≤ 9 ∧ 9 ≤ ((m.2.1.2.1 : Nat) : Int))) (
                                                            some ((ibin .or .u64 (ibin .or .u64 (ibin .or .u64 (ibin .or .u64 (ibin .or .u64 (ibin .or .u64 (ibin .or .u64 (ibin .or .u64 (ibin .or .u64 0 (ibin .shl .u64 (IntKind.wrap .u64 (ibin .and .u8 x2 127)) 0)) (ibin .shl .u64 (IntKind.wrap .u64 (ibin .and .u8 x3 127)) 7)) (ibin .shl .u64 (IntKind.wrap .u64 (ibin .and .u8 x4 127)) 14)) (ibin .shl .u64 (IntKind.wrap .u64 (ibin .and .u8 x5 127)) 21)) (ibin .shl .u64 (IntKind.wrap .u64 (ibin .and .u8 x6 127)) 28)) (ibin .shl .u64 (IntKind.wrap .u64 (ibin .and .u8 x7 127)) 35)) (ibin .shl .u64 (IntKind.wrap .u64 (ibin .and .u8 x8 127)) 42)) (ibin .shl .u64 (IntKind.wrap .u64 (ibin .and .u8 x9 127)) 49)) (ibin .shl .u64 (IntKind.wrap .u64 (ibin .and .u8 x10 127)) 56)), (m.1, ((m.2.1.1 + 9), (m.2.1.2.1 - 9), m.2.1.1), m.2.2))
                                                          ) (
                                                            none
                                                          )
                                                        )
                                                      ) (
                                                        cond (icmp .eql 9 x1) (
                                                          mo (p_wire_Reader_Fail ((), 100) (b.1, b.2) (m.1, (m.2.1.1, m.2.1.2.1, m.2.1.2.2), m.2.2)) none fun r18 =>
                                                          some (0, (r18.2.1, (r18.2.2.1.1, r18.2.2.1.2.1, r18.2.2.1.2.2), r18.2.2.2))
                                                        ) (
                                                          cond (decide ((0 : Int) ≤ 9 ∧ 9 < ((m.2.1.2.1 : Nat) : Int))) (
                                                            let x11 := (List.getD b.2 (m.2.1.1 + Int.toNat 9) 0)
                                                            cond (icmp .gtr x11 1) (
                                                              mo (p_wire_Reader_Fail ((), 102) (b.1, b.2) (m.1, (m.2.1.1, m.2.1.2.1, m.2.1.2.2), m.2.2)) none fun r19 =>
                                                              some (0, (r19.2.1, (r19.2.2.1.1, r19.2.2.1.2.1, r19.2.2.1.2.2), r19.2.2.2))
                                                            ) (
                                                              cond (icmp .lss x11 128) (
                                                                cond (icmp .eql x11 0) (
                                                                  mo (p_wire_Reader_Fail ((), 102) (b.1, b.2) (m.1, (m.2.1.1, m.2.1.2.1, m.2.1.2.2), m.2.2)) none fun r20 =>
                                                                  some (0, (r20.2.1, (r20.2.2.1.1, r20.2.2.1.2.1, r20.2.2.1.2.2), r20.2.2.2))
                                                                ) (
                                                                  cond (decide ((0 : Int) ≤ 10 ∧ 10 ≤ ((m.2.1.2.1 : Nat) : Int))) (
                                                                    some ((ibin .or .u64 (ibin .or .u64 (ibin .or .u64 (ibin .or .u64 (ibin .or .u64 (ibin .or .u64 (ibin .or .u64 (ibin .or .u64 (ibin .or .u64 (ibin .or .u64 0 (ibin .shl .u64 (IntKind.wrap .u64 (ibin .and .u8 x2 127)) 0)) (ibin .shl .u64 (IntKind.wrap .u64 (ibin .and .u8 x3 127)) 7)) (ibin .shl .u64 (IntKind.wrap .u64 (ibin .and .u8 x4 127)) 14)) (ibin .shl .u64 (IntKind.wrap .u64 (ibin .and .u8 x5 127)) 21)) (ibin .shl .u64 (IntKind.wrap .u64 (ibin .and .u8 x6 127)) 28)) (ibin .shl .u64 (IntKind.wrap .u64 (ibin .and .u8 x7 127)) 35)) (ibin .shl .u64 (IntKind.wrap .u64 (ibin .and .u8 x8 127)) 42)) (ibin .shl .u64 (IntKind.wrap .u64 (ibin .and .u8 x9 127)) 49)) (ibin .shl .u64 (IntKind.wrap .u64 (ibin .and .u8 x10 127)) 56)) (ibin .shl .u64 (IntKind.wrap .u64 (ibin .and .u8 x11 127)) 63)), (m.1, ((m.2.1.1 + 10), (m.2.1.2.1 - 10), m.2.1.1), m.2.2))
                                                                  ) (
                                                                    none
                                                                  )
                                                                )
                                                              ) (
                                                                mo (p_wire_Reader_Fail ((), 102) (b.1, b.2) (m.1, (m.2.1.1, m.2.1.2.1, m.2.1.2.2), m.2.2)) none fun r21 =>
                                                                some (0, (r21.2.1, (r21.2.2.1.1, r21.2.2.1.2.1, r21.2.2.1.2.2), r21.2.2.2))
                                                              )
                                                            )
                                                          ) (
                                                            none
                                                          )
                                                        )
                                                      )
                                                    ) (
                                                      none
                                                    )
                                                  )
                                                )
                                              ) (
                                                none
                                              )
                                            )
                                          )
                                        ) (
                                          none
                                        )
                                      )
                                    )
                                  ) (
                                    none
                                  )
                                )
                              )
                            ) (
                              none
                            )
                          )
                        )
                      ) (
                        none
                      )
                    )
                  )
                ) (
                  none
                )
              )
            )
          ) (
            none
          )
        )
      )
    ) (
      none
    )
  )

def p_wire_Reader_Number (a : (Unit × Int)) (b : (Nat × List Int)) (m : (Bool × (Nat × Nat × Nat) × Int)) : Option (Int × (Bool × (Nat × Nat × Nat) × Int)) :=
  mo (p_wire_Reader_sound () ((m.1, (m.2.1.1, m.2.1.2.1, m.2.1.2.2), m.2.2), (b.1, b.2)) ()) none fun r1 =>
  cond (!r1.1) (
    some (0, (m.1, (m.2.1.1, m.2.1.2.1, m.2.1.2.2), m.2.2))
  ) (
    mo (p_wire_Reader_count () (b.1, b.2) (m.1, (m.2.1.1, m.2.1.2.1, m.2.1.2.2), m.2.2)) none fun r2 =>
    cond (icmp .eql r2.2.2.2 0) (
      cond (icmp .gtr r2.1 a.2) (
        mo (p_wire_Reader_Fail ((), 102) (b.1, b.2) (r2.2.1, (m.2.1.1, m.2.1.2.1, m.2.1.2.2), r2.2.2.2)) none fun r3 =>
        some (0, (r3.2.1, (r3.2.2.1.1, r3.2.2.1.2.1, r3.2.2.1.2.2), r3.2.2.2))
      ) (
        some (r2.1, (r2.2.1, (r2.2.2.1.1, r2.2.2.1.2.1, r2.2.2.1.2.2), r2.2.2.2))
      )
    ) (
      some (r2.1, (r2.2.1, (r2.2.2.1.1, r2.2.2.1.2.1, r2.2.2.1.2.2), r2.2.2.2))
    )
  )

def p_wire_Reader_Bytes (a : (Unit × Int)) (b : (Nat × List Int)) (m : (Bool × (Nat × Nat × Nat) × Int)) : Option (Nat × ((Bool × (Nat × Nat × Nat) × Int) × (Nat × List Int))) :=
  mo (p_wire_Reader_sound () ((m.1, (m.2.1.1, m.2.1.2.1, m.2.1.2.2), m.2.2), (b.1, b.2)) ()) none fun r1 =>
  cond (!r1.1) (
    some (0, ((m.1, (m.2.1.1, m.2.1.2.1, m.2.1.2.2), m.2.2), (0, [])))
  ) (
    cond (icmp .lss a.2 0) (
      mo (p_wire_Reader_Fail ((), 1) (b.1, b.2) (m.1, (m.2.1.1, m.2.1.2.1, m.2.1.2.2), m.2.2)) none fun r2 =>
      some (0, ((r2.2.1, (r2.2.2.1.1, r2.2.2.1.2.1, r2.2.2.1.2.2), r2.2.2.2), (0, [])))
    ) (
      mo (p_wire_Reader_count () (b.1, b.2) (m.1, (m.2.1.1, m.2.1.2.1, m.2.1.2.2), m.2.2)) none fun r3 =>
      cond (icmp .neq r3.2.2.2 0) (
        some (0, ((r3.2.1, (r3.2.2.1.1, r3.2.2.1.2.1, r3.2.2.1.2.2), r3.2.2.2), (0, [])))
      ) (
        cond (icmp .gtr r3.1 (IntKind.wrap .u64 a.2)) (
          mo (p_wire_Reader_Fail ((), 103) (b.1, b.2) (r3.2.1, (m.2.1.1, m.2.1.2.1, m.2.1.2.2), r3.2.2.2)) none fun r4 =>
          some (0, ((r4.2.1, (r4.2.2.1.1, r4.2.2.1.2.1, r4.2.2.1.2.2), r4.2.2.2), (0, [])))
        ) (
          cond (icmp .gtr r3.1 (IntKind.wrap .u64 ((r3.2.2.1.2.1 : Nat) : Int))) (
            mo (p_wire_Reader_Fail ((), 100) (b.1, b.2) (r3.2.1, (m.2.1.1, m.2.1.2.1, m.2.1.2.2), r3.2.2.2)) none fun r5 =>
            some (0, ((r5.2.1, (r5.2.2.1.1, r5.2.2.1.2.1, r5.2.2.1.2.2), r5.2.2.2), (0, [])))
          ) (
            let x1 := (decide ((0 : Int) ≤ r3.1 ∧ r3.1 ≤ ((r3.2.2.1.2.1 : Nat) : Int)))
            cond x1 (
              mo (slices_Clone_of_byte_byte (((Int.toNat r3.1), (List.take (Int.toNat r3.1) (List.drop r3.2.2.1.1 b.2))), ())) none fun r6 =>
              cond x1 (
                some (r6.1.1, ((r3.2.1, ((r3.2.2.1.1 + (Int.toNat r3.1)), (r3.2.2.1.2.1 - (Int.toNat r3.1)), (cond (Nat.beq (Int.toNat r3.1) 0) r3.2.2.1.2.2 r3.2.2.1.1)), r3.2.2.2), (r6.1.1, r6.1.2)))
              ) (
                none
              )
            ) (
              none
            )
          )
        )
      )
    )
  )

def p_wire_Reader_Err (a : Unit) (b : ((Bool × (Nat × Nat × Nat) × Int) × (Nat × List Int))) (m : Unit) : Option (Int × Unit) :=
  mo (p_wire_Reader_is () ((b.1.1, (b.1.2.1.1, b.1.2.1.2.1, b.1.2.1.2.2), b.1.2.2), (b.2.1, b.2.2)) ()) none fun r1 =>
  cond (!r1.1) (
    some (1, ())
  ) (
    some (b.1.2.2, ())
  )

def p_wire_Reader_End (a : Unit) (b : (Nat × List Int)) (m : (Bool × (Nat × Nat × Nat) × Int)) : Option (Int × (Bool × (Nat × Nat × Nat) × Int)) :=
  mo (p_wire_Reader_sound () ((m.1, (m.2.1.1, m.2.1.2.1, m.2.1.2.2), m.2.2), (b.1, b.2)) ()) none fun r1 =>
  cond r1.1 (
    cond (icmp .gtr ((m.2.1.2.1 : Nat) : Int) 0) (
      mo (p_wire_Reader_Fail ((), 101) (b.1, b.2) (m.1, (m.2.1.1, m.2.1.2.1, m.2.1.2.2), m.2.2)) none fun r2 =>
      mo (p_wire_Reader_Err () ((r2.2.1, (r2.2.2.1.1, r2.2.2.1.2.1, r2.2.2.1.2.2), r2.2.2.2), (b.1, b.2)) ()) none fun r3 =>
      some (r3.1, (r2.2.1, (r2.2.2.1.1, r2.2.2.1.2.1, r2.2.2.1.2.2), r2.2.2.2))
    ) (
      mo (p_wire_Reader_Err () ((m.1, (m.2.1.1, m.2.1.2.1, m.2.1.2.2), m.2.2), (b.1, b.2)) ()) none fun r4 =>
      some (r4.1, (m.1, (m.2.1.1, m.2.1.2.1, m.2.1.2.2), m.2.2))
    )
  ) (
    mo (p_wire_Reader_Err () ((m.1, (m.2.1.1, m.2.1.2.1, m.2.1.2.2), m.2.2), (b.1, b.2)) ()) none fun r5 =>
    some (r5.1, (m.1, (m.2.1.1, m.2.1.2.1, m.2.1.2.2), m.2.2))
  )

def veillaw10_live (N : Nat)  : Option (Bool) :=
  mo (wire_AppendNumber_nil N () 300) none fun r1 =>
  mo (wire_NewReader (0, r1.1.1, 0) (r1.1.1, r1.1.2) ()) none fun r2 =>
  cond (icmp .eql ((r1.1.1 : Nat) : Int) 2) (
    cond (decide ((0 : Int) ≤ 0 ∧ 0 < ((r1.1.1 : Nat) : Int))) (
      cond (icmp .eql (List.getD r1.1.2 0 0) 172) (
        cond (decide ((0 : Int) ≤ 1 ∧ 1 < ((r1.1.1 : Nat) : Int))) (
          cond (icmp .eql (List.getD r1.1.2 1 0) 2) (
            mo (p_wire_Reader_Number ((), 300) (r2.2.2.1, r2.2.2.2) (r2.2.1.1, (r2.2.1.2.1.1, r2.2.1.2.1.2.1, r2.2.1.2.1.2.2), r2.2.1.2.2)) none fun r3 =>
            cond (icmp .eql r3.1 300) (
              mo (p_wire_Reader_End () (r2.2.2.1, r2.2.2.2) (r3.2.1, (r3.2.2.1.1, r3.2.2.1.2.1, r3.2.2.1.2.2), r3.2.2.2)) none fun r4 =>
              some (icmp .eql r4.1 0)
            ) (
              some false
            )
          ) (
            some false
          )
        ) (
          none
        )
      ) (
        some false
      )
    ) (
      none
    )
  ) (
    some false
  )

def veillaw10_reads_l0 (N : Nat) (v : (List ((Bool × Int × List (Int))) × Int × Unit × Unit × Int) × ((Bool × (Nat × Nat × Nat) × Int) × (Nat × List Int))) : Option (((List ((Bool × Int × List (Int))) × Int × Unit × Unit × Int) × ((Bool × (Nat × Nat × Nat) × Int) × (Nat × List Int))) ⊕ (((Int × Unit) × ((Bool × (Nat × Nat × Nat) × Int) × (Nat × List Int))) ⊕ (Unit × Unit))) :=
  let x1 := (List.length v.1.1)
  cond (icmp .lss v.1.2.2.2.2 ((x1 : Nat) : Int)) (
    cond (decide ((0 : Int) ≤ v.1.2.2.2.2 ∧ v.1.2.2.2.2 < ((x1 : Nat) : Int))) (
      let x2 := (List.getD v.1.1 (Int.toNat v.1.2.2.2.2) (false, 0, []))
      cond x2.1 (
        mo (p_wire_Reader_Bytes ((), (((List.length x2.2.2) : Nat) : Int)) (v.2.2.1, v.2.2.2) (v.2.1.1, (v.2.1.2.1.1, v.2.1.2.1.2.1, v.2.1.2.1.2.2), v.2.1.2.2)) none fun r21 =>
        mo (p_wire_Reader_Err () ((r21.2.1.1, (r21.2.1.2.1.1, r21.2.1.2.1.2.1, r21.2.1.2.1.2.2), r21.2.1.2.2), (v.2.2.1, v.2.2.2)) ()) none fun r22 =>
        cond (icmp .eql r22.1 0) (
          cond (!((bStr r21.2.2.2) == (bStr x2.2.2))) (
            some (.inr (.inr ((), ())))
          ) (
            some (.inl ((v.1.1, v.1.2.1, (), (), (ibin .add .i64 v.1.2.2.2.2 1)), ((r21.2.1.1, (r21.2.1.2.1.1, r21.2.1.2.1.2.1, r21.2.1.2.1.2.2), r21.2.1.2.2), (v.2.2.1, v.2.2.2))))
          )
        ) (
          some (.inl ((v.1.1, v.1.2.1, (), (), (ibin .add .i64 v.1.2.2.2.2 1)), ((r21.2.1.1, (r21.2.1.2.1.1, r21.2.1.2.1.2.1, r21.2.1.2.1.2.2), r21.2.1.2.2), (v.2.2.1, v.2.2.2))))
        )
      ) (
        mo (p_wire_Reader_Number ((), x2.2.1) (v.2.2.1, v.2.2.2) (v.2.1.1, (v.2.1.2.1.1, v.2.1.2.1.2.1, v.2.1.2.1.2.2), v.2.1.2.2)) none fun r23 =>
        mo (p_wire_Reader_Err () ((r23.2.1, (r23.2.2.1.1, r23.2.2.1.2.1, r23.2.2.1.2.2), r23.2.2.2), (v.2.2.1, v.2.2.2)) ()) none fun r24 =>
        cond (icmp .eql r24.1 0) (
          cond (icmp .neq r23.1 x2.2.1) (
            some (.inr (.inr ((), ())))
          ) (
            some (.inl ((v.1.1, v.1.2.1, (), (), (ibin .add .i64 v.1.2.2.2.2 1)), ((r23.2.1, (r23.2.2.1.1, r23.2.2.1.2.1, r23.2.2.1.2.2), r23.2.2.2), (v.2.2.1, v.2.2.2))))
          )
        ) (
          some (.inl ((v.1.1, v.1.2.1, (), (), (ibin .add .i64 v.1.2.2.2.2 1)), ((r23.2.1, (r23.2.2.1.1, r23.2.2.1.2.1, r23.2.2.1.2.2), r23.2.2.2), (v.2.2.1, v.2.2.2))))
        )
      )
    ) (
      none
    )
  ) (
    some (.inr (.inl ((v.1.2.1, ()), ((v.2.1.1, (v.2.1.2.1.1, v.2.1.2.1.2.1, v.2.1.2.1.2.2), v.2.1.2.2), (v.2.2.1, v.2.2.2)))))
  )

def veillaw10_reads (N : Nat) (a : (List ((Bool × Int × List (Int))) × (Nat × Nat × Nat) × Int)) (b : (Nat × List Int)) (m : Unit) : Option (Bool × Unit) :=
  mo (wire_NewReader (a.2.1.1, a.2.1.2.1, a.2.1.2.2) (b.1, b.2) ()) none fun r1 =>
  mo (loopF (veillaw10_reads_l0 N) N ((a.1, a.2.2, (), (), 0), ((r1.2.1.1, (r1.2.1.2.1.1, r1.2.1.2.1.2.1, r1.2.1.2.1.2.2), r1.2.1.2.2), (r1.2.2.1, r1.2.2.2)))) none fun r25 =>
  match r25 with
  | .inl u26 => (
    mo (p_wire_Reader_End () (u26.2.2.1, u26.2.2.2) (u26.2.1.1, (u26.2.1.2.1.1, u26.2.1.2.1.2.1, u26.2.1.2.1.2.2), u26.2.1.2.2)) none fun r27 =>
    some ((icmp .eql r27.1 u26.1.1), ())
  )
  | .inr w28 => (
    some (false, ())
  )

def veillaw10_WireBack_l0 (N : Nat) (v : (List ((Bool × Int × List (Int))) × Int × Unit × Nat × Int) × (Nat × List Int)) : Option (((List ((Bool × Int × List (Int))) × Int × Unit × Nat × Int) × (Nat × List Int)) ⊕ (((List ((Bool × Int × List (Int))) × Int × Nat) × (Nat × List Int)) ⊕ (Unit × Unit))) :=
  let x1 := (List.length v.1.1)
  cond (icmp .lss v.1.2.2.2.2 ((x1 : Nat) : Int)) (
    let x2 := (decide ((0 : Int) ≤ v.1.2.2.2.2 ∧ v.1.2.2.2.2 < ((x1 : Nat) : Int)))
    cond x2 (
      let x3 := (List.getD v.1.1 (Int.toNat v.1.2.2.2.2) (false, 0, []))
      cond x3.1 (
        cond x2 (
          let x4 := (List.length x3.2.2)
          mo (wire_AppendNumber N ((v.2.1, v.2.2), ()) (IntKind.wrap .u64 ((x4 : Nat) : Int))) none fun r15 =>
          let x5 := (r15.1.1 + x4)
          cond (decide (x5 * 1 ≤ 140737488355328 ∧ x5 ≤ 9223372036854775807)) (
            some (.inl ((v.1.1, v.1.2.1, (), x5, (ibin .add .i64 v.1.2.2.2.2 1)), (x5, (r15.1.2 ++ x3.2.2))))
          ) (
            none
          )
        ) (
          none
        )
      ) (
        cond x2 (
          mo (wire_AppendNumber N ((v.2.1, v.2.2), ()) x3.2.1) none fun r16 =>
          some (.inl ((v.1.1, v.1.2.1, (), r16.1.1, (ibin .add .i64 v.1.2.2.2.2 1)), (r16.1.1, r16.1.2)))
        ) (
          none
        )
      )
    ) (
      none
    )
  ) (
    some (.inr (.inl ((v.1.1, v.1.2.1, v.1.2.2.2.1), (v.2.1, v.2.2))))
  )

def veillaw10_WireBack (N : Nat) (a : (List ((Bool × Int × List (Int))) × Int)) (b : Unit) (m : Unit) : Option (Bool × Unit) :=
  mo (veillaw10_live N) none fun r1 =>
  cond (!r1) (
    some (false, ())
  ) (
    mo (loopF (veillaw10_WireBack_l0 N) N ((a.1, a.2, (), 0, 0), (0, []))) none fun r17 =>
    match r17 with
    | .inl u18 => (
      mo (veillaw10_reads N (u18.1.1, (0, u18.1.2.2, 0), 0) (u18.2.1, u18.2.2) ()) none fun r19 =>
      cond (!r19.1) (
        some (false, ())
      ) (
        let x1 := (0 + u18.2.1)
        cond (decide (x1 * 1 ≤ 140737488355328 ∧ x1 ≤ 9223372036854775807)) (
          let x2 := (x1 + 1)
          cond (decide (x2 * 1 ≤ 140737488355328 ∧ x2 ≤ 9223372036854775807)) (
            mo (veillaw10_reads N (u18.1.1, (0, x2, 0), 101) (x2, (u18.2.2 ++ [0])) ()) none fun r20 =>
            cond (!r20.1) (
              some (false, ())
            ) (
              let x3 := ((u18.1.2.2 : Nat) : Int)
              cond (icmp .eql x3 0) (
                some (true, ())
              ) (
                cond (x3 == 0) (
                  none
                ) (
                  let x4 := (ibin .rem .i64 u18.1.2.1 x3)
                  cond (icmp .lss x4 0) (
                    let x5 := (ibin .add .i64 x4 x3)
                    cond (decide ((0 : Int) ≤ x5 ∧ x5 ≤ ((u18.1.2.2 : Nat) : Int))) (
                      mo (veillaw10_reads N (u18.1.1, (0, (Int.toNat x5), 0), 100) (u18.2.1, u18.2.2) ()) none fun r21 =>
                      some (r21.1, ())
                    ) (
                      none
                    )
                  ) (
                    cond (decide ((0 : Int) ≤ x4 ∧ x4 ≤ ((u18.1.2.2 : Nat) : Int))) (
                      mo (veillaw10_reads N (u18.1.1, (0, (Int.toNat x4), 0), 100) (u18.2.1, u18.2.2) ()) none fun r22 =>
                      some (r22.1, ())
                    ) (
                      none
                    )
                  )
                )
              )
            )
          ) (
            none
          )
        ) (
          none
        )
      )
    )
    | .inr _ => (
      none
    )
  )

end Go.Vx
