import Derived.Test.YtoionfdfofmplaaDoorVxR2
set_option autoImplicit false
set_option linter.unusedVariables false
set_option linter.unusedSimpArgs false
namespace Go.Vx
open Go

def bits_Mul64 (a : Int) (b : Int) : (Int × Int) :=
  let x1 := (ibin .add .u64 (ibin .mul .u64 (ibin .shr .u64 a 32) (ibin .and .u64 b 4294967295)) (ibin .shr .u64 (ibin .mul .u64 (ibin .and .u64 a 4294967295) (ibin .and .u64 b 4294967295)) 32))
  ((ibin .add .u64 (ibin .add .u64 (ibin .mul .u64 (ibin .shr .u64 a 32) (ibin .shr .u64 b 32)) (ibin .shr .u64 x1 32)) (ibin .shr .u64 (ibin .add .u64 (ibin .and .u64 x1 4294967295) (ibin .mul .u64 (ibin .and .u64 a 4294967295) (ibin .shr .u64 b 32))) 32)), (ibin .mul .u64 a b))

def scalar_minus (a : List Int) (b : List Int) : Option ((List Int × Int)) :=
  mo (bits_Sub64 (List.getD a 0 0) (List.getD b 0 0) 0) none fun r1 =>
  mo (bits_Sub64 (List.getD a 1 0) (List.getD b 1 0) r1.2) none fun r2 =>
  mo (bits_Sub64 (List.getD a 2 0) (List.getD b 2 0) r2.2) none fun r3 =>
  mo (bits_Sub64 (List.getD a 3 0) (List.getD b 3 0) r3.2) none fun r4 =>
  some ([r1.1, r2.1, r3.1, r4.1], r4.2)

def scalar_plus (a : List Int) (b : List Int) : Option ((List Int × Int)) :=
  mo (bits_Add64 (List.getD a 0 0) (List.getD b 0 0) 0) none fun r1 =>
  mo (bits_Add64 (List.getD a 1 0) (List.getD b 1 0) r1.2) none fun r2 =>
  mo (bits_Add64 (List.getD a 2 0) (List.getD b 2 0) r2.2) none fun r3 =>
  mo (bits_Add64 (List.getD a 3 0) (List.getD b 3 0) r3.2) none fun r4 =>
  some ([r1.1, r2.1, r3.1, r4.1], r4.2)

def scalar_choose (a : Int) (b : List Int) (c : List Int) : List Int :=
  let x1 := (List.set b 0 (ibin .or .u64 (ibin .and .u64 (List.getD b 0 0) a) (ibin .andNot .u64 (List.getD c 0 0) a)))
  let x2 := (List.set x1 1 (ibin .or .u64 (ibin .and .u64 (List.getD x1 1 0) a) (ibin .andNot .u64 (List.getD c 1 0) a)))
  let x3 := (List.set x2 2 (ibin .or .u64 (ibin .and .u64 (List.getD x2 2 0) a) (ibin .andNot .u64 (List.getD c 2 0) a)))
  (List.set x3 3 (ibin .or .u64 (ibin .and .u64 (List.getD x3 3 0) a) (ibin .andNot .u64 (List.getD c 3 0) a)))

def scalar_lower (a : List Int) : Option (List Int) :=
  mo (scalar_minus a [6346243789798364141, 1503914060200516822, 0, 1152921504606846976]) none fun r1 =>
  some (scalar_choose (ineg .u64 r1.2) a r1.1)

def scalar_Scalar_Least (a : List Int) : Option (List Int) :=
  cond (icmp .lss (List.getD a 3 0) 1152921504606846976) (
    some a
  ) (
    mo (bits_Add64 (bits_Mul64 (ibin .shr .u64 (List.getD a 3 0) 60) 1503914060200516822).2 (bits_Mul64 (ibin .shr .u64 (List.getD a 3 0) 60) 6346243789798364141).1 0) none fun r1 =>
    mo (scalar_minus (List.set a 3 (ibin .and .u64 (List.getD a 3 0) 1152921504606846975)) [(bits_Mul64 (ibin .shr .u64 (List.getD a 3 0) 60) 6346243789798364141).2, r1.1, (ibin .add .u64 (bits_Mul64 (ibin .shr .u64 (List.getD a 3 0) 60) 1503914060200516822).1 r1.2), 0]) none fun r2 =>
    mo (scalar_plus r2.1 [6346243789798364141, 1503914060200516822, 0, 1152921504606846976]) none fun r3 =>
    mo (scalar_lower (scalar_choose (ineg .u64 r2.2) r3.1 r2.1)) none fun r4 =>
    some r4
  )

def scalar_Scalar_Encode_l0 (N : Nat) (v : (Unit × Unit × Unit × Int) × (List Int × Unit × List Int)) : Option (((Unit × Unit × Unit × Int) × (List Int × Unit × List Int)) ⊕ (((Unit × Unit) × (Unit × List Int)) ⊕ (Unit × Unit))) :=
  cond (icmp .lss v.1.2.2.2 32) (
    let x1 := (ibin .quo .i64 v.1.2.2.2 8)
    cond (decide ((0 : Int) ≤ x1 ∧ x1 < ((4 : Nat) : Int))) (
      let x2 := (ibin .mul .i64 8 (ibin .rem .i64 v.1.2.2.2 8))
      cond (decide ((0 : Int) ≤ x2)) (
        cond (decide ((0 : Int) ≤ v.1.2.2.2 ∧ v.1.2.2.2 < ((32 : Nat) : Int))) (
          some (.inl (((), (), (), (ibin .add .i64 v.1.2.2.2 1)), (v.2.1, (), (List.set v.2.2.2 (Int.toNat v.1.2.2.2) (IntKind.wrap .u8 (ibin .shr .u64 (List.getD v.2.1 (Int.toNat x1) 0) x2))))))
        ) (
          none
        )
      ) (
        none
      )
    ) (
      none
    )
  ) (
    some (.inr (.inl (((), ()), ((), v.2.2.2))))
  )

def scalar_Scalar_Encode (N : Nat) (a : List Int) : Option (List Int) :=
  mo (scalar_Scalar_Least a) none fun r1 =>
  mo (loopF (scalar_Scalar_Encode_l0 N) N (((), (), (), 0), (r1, (), [0, 0, 0, 0, 0, 0, 0, 0, 0, 0, 0, 0, 0, 0, 0, 0, 0, 0, 0, 0, 0, 0, 0, 0, 0, 0, 0, 0, 0, 0, 0, 0]))) none fun r6 =>
  match r6 with
  | .inl u7 => (
    some u7.2.2
  )
  | .inr _ => (
    none
  )

def scalar_Scalar_Same (a : List Int) (b : List Int) : Option (Bool) :=
  mo (scalar_Scalar_Least a) none fun r1 =>
  mo (scalar_Scalar_Least b) none fun r2 =>
  some (decide (r1 = r2))

def scalar_fromBytes_l0 (N : Nat) (v : (Unit × Unit × List Int × Int) × (Unit × List Int)) : Option (((Unit × Unit × List Int × Int) × (Unit × List Int)) ⊕ (((Unit × Unit) × (Unit × List Int)) ⊕ (Unit × Unit))) :=
  cond (icmp .lss v.1.2.2.2 32) (
    cond (decide ((0 : Int) ≤ v.1.2.2.2 ∧ v.1.2.2.2 < ((32 : Nat) : Int))) (
      let x1 := (ibin .quo .i64 v.1.2.2.2 8)
      let x2 := (decide ((0 : Int) ≤ x1 ∧ x1 < ((4 : Nat) : Int)))
      cond x2 (
        let x3 := (ibin .mul .i64 8 (ibin .rem .i64 v.1.2.2.2 8))
        cond (decide ((0 : Int) ≤ x3)) (
          cond x2 (
            some (.inl (((), (), v.1.2.2.1, (ibin .add .i64 v.1.2.2.2 1)), ((), (List.set v.2.2 (Int.toNat x1) (ibin .or .u64 (List.getD v.2.2 (Int.toNat x1) 0) (ibin .shl .u64 (IntKind.wrap .u64 (List.getD v.1.2.2.1 (Int.toNat v.1.2.2.2) 0)) x3))))))
          ) (
            none
          )
        ) (
          none
        )
      ) (
        none
      )
    ) (
      none
    )
  ) (
    some (.inr (.inl (((), ()), ((), v.2.2))))
  )

def scalar_fromBytes (N : Nat) (a : List Int) : Option (List Int) :=
  mo (loopF (scalar_fromBytes_l0 N) N (((), (), a, 0), ((), [0, 0, 0, 0]))) none fun r5 =>
  match r5 with
  | .inl u6 => (
    some u6.2.2
  )
  | .inr _ => (
    none
  )

def scalar_Decode (N : Nat) (a : List Int) : Option ((List Int × Int)) :=
  mo (scalar_fromBytes N a) none fun r1 =>
  mo (scalar_Scalar_Least r1) none fun r2 =>
  cond (!(decide (r2 = r1))) (
    some ([0, 0, 0, 0], 3)
  ) (
    some (r1, 0)
  )

def slices_Clone_of_byte_byte (a : ((Nat × List Int) × Unit)) : Option (((Nat × List Int) × Unit)) :=
  cond (decide ((0 + a.1.1) * 1 ≤ 140737488355328 ∧ 0 + a.1.1 ≤ 9223372036854775807)) (some ((0 + a.1.1, List.take a.1.1 (List.drop 0 a.1.2)), ())) none

def p_wire_Reader_is (a : Unit) (b : ((Bool × (Nat × Nat × Nat) × Int) × (Nat × List Int))) (m : Unit) : Option (Bool × Unit) :=
  some (b.1.1, ())

def p_wire_Reader_sound (a : Unit) (b : ((Bool × (Nat × Nat × Nat) × Int) × (Nat × List Int))) (m : Unit) : Option (Bool × Unit) :=
  mo (p_wire_Reader_is () ((b.1.1, (b.1.2.1.1, b.1.2.1.2.1, b.1.2.1.2.2), b.1.2.2), (b.2.1, b.2.2)) ()) none fun r1 =>
  cond r1.1 (
    some ((icmp .eql b.1.2.2 0), ())
  ) (
    some (false, ())
  )

def p_wire_Reader_Fail (a : (Unit × Int)) (b : (Nat × List Int)) (m : (Bool × (Nat × Nat × Nat) × Int)) : Option (Unit × (Bool × (Nat × Nat × Nat) × Int)) :=
  mo (p_wire_Reader_sound () ((m.1, (m.2.1.1, m.2.1.2.1, m.2.1.2.2), m.2.2), (b.1, b.2)) ()) none fun r1 =>
  cond r1.1 (
    some ((), (m.1, (m.2.1.1, m.2.1.2.1, m.2.1.2.2), a.2))
  ) (
    some ((), (m.1, (m.2.1.1, m.2.1.2.1, m.2.1.2.2), m.2.2))
  )

def p_wire_Reader_count (a : Unit) (b : (Nat × List Int)) (m : (Bool × (Nat × Nat × Nat) × Int)) : Option (Int × (Bool × (Nat × Nat × Nat) × Int)) :=
  let x1 := ((m.2.1.2.1 : Nat) : Int)
  cond (icmp .eql 0 x1) (
    mo (p_wire_Reader_Fail ((), 100) (b.1, b.2) (m.1, (m.2.1.1, m.2.1.2.1, m.2.1.2.2), m.2.2)) none fun r1 =>
    some (0, (r1.2.1, (r1.2.2.1.1, r1.2.2.1.2.1, r1.2.2.1.2.2), r1.2.2.2))
  ) (
    cond (decide ((0 : Int) ≤ 0 ∧ 0 < ((m.2.1.2.1 : Nat) : Int))) (
      let x2 := (List.getD b.2 (m.2.1.1 + Int.toNat 0) 0)
      cond (icmp .lss x2 128) (
        cond (icmp .eql x2 0) (
          cond (decide ((0 : Int) ≤ 1 ∧ 1 ≤ ((m.2.1.2.1 : Nat) : Int))) (
            some ((ibin .or .u64 0 (ibin .shl .u64 (IntKind.wrap .u64 (ibin .and .u8 x2 127)) 0)), (m.1, ((m.2.1.1 + 1), (m.2.1.2.1 - 1), m.2.1.1), m.2.2))
          ) (
            none
          )
        ) (
          cond (decide ((0 : Int) ≤ 1 ∧ 1 ≤ ((m.2.1.2.1 : Nat) : Int))) (
            some ((ibin .or .u64 0 (ibin .shl .u64 (IntKind.wrap .u64 (ibin .and .u8 x2 127)) 0)), (m.1, ((m.2.1.1 + 1), (m.2.1.2.1 - 1), m.2.1.1), m.2.2))
          ) (
            none
          )
        )
      ) (
        cond (icmp .eql 1 x1) (
          mo (p_wire_Reader_Fail ((), 100) (b.1, b.2) (m.1, (m.2.1.1, m.2.1.2.1, m.2.1.2.2), m.2.2)) none fun r2 =>
          some (0, (r2.2.1, (r2.2.2.1.1, r2.2.2.1.2.1, r2.2.2.1.2.2), r2.2.2.2))
        ) (
          cond (decide ((0 : Int) ≤ 1 ∧ 1 < ((m.2.1.2.1 : Nat) : Int))) (
            let x3 := (List.getD b.2 (m.2.1.1 + Int.toNat 1) 0)
            cond (icmp .lss x3 128) (
              cond (icmp .eql x3 0) (
                mo (p_wire_Reader_Fail ((), 102) (b.1, b.2) (m.1, (m.2.1.1, m.2.1.2.1, m.2.1.2.2), m.2.2)) none fun r3 =>
                some (0, (r3.2.1, (r3.2.2.1.1, r3.2.2.1.2.1, r3.2.2.1.2.2), r3.2.2.2))
              ) (
                cond (decide ((0 : Int) ≤ 2 ∧ 2 ≤ ((m.2.1.2.1 : Nat) : Int))) (
                  some ((ibin .or .u64 (ibin .or .u64 0 (ibin .shl .u64 (IntKind.wrap .u64 (ibin .and .u8 x2 127)) 0)) (ibin .shl .u64 (IntKind.wrap .u64 (ibin .and .u8 x3 127)) 7)), (m.1, ((m.2.1.1 + 2), (m.2.1.2.1 - 2), m.2.1.1), m.2.2))
                ) (
                  none
                )
              )
            ) (
              cond (icmp .eql 2 x1) (
                mo (p_wire_Reader_Fail ((), 100) (b.1, b.2) (m.1, (m.2.1.1, m.2.1.2.1, m.2.1.2.2), m.2.2)) none fun r4 =>
                some (0, (r4.2.1, (r4.2.2.1.1, r4.2.2.1.2.1, r4.2.2.1.2.2), r4.2.2.2))
              ) (
                cond (decide ((0 : Int) ≤ 2 ∧ 2 < ((m.2.1.2.1 : Nat) : Int))) (
                  let x4 := (List.getD b.2 (m.2.1.1 + Int.toNat 2) 0)
                  cond (icmp .lss x4 128) (
                    cond (icmp .eql x4 0) (
                      mo (p_wire_Reader_Fail ((), 102) (b.1, b.2) (m.1, (m.2.1.1, m.2.1.2.1, m.2.1.2.2), m.2.2)) none fun r5 =>
                      some (0, (r5.2.1, (r5.2.2.1.1, r5.2.2.1.2.1, r5.2.2.1.2.2), r5.2.2.2))
                    ) (
                      cond (decide ((0 : Int) ≤ 3 ∧ 3 ≤ ((m.2.1.2.1 : Nat) : Int))) (
                        some ((ibin .or .u64 (ibin .or .u64 (ibin .or .u64 0 (ibin .shl .u64 (IntKind.wrap .u64 (ibin .and .u8 x2 127)) 0)) (ibin .shl .u64 (IntKind.wrap .u64 (ibin .and .u8 x3 127)) 7)) (ibin .shl .u64 (IntKind.wrap .u64 (ibin .and .u8 x4 127)) 14)), (m.1, ((m.2.1.1 + 3), (m.2.1.2.1 - 3), m.2.1.1), m.2.2))
                      ) (
                        none
                      )
                    )
                  ) (
                    cond (icmp .eql 3 x1) (
                      mo (p_wire_Reader_Fail ((), 100) (b.1, b.2) (m.1, (m.2.1.1, m.2.1.2.1, m.2.1.2.2), m.2.2)) none fun r6 =>
                      some (0, (r6.2.1, (r6.2.2.1.1, r6.2.2.1.2.1, r6.2.2.1.2.2), r6.2.2.2))
                    ) (
                      cond (decide ((0 : Int) ≤ 3 ∧ 3 < ((m.2.1.2.1 : Nat) : Int))) (
                        let x5 := (List.getD b.2 (m.2.1.1 + Int.toNat 3) 0)
                        cond (icmp .lss x5 128) (
                          cond (icmp .eql x5 0) (
                            mo (p_wire_Reader_Fail ((), 102) (b.1, b.2) (m.1, (m.2.1.1, m.2.1.2.1, m.2.1.2.2), m.2.2)) none fun r7 =>
                            some (0, (r7.2.1, (r7.2.2.1.1, r7.2.2.1.2.1, r7.2.2.1.2.2), r7.2.2.2))
                          ) (
                            cond (decide ((0 : Int) ≤ 4 ∧ 4 ≤ ((m.2.1.2.1 : Nat) : Int))) (
                              some ((ibin .or .u64 (ibin .or .u64 (ibin .or .u64 (ibin .or .u64 0 (ibin .shl .u64 (IntKind.wrap .u64 (ibin .and .u8 x2 127)) 0)) (ibin .shl .u64 (IntKind.wrap .u64 (ibin .and .u8 x3 127)) 7)) (ibin .shl .u64 (IntKind.wrap .u64 (ibin .and .u8 x4 127)) 14)) (ibin .shl .u64 (IntKind.wrap .u64 (ibin .and .u8 x5 127)) 21)), (m.1, ((m.2.1.1 + 4), (m.2.1.2.1 - 4), m.2.1.1), m.2.2))
                            ) (
                              none
                            )
                          )
                        ) (
                          cond (icmp .eql 4 x1) (
                            mo (p_wire_Reader_Fail ((), 100) (b.1, b.2) (m.1, (m.2.1.1, m.2.1.2.1, m.2.1.2.2), m.2.2)) none fun r8 =>
                            some (0, (r8.2.1, (r8.2.2.1.1, r8.2.2.1.2.1, r8.2.2.1.2.2), r8.2.2.2))
                          ) (
                            cond (decide ((0 : Int) ≤ 4 ∧ 4 < ((m.2.1.2.1 : Nat) : Int))) (
                              let x6 := (List.getD b.2 (m.2.1.1 + Int.toNat 4) 0)
                              cond (icmp .lss x6 128) (
                                cond (icmp .eql x6 0) (
                                  mo (p_wire_Reader_Fail ((), 102) (b.1, b.2) (m.1, (m.2.1.1, m.2.1.2.1, m.2.1.2.2), m.2.2)) none fun r9 =>
                                  some (0, (r9.2.1, (r9.2.2.1.1, r9.2.2.1.2.1, r9.2.2.1.2.2), r9.2.2.2))
                                ) (
                                  cond (decide ((0 : Int) ≤ 5 ∧ 5 ≤ ((m.2.1.2.1 : Nat) : Int))) (
                                    some ((ibin .or .u64 (ibin .or .u64 (ibin .or .u64 (ibin .or .u64 (ibin .or .u64 0 (ibin .shl .u64 (IntKind.wrap .u64 (ibin .and .u8 x2 127)) 0)) (ibin .shl .u64 (IntKind.wrap .u64 (ibin .and .u8 x3 127)) 7)) (ibin .shl .u64 (IntKind.wrap .u64 (ibin .and .u8 x4 127)) 14)) (ibin .shl .u64 (IntKind.wrap .u64 (ibin .and .u8 x5 127)) 21)) (ibin .shl .u64 (IntKind.wrap .u64 (ibin .and .u8 x6 127)) 28)), (m.1, ((m.2.1.1 + 5), (m.2.1.2.1 - 5), m.2.1.1), m.2.2))
                                  ) (
                                    none
                                  )
                                )
                              ) (
                                cond (icmp .eql 5 x1) (
                                  mo (p_wire_Reader_Fail ((), 100) (b.1, b.2) (m.1, (m.2.1.1, m.2.1.2.1, m.2.1.2.2), m.2.2)) none fun r10 =>
                                  some (0, (r10.2.1, (r10.2.2.1.1, r10.2.2.1.2.1, r10.2.2.1.2.2), r10.2.2.2))
                                ) (
                                  cond (decide ((0 : Int) ≤ 5 ∧ 5 < ((m.2.1.2.1 : Nat) : Int))) (
                                    let x7 := (List.getD b.2 (m.2.1.1 + Int.toNat 5) 0)
                                    cond (icmp .lss x7 128) (
                                      cond (icmp .eql x7 0) (
                                        mo (p_wire_Reader_Fail ((), 102) (b.1, b.2) (m.1, (m.2.1.1, m.2.1.2.1, m.2.1.2.2), m.2.2)) none fun r11 =>
                                        some (0, (r11.2.1, (r11.2.2.1.1, r11.2.2.1.2.1, r11.2.2.1.2.2), r11.2.2.2))
                                      ) (
                                        cond (decide ((0 : Int) ≤ 6 ∧ 6 ≤ ((m.2.1.2.1 : Nat) : Int))) (
                                          some ((ibin .or .u64 (ibin .or .u64 (ibin .or .u64 (ibin .or .u64 (ibin .or .u64 (ibin .or .u64 0 (ibin .shl .u64 (IntKind.wrap .u64 (ibin .and .u8 x2 127)) 0)) (ibin .shl .u64 (IntKind.wrap .u64 (ibin .and .u8 x3 127)) 7)) (ibin .shl .u64 (IntKind.wrap .u64 (ibin .and .u8 x4 127)) 14)) (ibin .shl .u64 (IntKind.wrap .u64 (ibin .and .u8 x5 127)) 21)) (ibin .shl .u64 (IntKind.wrap .u64 (ibin .and .u8 x6 127)) 28)) (ibin .shl .u64 (IntKind.wrap .u64 (ibin .and .u8 x7 127)) 35)), (m.1, ((m.2.1.1 + 6), (m.2.1.2.1 - 6), m.2.1.1), m.2.2))
                                        ) (
                                          none
                                        )
                                      )
                                    ) (
                                      cond (icmp .eql 6 x1) (
                                        mo (p_wire_Reader_Fail ((), 100) (b.1, b.2) (m.1, (m.2.1.1, m.2.1.2.1, m.2.1.2.2), m.2.2)) none fun r12 =>
                                        some (0, (r12.2.1, (r12.2.2.1.1, r12.2.2.1.2.1, r12.2.2.1.2.2), r12.2.2.2))
                                      ) (
                                        cond (decide ((0 : Int) ≤ 6 ∧ 6 < ((m.2.1.2.1 : Nat) : Int))) (
                                          let x8 := (List.getD b.2 (m.2.1.1 + Int.toNat 6) 0)
                                          cond (icmp .lss x8 128) (
                                            cond (icmp .eql x8 0) (
                                              mo (p_wire_Reader_Fail ((), 102) (b.1, b.2) (m.1, (m.2.1.1, m.2.1.2.1, m.2.1.2.2), m.2.2)) none fun r13 =>
                                              some (0, (r13.2.1, (r13.2.2.1.1, r13.2.2.1.2.1, r13.2.2.1.2.2), r13.2.2.2))
                                            ) (
                                              cond (decide ((0 : Int) ≤ 7 ∧ 7 ≤ ((m.2.1.2.1 : Nat) : Int))) (
                                                some ((ibin .or .u64 (ibin .or .u64 (ibin .or .u64 (ibin .or .u64 (ibin .or .u64 (ibin .or .u64 (ibin .or .u64 0 (ibin .shl .u64 (IntKind.wrap .u64 (ibin .and .u8 x2 127)) 0)) (ibin .shl .u64 (IntKind.wrap .u64 (ibin .and .u8 x3 127)) 7)) (ibin .shl .u64 (IntKind.wrap .u64 (ibin .and .u8 x4 127)) 14)) (ibin .shl .u64 (IntKind.wrap .u64 (ibin .and .u8 x5 127)) 21)) (ibin .shl .u64 (IntKind.wrap .u64 (ibin .and .u8 x6 127)) 28)) (ibin .shl .u64 (IntKind.wrap .u64 (ibin .and .u8 x7 127)) 35)) (ibin .shl .u64 (IntKind.wrap .u64 (ibin .and .u8 x8 127)) 42)), (m.1, ((m.2.1.1 + 7), (m.2.1.2.1 - 7), m.2.1.1), m.2.2))
                                              ) (
                                                none
                                              )
                                            )
                                          ) (
                                            cond (icmp .eql 7 x1) (
                                              mo (p_wire_Reader_Fail ((), 100) (b.1, b.2) (m.1, (m.2.1.1, m.2.1.2.1, m.2.1.2.2), m.2.2)) none fun r14 =>
                                              some (0, (r14.2.1, (r14.2.2.1.1, r14.2.2.1.2.1, r14.2.2.1.2.2), r14.2.2.2))
                                            ) (
                                              cond (decide ((0 : Int) ≤ 7 ∧ 7 < ((m.2.1.2.1 : Nat) : Int))) (
                                                let x9 := (List.getD b.2 (m.2.1.1 + Int.toNat 7) 0)
                                                cond (icmp .lss x9 128) (
                                                  cond (icmp .eql x9 0) (
                                                    mo (p_wire_Reader_Fail ((), 102) (b.1, b.2) (m.1, (m.2.1.1, m.2.1.2.1, m.2.1.2.2), m.2.2)) none fun r15 =>
                                                    some (0, (r15.2.1, (r15.2.2.1.1, r15.2.2.1.2.1, r15.2.2.1.2.2), r15.2.2.2))
                                                  ) (
                                                    cond (decide ((0 : Int) ≤ 8 ∧ 8 ≤ ((m.2.1.2.1 : Nat) : Int))) (
                                                      some ((ibin .or .u64 (ibin .or .u64 (ibin .or .u64 (ibin .or .u64 (ibin .or .u64 (ibin .or .u64 (ibin .or .u64 (ibin .or .u64 0 (ibin .shl .u64 (IntKind.wrap .u64 (ibin .and .u8 x2 127)) 0)) (ibin .shl .u64 (IntKind.wrap .u64 (ibin .and .u8 x3 127)) 7)) (ibin .shl .u64 (IntKind.wrap .u64 (ibin .and .u8 x4 127)) 14)) (ibin .shl .u64 (IntKind.wrap .u64 (ibin .and .u8 x5 127)) 21)) (ibin .shl .u64 (IntKind.wrap .u64 (ibin .and .u8 x6 127)) 28)) (ibin .shl .u64 (IntKind.wrap .u64 (ibin .and .u8 x7 127)) 35)) (ibin .shl .u64 (IntKind.wrap .u64 (ibin .and .u8 x8 127)) 42)) (ibin .shl .u64 (IntKind.wrap .u64 (ibin .and .u8 x9 127)) 49)), (m.1, ((m.2.1.1 + 8), (m.2.1.2.1 - 8), m.2.1.1), m.2.2))
                                                    ) (
                                                      none
                                                    )
                                                  )
                                                ) (
                                                  cond (icmp .eql 8 x1) (
                                                    mo (p_wire_Reader_Fail ((), 100) (b.1, b.2) (m.1, (m.2.1.1, m.2.1.2.1, m.2.1.2.2), m.2.2)) none fun r16 =>
                                                    some (0, (r16.2.1, (r16.2.2.1.1, r16.2.2.1.2.1, r16.2.2.1.2.2), r16.2.2.2))
                                                  ) (
                                                    cond (decide ((0 : Int) ≤ 8 ∧ 8 < ((m.2.1.2.1 : Nat) : Int))) (
                                                      let x10 := (List.getD b.2 (m.2.1.1 + Int.toNat 8) 0)
                                                      cond (icmp .lss x10 128) (
                                                        cond (icmp .eql x10 0) (
                                                          mo (p_wire_Reader_Fail ((), 102) (b.1, b.2) (m.1, (m.2.1.1, m.2.1.2.1, m.2.1.2.2), m.2.2)) none fun r17 =>
                                                          some (0, (r17.2.1, (r17.2.2.1.1, r17.2.2.1.2.1, r17.2.2.1.2.2), r17.2.2.2))
                                                        ) (
                                                          cond (decide ((0 : Int) ≤ 9 ∧ 9 ≤ ((m.2.1.2.1 : Nat) : Int))) (
                                                            some ((ibin .or .u64 (ibin .or .u64 (ibin .or .u64 (ibin .or .u64 (ibin .or .u64 (ibin .or .u64 (ibin .or .u64 (ibin .or .u64 (ibin .or .u64 0 (ibin .shl .u64 (IntKind.wrap .u64 (ibin .and .u8 x2 127)) 0)) (ibin .shl .u64 (IntKind.wrap .u64 (ibin .and .u8 x3 127)) 7)) (ibin .shl .u64 (IntKind.wrap .u64 (ibin .and .u8 x4 127)) 14)) (ibin .shl .u64 (IntKind.wrap .u64 (ibin .and .u8 x5 127)) 21)) (ibin .shl .u64 (IntKind.wrap .u64 (ibin .and .u8 x6 127)) 28)) (ibin .shl .u64 (IntKind.wrap .u64 (ibin .and .u8 x7 127)) 35)) (ibin .shl .u64 (IntKind.wrap .u64 (ibin .and .u8 x8 127)) 42)) (ibin .shl .u64 (IntKind.wrap .u64 (ibin .and .u8 x9 127)) 49)) (ibin .shl .u64 (IntKind.wrap .u64 (ibin .and .u8 x10 127)) 56)), (m.1, ((m.2.1.1 + 9), (m.2.1.2.1 - 9), m.2.1.1), m.2.2))
                                                          ) (
                                                            none
                                                          )
                                                        )
                                                      ) (
                                                        cond (icmp .eql 9 x1) (
                                                          mo (p_wire_Reader_Fail ((), 100) (b.1, b.2) (m.1, (m.2.1.1, m.2.1.2.1, m.2.1.2.2), m.2.2)) none fun r18 =>
                                                          some (0, (r18.2.1, (r18.2.2.1.1, r18.2.2.1.2.1, r18.2.2.1.2.2), r18.2.2.2))
                                                        ) (
                                                          cond (decide ((0 : Int) ≤ 9 ∧ 9 < ((m.2.1.2.1 : Nat) : Int))) (
                                                            let x11 := (List.getD b.2 (m.2.1.1 + Int.toNat 9) 0)
                                                            cond (icmp .gtr x11 1) (
                                                              mo (p_wire_Reader_Fail ((), 102) (b.1, b.2) (m.1, (m.2.1.1, m.2.1.2.1, m.2.1.2.2), m.2.2)) none fun r19 =>
                                                              some (0, (r19.2.1, (r19.2.2.1.1, r19.2.2.1.2.1, r19.2.2.1.2.2), r19.2.2.2))
                                                            ) (
                                                              cond (icmp .lss x11 128) (
                                                                cond (icmp .eql x11 0) (
                                                                  mo (p_wire_Reader_Fail ((), 102) (b.1, b.2) (m.1, (m.2.1.1, m.2.1.2.1, m.2.1.2.2), m.2.2)) none fun r20 =>
                                                                  some (0, (r20.2.1, (r20.2.2.1.1, r20.2.2.1.2.1, r20.2.2.1.2.2), r20.2.2.2))
                                                                ) (
                                                                  cond (decide ((0 : Int) ≤ 10 ∧ 10 ≤ ((m.2.1.2.1 : Nat) : Int))) (
                                                                    some ((ibin .or .u64 (ibin .or .u64 (ibin .or .u64 (ibin .or .u64 (ibin .or .u64 (ibin .or .u64 (ibin .or .u64 (ibin .or .u64 (ibin .or .u64 (ibin .or .u64 0 (ibin .shl .u64 (IntKind.wrap .u64 (ibin .and .u8 x2 127)) 0)) (ibin .shl .u64 (IntKind.wrap .u64 (ibin .and .u8 x3 127)) 7)) (ibin .shl .u64 (IntKind.wrap .u64 (ibin .and .u8 x4 127)) 14)) (ibin .shl .u64 (IntKind.wrap .u64 (ibin .and .u8 x5 127)) 21)) (ibin .shl .u64 (IntKind.wrap .u64 (ibin .and .u8 x6 127)) 28)) (ibin .shl .u64 (IntKind.wrap .u64 (ibin .and .u8 x7 127)) 35)) (ibin .shl .u64 (IntKind.wrap .u64 (ibin .and .u8 x8 127)) 42)) (ibin .shl .u64 (IntKind.wrap .u64 (ibin .and .u8 x9 127)) 49)) (ibin .shl .u64 (IntKind.wrap .u64 (ibin .and .u8 x10 127)) 56)) (ibin .shl .u64 (IntKind.wrap .u64 (ibin .and .u8 x11 127)) 63)), (m.1, ((m.2.1.1 + 10), (m.2.1.2.1 - 10), m.2.1.1), m.2.2))
                                                                  ) (
                                                                    none
                                                                  )
                                                                )
                                                              ) (
                                                                mo (p_wire_Reader_Fail ((), 102) (b.1, b.2) (m.1, (m.2.1.1, m.2.1.2.1, m.2.1.2.2), m.2.2)) none fun r21 =>
                                                                some (0, (r21.2.1, (r21.2.2.1.1, r21.2.2.1.2.1, r21.2.2.1.2.2), r21.2.2.2))
                                                              )
                                                            )
                                                          ) (
                                                            none
                                                          )
                                                        )
                                                      )
                                                    ) (
                                                      none
                                                    )
                                                  )
                                                )
                                              ) (
                                                none
                                              )
                                            )
                                          )
                                        ) (
                                          none
                                        )
                                      )
                                    )
                                  ) (
                                    none
                                  )
                                )
                              )
                            ) (
                              none
                            )
                          )
                        )
                      ) (
                        none
                      )
                    )
                  )
                ) (
                  none
                )
              )
            )
          ) (
            none
          )
        )
      )
    ) (
      none
    )
  )

def p_wire_Reader_Number (a : (Unit × Int)) (b : (Nat × List Int)) (m : (Bool × (Nat × Nat × Nat) × Int)) : Option (Int × (Bool × (Nat × Nat × Nat) × Int)) :=
  mo (p_wire_Reader_sound () ((m.1, (m.2.1.1, m.2.1.2.1, m.2.1.2.2), m.2.2), (b.1, b.2)) ()) none fun r1 =>
  cond (!r1.1) (
    some (0, (m.1, (m.2.1.1, m.2.1.2.1, m.2.1.2.2), m.2.2))
  ) (
    mo (p_wire_Reader_count () (b.1, b.2) (m.1, (m.2.1.1, m.2.1.2.1, m.2.1.2.2), m.2.2)) none fun r2 =>
    cond (icmp .eql r2.2.2.2 0) (
      cond (icmp .gtr r2.1 a.2) (
        mo (p_wire_Reader_Fail ((), 102) (b.1, b.2) (r2.2.1, (m.2.1.1, m.2.1.2.1, m.2.1.2.2), r2.2.2.2)) none fun r3 =>
        some (0, (r3.2.1, (r3.2.2.1.1, r3.2.2.1.2.1, r3.2.2.1.2.2), r3.2.2.2))
      ) (
        some (r2.1, (r2.2.1, (r2.2.2.1.1, r2.2.2.1.2.1, r2.2.2.1.2.2), r2.2.2.2))
      )
    ) (
      some (r2.1, (r2.2.1, (r2.2.2.1.1, r2.2.2.1.2.1, r2.2.2.1.2.2), r2.2.2.2))
    )
  )

def p_wire_Reader_Bytes32 (a : Unit) (b : (Nat × List Int)) (m : (Bool × (Nat × Nat × Nat) × Int)) : Option (List Int × (Bool × (Nat × Nat × Nat) × Int)) :=
  mo (p_wire_Reader_sound () ((m.1, (m.2.1.1, m.2.1.2.1, m.2.1.2.2), m.2.2), (b.1, b.2)) ()) none fun r1 =>
  cond (!r1.1) (
    some ([0, 0, 0, 0, 0, 0, 0, 0, 0, 0, 0, 0, 0, 0, 0, 0, 0, 0, 0, 0, 0, 0, 0, 0, 0, 0, 0, 0, 0, 0, 0, 0], (m.1, (m.2.1.1, m.2.1.2.1, m.2.1.2.2), m.2.2))
  ) (
    cond (icmp .lss ((m.2.1.2.1 : Nat) : Int) 32) (
      mo (p_wire_Reader_Fail ((), 100) (b.1, b.2) (m.1, (m.2.1.1, m.2.1.2.1, m.2.1.2.2), m.2.2)) none fun r2 =>
      some ([0, 0, 0, 0, 0, 0, 0, 0, 0, 0, 0, 0, 0, 0, 0, 0, 0, 0, 0, 0, 0, 0, 0, 0, 0, 0, 0, 0, 0, 0, 0, 0], (r2.2.1, (r2.2.2.1.1, r2.2.2.1.2.1, r2.2.2.1.2.2), r2.2.2.2))
    ) (
      let x1 := (decide ((0 : Int) ≤ 32 ∧ 32 ≤ ((m.2.1.2.1 : Nat) : Int)))
      cond x1 (
        cond x1 (
          some ((List.take 32 (List.drop m.2.1.1 b.2)), (m.1, ((m.2.1.1 + 32), (m.2.1.2.1 - 32), m.2.1.1), m.2.2))
        ) (
          none
        )
      ) (
        none
      )
    )
  )

def p_wire_Reader_Scalar (N : Nat) (a : Unit) (b : (Nat × List Int)) (m : (Bool × (Nat × Nat × Nat) × Int)) : Option (List Int × (Bool × (Nat × Nat × Nat) × Int)) :=
  mo (p_wire_Reader_sound () ((m.1, (m.2.1.1, m.2.1.2.1, m.2.1.2.2), m.2.2), (b.1, b.2)) ()) none fun r1 =>
  cond (!r1.1) (
    some ([0, 0, 0, 0], (m.1, (m.2.1.1, m.2.1.2.1, m.2.1.2.2), m.2.2))
  ) (
    mo (p_wire_Reader_Bytes32 () (b.1, b.2) (m.1, (m.2.1.1, m.2.1.2.1, m.2.1.2.2), m.2.2)) none fun r2 =>
    cond (icmp .neq r2.2.2.2 0) (
      some ([0, 0, 0, 0], (r2.2.1, (r2.2.2.1.1, r2.2.2.1.2.1, r2.2.2.1.2.2), r2.2.2.2))
    ) (
      mo (scalar_Decode N r2.1) none fun r3 =>
      cond (icmp .neq r3.2 0) (
        mo (p_wire_Reader_Fail ((), r3.2) (b.1, b.2) (r2.2.1, (m.2.1.1, m.2.1.2.1, m.2.1.2.2), r2.2.2.2)) none fun r4 =>
        some (r3.1, (r4.2.1, (r4.2.2.1.1, r4.2.2.1.2.1, r4.2.2.1.2.2), r4.2.2.2))
      ) (
        some (r3.1, (r2.2.1, (r2.2.2.1.1, r2.2.2.1.2.1, r2.2.2.1.2.2), r2.2.2.2))
      )
    )
  )

def wire_Point_of_msm_Line (N : Nat) (a : Unit) (b : (Nat × List Int)) (m : (Bool × (Nat × Nat × Nat) × Int)) : Option (List Int × (Bool × (Nat × Nat × Nat) × Int)) :=
  mo (p_wire_Reader_sound () ((m.1, (m.2.1.1, m.2.1.2.1, m.2.1.2.2), m.2.2), (b.1, b.2)) ()) none fun r1 =>
  cond (!r1.1) (
    some ([0, 0, 0, 0], (m.1, (m.2.1.1, m.2.1.2.1, m.2.1.2.2), m.2.2))
  ) (
    mo (p_wire_Reader_Bytes32 () (b.1, b.2) (m.1, (m.2.1.1, m.2.1.2.1, m.2.1.2.2), m.2.2)) none fun r2 =>
    cond (icmp .neq r2.2.2.2 0) (
      some ([0, 0, 0, 0], (r2.2.1, (r2.2.2.1.1, r2.2.2.1.2.1, r2.2.2.1.2.2), r2.2.2.2))
    ) (
      mo (scalar_Decode N r2.1) none fun r3 =>
      cond (icmp .neq r3.2 0) (
        mo (p_wire_Reader_Fail ((), r3.2) (b.1, b.2) (r2.2.1, (m.2.1.1, m.2.1.2.1, m.2.1.2.2), r2.2.2.2)) none fun r4 =>
        some ([0, 0, 0, 0], (r4.2.1, (r4.2.2.1.1, r4.2.2.1.2.1, r4.2.2.1.2.2), r4.2.2.2))
      ) (
        some (r3.1, (r2.2.1, (r2.2.2.1.1, r2.2.2.1.2.1, r2.2.2.1.2.2), r2.2.2.2))
      )
    )
  )

def p_wire_Reader_Err (a : Unit) (b : ((Bool × (Nat × Nat × Nat) × Int) × (Nat × List Int))) (m : Unit) : Option (Int × Unit) :=
  mo (p_wire_Reader_is () ((b.1.1, (b.1.2.1.1, b.1.2.1.2.1, b.1.2.1.2.2), b.1.2.2), (b.2.1, b.2.2)) ()) none fun r1 =>
  cond (!r1.1) (
    some (1, ())
  ) (
    some (b.1.2.2, ())
  )

def p_wire_Reader_End (a : Unit) (b : (Nat × List Int)) (m : (Bool × (Nat × Nat × Nat) × Int)) : Option (Int × (Bool × (Nat × Nat × Nat) × Int)) :=
  mo (p_wire_Reader_sound () ((m.1, (m.2.1.1, m.2.1.2.1, m.2.1.2.2), m.2.2), (b.1, b.2)) ()) none fun r1 =>
  cond r1.1 (
    cond (icmp .gtr ((m.2.1.2.1 : Nat) : Int) 0) (
      mo (p_wire_Reader_Fail ((), 101) (b.1, b.2) (m.1, (m.2.1.1, m.2.1.2.1, m.2.1.2.2), m.2.2)) none fun r2 =>
      mo (p_wire_Reader_Err () ((r2.2.1, (r2.2.2.1.1, r2.2.2.1.2.1, r2.2.2.1.2.2), r2.2.2.2), (b.1, b.2)) ()) none fun r3 =>
      some (r3.1, (r2.2.1, (r2.2.2.1.1, r2.2.2.1.2.1, r2.2.2.1.2.2), r2.2.2.2))
    ) (
      mo (p_wire_Reader_Err () ((m.1, (m.2.1.1, m.2.1.2.1, m.2.1.2.2), m.2.2), (b.1, b.2)) ()) none fun r4 =>
      some (r4.1, (m.1, (m.2.1.1, m.2.1.2.1, m.2.1.2.2), m.2.2))
    )
  ) (
    mo (p_wire_Reader_Err () ((m.1, (m.2.1.1, m.2.1.2.1, m.2.1.2.2), m.2.2), (b.1, b.2)) ()) none fun r5 =>
    some (r5.1, (m.1, (m.2.1.1, m.2.1.2.1, m.2.1.2.2), m.2.2))
  )

def wire_NewReader (a : List (Int)) (b : Unit) (m : Unit) : Option (Unit × ((Bool × (Nat × Nat × Nat) × Int) × (Nat × List Int))) :=
  mo (slices_Clone_of_byte_byte (((List.length a), a), ())) none fun r1 =>
  some ((), ((true, (0, r1.1.1, 0), 0), (r1.1.1, r1.1.2)))

def wire_DecodeProof_of_msm_Line_l4 (N : Nat) (v : (Unit × Unit × Unit × Unit × Int × Int) × (Unit × Unit × Unit × (Bool × (Nat × Nat × Nat) × Int) × (Nat × List Int) × (List Int × List Int × List Int × List Int × List Int × List Int × List Int × List (List Int) × List (List Int) × List Int × List Int))) : Option (((Unit × Unit × Unit × Unit × Int × Int) × (Unit × Unit × Unit × (Bool × (Nat × Nat × Nat) × Int) × (Nat × List Int) × (List Int × List Int × List Int × List Int × List Int × List Int × List Int × List (List Int) × List (List Int) × List Int × List Int))) ⊕ (((Unit × Unit × Unit) × (Unit × Unit × Unit × (Bool × (Nat × Nat × Nat) × Int) × (Nat × List Int) × (List Int × List Int × List Int × List Int × List Int × List Int × List Int × List (List Int) × List (List Int) × List Int × List Int))) ⊕ (Unit × Unit))) :=
  cond (icmp .lss v.1.2.2.2.2.2 v.1.2.2.2.2.1) (
    mo (wire_Point_of_msm_Line N () (v.2.2.2.2.2.1.1, v.2.2.2.2.2.1.2) (v.2.2.2.2.1.1, (v.2.2.2.2.1.2.1.1, v.2.2.2.2.1.2.1.2.1, v.2.2.2.2.1.2.1.2.2), v.2.2.2.2.1.2.2)) none fun r65 =>
    let x1 := (v.2.2.2.2.2.2.2.2.2.2.2.2.2.1 ++ [r65.1])
    cond (decide ((List.length x1) * 32 ≤ 140737488355328 ∧ (List.length x1) ≤ 9223372036854775807)) (
      mo (wire_Point_of_msm_Line N () (v.2.2.2.2.2.1.1, v.2.2.2.2.2.1.2) (r65.2.1, (r65.2.2.1.1, r65.2.2.1.2.1, r65.2.2.1.2.2), r65.2.2.2)) none fun r66 =>
      let x2 := (v.2.2.2.2.2.2.2.2.2.2.2.2.2.2.1 ++ [r66.1])
      cond (decide ((List.length x2) * 32 ≤ 140737488355328 ∧ (List.length x2) ≤ 9223372036854775807)) (
        some (.inl (((), (), (), (), v.1.2.2.2.2.1, (ibin .add .i64 v.1.2.2.2.2.2 1)), ((), (), (), (r66.2.1, (r66.2.2.1.1, r66.2.2.1.2.1, r66.2.2.1.2.2), r66.2.2.2), (v.2.2.2.2.2.1.1, v.2.2.2.2.2.1.2), (v.2.2.2.2.2.2.1, v.2.2.2.2.2.2.2.1, v.2.2.2.2.2.2.2.2.1, v.2.2.2.2.2.2.2.2.2.1, v.2.2.2.2.2.2.2.2.2.2.1, v.2.2.2.2.2.2.2.2.2.2.2.1, v.2.2.2.2.2.2.2.2.2.2.2.2.1, x1, x2, v.2.2.2.2.2.2.2.2.2.2.2.2.2.2.2.1, v.2.2.2.2.2.2.2.2.2.2.2.2.2.2.2.2))))
      ) (
        none
      )
    ) (
      none
    )
  ) (
    some (.inr (.inl (((), (), ()), ((), (), (), (v.2.2.2.2.1.1, (v.2.2.2.2.1.2.1.1, v.2.2.2.2.1.2.1.2.1, v.2.2.2.2.1.2.1.2.2), v.2.2.2.2.1.2.2), (v.2.2.2.2.2.1.1, v.2.2.2.2.2.1.2), (v.2.2.2.2.2.2.1, v.2.2.2.2.2.2.2.1, v.2.2.2.2.2.2.2.2.1, v.2.2.2.2.2.2.2.2.2.1, v.2.2.2.2.2.2.2.2.2.2.1, v.2.2.2.2.2.2.2.2.2.2.2.1, v.2.2.2.2.2.2.2.2.2.2.2.2.1, v.2.2.2.2.2.2.2.2.2.2.2.2.2.1, v.2.2.2.2.2.2.2.2.2.2.2.2.2.2.1, v.2.2.2.2.2.2.2.2.2.2.2.2.2.2.2.1, v.2.2.2.2.2.2.2.2.2.2.2.2.2.2.2.2)))))
  )

def wire_DecodeProof_of_msm_Line (N : Nat) (a : List (Int)) (b : Unit) (m : Unit) : Option (((List Int × List Int × List Int × List Int × List Int × List Int × List Int × List (List Int) × List (List Int) × List Int × List Int) × Int) × (Unit × Unit)) :=
  let x1 := (ibin .quo .i64 (ibin .sub .i64 (ibin .quo .i64 (((List.length a) : Nat) : Int) 32) 9) 2)
  cond (icmp .lss x1 0) (
    some ((([0, 0, 0, 0], [0, 0, 0, 0], [0, 0, 0, 0], [0, 0, 0, 0], [0, 0, 0, 0], [0, 0, 0, 0], [0, 0, 0, 0], [], [], [0, 0, 0, 0], [0, 0, 0, 0]), 2), ((), ()))
  ) (
    cond (icmp .gtr x1 10) (
      some ((([0, 0, 0, 0], [0, 0, 0, 0], [0, 0, 0, 0], [0, 0, 0, 0], [0, 0, 0, 0], [0, 0, 0, 0], [0, 0, 0, 0], [], [], [0, 0, 0, 0], [0, 0, 0, 0]), 2), ((), ()))
    ) (
      cond (icmp .neq (((List.length a) : Nat) : Int) (ibin .mul .i64 32 (ibin .add .i64 9 (ibin .mul .i64 2 x1)))) (
        some ((([0, 0, 0, 0], [0, 0, 0, 0], [0, 0, 0, 0], [0, 0, 0, 0], [0, 0, 0, 0], [0, 0, 0, 0], [0, 0, 0, 0], [], [], [0, 0, 0, 0], [0, 0, 0, 0]), 2), ((), ()))
      ) (
        mo (wire_NewReader a () ()) none fun r1 =>
        mo (wire_Point_of_msm_Line N () (r1.2.2.1, r1.2.2.2) (r1.2.1.1, (r1.2.1.2.1.1, r1.2.1.2.1.2.1, r1.2.1.2.1.2.2), r1.2.1.2.2)) none fun r2 =>
        mo (wire_Point_of_msm_Line N () (r1.2.2.1, r1.2.2.2) (r2.2.1, (r2.2.2.1.1, r2.2.2.1.2.1, r2.2.2.1.2.2), r2.2.2.2)) none fun r3 =>
        mo (wire_Point_of_msm_Line N () (r1.2.2.1, r1.2.2.2) (r3.2.1, (r3.2.2.1.1, r3.2.2.1.2.1, r3.2.2.1.2.2), r3.2.2.2)) none fun r4 =>
        mo (wire_Point_of_msm_Line N () (r1.2.2.1, r1.2.2.2) (r4.2.1, (r4.2.2.1.1, r4.2.2.1.2.1, r4.2.2.1.2.2), r4.2.2.2)) none fun r5 =>
        mo (p_wire_Reader_Scalar N () (r1.2.2.1, r1.2.2.2) (r5.2.1, (r5.2.2.1.1, r5.2.2.1.2.1, r5.2.2.1.2.2), r5.2.2.2)) none fun r6 =>
        mo (p_wire_Reader_Scalar N () (r1.2.2.1, r1.2.2.2) (r6.2.1, (r6.2.2.1.1, r6.2.2.1.2.1, r6.2.2.1.2.2), r6.2.2.2)) none fun r7 =>
        mo (p_wire_Reader_Scalar N () (r1.2.2.1, r1.2.2.2) (r7.2.1, (r7.2.2.1.1, r7.2.2.1.2.1, r7.2.2.1.2.2), r7.2.2.2)) none fun r8 =>
        mo (loopF (wire_DecodeProof_of_msm_Line_l4 N) N (((), (), (), (), x1, 0), ((), (), (), (r8.2.1, (r8.2.2.1.1, r8.2.2.1.2.1, r8.2.2.1.2.2), r8.2.2.2), (r1.2.2.1, r1.2.2.2), (r2.1, r3.1, r4.1, r5.1, r6.1, r7.1, r8.1, [], [], [0, 0, 0, 0], [0, 0, 0, 0])))) none fun r67 =>
        match r67 with
        | .inl u68 => (
          mo (p_wire_Reader_Scalar N () (u68.2.2.2.2.2.1.1, u68.2.2.2.2.2.1.2) (u68.2.2.2.2.1.1, (u68.2.2.2.2.1.2.1.1, u68.2.2.2.2.1.2.1.2.1, u68.2.2.2.2.1.2.1.2.2), u68.2.2.2.2.1.2.2)) none fun r69 =>
          mo (p_wire_Reader_Scalar N () (u68.2.2.2.2.2.1.1, u68.2.2.2.2.2.1.2) (r69.2.1, (r69.2.2.1.1, r69.2.2.1.2.1, r69.2.2.1.2.2), r69.2.2.2)) none fun r70 =>
          mo (p_wire_Reader_End () (u68.2.2.2.2.2.1.1, u68.2.2.2.2.2.1.2) (r70.2.1, (r70.2.2.1.1, r70.2.2.1.2.1, r70.2.2.1.2.2), r70.2.2.2)) none fun r71 =>
          cond (icmp .neq r71.1 0) (
            some ((([0, 0, 0, 0], [0, 0, 0, 0], [0, 0, 0, 0], [0, 0, 0, 0], [0, 0, 0, 0], [0, 0, 0, 0], [0, 0, 0, 0], [], [], [0, 0, 0, 0], [0, 0, 0, 0]), r71.1), ((), ()))
          ) (
            some (((u68.2.2.2.2.2.2.1, u68.2.2.2.2.2.2.2.1, u68.2.2.2.2.2.2.2.2.1, u68.2.2.2.2.2.2.2.2.2.1, u68.2.2.2.2.2.2.2.2.2.2.1, u68.2.2.2.2.2.2.2.2.2.2.2.1, u68.2.2.2.2.2.2.2.2.2.2.2.2.1, u68.2.2.2.2.2.2.2.2.2.2.2.2.2.1, u68.2.2.2.2.2.2.2.2.2.2.2.2.2.2.1, r69.1, r70.1), 0), ((), ()))
          )
        )
        | .inr _ => (
          none
        )
      )
    )
  )

def veillaw10_lines_l0 (N : Nat) (v : (Nat × Unit × Nat × Int) × (List (List Int) × List (List Int))) : Option (((Nat × Unit × Nat × Int) × (List (List Int) × List (List Int))) ⊕ ((Nat × List (List Int)) ⊕ (Unit × Unit))) :=
  cond (icmp .lss v.1.2.2.2 ((v.1.1 : Nat) : Int)) (
    cond (decide ((0 : Int) ≤ v.1.2.2.2 ∧ v.1.2.2.2 < ((v.1.1 : Nat) : Int))) (
      let x1 := (v.2.2 ++ [(List.getD v.2.1 (Int.toNat v.1.2.2.2) [0, 0, 0, 0])])
      let x2 := (List.length x1)
      cond (decide (x2 * 32 ≤ 140737488355328 ∧ x2 ≤ 9223372036854775807)) (
        some (.inl ((v.1.1, (), x2, (ibin .add .i64 v.1.2.2.2 1)), (v.2.1, x1)))
      ) (
        none
      )
    ) (
      none
    )
  ) (
    some (.inr (.inl (v.1.2.2.1, v.2.2)))
  )

def veillaw10_lines (N : Nat) (a : (List (List Int) × Unit)) : Option ((List (List Int) × Unit)) :=
  mo (loopF (veillaw10_lines_l0 N) N (((List.length a.1), (), 0, 0), (a.1, []))) none fun r12 =>
  match r12 with
  | .inl u13 => (
    some (u13.2, ())
  )
  | .inr _ => (
    none
  )

def veillaw10_WireProof_line (N : Nat) (a : ((List Int × List Int × List Int × List Int) × List Int × List Int × List Int × List (List Int) × List (List Int) × List Int × List Int)) (b : Unit) (m : Unit) : Option ((List Int × List Int × List Int × List Int × List Int × List Int × List Int × List (List Int) × List (List Int) × List Int × List Int) × (Unit × Unit)) :=
  mo (veillaw10_lines N (a.2.2.2.2.1, ())) none fun r1 =>
  mo (veillaw10_lines N (a.2.2.2.2.2.1, ())) none fun r2 =>
  some ((a.1.1, a.1.2.1, a.1.2.2.1, a.1.2.2.2, a.2.1, a.2.2.1, a.2.2.2.1, r1.1, r2.1, a.2.2.2.2.2.2.1, a.2.2.2.2.2.2.2), ((), ()))

def wire_EncodeProof_of_msm_Line_l4 (N : Nat) (v : (Unit × Unit × Unit × Unit × Unit × List (List Int) × Int × Int) × ((List Int × List Int × List Int × List Int × List Int × List Int × List Int × List (List Int) × List (List Int) × List Int × List Int) × List (Int) × Unit)) : Option (((Unit × Unit × Unit × Unit × Unit × List (List Int) × Int × Int) × ((List Int × List Int × List Int × List Int × List Int × List Int × List Int × List (List Int) × List (List Int) × List Int × List Int) × List (Int) × Unit)) ⊕ (((Unit × Unit × Unit) × ((List Int × List Int × List Int × List Int × List Int × List Int × List Int × List (List Int) × List (List Int) × List Int × List Int) × List (Int) × Unit)) ⊕ (Unit × Unit))) :=
  cond (icmp .lss v.1.2.2.2.2.2.2.2 v.1.2.2.2.2.2.2.1) (
    cond (decide ((0 : Int) ≤ v.1.2.2.2.2.2.2.2 ∧ v.1.2.2.2.2.2.2.2 < (((List.length v.1.2.2.2.2.2.1) : Nat) : Int))) (
      mo (scalar_Scalar_Encode N (List.getD v.1.2.2.2.2.2.1 (Int.toNat v.1.2.2.2.2.2.2.2) [0, 0, 0, 0])) none fun r37 =>
      let x1 := (v.2.2.1 ++ (List.take 32 (List.drop 0 r37)))
      cond (decide ((List.length x1) * 1 ≤ 140737488355328 ∧ (List.length x1) ≤ 9223372036854775807)) (
        cond (decide ((0 : Int) ≤ v.1.2.2.2.2.2.2.2 ∧ v.1.2.2.2.2.2.2.2 < (((List.length v.2.1.2.2.2.2.2.2.2.2.1) : Nat) : Int))) (
          mo (scalar_Scalar_Encode N (List.getD v.2.1.2.2.2.2.2.2.2.2.1 (Int.toNat v.1.2.2.2.2.2.2.2) [0, 0, 0, 0])) none fun r38 =>
          let x2 := (x1 ++ (List.take 32 (List.drop 0 r38)))
          cond (decide ((List.length x2) * 1 ≤ 140737488355328 ∧ (List.length x2) ≤ 9223372036854775807)) (
            some (.inl (((), (), (), (), (), v.1.2.2.2.2.2.1, v.1.2.2.2.2.2.2.1, (ibin .add .i64 v.1.2.2.2.2.2.2.2 1)), ((v.2.1.1, v.2.1.2.1, v.2.1.2.2.1, v.2.1.2.2.2.1, v.2.1.2.2.2.2.1, v.2.1.2.2.2.2.2.1, v.2.1.2.2.2.2.2.2.1, v.2.1.2.2.2.2.2.2.2.1, v.2.1.2.2.2.2.2.2.2.2.1, v.2.1.2.2.2.2.2.2.2.2.2.1, v.2.1.2.2.2.2.2.2.2.2.2.2), x2, ())))
          ) (
            none
          )
        ) (
          none
        )
      ) (
        none
      )
    ) (
      none
    )
  ) (
    some (.inr (.inl (((), (), ()), ((v.2.1.1, v.2.1.2.1, v.2.1.2.2.1, v.2.1.2.2.2.1, v.2.1.2.2.2.2.1, v.2.1.2.2.2.2.2.1, v.2.1.2.2.2.2.2.2.1, v.2.1.2.2.2.2.2.2.2.1, v.2.1.2.2.2.2.2.2.2.2.1, v.2.1.2.2.2.2.2.2.2.2.2.1, v.2.1.2.2.2.2.2.2.2.2.2.2), v.2.2.1, ()))))
  )

def wire_EncodeProof_of_msm_Line (N : Nat) (a : (List Int × List Int × List Int × List Int × List Int × List Int × List Int × List (List Int) × List (List Int) × List Int × List Int)) (b : Unit) (m : Unit) : Option ((List (Int) × Int) × Unit) :=
  let x1 := (((List.length a.2.2.2.2.2.2.2.1) : Nat) : Int)
  cond (icmp .neq x1 (((List.length a.2.2.2.2.2.2.2.2.1) : Nat) : Int)) (
    some (([], 2), ())
  ) (
    cond (icmp .gtr x1 10) (
      some (([], 2), ())
    ) (
      mo (scalar_Scalar_Encode N a.1) none fun r1 =>
      cond (decide ((List.length (List.take 32 (List.drop 0 r1))) * 1 ≤ 140737488355328 ∧ (List.length (List.take 32 (List.drop 0 r1))) ≤ 9223372036854775807)) (
        mo (scalar_Scalar_Encode N a.2.1) none fun r2 =>
        let x2 := ((List.take 32 (List.drop 0 r1)) ++ (List.take 32 (List.drop 0 r2)))
        cond (decide ((List.length x2) * 1 ≤ 140737488355328 ∧ (List.length x2) ≤ 9223372036854775807)) (
          mo (scalar_Scalar_Encode N a.2.2.1) none fun r3 =>
          let x3 := (x2 ++ (List.take 32 (List.drop 0 r3)))
          cond (decide ((List.length x3) * 1 ≤ 140737488355328 ∧ (List.length x3) ≤ 9223372036854775807)) (
            mo (scalar_Scalar_Encode N a.2.2.2.1) none fun r4 =>
            let x4 := (x3 ++ (List.take 32 (List.drop 0 r4)))
            cond (decide ((List.length x4) * 1 ≤ 140737488355328 ∧ (List.length x4) ≤ 9223372036854775807)) (
              mo (scalar_Scalar_Encode N a.2.2.2.2.1) none fun r5 =>
              let x5 := (x4 ++ (List.take 32 (List.drop 0 r5)))
              cond (decide ((List.length x5) * 1 ≤ 140737488355328 ∧ (List.length x5) ≤ 9223372036854775807)) (
                mo (scalar_Scalar_Encode N a.2.2.2.2.2.1) none fun r6 =>
                let x6 := (x5 ++ (List.take 32 (List.drop 0 r6)))
                cond (decide ((List.length x6) * 1 ≤ 140737488355328 ∧ (List.length x6) ≤ 9223372036854775807)) (
                  mo (scalar_Scalar_Encode N a.2.2.2.2.2.2.1) none fun r7 =>
                  let x7 := (x6 ++ (List.take 32 (List.drop 0 r7)))
                  cond (decide ((List.length x7) * 1 ≤ 140737488355328 ∧ (List.length x7) ≤ 9223372036854775807)) (
                    mo (loopF (wire_EncodeProof_of_msm_Line_l4 N) N (((), (), (), (), (), a.2.2.2.2.2.2.2.1, x1, 0), ((a.1, a.2.1, a.2.2.1, a.2.2.2.1, a.2.2.2.2.1, a.2.2.2.2.2.1, a.2.2.2.2.2.2.1, a.2.2.2.2.2.2.2.1, a.2.2.2.2.2.2.2.2.1, a.2.2.2.2.2.2.2.2.2.1, a.2.2.2.2.2.2.2.2.2.2), x7, ()))) none fun r39 =>
                    match r39 with
                    | .inl u40 => (
                      mo (scalar_Scalar_Encode N u40.2.1.2.2.2.2.2.2.2.2.2.1) none fun r41 =>
                      let x8 := (u40.2.2.1 ++ (List.take 32 (List.drop 0 r41)))
                      cond (decide ((List.length x8) * 1 ≤ 140737488355328 ∧ (List.length x8) ≤ 9223372036854775807)) (
                        mo (scalar_Scalar_Encode N u40.2.1.2.2.2.2.2.2.2.2.2.2) none fun r42 =>
                        let x9 := (x8 ++ (List.take 32 (List.drop 0 r42)))
                        cond (decide ((List.length x9) * 1 ≤ 140737488355328 ∧ (List.length x9) ≤ 9223372036854775807)) (
                          some ((x9, 0), ())
                        ) (
                          none
                        )
                      ) (
                        none
                      )
                    )
                    | .inr _ => (
                      none
                    )
                  ) (
                    none
                  )
                ) (
                  none
                )
              ) (
                none
              )
            ) (
              none
            )
          ) (
            none
          )
        ) (
          none
        )
      ) (
        none
      )
    )
  )

def msm_Line_Same (a : List Int) (b : List Int) : Option (Bool) :=
  mo (scalar_Scalar_Same a b) none fun r1 =>
  some r1

def veillaw10_alike_l0 (N : Nat) (v : (Unit × Unit × Unit × Int) × ((List Int × List Int × List Int × List Int × List Int × List Int × List Int × List (List Int) × List (List Int) × List Int × List Int) × (List Int × List Int × List Int × List Int × List Int × List Int × List Int × List (List Int) × List (List Int) × List Int × List Int))) : Option (((Unit × Unit × Unit × Int) × ((List Int × List Int × List Int × List Int × List Int × List Int × List Int × List (List Int) × List (List Int) × List Int × List Int) × (List Int × List Int × List Int × List Int × List Int × List Int × List Int × List (List Int) × List (List Int) × List Int × List Int))) ⊕ (((Unit × Unit) × ((List Int × List Int × List Int × List Int × List Int × List Int × List Int × List (List Int) × List (List Int) × List Int × List Int) × (List Int × List Int × List Int × List Int × List Int × List Int × List Int × List (List Int) × List (List Int) × List Int × List Int))) ⊕ (Unit × Unit))) :=
  let x1 := (List.length v.2.1.2.2.2.2.2.2.2.1)
  cond (icmp .lss v.1.2.2.2 ((x1 : Nat) : Int)) (
    cond (decide ((0 : Int) ≤ v.1.2.2.2 ∧ v.1.2.2.2 < ((x1 : Nat) : Int))) (
      cond (decide ((0 : Int) ≤ v.1.2.2.2 ∧ v.1.2.2.2 < (((List.length v.2.2.2.2.2.2.2.2.2.1) : Nat) : Int))) (
        mo (msm_Line_Same (List.getD v.2.1.2.2.2.2.2.2.2.1 (Int.toNat v.1.2.2.2) [0, 0, 0, 0]) (List.getD v.2.2.2.2.2.2.2.2.2.1 (Int.toNat v.1.2.2.2) [0, 0, 0, 0])) none fun r46 =>
        cond (!r46) (
          some (.inr (.inr ((), ())))
        ) (
          cond (decide ((0 : Int) ≤ v.1.2.2.2 ∧ v.1.2.2.2 < (((List.length v.2.1.2.2.2.2.2.2.2.2.1) : Nat) : Int))) (
            cond (decide ((0 : Int) ≤ v.1.2.2.2 ∧ v.1.2.2.2 < (((List.length v.2.2.2.2.2.2.2.2.2.2.1) : Nat) : Int))) (
              mo (msm_Line_Same (List.getD v.2.1.2.2.2.2.2.2.2.2.1 (Int.toNat v.1.2.2.2) [0, 0, 0, 0]) (List.getD v.2.2.2.2.2.2.2.2.2.2.1 (Int.toNat v.1.2.2.2) [0, 0, 0, 0])) none fun r47 =>
              cond (!r47) (
                some (.inr (.inr ((), ())))
              ) (
                some (.inl (((), (), (), (ibin .add .i64 v.1.2.2.2 1)), ((v.2.1.1, v.2.1.2.1, v.2.1.2.2.1, v.2.1.2.2.2.1, v.2.1.2.2.2.2.1, v.2.1.2.2.2.2.2.1, v.2.1.2.2.2.2.2.2.1, v.2.1.2.2.2.2.2.2.2.1, v.2.1.2.2.2.2.2.2.2.2.1, v.2.1.2.2.2.2.2.2.2.2.2.1, v.2.1.2.2.2.2.2.2.2.2.2.2), (v.2.2.1, v.2.2.2.1, v.2.2.2.2.1, v.2.2.2.2.2.1, v.2.2.2.2.2.2.1, v.2.2.2.2.2.2.2.1, v.2.2.2.2.2.2.2.2.1, v.2.2.2.2.2.2.2.2.2.1, v.2.2.2.2.2.2.2.2.2.2.1, v.2.2.2.2.2.2.2.2.2.2.2.1, v.2.2.2.2.2.2.2.2.2.2.2.2))))
              )
            ) (
              none
            )
          ) (
            none
          )
        )
      ) (
        none
      )
    ) (
      none
    )
  ) (
    some (.inr (.inl (((), ()), ((v.2.1.1, v.2.1.2.1, v.2.1.2.2.1, v.2.1.2.2.2.1, v.2.1.2.2.2.2.1, v.2.1.2.2.2.2.2.1, v.2.1.2.2.2.2.2.2.1, v.2.1.2.2.2.2.2.2.2.1, v.2.1.2.2.2.2.2.2.2.2.1, v.2.1.2.2.2.2.2.2.2.2.2.1, v.2.1.2.2.2.2.2.2.2.2.2.2), (v.2.2.1, v.2.2.2.1, v.2.2.2.2.1, v.2.2.2.2.2.1, v.2.2.2.2.2.2.1, v.2.2.2.2.2.2.2.1, v.2.2.2.2.2.2.2.2.1, v.2.2.2.2.2.2.2.2.2.1, v.2.2.2.2.2.2.2.2.2.2.1, v.2.2.2.2.2.2.2.2.2.2.2.1, v.2.2.2.2.2.2.2.2.2.2.2.2)))))
  )

def veillaw10_alike (N : Nat) (a : ((List Int × List Int × List Int × List Int × List Int × List Int × List Int × List (List Int) × List (List Int) × List Int × List Int) × (List Int × List Int × List Int × List Int × List Int × List Int × List Int × List (List Int) × List (List Int) × List Int × List Int))) (b : Unit) (m : Unit) : Option (Bool × Unit) :=
  cond (icmp .neq (((List.length a.1.2.2.2.2.2.2.2.1) : Nat) : Int) (((List.length a.2.2.2.2.2.2.2.2.1) : Nat) : Int)) (
    some (false, ())
  ) (
    cond (icmp .neq (((List.length a.1.2.2.2.2.2.2.2.2.1) : Nat) : Int) (((List.length a.2.2.2.2.2.2.2.2.2.1) : Nat) : Int)) (
      some (false, ())
    ) (
      mo (loopF (veillaw10_alike_l0 N) N (((), (), (), 0), ((a.1.1, a.1.2.1, a.1.2.2.1, a.1.2.2.2.1, a.1.2.2.2.2.1, a.1.2.2.2.2.2.1, a.1.2.2.2.2.2.2.1, a.1.2.2.2.2.2.2.2.1, a.1.2.2.2.2.2.2.2.2.1, a.1.2.2.2.2.2.2.2.2.2.1, a.1.2.2.2.2.2.2.2.2.2.2), (a.2.1, a.2.2.1, a.2.2.2.1, a.2.2.2.2.1, a.2.2.2.2.2.1, a.2.2.2.2.2.2.1, a.2.2.2.2.2.2.2.1, a.2.2.2.2.2.2.2.2.1, a.2.2.2.2.2.2.2.2.2.1, a.2.2.2.2.2.2.2.2.2.2.1, a.2.2.2.2.2.2.2.2.2.2.2)))) none fun r48 =>
      match r48 with
      | .inl u49 => (
        mo (msm_Line_Same u49.2.1.1 u49.2.2.1) none fun r50 =>
        cond r50 (
          mo (msm_Line_Same u49.2.1.2.1 u49.2.2.2.1) none fun r51 =>
          cond r51 (
            mo (msm_Line_Same u49.2.1.2.2.1 u49.2.2.2.2.1) none fun r52 =>
            cond r52 (
              mo (msm_Line_Same u49.2.1.2.2.2.1 u49.2.2.2.2.2.1) none fun r53 =>
              cond r53 (
                mo (scalar_Scalar_Same u49.2.1.2.2.2.2.1 u49.2.2.2.2.2.2.1) none fun r54 =>
                cond r54 (
                  mo (scalar_Scalar_Same u49.2.1.2.2.2.2.2.1 u49.2.2.2.2.2.2.2.1) none fun r55 =>
                  cond r55 (
                    mo (scalar_Scalar_Same u49.2.1.2.2.2.2.2.2.1 u49.2.2.2.2.2.2.2.2.1) none fun r56 =>
                    cond r56 (
                      mo (scalar_Scalar_Same u49.2.1.2.2.2.2.2.2.2.2.2.1 u49.2.2.2.2.2.2.2.2.2.2.2.1) none fun r57 =>
                      cond r57 (
                        mo (scalar_Scalar_Same u49.2.1.2.2.2.2.2.2.2.2.2.2 u49.2.2.2.2.2.2.2.2.2.2.2.2) none fun r58 =>
                        some (r58, ())
                      ) (
                        some (false, ())
                      )
                    ) (
                      some (false, ())
                    )
                  ) (
                    some (false, ())
                  )
                ) (
                  some (false, ())
                )
              ) (
                some (false, ())
              )
            ) (
              some (false, ())
            )
          ) (
            some (false, ())
          )
        ) (
          some (false, ())
        )
      )
      | .inr w59 => (
        some (false, ())
      )
    )
  )

def wire_AppendNumber_nil_l0 (N : Nat) (v : (Int × Unit × Nat) × (Nat × List Int)) : Option (((Int × Unit × Nat) × (Nat × List Int)) ⊕ (((Int × Nat) × (Nat × List Int)) ⊕ (Unit × Unit))) :=
  cond (icmp .gtr v.1.1 127) (
    let x1 := (v.2.1 + 1)
    cond (decide (x1 * 1 ≤ 140737488355328 ∧ x1 ≤ 9223372036854775807)) (
      some (.inl (((ibin .shr .u64 v.1.1 7), (), x1), (x1, (v.2.2 ++ [(ibin .or .u8 (IntKind.wrap .u8 v.1.1) 128)]))))
    ) (
      none
    )
  ) (
    some (.inr (.inl ((v.1.1, v.1.2.2), (v.2.1, v.2.2))))
  )

def wire_AppendNumber_nil (N : Nat) (a : Unit) (b : Int) : Option (((Nat × List Int) × Unit)) :=
  mo (loopF (wire_AppendNumber_nil_l0 N) N ((b, (), 0), (0, []))) none fun r10 =>
  match r10 with
  | .inl u11 => (
    let x1 := (u11.2.1 + 1)
    cond (decide (x1 * 1 ≤ 140737488355328 ∧ x1 ≤ 9223372036854775807)) (
      some ((x1, (u11.2.2 ++ [(IntKind.wrap .u8 u11.1.1)])), ())
    ) (
      none
    )
  )
  | .inr _ => (
    none
  )

def veillaw10_live (N : Nat)  : Option (Bool) :=
  mo (wire_AppendNumber_nil N () 300) none fun r1 =>
  mo (wire_NewReader r1.1.2 () ()) none fun r2 =>
  let x1 := (List.length r1.1.2)
  cond (icmp .eql ((x1 : Nat) : Int) 2) (
    cond (decide ((0 : Int) ≤ 0 ∧ 0 < ((x1 : Nat) : Int))) (
      cond (icmp .eql (List.getD r1.1.2 0 0) 172) (
        cond (decide ((0 : Int) ≤ 1 ∧ 1 < ((x1 : Nat) : Int))) (
          cond (icmp .eql (List.getD r1.1.2 1 0) 2) (
            mo (p_wire_Reader_Number ((), 300) (r2.2.2.1, r2.2.2.2) (r2.2.1.1, (r2.2.1.2.1.1, r2.2.1.2.1.2.1, r2.2.1.2.1.2.2), r2.2.1.2.2)) none fun r3 =>
            cond (icmp .eql r3.1 300) (
              mo (p_wire_Reader_End () (r2.2.2.1, r2.2.2.2) (r3.2.1, (r3.2.2.1.1, r3.2.2.1.2.1, r3.2.2.1.2.2), r3.2.2.2)) none fun r4 =>
              some (icmp .eql r4.1 0)
            ) (
              some false
            )
          ) (
            some false
          )
        ) (
          none
        )
      ) (
        some false
      )
    ) (
      none
    )
  ) (
    some false
  )

def veillaw10_WireProofs (N : Nat) (a : (((List Int × List Int × List Int × List Int) × List Int × List Int × List Int × List (List Int) × List (List Int) × List Int × List Int) × List (Int) × List (Int))) (b : Unit) (m : Unit) : Option (Bool × Unit) :=
  mo (veillaw10_live N) none fun r1 =>
  cond (!r1) (
    some (false, ())
  ) (
    mo (veillaw10_WireProof_line N ((a.1.1.1, a.1.1.2.1, a.1.1.2.2.1, a.1.1.2.2.2), a.1.2.1, a.1.2.2.1, a.1.2.2.2.1, a.1.2.2.2.2.1, a.1.2.2.2.2.2.1, a.1.2.2.2.2.2.2.1, a.1.2.2.2.2.2.2.2) () ()) none fun r2 =>
    mo (wire_EncodeProof_of_msm_Line N (r2.1.1, r2.1.2.1, r2.1.2.2.1, r2.1.2.2.2.1, r2.1.2.2.2.2.1, r2.1.2.2.2.2.2.1, r2.1.2.2.2.2.2.2.1, r2.1.2.2.2.2.2.2.2.1, r2.1.2.2.2.2.2.2.2.2.1, r2.1.2.2.2.2.2.2.2.2.2.1, r2.1.2.2.2.2.2.2.2.2.2.2) () ()) none fun r3 =>
    let x1 := (((List.length a.1.2.2.2.2.1) : Nat) : Int)
    cond (icmp .eql x1 (((List.length a.1.2.2.2.2.2.1) : Nat) : Int)) (
      cond (icmp .lss x1 11) (
        mo (wire_DecodeProof_of_msm_Line N r3.1.1 () ()) none fun r4 =>
        cond (icmp .neq r3.1.2 0) (
          some (false, ())
        ) (
          cond (icmp .neq r4.1.2 0) (
            some (false, ())
          ) (
            cond (icmp .neq (((List.length r3.1.1) : Nat) : Int) (ibin .mul .i64 32 (ibin .add .i64 9 (ibin .mul .i64 2 x1)))) (
              some (false, ())
            ) (
              mo (veillaw10_alike N ((r2.1.1, r2.1.2.1, r2.1.2.2.1, r2.1.2.2.2.1, r2.1.2.2.2.2.1, r2.1.2.2.2.2.2.1, r2.1.2.2.2.2.2.2.1, r2.1.2.2.2.2.2.2.2.1, r2.1.2.2.2.2.2.2.2.2.1, r2.1.2.2.2.2.2.2.2.2.2.1, r2.1.2.2.2.2.2.2.2.2.2.2), (r4.1.1.1, r4.1.1.2.1, r4.1.1.2.2.1, r4.1.1.2.2.2.1, r4.1.1.2.2.2.2.1, r4.1.1.2.2.2.2.2.1, r4.1.1.2.2.2.2.2.2.1, r4.1.1.2.2.2.2.2.2.2.1, r4.1.1.2.2.2.2.2.2.2.2.1, r4.1.1.2.2.2.2.2.2.2.2.2.1, r4.1.1.2.2.2.2.2.2.2.2.2.2)) () ()) none fun r5 =>
              cond (!r5.1) (
                some (false, ())
              ) (
                mo (wire_DecodeProof_of_msm_Line N a.2.1 () ()) none fun r6 =>
                mo (wire_DecodeProof_of_msm_Line N a.2.2 () ()) none fun r7 =>
                cond (icmp .eql r6.1.2 0) (
                  mo (wire_EncodeProof_of_msm_Line N (r6.1.1.1, r6.1.1.2.1, r6.1.1.2.2.1, r6.1.1.2.2.2.1, r6.1.1.2.2.2.2.1, r6.1.1.2.2.2.2.2.1, r6.1.1.2.2.2.2.2.2.1, r6.1.1.2.2.2.2.2.2.2.1, r6.1.1.2.2.2.2.2.2.2.2.1, r6.1.1.2.2.2.2.2.2.2.2.2.1, r6.1.1.2.2.2.2.2.2.2.2.2.2) () ()) none fun r8 =>
                  cond (icmp .neq r8.1.2 0) (
                    some (false, ())
                  ) (
                    let x2 := (bStr a.2.1)
                    cond (!((bStr r8.1.1) == x2)) (
                      some (false, ())
                    ) (
                      cond (icmp .neq r6.1.2 0) (
                        some (true, ())
                      ) (
                        cond (icmp .neq r7.1.2 0) (
                          some (true, ())
                        ) (
                          mo (veillaw10_alike N ((r6.1.1.1, r6.1.1.2.1, r6.1.1.2.2.1, r6.1.1.2.2.2.1, r6.1.1.2.2.2.2.1, r6.1.1.2.2.2.2.2.1, r6.1.1.2.2.2.2.2.2.1, r6.1.1.2.2.2.2.2.2.2.1, r6.1.1.2.2.2.2.2.2.2.2.1, r6.1.1.2.2.2.2.2.2.2.2.2.1, r6.1.1.2.2.2.2.2.2.2.2.2.2), (r7.1.1.1, r7.1.1.2.1, r7.1.1.2.2.1, r7.1.1.2.2.2.1, r7.1.1.2.2.2.2.1, r7.1.1.2.2.2.2.2.1, r7.1.1.2.2.2.2.2.2.1, r7.1.1.2.2.2.2.2.2.2.1, r7.1.1.2.2.2.2.2.2.2.2.1, r7.1.1.2.2.2.2.2.2.2.2.2.1, r7.1.1.2.2.2.2.2.2.2.2.2.2)) () ()) none fun r9 =>
                          some ((r9.1 == (x2 == (bStr a.2.2))), ())
                        )
                      )
                    )
                  )
                ) (
                  cond (icmp .neq r6.1.2 0) (
                    some (true, ())
                  ) (
                    cond (icmp .neq r7.1.2 0) (
                      some (true, ())
                    ) (
                      mo (veillaw10_alike N ((r6.1.1.1, r6.1.1.2.1, r6.1.1.2.2.1, r6.1.1.2.2.2.1, r6.1.1.2.2.2.2.1, r6.1.1.2.2.2.2.2.1, r6.1.1.2.2.2.2.2.2.1, r6.1.1.2.2.2.2.2.2.2.1, r6.1.1.2.2.2.2.2.2.2.2.1, r6.1.1.2.2.2.2.2.2.2.2.2.1, r6.1.1.2.2.2.2.2.2.2.2.2.2), (r7.1.1.1, r7.1.1.2.1, r7.1.1.2.2.1, r7.1.1.2.2.2.1, r7.1.1.2.2.2.2.1, r7.1.1.2.2.2.2.2.1, r7.1.1.2.2.2.2.2.2.1, r7.1.1.2.2.2.2.2.2.2.1, r7.1.1.2.2.2.2.2.2.2.2.1, r7.1.1.2.2.2.2.2.2.2.2.2.1, r7.1.1.2.2.2.2.2.2.2.2.2.2)) () ()) none fun r10 =>
                      some ((r10.1 == ((bStr a.2.1) == (bStr a.2.2))), ())
                    )
                  )
                )
              )
            )
          )
        )
      ) (
        cond (icmp .neq r3.1.2 2) (
          some (false, ())
        ) (
          mo (wire_DecodeProof_of_msm_Line N a.2.1 () ()) none fun r11 =>
          mo (wire_DecodeProof_of_msm_Line N a.2.2 () ()) none fun r12 =>
          cond (icmp .eql r11.1.2 0) (
            mo (wire_EncodeProof_of_msm_Line N (r11.1.1.1, r11.1.1.2.1, r11.1.1.2.2.1, r11.1.1.2.2.2.1, r11.1.1.2.2.2.2.1, r11.1.1.2.2.2.2.2.1, r11.1.1.2.2.2.2.2.2.1, r11.1.1.2.2.2.2.2.2.2.1, r11.1.1.2.2.2.2.2.2.2.2.1, r11.1.1.2.2.2.2.2.2.2.2.2.1, r11.1.1.2.2.2.2.2.2.2.2.2.2) () ()) none fun r13 =>
            cond (icmp .neq r13.1.2 0) (
              some (false, ())
            ) (
              let x3 := (bStr a.2.1)
              cond (!((bStr r13.1.1) == x3)) (
                some (false, ())
              ) (
                cond (icmp .neq r11.1.2 0) (
                  some (true, ())
                ) (
                  cond (icmp .neq r12.1.2 0) (
                    some (true, ())
                  ) (
                    mo (veillaw10_alike N ((r11.1.1.1, r11.1.1.2.1, r11.1.1.2.2.1, r11.1.1.2.2.2.1, r11.1.1.2.2.2.2.1, r11.1.1.2.2.2.2.2.1, r11.1.1.2.2.2.2.2.2.1, r11.1.1.2.2.2.2.2.2.2.1, r11.1.1.2.2.2.2.2.2.2.2.1, r11.1.1.2.2.2.2.2.2.2.2.2.1, r11.1.1.2.2.2.2.2.2.2.2.2.2), (r12.1.1.1, r12.1.1.2.1, r12.1.1.2.2.1, r12.1.1.2.2.2.1, r12.1.1.2.2.2.2.1, r12.1.1.2.2.2.2.2.1, r12.1.1.2.2.2.2.2.2.1, r12.1.1.2.2.2.2.2.2.2.1, r12.1.1.2.2.2.2.2.2.2.2.1, r12.1.1.2.2.2.2.2.2.2.2.2.1, r12.1.1.2.2.2.2.2.2.2.2.2.2)) () ()) none fun r14 =>
                    some ((r14.1 == (x3 == (bStr a.2.2))), ())
                  )
                )
              )
            )
          ) (
            cond (icmp .neq r11.1.2 0) (
              some (true, ())
            ) (
              cond (icmp .neq r12.1.2 0) (
                some (true, ())
              ) (
                mo (veillaw10_alike N ((r11.1.1.1, r11.1.1.2.1, r11.1.1.2.2.1, r11.1.1.2.2.2.1, r11.1.1.2.2.2.2.1, r11.1.1.2.2.2.2.2.1, r11.1.1.2.2.2.2.2.2.1, r11.1.1.2.2.2.2.2.2.2.1, r11.1.1.2.2.2.2.2.2.2.2.1, r11.1.1.2.2.2.2.2.2.2.2.2.1, r11.1.1.2.2.2.2.2.2.2.2.2.2), (r12.1.1.1, r12.1.1.2.1, r12.1.1.2.2.1, r12.1.1.2.2.2.1, r12.1.1.2.2.2.2.1, r12.1.1.2.2.2.2.2.1, r12.1.1.2.2.2.2.2.2.1, r12.1.1.2.2.2.2.2.2.2.1, r12.1.1.2.2.2.2.2.2.2.2.1, r12.1.1.2.2.2.2.2.2.2.2.2.1, r12.1.1.2.2.2.2.2.2.2.2.2.2)) () ()) none fun r15 =>
                some ((r15.1 == ((bStr a.2.1) == (bStr a.2.2))), ())
              )
            )
          )
        )
      )
    ) (
      cond (icmp .neq r3.1.2 2) (
        some (false, ())
      ) (
        mo (wire_DecodeProof_of_msm_Line N a.2.1 () ()) none fun r16 =>
        mo (wire_DecodeProof_of_msm_Line N a.2.2 () ()) none fun r17 =>
        cond (icmp .eql r16.1.2 0) (
          mo (wire_EncodeProof_of_msm_Line N (r16.1.1.1, r16.1.1.2.1, r16.1.1.2.2.1, r16.1.1.2.2.2.1, r16.1.1.2.2.2.2.1, r16.1.1.2.2.2.2.2.1, r16.1.1.2.2.2.2.2.2.1, r16.1.1.2.2.2.2.2.2.2.1, r16.1.1.2.2.2.2.2.2.2.2.1, r16.1.1.2.2.2.2.2.2.2.2.2.1, r16.1.1.2.2.2.2.2.2.2.2.2.2) () ()) none fun r18 =>
          cond (icmp .neq r18.1.2 0) (
            some (false, ())
          ) (
            let x4 := (bStr a.2.1)
            cond (!((bStr r18.1.1) == x4)) (
              some (false, ())
            ) (
              cond (icmp .neq r16.1.2 0) (
                some (true, ())
              ) (
                cond (icmp .neq r17.1.2 0) (
                  some (true, ())
                ) (
                  mo (veillaw10_alike N ((r16.1.1.1, r16.1.1.2.1, r16.1.1.2.2.1, r16.1.1.2.2.2.1, r16.1.1.2.2.2.2.1, r16.1.1.2.2.2.2.2.1, r16.1.1.2.2.2.2.2.2.1, r16.1.1.2.2.2.2.2.2.2.1, r16.1.1.2.2.2.2.2.2.2.2.1, r16.1.1.2.2.2.2.2.2.2.2.2.1, r16.1.1.2.2.2.2.2.2.2.2.2.2), (r17.1.1.1, r17.1.1.2.1, r17.1.1.2.2.1, r17.1.1.2.2.2.1, r17.1.1.2.2.2.2.1, r17.1.1.2.2.2.2.2.1, r17.1.1.2.2.2.2.2.2.1, r17.1.1.2.2.2.2.2.2.2.1, r17.1.1.2.2.2.2.2.2.2.2.1, r17.1.1.2.2.2.2.2.2.2.2.2.1, r17.1.1.2.2.2.2.2.2.2.2.2.2)) () ()) none fun r19 =>
                  some ((r19.1 == (x4 == (bStr a.2.2))), ())
                )
              )
            )
          )
        ) (
          cond (icmp .neq r16.1.2 0) (
            some (true, ())
          ) (
            cond (icmp .neq r17.1.2 0) (
              some (true, ())
            ) (
              mo (veillaw10_alike N ((r16.1.1.1, r16.1.1.2.1, r16.1.1.2.2.1, r16.1.1.2.2.2.1, r16.1.1.2.2.2.2.1, r16.1.1.2.2.2.2.2.1, r16.1.1.2.2.2.2.2.2.1, r16.1.1.2.2.2.2.2.2.2.1, r16.1.1.2.2.2.2.2.2.2.2.1, r16.1.1.2.2.2.2.2.2.2.2.2.1, r16.1.1.2.2.2.2.2.2.2.2.2.2), (r17.1.1.1, r17.1.1.2.1, r17.1.1.2.2.1, r17.1.1.2.2.2.1, r17.1.1.2.2.2.2.1, r17.1.1.2.2.2.2.2.1, r17.1.1.2.2.2.2.2.2.1, r17.1.1.2.2.2.2.2.2.2.1, r17.1.1.2.2.2.2.2.2.2.2.1, r17.1.1.2.2.2.2.2.2.2.2.2.1, r17.1.1.2.2.2.2.2.2.2.2.2.2)) () ()) none fun r20 =>
              some ((r20.1 == ((bStr a.2.1) == (bStr a.2.2))), ())
            )
          )
        )
      )
    )
  )

end Go.Vx
