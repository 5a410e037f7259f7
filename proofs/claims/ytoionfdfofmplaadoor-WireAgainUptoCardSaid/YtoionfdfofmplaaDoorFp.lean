import Derived.Test.YtoionfdfofmplaaDoorVxR2
set_option autoImplicit false
set_option linter.unusedVariables false
set_option linter.unusedSimpArgs false
namespace Go.Vx
open Go
def ZfG (a:Int) (b:Int) : (Int × Int) :=
 let x1 := (ibin .add .u64 (ibin .mul .u64 (ibin .shr .u64 a 32) (ibin .and .u64 b 4294967295)) (ibin .shr .u64 (ibin .mul .u64 (ibin .and .u64 a 4294967295) (ibin .and .u64 b 4294967295)) 32))
 ((ibin .add .u64 (ibin .add .u64 (ibin .mul .u64 (ibin .shr .u64 a 32) (ibin .shr .u64 b 32)) (ibin .shr .u64 x1 32)) (ibin .shr .u64 (ibin .add .u64 (ibin .and .u64 x1 4294967295) (ibin .mul .u64 (ibin .and .u64 a 4294967295) (ibin .shr .u64 b 32))) 32)), (ibin .mul .u64 a b))
def ZfH (a:LI) (b:LI) : Option ((LI × Int)) :=
 mo (Zef (List.getD a 0 0) (List.getD b 0 0) 0) none fun r1 =>
 mo (Zef (List.getD a 1 0) (List.getD b 1 0) r1.2) none fun r2 =>
 mo (Zef (List.getD a 2 0) (List.getD b 2 0) r2.2) none fun r3 =>
 mo (Zef (List.getD a 3 0) (List.getD b 3 0) r3.2) none fun r4 =>
 some ([r1.1, r2.1, r3.1, r4.1], r4.2)
def Zhx (a:LI) (b:LI) : Option ((LI × Int)) :=
 mo (Zee (List.getD a 0 0) (List.getD b 0 0) 0) none fun r1 =>
 mo (Zee (List.getD a 1 0) (List.getD b 1 0) r1.2) none fun r2 =>
 mo (Zee (List.getD a 2 0) (List.getD b 2 0) r2.2) none fun r3 =>
 mo (Zee (List.getD a 3 0) (List.getD b 3 0) r3.2) none fun r4 =>
 some ([r1.1, r2.1, r3.1, r4.1], r4.2)
def Zdf (a:Int) (b:LI) (c:LI) : LI :=
 let x1 := (List.set b 0 (ibin .or .u64 (ibin .and .u64 (List.getD b 0 0) a) (ibin .andNot .u64 (List.getD c 0 0) a)))
 let x2 := (List.set x1 1 (ibin .or .u64 (ibin .and .u64 (List.getD x1 1 0) a) (ibin .andNot .u64 (List.getD c 1 0) a)))
 let x3 := (List.set x2 2 (ibin .or .u64 (ibin .and .u64 (List.getD x2 2 0) a) (ibin .andNot .u64 (List.getD c 2 0) a)))
 (List.set x3 3 (ibin .or .u64 (ibin .and .u64 (List.getD x3 3 0) a) (ibin .andNot .u64 (List.getD c 3 0) a)))
def ZgU (a:LI) : Option (LI) :=
 mo (ZfH a [6346243789798364141, 1503914060200516822, 0, 1152921504606846976]) none fun r1 =>
 some (Zdf (ineg .u64 r1.2) a r1.1)
def Zbm (a:LI) : Option (LI) :=
 cond (icmp .lss (List.getD a 3 0) 1152921504606846976) (
 some a
 ) (
 mo (Zee (ZfG (ibin .shr .u64 (List.getD a 3 0) 60) 1503914060200516822).2 (ZfG (ibin .shr .u64 (List.getD a 3 0) 60) 6346243789798364141).1 0) none fun r1 =>
 mo (ZfH (List.set a 3 (ibin .and .u64 (List.getD a 3 0) 1152921504606846975)) [(ZfG (ibin .shr .u64 (List.getD a 3 0) 60) 6346243789798364141).2, r1.1, (ibin .add .u64 (ZfG (ibin .shr .u64 (List.getD a 3 0) 60) 1503914060200516822).1 r1.2), 0]) none fun r2 =>
 mo (Zhx r2.1 [6346243789798364141, 1503914060200516822, 0, 1152921504606846976]) none fun r3 =>
 mo (ZgU (Zdf (ineg .u64 r2.2) r3.1 r2.1)) none fun r4 =>
 some r4
 )
def ZbO (N:Nat) (v:(Unit × Unit × Unit × Int) × (LI × Unit × LI)) : Option (((Unit × Unit × Unit × Int) × (LI × Unit × LI)) ⊕ (((Unit × Unit) × (Unit × LI)) ⊕ (Unit × Unit))) :=
 cond (icmp .lss v.1.2.2.2 32) (
 let x1 := (ibin .quo .i64 v.1.2.2.2 8)
 cond (decide ((0 : Int) ≤ x1 ∧ x1 < ((4 : Nat) : Int))) (
 let x2 := (ibin .mul .i64 8 (ibin .rem .i64 v.1.2.2.2 8))
 cond (decide ((0 : Int) ≤ x2)) (
 cond (decide ((0 : Int) ≤ v.1.2.2.2 ∧ v.1.2.2.2 < ((32 : Nat) : Int))) (
 some (.inl (((), (), (), (ibin .add .i64 v.1.2.2.2 1)), (v.2.1, (), (List.set v.2.2.2 (Int.toNat v.1.2.2.2) (IntKind.wrap .u8 (ibin .shr .u64 (List.getD v.2.1 (Int.toNat x1) 0) x2))))))
 ) (
 none
 )
 ) (
 none
 )
 ) (
 none
 )
 ) (
 some (.inr (.inl (((), ()), ((), v.2.2.2))))
 )
def Zam (N:Nat) (a:LI) : Option (LI) :=
 mo (Zbm a) none fun r1 =>
 mo (loopF (ZbO N) N (((), (), (), 0), (r1, (), [0, 0, 0, 0, 0, 0, 0, 0, 0, 0, 0, 0, 0, 0, 0, 0, 0, 0, 0, 0, 0, 0, 0, 0, 0, 0, 0, 0, 0, 0, 0, 0]))) none fun r6 =>
 match r6 with
 | .inl u7 => (
 some u7.2.2
 )
 | .inr _ => (
 none
 )
def ZcO (N:Nat) (v:(Unit × Unit × LI × Int) × (Unit × LI)) : Option (((Unit × Unit × LI × Int) × (Unit × LI)) ⊕ (((Unit × Unit) × (Unit × LI)) ⊕ (Unit × Unit))) :=
 cond (icmp .lss v.1.2.2.2 32) (
 cond (decide ((0 : Int) ≤ v.1.2.2.2 ∧ v.1.2.2.2 < ((32 : Nat) : Int))) (
 let x1 := (ibin .quo .i64 v.1.2.2.2 8)
 let x2 := (decide ((0 : Int) ≤ x1 ∧ x1 < ((4 : Nat) : Int)))
 cond x2 (
 let x3 := (ibin .mul .i64 8 (ibin .rem .i64 v.1.2.2.2 8))
 cond (decide ((0 : Int) ≤ x3)) (
 cond x2 (
 some (.inl (((), (), v.1.2.2.1, (ibin .add .i64 v.1.2.2.2 1)), ((), (List.set v.2.2 (Int.toNat x1) (ibin .or .u64 (List.getD v.2.2 (Int.toNat x1) 0) (ibin .shl .u64 (IntKind.wrap .u64 (List.getD v.1.2.2.1 (Int.toNat v.1.2.2.2) 0)) x3))))))
 ) (
 none
 )
 ) (
 none
 )
 ) (
 none
 )
 ) (
 none
 )
 ) (
 some (.inr (.inl (((), ()), ((), v.2.2))))
 )
def Zeb (N:Nat) (a:LI) : Option (LI) :=
 mo (loopF (ZcO N) N (((), (), a, 0), ((), [0, 0, 0, 0]))) none fun r5 =>
 match r5 with
 | .inl u6 => (
 some u6.2.2
 )
 | .inr _ => (
 none
 )
def ZbP (N:Nat) (a:LI) : Option ((LI × Int)) :=
 mo (Zeb N a) none fun r1 =>
 mo (Zbm r1) none fun r2 =>
 cond (!(decide (r2 = r1))) (
 some ([0, 0, 0, 0], 3)
 ) (
 some (r1, 0)
 )
def Zbn  : LI :=
 [6346243789798364141, 1503914060200516822, 0, 1152921504606846976]
def ZbQ (a:LI) (b:LI) : Bool :=
 cond (icmp .neq (List.getD a 3 0) (List.getD b 3 0)) (
 (icmp .lss (List.getD a 3 0) (List.getD b 3 0))
 ) (
 cond (icmp .neq (List.getD a 2 0) (List.getD b 2 0)) (
 (icmp .lss (List.getD a 2 0) (List.getD b 2 0))
 ) (
 cond (icmp .neq (List.getD a 1 0) (List.getD b 1 0)) (
 (icmp .lss (List.getD a 1 0) (List.getD b 1 0))
 ) (
 cond (icmp .neq (List.getD a 0 0) (List.getD b 0 0)) (
 (icmp .lss (List.getD a 0 0) (List.getD b 0 0))
 ) (
 false
 )
 )
 )
 )
def ZgB (a:LI) (b:LI) : Option (Bool) :=
 cond (icmp .neq (List.getD a 3 0) (List.getD b 3 0)) (
 some (icmp .lss (List.getD a 3 0) (List.getD b 3 0))
 ) (
 cond (icmp .neq (List.getD a 2 0) (List.getD b 2 0)) (
 some (icmp .lss (List.getD a 2 0) (List.getD b 2 0))
 ) (
 cond (icmp .neq (List.getD a 1 0) (List.getD b 1 0)) (
 some (icmp .lss (List.getD a 1 0) (List.getD b 1 0))
 ) (
 cond (icmp .neq (List.getD a 0 0) (List.getD b 0 0)) (
 some (icmp .lss (List.getD a 0 0) (List.getD b 0 0))
 ) (
 some false
 )
 )
 )
 )
theorem ZkQ (a:LI) (b:LI) : ZgB a b = some (ZbQ a b) := by
 unfold ZgB ZbQ
 repeat' (first | refine Zth ?_ ?_ | rfl)
def ZbB (N:Nat) (v:(Unit × Unit × Unit × Unit × Unit × Int × Int) × (LI × LI × Unit × LI)) : Option (((Unit × Unit × Unit × Unit × Unit × Int × Int) × (LI × LI × Unit × LI)) ⊕ (((Unit × Unit × Int) × (Unit × LI)) ⊕ (Unit × Unit))) :=
 cond (icmp .lss v.1.2.2.2.2.2.2 4) (
 let x1 := (decide ((0 : Int) ≤ v.1.2.2.2.2.2.2 ∧ v.1.2.2.2.2.2.2 < ((4 : Nat) : Int)))
 cond x1 (
 cond x1 (
 cond x1 (
 let x2 := (List.getD v.2.1 (Int.toNat v.1.2.2.2.2.2.2) 0)
 let x3 := (ibin .add .u64 x2 (List.getD v.2.2.1 (Int.toNat v.1.2.2.2.2.2.2) 0))
 cond (icmp .lss x3 x2) (
 let x4 := (ibin .add .u64 x3 v.1.2.2.2.2.2.1)
 cond (icmp .lss x4 x3) (
 cond x1 (
 some (.inl (((), (), (), (), (), 1, (ibin .add .i64 v.1.2.2.2.2.2.2 1)), (v.2.1, v.2.2.1, (), (List.set v.2.2.2.2 (Int.toNat v.1.2.2.2.2.2.2) x4))))
 ) (
 none
 )
 ) (
 cond x1 (
 some (.inl (((), (), (), (), (), 1, (ibin .add .i64 v.1.2.2.2.2.2.2 1)), (v.2.1, v.2.2.1, (), (List.set v.2.2.2.2 (Int.toNat v.1.2.2.2.2.2.2) x4))))
 ) (
 none
 )
 )
 ) (
 let x5 := (ibin .add .u64 x3 v.1.2.2.2.2.2.1)
 cond (icmp .lss x5 x3) (
 cond x1 (
 some (.inl (((), (), (), (), (), 1, (ibin .add .i64 v.1.2.2.2.2.2.2 1)), (v.2.1, v.2.2.1, (), (List.set v.2.2.2.2 (Int.toNat v.1.2.2.2.2.2.2) x5))))
 ) (
 none
 )
 ) (
 cond x1 (
 some (.inl (((), (), (), (), (), 0, (ibin .add .i64 v.1.2.2.2.2.2.2 1)), (v.2.1, v.2.2.1, (), (List.set v.2.2.2.2 (Int.toNat v.1.2.2.2.2.2.2) x5))))
 ) (
 none
 )
 )
 )
 ) (
 none
 )
 ) (
 none
 )
 ) (
 none
 )
 ) (
 some (.inr (.inl (((), (), v.1.2.2.2.2.2.1), ((), v.2.2.2.2))))
 )
def Zfc (N:Nat) (a:LI) (b:LI) : Option ((LI × Int)) :=
 mo (loopF (ZbB N) N (((), (), (), (), (), 0, 0), (a, b, (), [0, 0, 0, 0]))) none fun r8 =>
 match r8 with
 | .inl u9 => (
 some (u9.2.2, u9.1.2.2)
 )
 | .inr _ => (
 none
 )
def Zbu (N:Nat) (v:(Unit × Unit × Unit × Unit × Unit × Int × Int) × (LI × LI × Unit × LI)) : Option (((Unit × Unit × Unit × Unit × Unit × Int × Int) × (LI × LI × Unit × LI)) ⊕ (((Unit × Unit × Int) × (Unit × LI)) ⊕ (Unit × Unit))) :=
 cond (icmp .lss v.1.2.2.2.2.2.2 4) (
 let x1 := (decide ((0 : Int) ≤ v.1.2.2.2.2.2.2 ∧ v.1.2.2.2.2.2.2 < ((4 : Nat) : Int)))
 cond x1 (
 cond x1 (
 cond x1 (
 cond x1 (
 let x2 := (List.getD v.2.1 (Int.toNat v.1.2.2.2.2.2.2) 0)
 let x3 := (List.getD v.2.2.1 (Int.toNat v.1.2.2.2.2.2.2) 0)
 cond (icmp .lss x2 x3) (
 let x4 := (ibin .sub .u64 x2 x3)
 cond (icmp .lss x4 v.1.2.2.2.2.2.1) (
 cond x1 (
 some (.inl (((), (), (), (), (), 1, (ibin .add .i64 v.1.2.2.2.2.2.2 1)), (v.2.1, v.2.2.1, (), (List.set v.2.2.2.2 (Int.toNat v.1.2.2.2.2.2.2) (ibin .sub .u64 x4 v.1.2.2.2.2.2.1)))))
 ) (
 none
 )
 ) (
 cond x1 (
 some (.inl (((), (), (), (), (), 1, (ibin .add .i64 v.1.2.2.2.2.2.2 1)), (v.2.1, v.2.2.1, (), (List.set v.2.2.2.2 (Int.toNat v.1.2.2.2.2.2.2) (ibin .sub .u64 x4 v.1.2.2.2.2.2.1)))))
 ) (
 none
 )
 )
 ) (
 let x5 := (ibin .sub .u64 x2 x3)
 cond (icmp .lss x5 v.1.2.2.2.2.2.1) (
 cond x1 (
 some (.inl (((), (), (), (), (), 1, (ibin .add .i64 v.1.2.2.2.2.2.2 1)), (v.2.1, v.2.2.1, (), (List.set v.2.2.2.2 (Int.toNat v.1.2.2.2.2.2.2) (ibin .sub .u64 x5 v.1.2.2.2.2.2.1)))))
 ) (
 none
 )
 ) (
 cond x1 (
 some (.inl (((), (), (), (), (), 0, (ibin .add .i64 v.1.2.2.2.2.2.2 1)), (v.2.1, v.2.2.1, (), (List.set v.2.2.2.2 (Int.toNat v.1.2.2.2.2.2.2) (ibin .sub .u64 x5 v.1.2.2.2.2.2.1)))))
 ) (
 none
 )
 )
 )
 ) (
 none
 )
 ) (
 none
 )
 ) (
 none
 )
 ) (
 none
 )
 ) (
 some (.inr (.inl (((), (), v.1.2.2.2.2.2.1), ((), v.2.2.2.2))))
 )
def ZcP (N:Nat) (a:LI) (b:LI) : Option ((LI × Int)) :=
 mo (loopF (Zbu N) N (((), (), (), (), (), 0, 0), (a, b, (), [0, 0, 0, 0]))) none fun r8 =>
 match r8 with
 | .inl u9 => (
 some (u9.2.2, u9.1.2.2)
 )
 | .inr _ => (
 none
 )
def Zfd (N:Nat) (a:LI) (b:Int) : Option (LI) :=
 let x1 := (ibin .shr .u64 (List.getD a 3 0) 44)
 let x2 := (ibin .add .u64 (ibin .mul .u64 (ibin .and .u64 (List.getD Zbn 0 0) 4294967295) x1) 0)
 let x3 := (ibin .add .u64 (ibin .mul .u64 (ibin .shr .u64 (List.getD Zbn 0 0) 32) x1) (ibin .shr .u64 x2 32))
 let x4 := (ibin .add .u64 (ibin .mul .u64 (ibin .and .u64 (List.getD Zbn 1 0) 4294967295) x1) (ibin .shr .u64 x3 32))
 let x5 := (ibin .add .u64 (ibin .mul .u64 (ibin .shr .u64 (List.getD Zbn 1 0) 32) x1) (ibin .shr .u64 x4 32))
 mo (ZcP N [(ibin .or .u64 (ibin .shl .u64 (List.getD a 0 0) 16) b), (ibin .or .u64 (ibin .shl .u64 (List.getD a 1 0) 16) (ibin .shr .u64 (List.getD a 0 0) 48)), (ibin .or .u64 (ibin .shl .u64 (List.getD a 2 0) 16) (ibin .shr .u64 (List.getD a 1 0) 48)), (ibin .and .u64 (ibin .or .u64 (ibin .shl .u64 (List.getD a 3 0) 16) (ibin .shr .u64 (List.getD a 2 0) 48)) 1152921504606846975)] [(ibin .or .u64 (ibin .and .u64 x2 4294967295) (ibin .shl .u64 (ibin .and .u64 x3 4294967295) 32)), (ibin .or .u64 (ibin .and .u64 x4 4294967295) (ibin .shl .u64 (ibin .and .u64 x5 4294967295) 32)), (ibin .shr .u64 x5 32), 0]) none fun r1 =>
 cond (icmp .eql r1.2 1) (
 mo (Zfc N r1.1 Zbn) none fun r2 =>
 cond (!(ZbQ r2.1 Zbn)) (
 mo (ZcP N r2.1 Zbn) none fun r3 =>
 some r3.1
 ) (
 some r2.1
 )
 ) (
 cond (!(ZbQ r1.1 Zbn)) (
 mo (ZcP N r1.1 Zbn) none fun r4 =>
 some r4.1
 ) (
 some r1.1
 )
 )
def ZaV (N:Nat) (v:(Nat × Unit × Unit × Int) × ((Nat × LI) × Unit × LI)) : Option (((Nat × Unit × Unit × Int) × ((Nat × LI) × Unit × LI)) ⊕ (((Unit × Unit) × (Unit × LI)) ⊕ (Unit × Unit))) :=
 cond (icmp .geq v.1.2.2.2 0) (
 cond (decide ((0 : Int) ≤ v.1.2.2.2 ∧ v.1.2.2.2 < ((v.1.1 : Nat) : Int))) (
 mo (Zfd N v.2.2.2 (List.getD v.2.1.2 (Int.toNat v.1.2.2.2) 0)) none fun r10 =>
 some (.inl ((v.1.1, (), (), (ibin .sub .i64 v.1.2.2.2 1)), ((v.2.1.1, v.2.1.2), (), r10)))
 ) (
 none
 )
 ) (
 some (.inr (.inl (((), ()), ((), v.2.2.2))))
 )
def ZfZ (N:Nat) (a:((Nat × LI) × Unit)) : Option (LI) :=
 mo (loopF (ZaV N) N ((a.1.1, (), (), (ibin .sub .i64 ((a.1.1 : Nat) : Int) 1)), ((a.1.1, a.1.2), (), [0, 0, 0, 0]))) none fun r11 =>
 match r11 with
 | .inl u12 => (
 some u12.2.2
 )
 | .inr _ => (
 none
 )
def ZaI (N:Nat) (a:LI) : Option (LI) :=
 cond (decide ((0 + 4) * 8 ≤ 140737488355328 ∧ (0 + 4) ≤ 9223372036854775807)) (
 let x1 := ((0 + 4) + 4)
 cond (decide (x1 * 8 ≤ 140737488355328 ∧ x1 ≤ 9223372036854775807)) (
 let x2 := (x1 + 4)
 cond (decide (x2 * 8 ≤ 140737488355328 ∧ x2 ≤ 9223372036854775807)) (
 let x3 := (x2 + 4)
 cond (decide (x3 * 8 ≤ 140737488355328 ∧ x3 ≤ 9223372036854775807)) (
 mo (ZfZ N ((x3, ((([(ibin .and .u64 (List.getD a 0 0) 65535), (ibin .and .u64 (ibin .shr .u64 (List.getD a 0 0) 16) 65535), (ibin .and .u64 (ibin .shr .u64 (List.getD a 0 0) 32) 65535), (ibin .shr .u64 (List.getD a 0 0) 48)] ++ [(ibin .and .u64 (List.getD a 1 0) 65535), (ibin .and .u64 (ibin .shr .u64 (List.getD a 1 0) 16) 65535), (ibin .and .u64 (ibin .shr .u64 (List.getD a 1 0) 32) 65535), (ibin .shr .u64 (List.getD a 1 0) 48)]) ++ [(ibin .and .u64 (List.getD a 2 0) 65535), (ibin .and .u64 (ibin .shr .u64 (List.getD a 2 0) 16) 65535), (ibin .and .u64 (ibin .shr .u64 (List.getD a 2 0) 32) 65535), (ibin .shr .u64 (List.getD a 2 0) 48)]) ++ [(ibin .and .u64 (List.getD a 3 0) 65535), (ibin .and .u64 (ibin .shr .u64 (List.getD a 3 0) 16) 65535), (ibin .and .u64 (ibin .shr .u64 (List.getD a 3 0) 32) 65535), (ibin .shr .u64 (List.getD a 3 0) 48)])), ())) none fun r1 =>
 some r1
 ) (
 none
 )
 ) (
 none
 )
 ) (
 none
 )
 ) (
 none
 )
def Zbs (N:Nat) (v:(Unit × Unit × Unit × Int) × (LI × Unit × LI)) : Option (((Unit × Unit × Unit × Int) × (LI × Unit × LI)) ⊕ (((Unit × Unit) × (Unit × LI)) ⊕ (Unit × Unit))) :=
 cond (icmp .lss v.1.2.2.2 32) (
 let x1 := (ibin .quo .i64 v.1.2.2.2 8)
 cond (decide ((0 : Int) ≤ x1 ∧ x1 < ((4 : Nat) : Int))) (
 let x2 := (ibin .mul .i64 8 (ibin .rem .i64 v.1.2.2.2 8))
 cond (decide ((0 : Int) ≤ x2)) (
 cond (decide ((0 : Int) ≤ v.1.2.2.2 ∧ v.1.2.2.2 < ((32 : Nat) : Int))) (
 some (.inl (((), (), (), (ibin .add .i64 v.1.2.2.2 1)), (v.2.1, (), (List.set v.2.2.2 (Int.toNat v.1.2.2.2) (IntKind.wrap .u8 (ibin .shr .u64 (List.getD v.2.1 (Int.toNat x1) 0) x2))))))
 ) (
 none
 )
 ) (
 none
 )
 ) (
 none
 )
 ) (
 some (.inr (.inl (((), ()), ((), v.2.2.2))))
 )
def Zai (N:Nat) (a:LI) : Option (LI) :=
 mo (loopF (Zbs N) N (((), (), (), 0), (a, (), [0, 0, 0, 0, 0, 0, 0, 0, 0, 0, 0, 0, 0, 0, 0, 0, 0, 0, 0, 0, 0, 0, 0, 0, 0, 0, 0, 0, 0, 0, 0, 0]))) none fun r5 =>
 match r5 with
 | .inl u6 => (
 some u6.2.2
 )
 | .inr _ => (
 none
 )
def Zag (a:LI) : (Int × (LI × LI) × LI × Unit) :=
 (2, ([0, 0, 0, 0, 0, 0, 0, 0, 0, 0], [0, 0, 0, 0, 0, 0, 0, 0, 0, 0]), a, ())
def Zbx (a:((Nat × LI) × Unit)) : Option (((Nat × LI) × Unit)) :=
 cond (decide ((0 + a.1.1) * 1 ≤ 140737488355328 ∧ 0 + a.1.1 ≤ 9223372036854775807)) (some ((0 + a.1.1, List.take a.1.1 (List.drop 0 a.1.2)), ())) none
def Zdc (a:Unit) (b:((Bool × (Nat × Nat × Nat) × Int) × (Nat × LI))) (m:Unit) : Option (Bool × Unit) :=
 some (b.1.1, ())
def ZaC (a:Unit) (b:((Bool × (Nat × Nat × Nat) × Int) × (Nat × LI))) (m:Unit) : Option (Bool × Unit) :=
 mo (Zdc () ((b.1.1, (b.1.2.1.1, b.1.2.1.2.1, b.1.2.1.2.2), b.1.2.2), (b.2.1, b.2.2)) ()) none fun r1 =>
 cond r1.1 (
 some ((icmp .eql b.1.2.2 0), ())
 ) (
 some (false, ())
 )
def ZaW (a:(Unit × Int)) (b:(Nat × LI)) (m:(Bool × (Nat × Nat × Nat) × Int)) : Option (Unit × (Bool × (Nat × Nat × Nat) × Int)) :=
 mo (ZaC () ((m.1, (m.2.1.1, m.2.1.2.1, m.2.1.2.2), m.2.2), (b.1, b.2)) ()) none fun r1 =>
 cond r1.1 (
 some ((), (m.1, (m.2.1.1, m.2.1.2.1, m.2.1.2.2), a.2))
 ) (
 some ((), (m.1, (m.2.1.1, m.2.1.2.1, m.2.1.2.2), m.2.2))
 )
def Za5 (a:Unit) (b:(Nat × LI)) (m:(Bool × (Nat × Nat × Nat) × Int)) : Option (LI × (Bool × (Nat × Nat × Nat) × Int)) :=
 mo (ZaC () ((m.1, (m.2.1.1, m.2.1.2.1, m.2.1.2.2), m.2.2), (b.1, b.2)) ()) none fun r1 =>
 cond (!r1.1) (
 some ([0, 0, 0, 0, 0, 0, 0, 0, 0, 0, 0, 0, 0, 0, 0, 0, 0, 0, 0, 0, 0, 0, 0, 0, 0, 0, 0, 0, 0, 0, 0, 0], (m.1, (m.2.1.1, m.2.1.2.1, m.2.1.2.2), m.2.2))
 ) (
 cond (icmp .lss ((m.2.1.2.1 : Nat) : Int) 32) (
 mo (ZaW ((), 100) (b.1, b.2) (m.1, (m.2.1.1, m.2.1.2.1, m.2.1.2.2), m.2.2)) none fun r2 =>
 some ([0, 0, 0, 0, 0, 0, 0, 0, 0, 0, 0, 0, 0, 0, 0, 0, 0, 0, 0, 0, 0, 0, 0, 0, 0, 0, 0, 0, 0, 0, 0, 0], (r2.2.1, (r2.2.2.1.1, r2.2.2.1.2.1, r2.2.2.1.2.2), r2.2.2.2))
 ) (
 let x1 := (decide ((0 : Int) ≤ 32 ∧ 32 ≤ ((m.2.1.2.1 : Nat) : Int)))
 cond x1 (
 cond x1 (
 some ((List.take 32 (List.drop m.2.1.1 b.2)), (m.1, ((m.2.1.1 + 32), (m.2.1.2.1 - 32), m.2.1.1), m.2.2))
 ) (
 none
 )
 ) (
 none
 )
 )
 )
def ZaN (N:Nat) (a:Unit) (b:(Nat × LI)) (m:(Bool × (Nat × Nat × Nat) × Int)) : Option (LI × (Bool × (Nat × Nat × Nat) × Int)) :=
 mo (ZaC () ((m.1, (m.2.1.1, m.2.1.2.1, m.2.1.2.2), m.2.2), (b.1, b.2)) ()) none fun r1 =>
 cond (!r1.1) (
 some ([0, 0, 0, 0], (m.1, (m.2.1.1, m.2.1.2.1, m.2.1.2.2), m.2.2))
 ) (
 mo (Za5 () (b.1, b.2) (m.1, (m.2.1.1, m.2.1.2.1, m.2.1.2.2), m.2.2)) none fun r2 =>
 cond (icmp .neq r2.2.2.2 0) (
 some ([0, 0, 0, 0], (r2.2.1, (r2.2.2.1.1, r2.2.2.1.2.1, r2.2.2.1.2.2), r2.2.2.2))
 ) (
 mo (ZbP N r2.1) none fun r3 =>
 cond (icmp .neq r3.2 0) (
 mo (ZaW ((), r3.2) (b.1, b.2) (r2.2.1, (m.2.1.1, m.2.1.2.1, m.2.1.2.2), r2.2.2.2)) none fun r4 =>
 some (r3.1, (r4.2.1, (r4.2.2.1.1, r4.2.2.1.2.1, r4.2.2.1.2.2), r4.2.2.2))
 ) (
 some (r3.1, (r2.2.1, (r2.2.2.1.1, r2.2.2.1.2.1, r2.2.2.1.2.2), r2.2.2.2))
 )
 )
 )
def Zay (N:Nat) (a:Unit) (b:(Nat × LI)) (m:(Bool × (Nat × Nat × Nat) × Int)) : Option (LI × (Bool × (Nat × Nat × Nat) × Int)) :=
 mo (ZaC () ((m.1, (m.2.1.1, m.2.1.2.1, m.2.1.2.2), m.2.2), (b.1, b.2)) ()) none fun r1 =>
 cond (!r1.1) (
 some ([0, 0, 0, 0], (m.1, (m.2.1.1, m.2.1.2.1, m.2.1.2.2), m.2.2))
 ) (
 mo (Za5 () (b.1, b.2) (m.1, (m.2.1.1, m.2.1.2.1, m.2.1.2.2), m.2.2)) none fun r2 =>
 cond (icmp .neq r2.2.2.2 0) (
 some ([0, 0, 0, 0], (r2.2.1, (r2.2.2.1.1, r2.2.2.1.2.1, r2.2.2.1.2.2), r2.2.2.2))
 ) (
 mo (ZbP N r2.1) none fun r3 =>
 cond (icmp .neq r3.2 0) (
 mo (ZaW ((), r3.2) (b.1, b.2) (r2.2.1, (m.2.1.1, m.2.1.2.1, m.2.1.2.2), r2.2.2.2)) none fun r4 =>
 some ([0, 0, 0, 0], (r4.2.1, (r4.2.2.1.1, r4.2.2.1.2.1, r4.2.2.1.2.2), r4.2.2.2))
 ) (
 some (r3.1, (r2.2.1, (r2.2.2.1.1, r2.2.2.1.2.1, r2.2.2.1.2.2), r2.2.2.2))
 )
 )
 )
def ZcL (a:Unit) (b:((Bool × (Nat × Nat × Nat) × Int) × (Nat × LI))) (m:Unit) : Option (Int × Unit) :=
 mo (Zdc () ((b.1.1, (b.1.2.1.1, b.1.2.1.2.1, b.1.2.1.2.2), b.1.2.2), (b.2.1, b.2.2)) ()) none fun r1 =>
 cond (!r1.1) (
 some (1, ())
 ) (
 some (b.1.2.2, ())
 )
def ZdB (a:Unit) (b:(Nat × LI)) (m:(Bool × (Nat × Nat × Nat) × Int)) : Option (Int × (Bool × (Nat × Nat × Nat) × Int)) :=
 mo (ZaC () ((m.1, (m.2.1.1, m.2.1.2.1, m.2.1.2.2), m.2.2), (b.1, b.2)) ()) none fun r1 =>
 cond r1.1 (
 cond (icmp .gtr ((m.2.1.2.1 : Nat) : Int) 0) (
 mo (ZaW ((), 101) (b.1, b.2) (m.1, (m.2.1.1, m.2.1.2.1, m.2.1.2.2), m.2.2)) none fun r2 =>
 mo (ZcL () ((r2.2.1, (r2.2.2.1.1, r2.2.2.1.2.1, r2.2.2.1.2.2), r2.2.2.2), (b.1, b.2)) ()) none fun r3 =>
 some (r3.1, (r2.2.1, (r2.2.2.1.1, r2.2.2.1.2.1, r2.2.2.1.2.2), r2.2.2.2))
 ) (
 mo (ZcL () ((m.1, (m.2.1.1, m.2.1.2.1, m.2.1.2.2), m.2.2), (b.1, b.2)) ()) none fun r4 =>
 some (r4.1, (m.1, (m.2.1.1, m.2.1.2.1, m.2.1.2.2), m.2.2))
 )
 ) (
 mo (ZcL () ((m.1, (m.2.1.1, m.2.1.2.1, m.2.1.2.2), m.2.2), (b.1, b.2)) ()) none fun r5 =>
 some (r5.1, (m.1, (m.2.1.1, m.2.1.2.1, m.2.1.2.2), m.2.2))
 )
def Zeg (a:(Nat × Nat × Nat)) (b:(Nat × LI)) (m:Unit) : Option (Unit × ((Bool × (Nat × Nat × Nat) × Int) × (Nat × LI))) :=
 mo (Zbx ((a.2.1, (List.take a.2.1 (List.drop a.1 b.2))), ())) none fun r1 =>
 some ((), ((true, (0, r1.1.1, 0), 0), (r1.1.1, r1.1.2)))
def ZaE (N:Nat) (v:(Unit × Unit × Unit × Unit × Int × Int) × (List (LI) × List (LI) × Unit × (Bool × (Nat × Nat × Nat) × Int) × (Nat × LI) × (LI × LI × LI × LI × LI × LI × LI × Nat × Nat × LI × LI))) : Option (((Unit × Unit × Unit × Unit × Int × Int) × (List (LI) × List (LI) × Unit × (Bool × (Nat × Nat × Nat) × Int) × (Nat × LI) × (LI × LI × LI × LI × LI × LI × LI × Nat × Nat × LI × LI))) ⊕ (((Unit × Unit × Unit) × (List (LI) × List (LI) × Unit × (Bool × (Nat × Nat × Nat) × Int) × (Nat × LI) × (LI × LI × LI × LI × LI × LI × LI × Nat × Nat × LI × LI))) ⊕ (Unit × Unit))) :=
 cond (icmp .lss v.1.2.2.2.2.2 v.1.2.2.2.2.1) (
 mo (Zay N () (v.2.2.2.2.2.1.1, v.2.2.2.2.2.1.2) (v.2.2.2.2.1.1, (v.2.2.2.2.1.2.1.1, v.2.2.2.2.1.2.1.2.1, v.2.2.2.2.1.2.1.2.2), v.2.2.2.2.1.2.2)) none fun r69 =>
 let x1 := (v.2.1 ++ [r69.1])
 let x2 := (List.length x1)
 cond (decide (x2 * 32 ≤ 140737488355328 ∧ x2 ≤ 9223372036854775807)) (
 mo (Zay N () (v.2.2.2.2.2.1.1, v.2.2.2.2.2.1.2) (r69.2.1, (r69.2.2.1.1, r69.2.2.1.2.1, r69.2.2.1.2.2), r69.2.2.2)) none fun r70 =>
 let x3 := (v.2.2.1 ++ [r70.1])
 let x4 := (List.length x3)
 cond (decide (x4 * 32 ≤ 140737488355328 ∧ x4 ≤ 9223372036854775807)) (
 some (.inl (((), (), (), (), v.1.2.2.2.2.1, (ibin .add .i64 v.1.2.2.2.2.2 1)), (x1, x3, (), (r70.2.1, (r70.2.2.1.1, r70.2.2.1.2.1, r70.2.2.1.2.2), r70.2.2.2), (v.2.2.2.2.2.1.1, v.2.2.2.2.2.1.2), (v.2.2.2.2.2.2.1, v.2.2.2.2.2.2.2.1, v.2.2.2.2.2.2.2.2.1, v.2.2.2.2.2.2.2.2.2.1, v.2.2.2.2.2.2.2.2.2.2.1, v.2.2.2.2.2.2.2.2.2.2.2.1, v.2.2.2.2.2.2.2.2.2.2.2.2.1, x2, x4, v.2.2.2.2.2.2.2.2.2.2.2.2.2.2.2.1, v.2.2.2.2.2.2.2.2.2.2.2.2.2.2.2.2))))
 ) (
 none
 )
 ) (
 none
 )
 ) (
 some (.inr (.inl (((), (), ()), (v.2.1, v.2.2.1, (), (v.2.2.2.2.1.1, (v.2.2.2.2.1.2.1.1, v.2.2.2.2.1.2.1.2.1, v.2.2.2.2.1.2.1.2.2), v.2.2.2.2.1.2.2), (v.2.2.2.2.2.1.1, v.2.2.2.2.2.1.2), (v.2.2.2.2.2.2.1, v.2.2.2.2.2.2.2.1, v.2.2.2.2.2.2.2.2.1, v.2.2.2.2.2.2.2.2.2.1, v.2.2.2.2.2.2.2.2.2.2.1, v.2.2.2.2.2.2.2.2.2.2.2.1, v.2.2.2.2.2.2.2.2.2.2.2.2.1, v.2.2.2.2.2.2.2.2.2.2.2.2.2.1, v.2.2.2.2.2.2.2.2.2.2.2.2.2.2.1, v.2.2.2.2.2.2.2.2.2.2.2.2.2.2.2.1, v.2.2.2.2.2.2.2.2.2.2.2.2.2.2.2.2)))))
 )
def Zax (N:Nat) (a:(Nat × Nat × Nat)) (b:(Nat × LI)) (m:Unit) : Option (((LI × LI × LI × LI × LI × LI × LI × Nat × Nat × LI × LI) × Int) × (List (LI) × List (LI))) :=
 let x1 := ((a.2.1 : Nat) : Int)
 let x2 := (ibin .quo .i64 (ibin .sub .i64 (ibin .quo .i64 x1 32) 9) 2)
 cond (icmp .lss x2 0) (
 some ((([0, 0, 0, 0], [0, 0, 0, 0], [0, 0, 0, 0], [0, 0, 0, 0], [0, 0, 0, 0], [0, 0, 0, 0], [0, 0, 0, 0], 0, 0, [0, 0, 0, 0], [0, 0, 0, 0]), 2), ([], []))
 ) (
 cond (icmp .gtr x2 10) (
 some ((([0, 0, 0, 0], [0, 0, 0, 0], [0, 0, 0, 0], [0, 0, 0, 0], [0, 0, 0, 0], [0, 0, 0, 0], [0, 0, 0, 0], 0, 0, [0, 0, 0, 0], [0, 0, 0, 0]), 2), ([], []))
 ) (
 cond (icmp .neq x1 (ibin .mul .i64 32 (ibin .add .i64 9 (ibin .mul .i64 2 x2)))) (
 some ((([0, 0, 0, 0], [0, 0, 0, 0], [0, 0, 0, 0], [0, 0, 0, 0], [0, 0, 0, 0], [0, 0, 0, 0], [0, 0, 0, 0], 0, 0, [0, 0, 0, 0], [0, 0, 0, 0]), 2), ([], []))
 ) (
 mo (Zeg (a.1, a.2.1, a.2.2) (b.1, b.2) ()) none fun r1 =>
 mo (Zay N () (r1.2.2.1, r1.2.2.2) (r1.2.1.1, (r1.2.1.2.1.1, r1.2.1.2.1.2.1, r1.2.1.2.1.2.2), r1.2.1.2.2)) none fun r2 =>
 mo (Zay N () (r1.2.2.1, r1.2.2.2) (r2.2.1, (r2.2.2.1.1, r2.2.2.1.2.1, r2.2.2.1.2.2), r2.2.2.2)) none fun r3 =>
 mo (Zay N () (r1.2.2.1, r1.2.2.2) (r3.2.1, (r3.2.2.1.1, r3.2.2.1.2.1, r3.2.2.1.2.2), r3.2.2.2)) none fun r4 =>
 mo (Zay N () (r1.2.2.1, r1.2.2.2) (r4.2.1, (r4.2.2.1.1, r4.2.2.1.2.1, r4.2.2.1.2.2), r4.2.2.2)) none fun r5 =>
 mo (ZaN N () (r1.2.2.1, r1.2.2.2) (r5.2.1, (r5.2.2.1.1, r5.2.2.1.2.1, r5.2.2.1.2.2), r5.2.2.2)) none fun r6 =>
 mo (ZaN N () (r1.2.2.1, r1.2.2.2) (r6.2.1, (r6.2.2.1.1, r6.2.2.1.2.1, r6.2.2.1.2.2), r6.2.2.2)) none fun r7 =>
 mo (ZaN N () (r1.2.2.1, r1.2.2.2) (r7.2.1, (r7.2.2.1.1, r7.2.2.1.2.1, r7.2.2.1.2.2), r7.2.2.2)) none fun r8 =>
 mo (loopF (ZaE N) N (((), (), (), (), x2, 0), ([], [], (), (r8.2.1, (r8.2.2.1.1, r8.2.2.1.2.1, r8.2.2.1.2.2), r8.2.2.2), (r1.2.2.1, r1.2.2.2), (r2.1, r3.1, r4.1, r5.1, r6.1, r7.1, r8.1, 0, 0, [0, 0, 0, 0], [0, 0, 0, 0])))) none fun r71 =>
 match r71 with
 | .inl u72 => (
 mo (ZaN N () (u72.2.2.2.2.2.1.1, u72.2.2.2.2.2.1.2) (u72.2.2.2.2.1.1, (u72.2.2.2.2.1.2.1.1, u72.2.2.2.2.1.2.1.2.1, u72.2.2.2.2.1.2.1.2.2), u72.2.2.2.2.1.2.2)) none fun r73 =>
 mo (ZaN N () (u72.2.2.2.2.2.1.1, u72.2.2.2.2.2.1.2) (r73.2.1, (r73.2.2.1.1, r73.2.2.1.2.1, r73.2.2.1.2.2), r73.2.2.2)) none fun r74 =>
 mo (ZdB () (u72.2.2.2.2.2.1.1, u72.2.2.2.2.2.1.2) (r74.2.1, (r74.2.2.1.1, r74.2.2.1.2.1, r74.2.2.1.2.2), r74.2.2.2)) none fun r75 =>
 cond (icmp .neq r75.1 0) (
 some ((([0, 0, 0, 0], [0, 0, 0, 0], [0, 0, 0, 0], [0, 0, 0, 0], [0, 0, 0, 0], [0, 0, 0, 0], [0, 0, 0, 0], 0, 0, [0, 0, 0, 0], [0, 0, 0, 0]), r75.1), ([], []))
 ) (
 some (((u72.2.2.2.2.2.2.1, u72.2.2.2.2.2.2.2.1, u72.2.2.2.2.2.2.2.2.1, u72.2.2.2.2.2.2.2.2.2.1, u72.2.2.2.2.2.2.2.2.2.2.1, u72.2.2.2.2.2.2.2.2.2.2.2.1, u72.2.2.2.2.2.2.2.2.2.2.2.2.1, u72.2.2.2.2.2.2.2.2.2.2.2.2.2.1, u72.2.2.2.2.2.2.2.2.2.2.2.2.2.2.1, r73.1, r74.1), 0), (u72.2.1, u72.2.2.1))
 )
 )
 | .inr _ => (
 none
 )
 )
 )
 )
def ZbU (N:Nat) (v:(Nat × Unit × Nat × Int) × (List (LI) × List (LI))) : Option (((Nat × Unit × Nat × Int) × (List (LI) × List (LI))) ⊕ ((Nat × List (LI)) ⊕ (Unit × Unit))) :=
 cond (icmp .lss v.1.2.2.2 ((v.1.1 : Nat) : Int)) (
 cond (decide ((0 : Int) ≤ v.1.2.2.2 ∧ v.1.2.2.2 < ((v.1.1 : Nat) : Int))) (
 let x1 := (v.2.2 ++ [(List.getD v.2.1 (Int.toNat v.1.2.2.2) [0, 0, 0, 0])])
 let x2 := (List.length x1)
 cond (decide (x2 * 32 ≤ 140737488355328 ∧ x2 ≤ 9223372036854775807)) (
 some (.inl ((v.1.1, (), x2, (ibin .add .i64 v.1.2.2.2 1)), (v.2.1, x1)))
 ) (
 none
 )
 ) (
 none
 )
 ) (
 some (.inr (.inl (v.1.2.2.1, v.2.2)))
 )
def ZdC (N:Nat) (a:(List (LI) × Unit)) : Option ((List (LI) × Unit)) :=
 mo (loopF (ZbU N) N (((List.length a.1), (), 0, 0), (a.1, []))) none fun r12 =>
 match r12 with
 | .inl u13 => (
 some (u13.2, ())
 )
 | .inr _ => (
 none
 )
def ZaJ (N:Nat) (a:((LI × LI × LI × LI) × LI × LI × LI × List (LI) × List (LI) × LI × LI)) (b:Unit) (m:Unit) : Option ((LI × LI × LI × LI × LI × LI × LI × Nat × Nat × LI × LI) × (List (LI) × List (LI))) :=
 mo (ZdC N (a.2.2.2.2.1, ())) none fun r1 =>
 mo (ZdC N (a.2.2.2.2.2.1, ())) none fun r2 =>
 some ((a.1.1, a.1.2.1, a.1.2.2.1, a.1.2.2.2, a.2.1, a.2.2.1, a.2.2.2.1, (List.length r1.1), (List.length r2.1), a.2.2.2.2.2.2.1, a.2.2.2.2.2.2.2), (r1.1, r2.1))
def ZaF (N:Nat) (v:(Unit × Unit × Unit × Unit × Unit × Nat × Int × Int) × (List (LI) × List (LI) × (LI × LI × LI × LI × LI × LI × LI × Nat × Nat × LI × LI) × Nat × (Nat × LI))) : Option (((Unit × Unit × Unit × Unit × Unit × Nat × Int × Int) × (List (LI) × List (LI) × (LI × LI × LI × LI × LI × LI × LI × Nat × Nat × LI × LI) × Nat × (Nat × LI))) ⊕ (((Unit × Unit × Unit) × (List (LI) × List (LI) × (LI × LI × LI × LI × LI × LI × LI × Nat × Nat × LI × LI) × Nat × (Nat × LI))) ⊕ (Unit × Unit))) :=
 cond (icmp .lss v.1.2.2.2.2.2.2.2 v.1.2.2.2.2.2.2.1) (
 cond (decide ((0 : Int) ≤ v.1.2.2.2.2.2.2.2 ∧ v.1.2.2.2.2.2.2.2 < ((v.1.2.2.2.2.2.1 : Nat) : Int))) (
 mo (Zam N (List.getD v.2.1 (Int.toNat v.1.2.2.2.2.2.2.2) [0, 0, 0, 0])) none fun r45 =>
 let x1 := (v.2.2.2.2.2.1 + 32)
 cond (decide (x1 * 1 ≤ 140737488355328 ∧ x1 ≤ 9223372036854775807)) (
 cond (decide ((0 : Int) ≤ v.1.2.2.2.2.2.2.2 ∧ v.1.2.2.2.2.2.2.2 < ((v.2.2.2.1.2.2.2.2.2.2.2.2.1 : Nat) : Int))) (
 mo (Zam N (List.getD v.2.2.1 (Int.toNat v.1.2.2.2.2.2.2.2) [0, 0, 0, 0])) none fun r46 =>
 let x2 := (x1 + 32)
 cond (decide (x2 * 1 ≤ 140737488355328 ∧ x2 ≤ 9223372036854775807)) (
 some (.inl (((), (), (), (), (), v.1.2.2.2.2.2.1, v.1.2.2.2.2.2.2.1, (ibin .add .i64 v.1.2.2.2.2.2.2.2 1)), (v.2.1, v.2.2.1, (v.2.2.2.1.1, v.2.2.2.1.2.1, v.2.2.2.1.2.2.1, v.2.2.2.1.2.2.2.1, v.2.2.2.1.2.2.2.2.1, v.2.2.2.1.2.2.2.2.2.1, v.2.2.2.1.2.2.2.2.2.2.1, v.2.2.2.1.2.2.2.2.2.2.2.1, v.2.2.2.1.2.2.2.2.2.2.2.2.1, v.2.2.2.1.2.2.2.2.2.2.2.2.2.1, v.2.2.2.1.2.2.2.2.2.2.2.2.2.2), x2, (x2, ((v.2.2.2.2.2.2 ++ (List.take 32 (List.drop 0 r45))) ++ (List.take 32 (List.drop 0 r46)))))))
 ) (
 none
 )
 ) (
 none
 )
 ) (
 none
 )
 ) (
 none
 )
 ) (
 some (.inr (.inl (((), (), ()), (v.2.1, v.2.2.1, (v.2.2.2.1.1, v.2.2.2.1.2.1, v.2.2.2.1.2.2.1, v.2.2.2.1.2.2.2.1, v.2.2.2.1.2.2.2.2.1, v.2.2.2.1.2.2.2.2.2.1, v.2.2.2.1.2.2.2.2.2.2.1, v.2.2.2.1.2.2.2.2.2.2.2.1, v.2.2.2.1.2.2.2.2.2.2.2.2.1, v.2.2.2.1.2.2.2.2.2.2.2.2.2.1, v.2.2.2.1.2.2.2.2.2.2.2.2.2.2), v.2.2.2.2.1, (v.2.2.2.2.2.1, v.2.2.2.2.2.2)))))
 )
def Zah (N:Nat) (a:(LI × LI × LI × LI × LI × LI × LI × Nat × Nat × LI × LI)) (b:(List (LI) × List (LI))) (m:Unit) : Option ((Nat × Int) × (Nat × LI)) :=
 let x1 := ((a.2.2.2.2.2.2.2.1 : Nat) : Int)
 cond (icmp .neq x1 ((a.2.2.2.2.2.2.2.2.1 : Nat) : Int)) (
 some ((0, 2), (0, []))
 ) (
 cond (icmp .gtr x1 10) (
 some ((0, 2), (0, []))
 ) (
 mo (Zam N a.1) none fun r1 =>
 cond (decide ((0 + 32) * 1 ≤ 140737488355328 ∧ (0 + 32) ≤ 9223372036854775807)) (
 mo (Zam N a.2.1) none fun r2 =>
 let x2 := ((0 + 32) + 32)
 cond (decide (x2 * 1 ≤ 140737488355328 ∧ x2 ≤ 9223372036854775807)) (
 mo (Zam N a.2.2.1) none fun r3 =>
 let x3 := (x2 + 32)
 cond (decide (x3 * 1 ≤ 140737488355328 ∧ x3 ≤ 9223372036854775807)) (
 mo (Zam N a.2.2.2.1) none fun r4 =>
 let x4 := (x3 + 32)
 cond (decide (x4 * 1 ≤ 140737488355328 ∧ x4 ≤ 9223372036854775807)) (
 mo (Zam N a.2.2.2.2.1) none fun r5 =>
 let x5 := (x4 + 32)
 cond (decide (x5 * 1 ≤ 140737488355328 ∧ x5 ≤ 9223372036854775807)) (
 mo (Zam N a.2.2.2.2.2.1) none fun r6 =>
 let x6 := (x5 + 32)
 cond (decide (x6 * 1 ≤ 140737488355328 ∧ x6 ≤ 9223372036854775807)) (
 mo (Zam N a.2.2.2.2.2.2.1) none fun r7 =>
 let x7 := (x6 + 32)
 cond (decide (x7 * 1 ≤ 140737488355328 ∧ x7 ≤ 9223372036854775807)) (
 mo (loopF (ZaF N) N (((), (), (), (), (), a.2.2.2.2.2.2.2.1, x1, 0), (b.1, b.2, (a.1, a.2.1, a.2.2.1, a.2.2.2.1, a.2.2.2.2.1, a.2.2.2.2.2.1, a.2.2.2.2.2.2.1, a.2.2.2.2.2.2.2.1, a.2.2.2.2.2.2.2.2.1, a.2.2.2.2.2.2.2.2.2.1, a.2.2.2.2.2.2.2.2.2.2), x7, (x7, (((((((List.take 32 (List.drop 0 r1)) ++ (List.take 32 (List.drop 0 r2))) ++ (List.take 32 (List.drop 0 r3))) ++ (List.take 32 (List.drop 0 r4))) ++ (List.take 32 (List.drop 0 r5))) ++ (List.take 32 (List.drop 0 r6))) ++ (List.take 32 (List.drop 0 r7))))))) none fun r47 =>
 match r47 with
 | .inl u48 => (
 mo (Zam N u48.2.2.2.1.2.2.2.2.2.2.2.2.2.1) none fun r49 =>
 let x8 := (u48.2.2.2.2.2.1 + 32)
 cond (decide (x8 * 1 ≤ 140737488355328 ∧ x8 ≤ 9223372036854775807)) (
 mo (Zam N u48.2.2.2.1.2.2.2.2.2.2.2.2.2.2) none fun r50 =>
 let x9 := (x8 + 32)
 cond (decide (x9 * 1 ≤ 140737488355328 ∧ x9 ≤ 9223372036854775807)) (
 some ((x9, 0), (x9, ((u48.2.2.2.2.2.2 ++ (List.take 32 (List.drop 0 r49))) ++ (List.take 32 (List.drop 0 r50)))))
 ) (
 none
 )
 ) (
 none
 )
 )
 | .inr _ => (
 none
 )
 ) (
 none
 )
 ) (
 none
 )
 ) (
 none
 )
 ) (
 none
 )
 ) (
 none
 )
 ) (
 none
 )
 ) (
 none
 )
 )
 )
def Za2 (N:Nat) (v:(Unit × Unit × Nat × Int) × ((Nat × LI) × (((Int × (LI × LI) × LI × List (LI)) × (Int × (LI × LI) × LI × List (LI)) × (Int × (LI × LI) × LI × List (LI)) × (Int × (LI × LI) × LI × List (LI))) × (LI × LI × LI) × List ((Int × (LI × LI) × LI × List (LI))) × (LI × LI)))) : Option (((Unit × Unit × Nat × Int) × ((Nat × LI) × (((Int × (LI × LI) × LI × List (LI)) × (Int × (LI × LI) × LI × List (LI)) × (Int × (LI × LI) × LI × List (LI)) × (Int × (LI × LI) × LI × List (LI))) × (LI × LI × LI) × List ((Int × (LI × LI) × LI × List (LI))) × (LI × LI)))) ⊕ (((Unit × Nat) × ((Nat × LI) × (((Int × (LI × LI) × LI × List (LI)) × (Int × (LI × LI) × LI × List (LI)) × (Int × (LI × LI) × LI × List (LI)) × (Int × (LI × LI) × LI × List (LI))) × (LI × LI × LI) × List ((Int × (LI × LI) × LI × List (LI))) × (LI × LI)))) ⊕ (Unit × Unit))) :=
 let x1 := (List.length v.2.2.2.2.1)
 cond (icmp .lss v.1.2.2.2 ((x1:Nat) : Int)) (
 cond (decide ((0 : Int) ≤ v.1.2.2.2 ∧ v.1.2.2.2 < ((x1:Nat) : Int))) (
 let x2 := (List.getD v.2.2.2.2.1 (Int.toNat v.1.2.2.2) (0, ([0, 0, 0, 0, 0, 0, 0, 0, 0, 0], [0, 0, 0, 0, 0, 0, 0, 0, 0, 0]), [0, 0, 0, 0], []))
 cond (icmp .eql x2.1 1) (
 none
 ) (
 cond (icmp .eql x2.1 2) (
 mo (Zai N x2.2.2.1) none fun r67 =>
 let x3 := (v.2.1.1 + 32)
 cond (decide (x3 * 1 ≤ 140737488355328 ∧ x3 ≤ 9223372036854775807)) (
 some (.inl (((), (), x3, (ibin .add .i64 v.1.2.2.2 1)), ((x3, (v.2.1.2 ++ (List.take 32 (List.drop 0 r67)))), (((v.2.2.1.1.1, (v.2.2.1.1.2.1.1, v.2.2.1.1.2.1.2), v.2.2.1.1.2.2.1, v.2.2.1.1.2.2.2), (v.2.2.1.2.1.1, (v.2.2.1.2.1.2.1.1, v.2.2.1.2.1.2.1.2), v.2.2.1.2.1.2.2.1, v.2.2.1.2.1.2.2.2), (v.2.2.1.2.2.1.1, (v.2.2.1.2.2.1.2.1.1, v.2.2.1.2.2.1.2.1.2), v.2.2.1.2.2.1.2.2.1, v.2.2.1.2.2.1.2.2.2), (v.2.2.1.2.2.2.1, (v.2.2.1.2.2.2.2.1.1, v.2.2.1.2.2.2.2.1.2), v.2.2.1.2.2.2.2.2.1, v.2.2.1.2.2.2.2.2.2)), (v.2.2.2.1.1, v.2.2.2.1.2.1, v.2.2.2.1.2.2), v.2.2.2.2.1, (v.2.2.2.2.2.1, v.2.2.2.2.2.2)))))
 ) (
 none
 )
 ) (
 none
 )
 )
 ) (
 none
 )
 ) (
 some (.inr (.inl (((), v.1.2.2.1), ((v.2.1.1, v.2.1.2), (((v.2.2.1.1.1, (v.2.2.1.1.2.1.1, v.2.2.1.1.2.1.2), v.2.2.1.1.2.2.1, v.2.2.1.1.2.2.2), (v.2.2.1.2.1.1, (v.2.2.1.2.1.2.1.1, v.2.2.1.2.1.2.1.2), v.2.2.1.2.1.2.2.1, v.2.2.1.2.1.2.2.2), (v.2.2.1.2.2.1.1, (v.2.2.1.2.2.1.2.1.1, v.2.2.1.2.2.1.2.1.2), v.2.2.1.2.2.1.2.2.1, v.2.2.1.2.2.1.2.2.2), (v.2.2.1.2.2.2.1, (v.2.2.1.2.2.2.2.1.1, v.2.2.1.2.2.2.2.1.2), v.2.2.1.2.2.2.2.2.1, v.2.2.1.2.2.2.2.2.2)), (v.2.2.2.1.1, v.2.2.2.1.2.1, v.2.2.2.1.2.2), v.2.2.2.2.1, (v.2.2.2.2.2.1, v.2.2.2.2.2.2))))))
 )
def ZbI (N:Nat) (a:(((Int × (LI × LI) × LI × List (LI)) × (Int × (LI × LI) × LI × List (LI)) × (Int × (LI × LI) × LI × List (LI)) × (Int × (LI × LI) × LI × List (LI))) × (LI × LI × LI) × List ((Int × (LI × LI) × LI × List (LI))) × (LI × LI))) (b:Unit) (m:Unit) : Option (Nat × (Nat × LI)) :=
 cond (icmp .eql a.1.1.1 1) (
 none
 ) (
 cond (icmp .eql a.1.1.1 2) (
 mo (Zai N a.1.1.2.2.1) none fun r1 =>
 cond (decide ((0 + 32) * 1 ≤ 140737488355328 ∧ (0 + 32) ≤ 9223372036854775807)) (
 cond (icmp .eql a.1.2.1.1 1) (
 none
 ) (
 cond (icmp .eql a.1.2.1.1 2) (
 mo (Zai N a.1.2.1.2.2.1) none fun r2 =>
 let x1 := ((0 + 32) + 32)
 cond (decide (x1 * 1 ≤ 140737488355328 ∧ x1 ≤ 9223372036854775807)) (
 cond (icmp .eql a.1.2.2.1.1 1) (
 none
 ) (
 cond (icmp .eql a.1.2.2.1.1 2) (
 mo (Zai N a.1.2.2.1.2.2.1) none fun r3 =>
 let x2 := (x1 + 32)
 cond (decide (x2 * 1 ≤ 140737488355328 ∧ x2 ≤ 9223372036854775807)) (
 cond (icmp .eql a.1.2.2.2.1 1) (
 none
 ) (
 cond (icmp .eql a.1.2.2.2.1 2) (
 mo (Zai N a.1.2.2.2.2.2.1) none fun r4 =>
 let x3 := (x2 + 32)
 cond (decide (x3 * 1 ≤ 140737488355328 ∧ x3 ≤ 9223372036854775807)) (
 mo (Zai N a.2.1.1) none fun r5 =>
 let x4 := (x3 + 32)
 cond (decide (x4 * 1 ≤ 140737488355328 ∧ x4 ≤ 9223372036854775807)) (
 mo (Zai N a.2.1.2.1) none fun r6 =>
 let x5 := (x4 + 32)
 cond (decide (x5 * 1 ≤ 140737488355328 ∧ x5 ≤ 9223372036854775807)) (
 mo (Zai N a.2.1.2.2) none fun r7 =>
 let x6 := (x5 + 32)
 cond (decide (x6 * 1 ≤ 140737488355328 ∧ x6 ≤ 9223372036854775807)) (
 mo (loopF (Za2 N) N (((), (), x6, 0), ((x6, (((((((List.take 32 (List.drop 0 r1)) ++ (List.take 32 (List.drop 0 r2))) ++ (List.take 32 (List.drop 0 r3))) ++ (List.take 32 (List.drop 0 r4))) ++ (List.take 32 (List.drop 0 r5))) ++ (List.take 32 (List.drop 0 r6))) ++ (List.take 32 (List.drop 0 r7)))), (((a.1.1.1, (a.1.1.2.1.1, a.1.1.2.1.2), a.1.1.2.2.1, a.1.1.2.2.2), (a.1.2.1.1, (a.1.2.1.2.1.1, a.1.2.1.2.1.2), a.1.2.1.2.2.1, a.1.2.1.2.2.2), (a.1.2.2.1.1, (a.1.2.2.1.2.1.1, a.1.2.2.1.2.1.2), a.1.2.2.1.2.2.1, a.1.2.2.1.2.2.2), (a.1.2.2.2.1, (a.1.2.2.2.2.1.1, a.1.2.2.2.2.1.2), a.1.2.2.2.2.2.1, a.1.2.2.2.2.2.2)), (a.2.1.1, a.2.1.2.1, a.2.1.2.2), a.2.2.1, (a.2.2.2.1, a.2.2.2.2))))) none fun r68 =>
 match r68 with
 | .inl u69 => (
 mo (Zai N u69.2.2.2.2.2.1) none fun r70 =>
 let x7 := (u69.2.1.1 + 32)
 cond (decide (x7 * 1 ≤ 140737488355328 ∧ x7 ≤ 9223372036854775807)) (
 mo (Zai N u69.2.2.2.2.2.2) none fun r71 =>
 let x8 := (x7 + 32)
 cond (decide (x8 * 1 ≤ 140737488355328 ∧ x8 ≤ 9223372036854775807)) (
 some (x8, (x8, ((u69.2.1.2 ++ (List.take 32 (List.drop 0 r70))) ++ (List.take 32 (List.drop 0 r71)))))
 ) (
 none
 )
 ) (
 none
 )
 )
 | .inr _ => (
 none
 )
 ) (
 none
 )
 ) (
 none
 )
 ) (
 none
 )
 ) (
 none
 )
 ) (
 none
 )
 )
 ) (
 none
 )
 ) (
 none
 )
 )
 ) (
 none
 )
 ) (
 none
 )
 )
 ) (
 none
 )
 ) (
 none
 )
 )
def ZaQ (N:Nat) (v:(Unit × Unit × Unit × Int) × (Unit × ((LI × LI × LI × LI) × LI × LI × LI × List (LI) × List (LI) × LI × LI) × (((Int × (LI × LI) × LI × Unit) × (Int × (LI × LI) × LI × Unit) × (Int × (LI × LI) × LI × Unit) × (Int × (LI × LI) × LI × Unit)) × (LI × LI × LI) × List ((Int × (LI × LI) × LI × List (LI))) × (LI × LI)))) : Option (((Unit × Unit × Unit × Int) × (Unit × ((LI × LI × LI × LI) × LI × LI × LI × List (LI) × List (LI) × LI × LI) × (((Int × (LI × LI) × LI × Unit) × (Int × (LI × LI) × LI × Unit) × (Int × (LI × LI) × LI × Unit) × (Int × (LI × LI) × LI × Unit)) × (LI × LI × LI) × List ((Int × (LI × LI) × LI × List (LI))) × (LI × LI)))) ⊕ (((Unit × Unit) × (Unit × ((LI × LI × LI × LI) × LI × LI × LI × List (LI) × List (LI) × LI × LI) × (((Int × (LI × LI) × LI × Unit) × (Int × (LI × LI) × LI × Unit) × (Int × (LI × LI) × LI × Unit) × (Int × (LI × LI) × LI × Unit)) × (LI × LI × LI) × List ((Int × (LI × LI) × LI × List (LI))) × (LI × LI)))) ⊕ (Unit × Unit))) :=
 let x1 := (List.length v.2.2.1.2.2.2.2.1)
 cond (icmp .lss v.1.2.2.2 ((x1:Nat) : Int)) (
 let x2 := (List.length v.2.2.1.2.2.2.2.2.1)
 cond (icmp .lss v.1.2.2.2 ((x2:Nat) : Int)) (
 cond (decide ((0 : Int) ≤ v.1.2.2.2 ∧ v.1.2.2.2 < ((x1:Nat) : Int))) (
 mo (ZaI N (List.getD v.2.2.1.2.2.2.2.1 (Int.toNat v.1.2.2.2) [0, 0, 0, 0])) none fun r107 =>
 cond (decide ((0 : Int) ≤ v.1.2.2.2 ∧ v.1.2.2.2 < ((x2:Nat) : Int))) (
 mo (ZaI N (List.getD v.2.2.1.2.2.2.2.2.1 (Int.toNat v.1.2.2.2) [0, 0, 0, 0])) none fun r108 =>
 let x3 := (v.2.2.2.2.2.1 ++ [((Zag r107).1, ((Zag r107).2.1.1, (Zag r107).2.1.2), (Zag r107).2.2.1, []), ((Zag r108).1, ((Zag r108).2.1.1, (Zag r108).2.1.2), (Zag r108).2.2.1, [])])
 cond (decide ((List.length x3) * 224 ≤ 140737488355328 ∧ (List.length x3) ≤ 9223372036854775807)) (
 some (.inl (((), (), (), (ibin .add .i64 v.1.2.2.2 1)), ((), ((v.2.2.1.1.1, v.2.2.1.1.2.1, v.2.2.1.1.2.2.1, v.2.2.1.1.2.2.2), v.2.2.1.2.1, v.2.2.1.2.2.1, v.2.2.1.2.2.2.1, v.2.2.1.2.2.2.2.1, v.2.2.1.2.2.2.2.2.1, v.2.2.1.2.2.2.2.2.2.1, v.2.2.1.2.2.2.2.2.2.2), (((v.2.2.2.1.1.1, (v.2.2.2.1.1.2.1.1, v.2.2.2.1.1.2.1.2), v.2.2.2.1.1.2.2.1, ()), (v.2.2.2.1.2.1.1, (v.2.2.2.1.2.1.2.1.1, v.2.2.2.1.2.1.2.1.2), v.2.2.2.1.2.1.2.2.1, ()), (v.2.2.2.1.2.2.1.1, (v.2.2.2.1.2.2.1.2.1.1, v.2.2.2.1.2.2.1.2.1.2), v.2.2.2.1.2.2.1.2.2.1, ()), (v.2.2.2.1.2.2.2.1, (v.2.2.2.1.2.2.2.2.1.1, v.2.2.2.1.2.2.2.2.1.2), v.2.2.2.1.2.2.2.2.2.1, ())), (v.2.2.2.2.1.1, v.2.2.2.2.1.2.1, v.2.2.2.2.1.2.2), x3, (v.2.2.2.2.2.2.1, v.2.2.2.2.2.2.2)))))
 ) (
 none
 )
 ) (
 none
 )
 ) (
 none
 )
 ) (
 some (.inr (.inl (((), ()), ((), ((v.2.2.1.1.1, v.2.2.1.1.2.1, v.2.2.1.1.2.2.1, v.2.2.1.1.2.2.2), v.2.2.1.2.1, v.2.2.1.2.2.1, v.2.2.1.2.2.2.1, v.2.2.1.2.2.2.2.1, v.2.2.1.2.2.2.2.2.1, v.2.2.1.2.2.2.2.2.2.1, v.2.2.1.2.2.2.2.2.2.2), (((v.2.2.2.1.1.1, (v.2.2.2.1.1.2.1.1, v.2.2.2.1.1.2.1.2), v.2.2.2.1.1.2.2.1, ()), (v.2.2.2.1.2.1.1, (v.2.2.2.1.2.1.2.1.1, v.2.2.2.1.2.1.2.1.2), v.2.2.2.1.2.1.2.2.1, ()), (v.2.2.2.1.2.2.1.1, (v.2.2.2.1.2.2.1.2.1.1, v.2.2.2.1.2.2.1.2.1.2), v.2.2.2.1.2.2.1.2.2.1, ()), (v.2.2.2.1.2.2.2.1, (v.2.2.2.1.2.2.2.2.1.1, v.2.2.2.1.2.2.2.2.1.2), v.2.2.2.1.2.2.2.2.2.1, ())), (v.2.2.2.2.1.1, v.2.2.2.2.1.2.1, v.2.2.2.2.1.2.2), v.2.2.2.2.2.1, (v.2.2.2.2.2.2.1, v.2.2.2.2.2.2.2))))))
 )
 ) (
 some (.inr (.inl (((), ()), ((), ((v.2.2.1.1.1, v.2.2.1.1.2.1, v.2.2.1.1.2.2.1, v.2.2.1.1.2.2.2), v.2.2.1.2.1, v.2.2.1.2.2.1, v.2.2.1.2.2.2.1, v.2.2.1.2.2.2.2.1, v.2.2.1.2.2.2.2.2.1, v.2.2.1.2.2.2.2.2.2.1, v.2.2.1.2.2.2.2.2.2.2), (((v.2.2.2.1.1.1, (v.2.2.2.1.1.2.1.1, v.2.2.2.1.1.2.1.2), v.2.2.2.1.1.2.2.1, ()), (v.2.2.2.1.2.1.1, (v.2.2.2.1.2.1.2.1.1, v.2.2.2.1.2.1.2.1.2), v.2.2.2.1.2.1.2.2.1, ()), (v.2.2.2.1.2.2.1.1, (v.2.2.2.1.2.2.1.2.1.1, v.2.2.2.1.2.2.1.2.1.2), v.2.2.2.1.2.2.1.2.2.1, ()), (v.2.2.2.1.2.2.2.1, (v.2.2.2.1.2.2.2.2.1.1, v.2.2.2.1.2.2.2.2.1.2), v.2.2.2.1.2.2.2.2.2.1, ())), (v.2.2.2.2.1.1, v.2.2.2.2.1.2.1, v.2.2.2.2.1.2.2), v.2.2.2.2.2.1, (v.2.2.2.2.2.2.1, v.2.2.2.2.2.2.2))))))
 )
def ZaR (N:Nat) (a:((LI × LI × LI × LI) × LI × LI × LI × List (LI) × List (LI) × LI × LI)) (b:Unit) (m:Unit) : Option (Nat × (Nat × LI)) :=
 mo (ZaI N a.1.1) none fun r1 =>
 mo (ZaI N a.1.2.1) none fun r2 =>
 mo (ZaI N a.1.2.2.1) none fun r3 =>
 mo (ZaI N a.1.2.2.2) none fun r4 =>
 mo (ZaI N a.2.1) none fun r5 =>
 mo (ZaI N a.2.2.1) none fun r6 =>
 mo (ZaI N a.2.2.2.1) none fun r7 =>
 mo (loopF (ZaQ N) N (((), (), (), 0), ((), ((a.1.1, a.1.2.1, a.1.2.2.1, a.1.2.2.2), a.2.1, a.2.2.1, a.2.2.2.1, a.2.2.2.2.1, a.2.2.2.2.2.1, a.2.2.2.2.2.2.1, a.2.2.2.2.2.2.2), ((((Zag r1).1, ((Zag r1).2.1.1, (Zag r1).2.1.2), (Zag r1).2.2.1, ()), ((Zag r2).1, ((Zag r2).2.1.1, (Zag r2).2.1.2), (Zag r2).2.2.1, ()), ((Zag r3).1, ((Zag r3).2.1.1, (Zag r3).2.1.2), (Zag r3).2.2.1, ()), ((Zag r4).1, ((Zag r4).2.1.1, (Zag r4).2.1.2), (Zag r4).2.2.1, ())), (r5, r6, r7), [], ([0, 0, 0, 0], [0, 0, 0, 0]))))) none fun r109 =>
 match r109 with
 | .inl u110 => (
 mo (ZaI N u110.2.2.1.2.2.2.2.2.2.1) none fun r111 =>
 mo (ZaI N u110.2.2.1.2.2.2.2.2.2.2) none fun r112 =>
 mo (ZbI N (((u110.2.2.2.1.1.1, (u110.2.2.2.1.1.2.1.1, u110.2.2.2.1.1.2.1.2), u110.2.2.2.1.1.2.2.1, []), (u110.2.2.2.1.2.1.1, (u110.2.2.2.1.2.1.2.1.1, u110.2.2.2.1.2.1.2.1.2), u110.2.2.2.1.2.1.2.2.1, []), (u110.2.2.2.1.2.2.1.1, (u110.2.2.2.1.2.2.1.2.1.1, u110.2.2.2.1.2.2.1.2.1.2), u110.2.2.2.1.2.2.1.2.2.1, []), (u110.2.2.2.1.2.2.2.1, (u110.2.2.2.1.2.2.2.2.1.1, u110.2.2.2.1.2.2.2.2.1.2), u110.2.2.2.1.2.2.2.2.2.1, [])), (u110.2.2.2.2.1.1, u110.2.2.2.2.1.2.1, u110.2.2.2.2.1.2.2), u110.2.2.2.2.2.1, (r111, r112)) () ()) none fun r113 =>
 some (r113.1, (r113.2.1, r113.2.2))
 )
 | .inr _ => (
 none
 )
def ZfB (N:Nat) (v:(ByteArray × Nat × Nat × Int × Int) × ((Nat × LI) × (Nat × LI))) : Option (((ByteArray × Nat × Nat × Int × Int) × ((Nat × LI) × (Nat × LI))) ⊕ ((Nat × (Nat × LI)) ⊕ (Unit × Unit))) :=
 cond (icmp .lss v.1.2.2.2.2 v.1.2.2.2.1) (
 cond (decide ((0 : Int) ≤ v.1.2.2.2.2 ∧ v.1.2.2.2.2 < ((v.1.2.2.1 : Nat) : Int))) (
 let x1 := (List.getD v.2.1.2 (Int.toNat v.1.2.2.2.2) 0)
 let x2 := (ibin .shr .u8 x1 4)
 cond (decide ((0 : Int) ≤ x2 ∧ x2 < ((16 : Nat) : Int))) (
 let x3 := (ibin .and .u8 x1 15)
 cond (decide ((0 : Int) ≤ x3 ∧ x3 < ((16 : Nat) : Int))) (
 let x4 := (v.2.2.1 + 2)
 cond (decide (x4 * 1 ≤ 140737488355328 ∧ x4 ≤ 9223372036854775807)) (
 let x5 := (ByteArray.mk (List.toArray [48, 49, 50, 51, 52, 53, 54, 55, 56, 57, 97, 98, 99, 100, 101, 102]))
 some (.inl ((v.1.1, x4, v.1.2.2.1, v.1.2.2.2.1, (ibin .add .i64 v.1.2.2.2.2 1)), ((v.2.1.1, v.2.1.2), (x4, (v.2.2.2 ++ [(strAt x5 x2), (strAt x5 x3)])))))
 ) (
 none
 )
 ) (
 none
 )
 ) (
 none
 )
 ) (
 none
 )
 ) (
 some (.inr (.inl (v.1.2.1, (v.2.2.1, v.2.2.2))))
 )
def Zkr (N:Nat) (a:((Nat × LI) × Unit)) : Option (ByteArray) :=
 let x1 := ((a.1.1 : Nat) : Int)
 cond ((decide ((0 : Int) ≤ 0 ∧ (0 : Int) ≤ (ibin .mul .i64 2 x1)) && decide (Int.toNat (ibin .mul .i64 2 x1) * 1 ≤ 140737488355328 ∧ Int.toNat (ibin .mul .i64 2 x1) ≤ 9223372036854775807)) && true) (
 mo (loopF (ZfB N) N (((ByteArray.mk (List.toArray [])), 0, a.1.1, x1, 0), ((a.1.1, a.1.2), (0, [])))) none fun r18 =>
 match r18 with
 | .inl u19 => (
 some (bStr u19.2.2)
 )
 | .inr _ => (
 none
 )
 ) (
 none
 )
def Zcv (N:Nat) (v:(Nat × ByteArray × ByteArray × Int) × (Nat × LI)) : Option (((Nat × ByteArray × ByteArray × Int) × (Nat × LI)) ⊕ ((ByteArray × Unit) ⊕ (Unit × Unit))) :=
 cond (icmp .lss v.1.2.2.2 ((v.1.1 : Nat) : Int)) (
 let x1 := (decide ((0 : Int) ≤ v.1.2.2.2 ∧ v.1.2.2.2 < ((v.1.1 : Nat) : Int)))
 cond x1 (
 cond x1 (
 let x2 := (List.getD v.2.2 (Int.toNat v.1.2.2.2) 0)
 let x3 := (ibin .quo .u8 x2 16)
 let x4 := (ibin .add .u8 x3 1)
 cond (decide ((0 : Int) ≤ x4 ∧ x4 ≤ ((16 : Nat) : Int))) (
 let x5 := (Int.toNat x4)
 cond (decide ((0 : Int) ≤ x3 ∧ x3 ≤ ((x5:Nat) : Int))) (
 let x6 := (ByteArray.mk (List.toArray [48, 49, 50, 51, 52, 53, 54, 55, 56, 57, 97, 98, 99, 100, 101, 102]))
 let x7 := (ByteArray.extract x6 (Int.toNat x3) x5)
 cond (inR .i64 ((ByteArray.size v.1.2.2.1 + ByteArray.size x7 : Nat) : Int)) (
 cond x1 (
 cond x1 (
 let x8 := (ibin .rem .u8 x2 16)
 let x9 := (ibin .add .u8 x8 1)
 cond (decide ((0 : Int) ≤ x9 ∧ x9 ≤ ((16 : Nat) : Int))) (
 let x10 := (Int.toNat x9)
 cond (decide ((0 : Int) ≤ x8 ∧ x8 ≤ ((x10:Nat) : Int))) (
 let x11 := (v.1.2.2.1 ++ x7)
 let x12 := (ByteArray.extract x6 (Int.toNat x8) x10)
 cond (inR .i64 ((ByteArray.size x11 + ByteArray.size x12 : Nat) : Int)) (
 some (.inl ((v.1.1, v.1.2.1, (x11 ++ x12), (ibin .add .i64 v.1.2.2.2 1)), (v.2.1, v.2.2)))
 ) (
 none
 )
 ) (
 none
 )
 ) (
 none
 )
 ) (
 none
 )
 ) (
 none
 )
 ) (
 none
 )
 ) (
 none
 )
 ) (
 none
 )
 ) (
 none
 )
 ) (
 none
 )
 ) (
 some (.inr (.inl (v.1.2.2.1, ())))
 )
def ZeH (N:Nat) (a:((Nat × LI) × Unit)) : Option (ByteArray) :=
 mo (loopF (Zcv N) N ((a.1.1, (ByteArray.mk (List.toArray [])), (ByteArray.mk (List.toArray [])), 0), (a.1.1, a.1.2))) none fun r12 =>
 match r12 with
 | .inl u13 => (
 some u13.1
 )
 | .inr _ => (
 none
 )
def Za3 (N:Nat) (v:(Int × Unit × Nat) × (Nat × LI)) : Option (((Int × Unit × Nat) × (Nat × LI)) ⊕ (((Int × Nat) × (Nat × LI)) ⊕ (Unit × Unit))) :=
 cond (icmp .gtr v.1.1 127) (
 let x1 := (v.2.1 + 1)
 cond (decide (x1 * 1 ≤ 140737488355328 ∧ x1 ≤ 9223372036854775807)) (
 some (.inl (((ibin .shr .u64 v.1.1 7), (), x1), (x1, (v.2.2 ++ [(ibin .or .u8 (IntKind.wrap .u8 v.1.1) 128)]))))
 ) (
 none
 )
 ) (
 some (.inr (.inl ((v.1.1, v.1.2.2), (v.2.1, v.2.2))))
 )
def Zcl (N:Nat) (a:Unit) (b:Int) : Option (((Nat × LI) × Unit)) :=
 mo (loopF (Za3 N) N ((b, (), 0), (0, []))) none fun r10 =>
 match r10 with
 | .inl u11 => (
 let x1 := (u11.2.1 + 1)
 cond (decide (x1 * 1 ≤ 140737488355328 ∧ x1 ≤ 9223372036854775807)) (
 some ((x1, (u11.2.2 ++ [(IntKind.wrap .u8 u11.1.1)])), ())
 ) (
 none
 )
 )
 | .inr _ => (
 none
 )
def ZbZ (N:Nat) (a:Unit) (b:((Nat × LI) × Unit)) : Option (((Nat × LI) × Unit)) :=
 mo (Zcl N () (IntKind.wrap .u64 ((b.1.1 : Nat) : Int))) none fun r1 =>
 let x1 := (r1.1.1 + b.1.1)
 cond (decide (x1 * 1 ≤ 140737488355328 ∧ x1 ≤ 9223372036854775807)) (
 some ((x1, (r1.1.2 ++ b.1.2)), ())
 ) (
 none
 )
def ZbA (N:Nat) (v:(Int × Unit × Nat) × (Nat × LI)) : Option (((Int × Unit × Nat) × (Nat × LI)) ⊕ (((Int × Nat) × (Nat × LI)) ⊕ (Unit × Unit))) :=
 cond (icmp .geq v.1.1 128) (
 let x1 := (v.2.1 + 1)
 cond (decide (x1 * 1 ≤ 140737488355328 ∧ x1 ≤ 9223372036854775807)) (
 some (.inl (((ibin .quo .u64 v.1.1 128), (), x1), (x1, (v.2.2 ++ [(ibin .add .u8 (IntKind.wrap .u8 (ibin .rem .u64 v.1.1 128)) 128)]))))
 ) (
 none
 )
 ) (
 some (.inr (.inl ((v.1.1, v.1.2.2), (v.2.1, v.2.2))))
 )
def Zdd (N:Nat) (a:Int) : Option (((Nat × LI) × Unit)) :=
 mo (loopF (ZbA N) N ((a, (), 0), (0, []))) none fun r10 =>
 match r10 with
 | .inl u11 => (
 let x1 := (u11.2.1 + 1)
 cond (decide (x1 * 1 ≤ 140737488355328 ∧ x1 ≤ 9223372036854775807)) (
 some ((x1, (u11.2.2 ++ [(IntKind.wrap .u8 u11.1.1)])), ())
 ) (
 none
 )
 )
 | .inr _ => (
 none
 )
def Zbh (N:Nat) (v:(List (Int) × Unit × Int × Int × Nat × Nat × Nat × Nat × Int) × ((Nat × LI) × (Nat × LI) × (Nat × LI) × (Nat × LI))) : Option (((List (Int) × Unit × Int × Int × Nat × Nat × Nat × Nat × Int) × ((Nat × LI) × (Nat × LI) × (Nat × LI) × (Nat × LI))) ⊕ (((List (Int) × Int × Int × Nat × Nat × Nat × Nat) × ((Nat × LI) × (Nat × LI) × (Nat × LI) × (Nat × LI))) ⊕ (Unit × Unit))) :=
 cond (icmp .lss v.1.2.2.2.2.2.2.2.2 ((v.1.2.2.2.2.2.2.1 : Nat) : Int)) (
 let x1 := (decide ((0 : Int) ≤ v.1.2.2.2.2.2.2.2.2 ∧ v.1.2.2.2.2.2.2.2.2 < ((v.1.2.2.2.2.2.2.1 : Nat) : Int)))
 cond x1 (
 cond x1 (
 some (.inl ((v.1.1, (), v.1.2.2.1, v.1.2.2.2.1, v.1.2.2.2.2.1, v.1.2.2.2.2.2.1, v.1.2.2.2.2.2.2.1, v.1.2.2.2.2.2.2.2.1, (ibin .add .i64 v.1.2.2.2.2.2.2.2.2 1)), ((v.2.1.1, v.2.1.2), (v.2.2.1.1, v.2.2.1.2), (v.2.2.2.1.1, (List.set v.2.2.2.1.2 (Int.toNat v.1.2.2.2.2.2.2.2.2) (ibin .add .u8 (List.getD v.2.2.2.1.2 (Int.toNat v.1.2.2.2.2.2.2.2.2) 0) 1))), (v.2.2.2.2.1, v.2.2.2.2.2))))
 ) (
 none
 )
 ) (
 none
 )
 ) (
 some (.inr (.inl ((v.1.1, v.1.2.2.1, v.1.2.2.2.1, v.1.2.2.2.2.1, v.1.2.2.2.2.2.1, v.1.2.2.2.2.2.2.1, v.1.2.2.2.2.2.2.2.1), ((v.2.1.1, v.2.1.2), (v.2.2.1.1, v.2.2.1.2), (v.2.2.2.1.1, v.2.2.2.1.2), (v.2.2.2.2.1, v.2.2.2.2.2)))))
 )
def Zd8 (N:Nat) (a:(((LI × LI × LI × LI) × LI × LI × LI × List (LI) × List (LI) × LI × LI) × ((LI × LI × LI × LI) × LI × LI × LI × List (LI) × List (LI) × LI × LI) × List (Int))) (b:Unit) (m:Unit) : Option (Bool × Unit) :=
 let x1 := (((List.length a.1.2.2.2.2.1) : Nat) : Int)
 cond (icmp .neq x1 (((List.length a.1.2.2.2.2.2.1) : Nat) : Int)) (
 some (true, ())
 ) (
 let x2 := (((List.length a.2.1.2.2.2.2.1) : Nat) : Int)
 cond (icmp .neq x2 (((List.length a.2.1.2.2.2.2.2.1) : Nat) : Int)) (
 some (true, ())
 ) (
 cond (icmp .neq x1 x2) (
 some (true, ())
 ) (
 cond (icmp .gtr x1 10) (
 some (true, ())
 ) (
 let x3 := (ZaR N ((a.1.1.1, a.1.1.2.1, a.1.1.2.2.1, a.1.1.2.2.2), a.1.2.1, a.1.2.2.1, a.1.2.2.2.1, a.1.2.2.2.2.1, a.1.2.2.2.2.2.1, a.1.2.2.2.2.2.2.1, a.1.2.2.2.2.2.2.2) () ())
 mo x3 none fun r1 =>
 mo (ZaR N ((a.2.1.1.1, a.2.1.1.2.1, a.2.1.1.2.2.1, a.2.1.1.2.2.2), a.2.1.2.1, a.2.1.2.2.1, a.2.1.2.2.2.1, a.2.1.2.2.2.2.1, a.2.1.2.2.2.2.2.1, a.2.1.2.2.2.2.2.2.1, a.2.1.2.2.2.2.2.2.2) () ()) none fun r2 =>
 mo (Zax N (0, r1.1, 0) (r1.2.1, r1.2.2) ()) none fun r3 =>
 mo (Zkr N ((r1.2.1, r1.2.2), ())) none fun r4 =>
 mo (Zax N (0, r1.1, 0) (r1.2.1, (List.take r1.2.1 r2.2.2 ++ List.drop r2.2.1 r1.2.2)) ()) none fun r5 =>
 cond (icmp .neq r3.1.2 0) (
 some (false, ())
 ) (
 cond (icmp .neq r5.1.2 0) (
 some (false, ())
 ) (
 mo x3 none fun r6 =>
 mo (ZeH N ((r6.2.1, r6.2.2), ())) none fun r7 =>
 cond (!(r4 == r7)) (
 some (false, ())
 ) (
 mo (Zkr N ((r1.2.1, (List.take r1.2.1 r2.2.2 ++ List.drop r2.2.1 r1.2.2)), ())) none fun r8 =>
 mo (ZeH N ((r2.2.1, r2.2.2), ())) none fun r9 =>
 cond (!(r8 == r9)) (
 some (false, ())
 ) (
 mo (Zah N (r3.1.1.1, r3.1.1.2.1, r3.1.1.2.2.1, r3.1.1.2.2.2.1, r3.1.1.2.2.2.2.1, r3.1.1.2.2.2.2.2.1, r3.1.1.2.2.2.2.2.2.1, r3.1.1.2.2.2.2.2.2.2.1, r3.1.1.2.2.2.2.2.2.2.2.1, r3.1.1.2.2.2.2.2.2.2.2.2.1, r3.1.1.2.2.2.2.2.2.2.2.2.2) (r3.2.1, r3.2.2) ()) none fun r10 =>
 mo (Zah N (r5.1.1.1, r5.1.1.2.1, r5.1.1.2.2.1, r5.1.1.2.2.2.1, r5.1.1.2.2.2.2.1, r5.1.1.2.2.2.2.2.1, r5.1.1.2.2.2.2.2.2.1, r5.1.1.2.2.2.2.2.2.2.1, r5.1.1.2.2.2.2.2.2.2.2.1, r5.1.1.2.2.2.2.2.2.2.2.2.1, r5.1.1.2.2.2.2.2.2.2.2.2.2) (r5.2.1, r5.2.2) ()) none fun r11 =>
 cond (icmp .neq r10.1.2 0) (
 some (false, ())
 ) (
 cond (icmp .neq r11.1.2 0) (
 some (false, ())
 ) (
 mo x3 none fun r12 =>
 cond (!((bStr r10.2.2) == (bStr r12.2.2))) (
 some (false, ())
 ) (
 cond (!((bStr r11.2.2) == (bStr r2.2.2))) (
 some (false, ())
 ) (
 mo (ZaJ N ((a.1.1.1, a.1.1.2.1, a.1.1.2.2.1, a.1.1.2.2.2), a.1.2.1, a.1.2.2.1, a.1.2.2.2.1, a.1.2.2.2.2.1, a.1.2.2.2.2.2.1, a.1.2.2.2.2.2.2.1, a.1.2.2.2.2.2.2.2) () ()) none fun r13 =>
 mo (ZaJ N ((a.2.1.1.1, a.2.1.1.2.1, a.2.1.1.2.2.1, a.2.1.1.2.2.2), a.2.1.2.1, a.2.1.2.2.1, a.2.1.2.2.2.1, a.2.1.2.2.2.2.1, a.2.1.2.2.2.2.2.1, a.2.1.2.2.2.2.2.2.1, a.2.1.2.2.2.2.2.2.2) () ()) none fun r14 =>
 mo (Zah N (r13.1.1, r13.1.2.1, r13.1.2.2.1, r13.1.2.2.2.1, r13.1.2.2.2.2.1, r13.1.2.2.2.2.2.1, r13.1.2.2.2.2.2.2.1, r13.1.2.2.2.2.2.2.2.1, r13.1.2.2.2.2.2.2.2.2.1, r13.1.2.2.2.2.2.2.2.2.2.1, r13.1.2.2.2.2.2.2.2.2.2.2) (r13.2.1, r13.2.2) ()) none fun r15 =>
 mo (Zah N (r13.1.1, r13.1.2.1, r13.1.2.2.1, r13.1.2.2.2.1, r13.1.2.2.2.2.1, r13.1.2.2.2.2.2.1, r13.1.2.2.2.2.2.2.1, r13.1.2.2.2.2.2.2.2.1, r13.1.2.2.2.2.2.2.2.2.1, r13.1.2.2.2.2.2.2.2.2.2.1, r13.1.2.2.2.2.2.2.2.2.2.2) ((List.take (List.length r13.2.1) r14.2.1 ++ List.drop (List.length r14.2.1) r13.2.1), (List.take (List.length r13.2.2) r14.2.2 ++ List.drop (List.length r14.2.2) r13.2.2)) ()) none fun r16 =>
 mo (Zah N (r13.1.1, r13.1.2.1, r13.1.2.2.1, r13.1.2.2.2.1, r13.1.2.2.2.2.1, r13.1.2.2.2.2.2.1, r13.1.2.2.2.2.2.2.1, r14.1.2.2.2.2.2.2.2.1, r14.1.2.2.2.2.2.2.2.2.1, r13.1.2.2.2.2.2.2.2.2.2.1, r13.1.2.2.2.2.2.2.2.2.2.2) (r14.2.1, r14.2.2) ()) none fun r17 =>
 let x4 := (0 + (List.length a.2.2))
 cond (decide (x4 * 1 ≤ 140737488355328 ∧ x4 ≤ 9223372036854775807)) (
 mo (ZbZ N () ((x4, a.2.2), ())) none fun r18 =>
 mo (loopF (Zbh N) N ((a.2.2, (), r16.1.2, r17.1.2, r16.1.1, r17.1.1, x4, r18.1.1, 0), ((r16.2.1, r16.2.2), (r17.2.1, r17.2.2), (x4, a.2.2), (r18.1.1, r18.1.2)))) none fun r50 =>
 match r50 with
 | .inl u51 => (
 mo (ZbZ N () ((u51.2.2.2.1.1, u51.2.2.2.1.2), ())) none fun r52 =>
 cond (icmp .eql u51.1.2.1 0) (
 cond (icmp .eql u51.1.2.2.1 0) (
 cond ((bStr u51.2.1.2) == (bStr u51.2.2.1.2)) (
 let x5 := (List.length u51.1.1)
 mo (Zdd N (IntKind.wrap .u64 ((x5:Nat) : Int))) none fun r53 =>
 cond (decide ((r53.1.1 + x5) * 1 ≤ 140737488355328 ∧ (r53.1.1 + x5) ≤ 9223372036854775807)) (
 cond ((bStr u51.2.2.2.2.2) == (bStr (r53.1.2 ++ u51.1.1))) (
 mo (Zdd N (IntKind.wrap .u64 ((u51.1.2.2.2.2.2.1 : Nat) : Int))) none fun r54 =>
 cond (decide ((r54.1.1 + u51.2.2.2.1.1) * 1 ≤ 140737488355328 ∧ (r54.1.1 + u51.2.2.2.1.1) ≤ 9223372036854775807)) (
 some (((bStr r52.1.2) == (bStr (r54.1.2 ++ u51.2.2.2.1.2))), ())
 ) (
 none
 )
 ) (
 some (false, ())
 )
 ) (
 none
 )
 ) (
 some (false, ())
 )
 ) (
 some (false, ())
 )
 ) (
 some (false, ())
 )
 )
 | .inr _ => (
 none
 )
 ) (
 none
 )
 )
 )
 )
 )
 )
 )
 )
 )
 )
 )
 )
 )
end Go.Vx
