/- Numbers, part J0: texts of 32 bytes as numbers; powers by any exponent. -/
import Derived.Test.YtmoiobmpeohgnaaGreatDoorVyH
set_option autoImplicit false
set_option linter.unusedSimpArgs false
namespace Go.Vx
open Go
def numB : LI → Nat
 | [] => 0
 | x :: l => x.toNat + 256 * numB l
def Bs (l:LI) : Prop := ∀ x ∈ l, 0 ≤ x ∧ x ≤ 255
theorem ZF2 : (l:LI) → Bs l → (i:Nat) → (List.getD l (i / 8) 0).toNat / 2 ^ (i % 8) % 2 = numB l / 2 ^ i % 2
 | [], _, i => by simp [numB]
 | x :: l, hb, i => by
  have hx := hb x (by simp)
  have ht : Bs l := fun y hy => hb y (by simp [hy])
  by_cases h : i < 8
  ·have h1 : i / 8 = 0 := by omega
   have h2 : i % 8 = i := by omega
   rw [h1, h2]
   simp only [List.getD_cons_zero, numB]
   have hd : (x.toNat + 256 * numB l) / 2 ^ i = x.toNat / 2 ^ i + 2 ^ (8 - i) * numB l := by
    have e : 256 = 2 ^ i * 2 ^ (8 - i) := by rw [← Nat.pow_add, show i + (8 - i) = 8 by omega]
    rw [e, Nat.mul_assoc, Nat.add_mul_div_left _ _ (Nat.two_pow_pos i)]
   rw [hd]
   have e2 : 2 ^ (8 - i) = 2 * 2 ^ (7 - i) := by rw [show 8 - i = (7 - i) + 1 by omega, Nat.pow_succ, Nat.mul_comm]
   rw [e2, Nat.mul_assoc, Nat.add_mul_mod_self_left]
  ·have h1 : i / 8 = (i - 8) / 8 + 1 := by omega
   have h2 : i % 8 = (i - 8) % 8 := by omega
   rw [h1, h2, List.getD_cons_succ, ZF2 l ht (i - 8)]
   simp only [numB]
   have e : 2 ^ i = 256 * 2 ^ (i - 8) := by rw [show (256 : Nat) = 2 ^ 8 from rfl, ← Nat.pow_add, show 8 + (i - 8) = i by omega]
   rw [e, ← Nat.div_div_eq_div_mul]
   have : (x.toNat + 256 * numB l) / 256 = numB l := by omega
   rw [this]
theorem b_bit {y:Int} (h : 0 ≤ y ∧ y ≤ 255) (k:Nat) (hk:k ≤ 8) : ibin .and .u8 (ibin .shr .u8 y (k:Int)) 1 = ((y.toNat / 2 ^ k % 2 : Nat) : Int) := by
 have e1 : ibin .shr .u8 y (k:Int) = ((y.toNat / 2 ^ k : Nat) : Int) := by
  show y.fdiv (2 ^ (min (k:Int).toNat 8)) = _
  rw [Int.toNat_natCast, Nat.min_eq_left hk, Int.fdiv_eq_ediv_of_nonneg _ (Int.le_of_lt (Int.pow_pos (by decide)))]
  have : y = (y.toNat : Int) := by omega
  conv => lhs; rw [this]
  rw [Int.natCast_ediv, Int.natCast_pow]; rfl
 rw [e1]
 generalize hz : y.toNat / 2 ^ k = z
 have hz2 : z ≤ 255 := by
  rw [← hz]
  exact Nat.le_trans (Nat.div_le_self _ _) (by omega)
 show IntKind.wrap .u8 ((BitVec.ofInt 8 (z:Int) &&& BitVec.ofInt 8 1).toNat : Int) = _
 have : (BitVec.ofInt 8 (z:Int) &&& BitVec.ofInt 8 1).toNat = z % 2 := by
  rw [BitVec.toNat_and, BitVec.toNat_ofInt, show (BitVec.ofInt 8 1).toNat = 2 ^ 1 - 1 from rfl, Nat.and_two_pow_sub_one_eq_mod]
  omega
 rw [this, wrap8]
 omega
theorem ZAp : (l:LI) → Bs l → numB l < 256 ^ l.length
 | [], _ => by simp [numB]
 | x :: l, h => by
  have hx := h x (by simp)
  have := ZAp l (fun y hy => h y (by simp [hy]))
  simp only [numB, List.length_cons, Nat.pow_succ]
  omega
def L32 (e:LI) : Prop := e.length = 32 ∧ ∀ x ∈ e, 0 ≤ x ∧ x ≤ 255
theorem ZDw {c:LI} (h:c.length = 32) : ∃ x0 x1 x2 x3 x4 x5 x6 x7 x8 x9 x10 x11 x12 x13 x14 x15 x16 x17 x18 x19 x20 x21 x22 x23 x24 x25 x26 x27 x28 x29 x30 x31, c = [x0, x1, x2, x3, x4, x5, x6, x7, x8, x9, x10, x11, x12, x13, x14, x15, x16, x17, x18, x19, x20, x21, x22, x23, x24, x25, x26, x27, x28, x29, x30, x31] := by
 match c, h with
 | [x0, x1, x2, x3, x4, x5, x6, x7, x8, x9, x10, x11, x12, x13, x14, x15, x16, x17, x18, x19, x20, x21, x22, x23, x24, x25, x26, x27, x28, x29, x30, x31], _ => exact ⟨x0, x1, x2, x3, x4, x5, x6, x7, x8, x9, x10, x11, x12, x13, x14, x15, x16, x17, x18, x19, x20, x21, x22, x23, x24, x25, x26, x27, x28, x29, x30, x31, rfl⟩
end Go.Vx
