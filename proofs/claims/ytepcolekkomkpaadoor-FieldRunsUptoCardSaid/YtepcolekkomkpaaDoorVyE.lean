/- Numbers, part E: the closed sentence 'live'; the first bit of the text; signs. -/
import Derived.Test.YtepcolekkomkpaaDoorVyD
import Derived.KernelRfl
set_option autoImplicit false
namespace Go.Vx
open Go

theorem neg_val {a : List Int} (ha : L5 a) : val (field_Elem_Neg a) = if val a % pF = 0 then 0 else pF - val a % pF := by
  rw [(neg_spec ha).2]
  by_cases h : val a % pF = 0
  · rw [if_pos h, Int.emod_eq_zero_of_dvd]
    exact Int.dvd_neg.2 (Int.dvd_of_emod_eq_zero h)
  · rw [if_neg h]
    have h1 : 0 ≤ val a % pF := Int.emod_nonneg _ (by decide)
    have h2 : val a % pF < pF := Int.emod_lt_of_pos _ pF_pos
    have h3 : - val a = (pF - val a % pF) + pF * (-(val a / pF) - 1) := by
      have := Int.mul_ediv_add_emod (val a) pF
      rw [Int.mul_sub, Int.mul_neg]
      omega
    rw [h3, Int.add_mul_emod_self_left, Int.emod_eq_of_lt (by omega) (by omega)]

theorem encode_par {a : List Int} (ha : L5 a) : icmp .eql (ibin .and .u8 (List.getD (field_Elem_Encode a) 0 0) 1) 1 = decide (val a % pF % 2 = 1) := by
  obtain ⟨c, h⟩ := least_spec ha
  obtain ⟨x0, x1, x2, x3, x4, hx, h0, h1, h2, h3, h4, -⟩ := c
  have hp : val a % pF % 2 = x0 % 2 := by
    rw [← h, hx]
    simp only [val, M51] at *
    omega
  unfold field_Elem_Encode
  rw [hx]
  simp only [List.getD_cons_zero, List.getD_cons_succ]
  have e1 : ibin .shl .u64 x1 51 = (x1 * 2251799813685248) % 18446744073709551616 := u_shl 51 (by decide)
  have e2 : ∀ y, ibin .shr .u64 y 0 = y := fun y => by have := u_shr (a := y) 0 (by decide); simpa using this
  have e3 : ibin .or .u64 x0 (ibin .shl .u64 x1 51) = (((x0.toNat ||| (ibin .shl .u64 x1 51).toNat : Nat)) : Int) := by
    rw [e1]
    exact u_or (by simp only [M51] at *; omega) (by simp only [M51] at *; omega) (by omega) (by omega)
  rw [e3, e2, wrap8]
  have e4 : ∀ n : Nat, ibin .and .u8 ((n : Int) % 256) 1 = (n : Int) % 2 := by
    intro n
    show IntKind.wrap .u8 ((BitVec.ofInt 8 ((n : Int) % 256) &&& BitVec.ofInt 8 1).toNat : Int) = _
    have : (BitVec.ofInt 8 ((n : Int) % 256) &&& BitVec.ofInt 8 1).toNat = n % 2 := by
      rw [BitVec.toNat_and, BitVec.toNat_ofInt, show (BitVec.ofInt 8 1).toNat = 2 ^ 1 - 1 from rfl, Nat.and_two_pow_sub_one_eq_mod]
      omega
    rw [this, wrap8]
    omega
  rw [e4]
  have e5 : ((x0.toNat ||| (ibin .shl .u64 x1 51).toNat : Nat) : Int) % 2 = x0 % 2 := by
    have : (x0.toNat ||| (ibin .shl .u64 x1 51).toNat) % 2 ^ 1 = (x0.toNat % 2 ^ 1) ||| ((ibin .shl .u64 x1 51).toNat % 2 ^ 1) := Nat.or_mod_two_pow
    have h2 : (ibin .shl .u64 x1 51).toNat % 2 ^ 1 = 0 := by rw [e1]; omega
    rw [h2, Nat.or_zero] at this
    omega
  rw [e5, hp]
  show (x0 % 2 == 1) = _
  rw [Bool.eq_iff_iff]; simp

end Go.Vx
