/- Numbers, part L2: FieldSquares. -/
import Derived.Test.YtmoiobmpeohgnaaGreatDoorVyL
set_option autoImplicit false
set_option linter.unusedSimpArgs false
namespace Go.Vx
open Go
theorem K.half {a:K} (h:a ≠ 0) : (a ^ 2) ^ eQ = 1 ∨ (a ^ 2) ^ eQ = -1 := by
 have e : (a ^ 2) ^ eQ = (a ^ eQ) ^ 2 := by rw [← K.pow_mul, ← K.pow_mul, Nat.mul_comm]
 rw [e]
 have hi := kI_sq
 rcases K.quarter h with h | h | h | h <;> rw [h]
 ·left; grind
 ·left; grind
 ·right; grind
 ·right; grind
theorem kI_eQ : kI ^ eQ = -kI := by
 have h4 : kI ^ 4 = 1 := by have := kI_sq; grind
 have e : eQ = 4 * 3618502788666131106986593281521497120414687020801267626233049500247285301246 + 3 := rfl
 rw [e, K.pow_add, K.pow_mul, h4]
 have one : ∀ n : Nat, (1 : K) ^ n = 1 := fun n => by
  rw [show (1 : K) = K.of 1 from rfl, ← K.of_pow, Int.one_pow]
 rw [one]
 have := kI_sq
 grind
theorem ZE0 {a:LI} (ha:L5 a) (h:kv a ≠ 0) : ZcH a = false := by
 cases hq : ZcH a
 ·rfl
 ·exact absurd ((ZBk ha).1 hq) h
end Go.Vx
