/- Numbers, part E: the closed sentence 'live'; the first bit of the text; signs. -/
import Derived.Test.YtmoiobmpeohgnaaGreatDoorVyD
import Derived.KernelRfl
set_option autoImplicit false
namespace Go.Vx
open Go
theorem neg_val {a:LI} (ha:L5 a) : val (ZaN a) = if val a % pF = 0 then 0 else pF - val a % pF := by
 rw [(ZpY ha).2]
 by_cases h : val a % pF = 0
 ·rw [if_pos h, Int.emod_eq_zero_of_dvd]
  exact Int.dvd_neg.2 (Int.dvd_of_emod_eq_zero h)
 ·rw [if_neg h]
  have h1 : 0 ≤ val a % pF := Int.emod_nonneg _ (by decide)
  have h2 : val a % pF < pF := Int.emod_lt_of_pos _ ZxI
  have h3 : - val a = (pF - val a % pF) + pF * (-(val a / pF) - 1) := by
   have := Int.mul_ediv_add_emod (val a) pF
   rw [Int.mul_sub, Int.mul_neg]
   omega
  rw [h3, Int.add_mul_emod_self_left, Int.emod_eq_of_lt (by omega) (by omega)]
end Go.Vx
