/- Numbers, part L2: FieldSquares. -/
import Derived.Test.YtepcolekkomkpaaDoorVyL
set_option autoImplicit false
set_option linter.unusedSimpArgs false
namespace Go.Vx
open Go

/-- Half of the way round. -/
theorem K.half {a : K} (h : a ≠ 0) : (a ^ 2) ^ eQ = 1 ∨ (a ^ 2) ^ eQ = -1 := by
  have e : (a ^ 2) ^ eQ = (a ^ eQ) ^ 2 := by rw [← K.pow_mul, ← K.pow_mul, Nat.mul_comm]
  rw [e]
  have hi := kI_sq
  rcases K.quarter h with h | h | h | h <;> rw [h]
  · left; grind
  · left; grind
  · right; grind
  · right; grind

theorem kI_eQ : kI ^ eQ = -kI := by
  have h4 : kI ^ 4 = 1 := by have := kI_sq; grind
  have e : eQ = 4 * 3618502788666131106986593281521497120414687020801267626233049500247285301246 + 3 := rfl
  rw [e, K.pow_add, K.pow_mul, h4]
  have one : ∀ n : Nat, (1 : K) ^ n = 1 := fun n => by
    rw [show (1 : K) = K.of 1 from rfl, ← K.of_pow, Int.one_pow]
  rw [one]
  have := kI_sq
  grind

/-- Even numbers of one square are one. -/
theorem even_root {a b : List Int} (ha : Can a) (hb : Can b) (ea : val a % 2 = 0) (eb : val b % 2 = 0) (h : kv a ^ 2 = kv b ^ 2) : a = b := by
  have e : (kv a - kv b) * (kv a + kv b) = 0 := by grind
  rcases K.mul_zero' e with h1 | h1
  · exact can_k ha hb (by grind)
  · have h2 : kv a = - kv b := by grind
    have h3 : val a % pF = (- val b) % pF := K.of_eq.1 (by rw [K.of_neg]; exact h2)
    have a0 := ha.nonneg
    have b0 := hb.nonneg
    refine ha.inj hb ?_
    rw [Int.emod_eq_of_lt a0.1 a0.2] at h3
    by_cases hz : val b = 0
    · rw [hz] at h3 ⊢
      rw [h3]; rfl
    · exfalso
      have h4 : (- val b) % pF = pF - val b := by
        rw [show - val b = (pF - val b) + pF * (-1) by rw [Int.mul_neg, Int.mul_one]; omega, Int.add_mul_emod_self_left, Int.emod_eq_of_lt (by omega) (by omega)]
      rw [h4] at h3
      simp only [pF] at *
      omega

/-- The root of a square. -/
theorem sure_root {b c : List Int} (hb : L5 b) (hc : L5 c) (hv : kv b ≠ 0) : ∃ s m r, field_Elem_Square c = some s ∧ field_Elem_Mul s b = some m ∧ field_SqrtRatio 300 m b = some (r, true) ∧ r = field_Elem_Abs c := by
  obtain ⟨s, h1, c1, e1⟩ := sq_k hc
  obtain ⟨m, h2, c2, e2⟩ := mul_k c1.L5 hb
  obtain ⟨r, ok, h3, c3, p3, q1, q2, q3⟩ := sqrt_k c2.L5 hb
  have ac := abs_k hc
  have a2 : kv (field_Elem_Abs c) ^ 2 = kv c ^ 2 := by rcases ac.2.2 with h | h <;> rw [h] <;> grind
  rw [e2, e1] at q1 q2 q3
  refine ⟨s, m, r, h1, h2, ?_, ?_⟩
  · rw [h3]
    by_cases hz : kv c = 0
    · rw [(q1 (by rw [hz]; grind)).1]
    · have hn : kv c * kv c * kv b ≠ 0 := K.mul_ne (K.mul_ne hz hz) hv
      rw [(q3 hn hv).1.2]
      have e : kv c * kv c * kv b * kv b ^ 7 = (kv c * kv b ^ 4) ^ 2 := by grind
      rw [e]
      exact K.half (K.mul_ne hz (K.pow_ne hv 4))
  · refine even_root c3 ac.1 p3 ac.2.1 ?_
    rw [a2]
    by_cases hz : kv c = 0
    · rw [(q1 (by rw [hz]; grind)).2, hz]
    · have hn : kv c * kv c * kv b ≠ 0 := K.mul_ne (K.mul_ne hz hz) hv
      have e : kv c * kv c * kv b * kv b ^ 7 = (kv c * kv b ^ 4) ^ 2 := by grind
      have hok : ok = true := (q3 hn hv).1.2 (by rw [e]; exact K.half (K.mul_ne hz (K.pow_ne hv 4)))
      have h4 := (q3 hn hv).2.1 hok
      have h5 : kv b * (kv r ^ 2 - kv c ^ 2) = 0 := by grind
      rcases K.mul_zero' h5 with h6 | h6
      · exact absurd h6 hv
      · grind

end Go.Vx
