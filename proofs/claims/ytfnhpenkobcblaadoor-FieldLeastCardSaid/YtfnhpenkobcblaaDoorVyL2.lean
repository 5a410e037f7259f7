/- Numbers, part L2: FieldSquares. -/
import Derived.Test.YtfnhpenkobcblaaDoorVyL
set_option autoImplicit false
set_option linter.unusedSimpArgs false
namespace Go.Vx
open Go

/-- Half of the way round. -/
theorem K.half {a : K} (h : a ≠ 0) : (a ^ 2) ^ eQ = 1 ∨ (a ^ 2) ^ eQ = -1 := by
  have e : (a ^ 2) ^ eQ = (a ^ eQ) ^ 2 := by rw [← K.pow_mul, ← K.pow_mul, Nat.mul_comm]
  rw [e]
  have hi := kI_sq
  rcases K.quarter h with h | h | h | h <;> rw [h]
  · left; grind
  · left; grind
  · right; grind
  · right; grind

theorem kI_eQ : kI ^ eQ = -kI := by
  have h4 : kI ^ 4 = 1 := by have := kI_sq; grind
  have e : eQ = 4 * 3618502788666131106986593281521497120414687020801267626233049500247285301246 + 3 := rfl
  rw [e, K.pow_add, K.pow_mul, h4]
  have one : ∀ n : Nat, (1 : K) ^ n = 1 := fun n => by
    rw [show (1 : K) = K.of 1 from rfl, ← K.of_pow, Int.one_pow]
  rw [one]
  have := kI_sq
  grind

/-- Even numbers of one square are one. -/
theorem even_root {a b : List Int} (ha : Can a) (hb : Can b) (ea : val a % 2 = 0) (eb : val b % 2 = 0) (h : kv a ^ 2 = kv b ^ 2) : a = b := by
  have e : (kv a - kv b) * (kv a + kv b) = 0 := by grind
  rcases K.mul_zero' e with h1 | h1
  · exact can_k ha hb (by grind)
  · have h2 : kv a = - kv b := by grind
    have h3 : val a % pF = (- val b) % pF := K.of_eq.1 (by rw [K.of_neg]; exact h2)
    have a0 := ha.nonneg
    have b0 := hb.nonneg
    refine ha.inj hb ?_
    rw [Int.emod_eq_of_lt a0.1 a0.2] at h3
    by_cases hz : val b = 0
    · rw [hz] at h3 ⊢
      rw [h3]; rfl
    · exfalso
      have h4 : (- val b) % pF = pF - val b := by
        rw [show - val b = (pF - val b) + pF * (-1) by rw [Int.mul_neg, Int.mul_one]; omega, Int.add_mul_emod_self_left, Int.emod_eq_of_lt (by omega) (by omega)]
      rw [h4] at h3
      simp only [pF] at *
      omega

theorem even_neg {r : List Int} (h : Can r) (e : val r % 2 = 0) : field_Elem_Negative r = false := by
  rw [negative_spec h.L5, Int.emod_eq_of_lt h.nonneg.1 h.nonneg.2]
  exact decide_eq_false (by omega)

theorem iszero_f {a : List Int} (ha : L5 a) (h : kv a ≠ 0) : field_Elem_IsZero a = false := by
  cases hq : field_Elem_IsZero a
  · rfl
  · exact absurd ((iszero_k ha).1 hq) h

/-- The root of a square. -/
theorem sure_root {b c : List Int} (hb : L5 b) (hc : L5 c) (hv : kv b ≠ 0) : ∃ s m r, field_Elem_Square c = some s ∧ field_Elem_Mul s b = some m ∧ field_SqrtRatio 300 m b = some (r, true) ∧ r = field_Elem_Abs c := by
  obtain ⟨s, h1, c1, e1⟩ := sq_k hc
  obtain ⟨m, h2, c2, e2⟩ := mul_k c1.L5 hb
  obtain ⟨r, ok, h3, c3, p3, q1, q2, q3⟩ := sqrt_k c2.L5 hb
  have ac := abs_k hc
  have a2 : kv (field_Elem_Abs c) ^ 2 = kv c ^ 2 := by rcases ac.2.2 with h | h <;> rw [h] <;> grind
  rw [e2, e1] at q1 q2 q3
  refine ⟨s, m, r, h1, h2, ?_, ?_⟩
  · rw [h3]
    by_cases hz : kv c = 0
    · rw [(q1 (by rw [hz]; grind)).1]
    · have hn : kv c * kv c * kv b ≠ 0 := K.mul_ne (K.mul_ne hz hz) hv
      rw [(q3 hn hv).1.2]
      have e : kv c * kv c * kv b * kv b ^ 7 = (kv c * kv b ^ 4) ^ 2 := by grind
      rw [e]
      exact K.half (K.mul_ne hz (K.pow_ne hv 4))
  · refine even_root c3 ac.1 p3 ac.2.1 ?_
    rw [a2]
    by_cases hz : kv c = 0
    · rw [(q1 (by rw [hz]; grind)).2, hz]
    · have hn : kv c * kv c * kv b ≠ 0 := K.mul_ne (K.mul_ne hz hz) hv
      have e : kv c * kv c * kv b * kv b ^ 7 = (kv c * kv b ^ 4) ^ 2 := by grind
      have hok : ok = true := (q3 hn hv).1.2 (by rw [e]; exact K.half (K.mul_ne hz (K.pow_ne hv 4)))
      have h4 := (q3 hn hv).2.1 hok
      have h5 : kv b * (kv r ^ 2 - kv c ^ 2) = 0 := by grind
      rcases K.mul_zero' h5 with h6 | h6
      · exact absurd h6 hv
      · grind

theorem neg_tab1 : field_Elem_Negative (field_tab 1) = false := by kernel_rfl

theorem squares_law (a b c : List Int) (ha : L5 a) (hb : L5 b) (hc : L5 c) : veillaw01_FieldSquares 300 a b c = some true := by
  unfold veillaw01_FieldSquares
  have hconst : field_Const 1 = some (field_tab 1) := rfl
  obtain ⟨i2, hi2, ci2, ei2⟩ := sq_k tab1_can.L5
  have hone : Can (field_Elem_One (field_tab 1)) := one_can
  have kone : kv (field_Elem_One (field_tab 1)) = 1 := rfl
  have ni := neg_k hone.L5
  have d1 : decide (i2 = field_Elem_Neg (field_Elem_One (field_tab 1))) = true := decide_eq_true (can_k ci2 ni.1 (by rw [ei2, ni.2, kone, tab1_k, kI_sq]))
  obtain ⟨r, ok, h1, c1, p1, q1, q2, q3⟩ := sqrt_k ha hb
  have lr := least_true c1
  simp only [live_true, mo, Bool.not_true, cond_false, hconst, hi2, d1, neg_tab1, h1, even_neg c1 p1, lr]
  by_cases hu : kv a = 0
  · obtain ⟨g1, g2⟩ := q1 hu
    simp only [(iszero_k ha).2 hu, cond_true, g1, (iszero_k c1.L5).2 g2]
  · by_cases hv : kv b = 0
    · obtain ⟨g1, g2⟩ := q2 hu hv
      simp only [iszero_f ha hu, (iszero_k hb).2 hv, cond_true, cond_false, g1, Bool.not_false, (iszero_k c1.L5).2 g2]
    · obtain ⟨g1, g2, g3⟩ := q3 hu hv
      obtain ⟨m, hm, cm, em⟩ := mul_k ha tab1_can.L5
      rw [tab1_k] at em
      obtain ⟨s, hs, cs, es⟩ := sq_k c1.L5
      obtain ⟨t, ht, ct, et⟩ := mul_k hb cs.L5
      obtain ⟨r9, ok9, h9, c9, p9, y1, y2, y3⟩ := sqrt_k cm.L5 hb
      obtain ⟨s2, m2, r12, k1, k2, k3, k4⟩ := sure_root hb hc hv
      have ine : kI ≠ 0 := fun h => by have := kI_sq; rw [h] at this; exact K.one_ne (by grind)
      have hmn : kv m ≠ 0 := by rw [em]; exact K.mul_ne hu ine
      have f1 := (y3 hmn hv).1
      have ew : (kv m * kv b ^ 7) ^ eQ = (kv a * kv b ^ 7) ^ eQ * -kI := by
        rw [em, show kv a * kI * kv b ^ 7 = (kv a * kv b ^ 7) * kI by grind, K.mul_pow, kI_eQ]
      rw [ew] at f1
      have hw := K.quarter (K.mul_ne hu (K.pow_ne hv 7))
      have hi := kI_sq
      have i1 : kI ≠ 1 := fun h => by rw [h] at hi; exact K.two_ne (by grind)
      have i2' : kI ≠ -1 := fun h => by rw [h] at hi; exact K.two_ne (by grind)
      have hother : (ok9 == ok) = false := by
        cases ok
        · have : ok9 = true := by
            refine f1.2 ?_
            rcases hw with h | h | h | h
            · exact absurd (g1.2 (.inl h)) (by simp)
            · exact absurd (g1.2 (.inr h)) (by simp)
            · left; rw [h]; grind
            · right; rw [h]; grind
          rw [this]; rfl
        · have : ok9 = false := by
            cases ok9
            · rfl
            · exfalso
              have h5 := f1.1 rfl
              rcases g1.1 rfl with h | h <;> rw [h] at h5
              · rcases h5 with h5 | h5
                · exact i2' (by grind)
                · exact i1 (by grind)
              · rcases h5 with h5 | h5
                · exact i1 (by grind)
                · exact i2' (by grind)
          rw [this]; rfl
      have d9 : decide (r12 = field_Elem_Abs c) = true := decide_eq_true k4
      simp only [iszero_f ha hu, iszero_f hb hv, cond_false]
      cases ok
      · have d7 : decide (t = m) = true := decide_eq_true (can_k ct cm (by rw [et, es, em, ← g3 rfl]; grind))
        simp only [Bool.not_false, cond_true, hm, hs, ht, d7, Bool.not_true, cond_false, h9, k1, k2, k3, hother, d9]
      · have l := least_k ha
        have d7 : decide (t = field_Elem_Least a) = true := decide_eq_true (can_k ct l.1 (by rw [et, es, l.2, ← g2 rfl]; grind))
        simp only [Bool.not_true, cond_false, hm, hs, ht, d7, h9, k1, k2, k3, hother, Bool.not_false, cond_true, d9]

end Go.Vx
