/- Numbers, part L5: FieldAdds, FieldMuls, FieldAsks. -/
import Derived.Test.YtepcolekkomkpaaDoorVyL4
set_option autoImplicit false
set_option linter.unusedSimpArgs false
namespace Go.Vx.Ref
open Go

theorem first_digit {a : List Int} (ha : CF a) : ibin .and .i64 (List.getD a 0 0) 1 = num a % 2 := by
  rw [i_and1]
  obtain ⟨x0, x1, x2, x3, x4, x5, x6, x7, x8, x9, rfl⟩ := ten ha.1
  simp only [List.getD_cons_zero, num, numW]
  omega

theorem rnegative_spec {a : List Int} (ha : CF a) : veilref01_F_Negative a = decide (num a % 2 = 1) := by
  unfold veilref01_F_Negative
  rw [first_digit ha, eql_one _ (bit01 _)]

theorem rabs_spec {a : List Int} (ha : CF a) : veilref01_F_Abs a = if num a % 2 = 1 then veilref01_F_Neg a else a := by
  unfold veilref01_F_Abs
  rw [first_digit ha, eql_one _ (bit01 _)]
  by_cases h : num a % 2 = 1
  · rw [decide_eq_true h, cond_true, if_pos h]
  · rw [decide_eq_false h, cond_false, if_neg h]

end Go.Vx.Ref
