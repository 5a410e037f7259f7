/- Numbers, part L5: FieldAdds, FieldMuls, FieldAsks. -/
import Derived.Test.YtfnhpenkobcblaaDoorVyL4
set_option autoImplicit false
set_option linter.unusedSimpArgs false
namespace Go.Vx.Ref
open Go

theorem adds_law (a b : List Int) (ha : L5 a) (hb : L5 b) : veillaw01_FieldAdds 300 a b = some true := by
  obtain ⟨x, hx, cx, ex⟩ := lawof_spec ha
  obtain ⟨y, hy, cy, ey⟩ := lawof_spec hb
  obtain ⟨r, h1, c1, e1⟩ := radd_spec cx cy
  obtain ⟨s, h2, c2, e2⟩ := rsub_spec cx cy
  obtain ⟨c3, e3⟩ := rneg_spec cx
  obtain ⟨f1, g1⟩ := add_spec ha hb
  obtain ⟨f2, g2⟩ := sub_spec ha hb
  obtain ⟨f3, g3⟩ := neg_spec ha
  have i1 := is_spec f1 c1 (by rw [g1, e1, ex, ey, ← Int.add_emod])
  have i2 := is_spec f2 c2 (by rw [g2, e2, ex, ey, ← Int.sub_emod])
  have i3 := is_spec f3 c3 (by rw [g3, e3, ex, neg_mod])
  unfold veillaw01_FieldAdds
  simp only [hx, hy, mo, h1, h2, i1, i2, i3, cond_true]

theorem muls_law (a b : List Int) (ha : L5 a) (hb : L5 b) : veillaw01_FieldMuls 300 a b = some true := by
  obtain ⟨x, hx, cx, ex⟩ := lawof_spec ha
  obtain ⟨y, hy, cy, ey⟩ := lawof_spec hb
  obtain ⟨r, h1, c1, e1⟩ := rmul_spec cx cy
  obtain ⟨s, h2, c2, e2⟩ := rmul_spec cx cx
  obtain ⟨t, h3, f1, g1⟩ := mul_spec ha hb
  obtain ⟨u, h4, f2, g2⟩ := sq_spec ha
  have i1 := is_spec f1 c1 (by rw [g1, e1, ex, ey, ← Int.mul_emod])
  have i2 := is_spec f2 c2 (by rw [g2, e2, ex, ← Int.mul_emod])
  unfold veillaw01_FieldMuls
  simp only [hx, hy, mo, h1, h2, h3, h4, i1, i2, cond_true]

theorem first_digit {a : List Int} (ha : CF a) : ibin .and .i64 (List.getD a 0 0) 1 = num a % 2 := by
  rw [i_and1]
  obtain ⟨x0, x1, x2, x3, x4, x5, x6, x7, x8, x9, rfl⟩ := ten ha.1
  simp only [List.getD_cons_zero, num, numW]
  omega

theorem rnegative_spec {a : List Int} (ha : CF a) : veilref01_F_Negative a = decide (num a % 2 = 1) := by
  unfold veilref01_F_Negative
  rw [first_digit ha, eql_one _ (bit01 _)]

theorem rabs_spec {a : List Int} (ha : CF a) : veilref01_F_Abs a = if num a % 2 = 1 then veilref01_F_Neg a else a := by
  unfold veilref01_F_Abs
  rw [first_digit ha, eql_one _ (bit01 _)]
  by_cases h : num a % 2 = 1
  · rw [decide_eq_true h, cond_true, if_pos h]
  · rw [decide_eq_false h, cond_false, if_neg h]

theorem asks_law (a b : List Int) (c : Int) (ha : L5 a) (hb : L5 b) (hc : IntKind.i64.min ≤ c ∧ c ≤ IntKind.i64.max) : veillaw01_FieldAsks 300 a b c = some true := by
  obtain ⟨x, hx, cx, ex⟩ := lawof_spec ha
  obtain ⟨y, hy, cy, ey⟩ := lawof_spec hb
  obtain ⟨la, ea⟩ := least_spec ha
  obtain ⟨lb, eb⟩ := least_spec hb
  have hsame : field_Elem_Same a b = decide (x = y) := by
    unfold field_Elem_Same
    rw [decide_eq_decide]
    constructor
    · intro h; exact cx.inj cy (by rw [ex, ey, ← ea, ← eb, h])
    · intro h; exact la.inj lb (by rw [ea, eb, ← ex, ← ey, h])
  have hzero : field_Elem_IsZero a = decide (x = [0, 0, 0, 0, 0, 0, 0, 0, 0, 0]) := by
    rw [iszero_spec ha, decide_eq_decide, cx.zero_iff, ex]
  have hneg : field_Elem_Negative a = veilref01_F_Negative x := by rw [negative_spec ha, rnegative_spec cx, ex]
  have habs : veillaw01_is 300 (field_Elem_Abs a) (veilref01_F_Abs x) = some true := by
    rw [abs_spec ha, rabs_spec cx, ex]
    by_cases h : val a % pF % 2 = 1
    · rw [if_pos h, if_pos h]
      exact is_spec (neg_spec ha).1 (rneg_spec cx).1 (by rw [(neg_spec ha).2, (rneg_spec cx).2, ex, neg_mod])
    · rw [if_neg h, if_neg h]
      exact is_spec la cx (by rw [ea, ex])
  have hsel := select_spec (pick := c) ha hb
  have il := is_spec la cx (by rw [ea, ex])
  have ir := is_spec lb cy (by rw [eb, ey])
  unfold veillaw01_FieldAsks
  simp only [hx, hy, mo, hsame, hzero, hneg, beq_self_eq_true, Bool.not_true, cond_false, habs, cond_true]
  rw [i_and1, eql_one _ (bit01 _), hsel]
  by_cases h : c % 2 = 1
  · simp only [decide_eq_true h, cond_true, if_pos h, il]
  · simp only [decide_eq_false h, cond_false, if_neg h, ir]

end Go.Vx.Ref
