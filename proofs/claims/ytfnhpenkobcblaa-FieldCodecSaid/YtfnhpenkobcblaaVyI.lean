/- Numbers, part I: FieldLaws. -/
import Derived.Test.YtfnhpenkobcblaaVyH
set_option autoImplicit false
set_option linter.unusedSimpArgs false
namespace Go.Vx
open Go

theorem laws_law (a b c : List Int) (ha : L5 a) (hb : L5 b) (hc : L5 c) : veillaw01_FieldLaws 300 a b c = some true := by
  unfold veillaw01_FieldLaws
  have la := least_spec ha
  have sab := add_spec ha hb
  have sba := add_spec hb ha
  have sbc := add_spec hb hc
  have s1 := add_spec sab.1.L5 hc
  have s2 := add_spec ha sbc.1.L5
  obtain ⟨m, em, cm, vm⟩ := mul_spec ha hb
  obtain ⟨m2, em2, cm2, vm2⟩ := mul_spec hb ha
  obtain ⟨m3, em3, cm3, vm3⟩ := mul_spec cm.L5 hc
  obtain ⟨m4, em4, cm4, vm4⟩ := mul_spec hb hc
  obtain ⟨m5, em5, cm5, vm5⟩ := mul_spec ha cm4.L5
  obtain ⟨m6, em6, cm6, vm6⟩ := mul_spec hc sab.1.L5
  obtain ⟨m7, em7, cm7, vm7⟩ := mul_spec hc ha
  obtain ⟨m8, em8, cm8, vm8⟩ := mul_spec hc hb
  have s3 := add_spec cm7.L5 cm8.L5
  have s4 := add_spec ha zeroL5
  obtain ⟨m9, em9, cm9, vm9⟩ := mul_spec ha one_can.L5
  obtain ⟨m10, em10, cm10, vm10⟩ := mul_spec ha zeroL5
  have u1 := sub_spec ha ha
  have n1 := neg_spec ha
  have s5 := add_spec ha n1.1.L5
  have u2 := sub_spec ha hb
  have s6 := add_spec u2.1.L5 hb
  obtain ⟨q, eq, cq, vq⟩ := sq_spec ha
  obtain ⟨m11, em11, cm11, vm11⟩ := mul_spec ha ha
  obtain ⟨i, ei, ci, vi⟩ := invert_spec ha
  obtain ⟨m12, em12, cm12, vm12⟩ := mul_spec ha ci.L5
  obtain ⟨j, ej, cj, vj⟩ := invert_spec ci.L5
  have z0 : val [0, 0, 0, 0, 0] = 0 := rfl
  have z1 : val [1, 0, 0, 0, 0] = 1 := rfl
  have eone : field_Elem_One a = [1, 0, 0, 0, 0] := rfl
  have d1 : decide (field_Elem_Add a b = field_Elem_Add b a) = true := decide_eq_true (sab.1.inj sba.1 (by rw [sab.2, sba.2, Int.add_comm]))
  have d2 : decide (m = m2) = true := decide_eq_true (cm.inj cm2 (by rw [vm, vm2, Int.mul_comm]))
  have d3 : decide (field_Elem_Add (field_Elem_Add a b) c = field_Elem_Add a (field_Elem_Add b c)) = true :=
    decide_eq_true (s1.1.inj s2.1 (by rw [s1.2, s2.2, sab.2, sbc.2, Int.emod_add_emod, Int.add_emod_emod, Int.add_assoc]))
  have d4 : decide (m3 = m5) = true := decide_eq_true (cm3.inj cm5 (by rw [vm3, vm5, vm, vm4, mul_mod_l, mul_mod_r, Int.mul_assoc]))
  have d5 : decide (m6 = field_Elem_Add m7 m8) = true := decide_eq_true (cm6.inj s3.1 (by rw [vm6, s3.2, sab.2, vm7, vm8, Int.emod_add_emod, Int.add_emod_emod, mul_mod_r, Int.mul_add]))
  have d6 : decide (field_Elem_Add a [0, 0, 0, 0, 0] = field_Elem_Least a) = true := decide_eq_true (s4.1.inj la.1 (by rw [s4.2, la.2, z0, Int.add_zero]))
  have d7 : decide (m9 = field_Elem_Least a) = true := decide_eq_true (cm9.inj la.1 (by rw [vm9, la.2, z1, Int.mul_one]))
  have d8 : decide (m10 = [0, 0, 0, 0, 0]) = true := decide_eq_true (cm10.inj zero_can (by rw [vm10, z0, Int.mul_zero, Int.zero_emod]))
  have d9 : decide (field_Elem_Sub a a = [0, 0, 0, 0, 0]) = true := decide_eq_true (u1.1.inj zero_can (by rw [u1.2, z0, Int.sub_self, Int.zero_emod]))
  have d10 : decide (field_Elem_Add a (field_Elem_Neg a) = [0, 0, 0, 0, 0]) = true := decide_eq_true (s5.1.inj zero_can (by rw [s5.2, n1.2, Int.add_emod_emod, Int.add_right_neg, z0, Int.zero_emod]))
  have d11 : decide (field_Elem_Add (field_Elem_Sub a b) b = field_Elem_Least a) = true := decide_eq_true (s6.1.inj la.1 (by rw [s6.2, u2.2, Int.emod_add_emod, la.2, Int.sub_add_cancel]))
  have d12 : decide (q = m11) = true := decide_eq_true (cq.inj cm11 (by rw [vq, vm11]))
  have t1 := least_true sab.1
  have t2 := least_true cm
  have t3 := least_true ci
  have t4 := least_true la.1

  simp only [live_true, mo, Bool.not_true, cond_false, em, em2, em3, em4, em5, em6, em7, em8, eone, em9, em10, d1, d2, d3, d4, d5, d6, d7, d8, d9, d10, d11, eq, em11, d12, ei, em12, t1, t2, t3, t4, cond_true, decide_true]
  rw [iszero_spec ha]
  by_cases hz : val a % pF = 0
  · have d13 : decide (i = [0, 0, 0, 0, 0]) = true := by
      refine decide_eq_true (ci.inj zero_can ?_)
      rw [vi, z0, ← pow_mod, hz, show eInv = (eInv - 1) + 1 by decide, Int.pow_succ, Int.mul_zero, Int.zero_emod]
    have d14 : decide (field_Elem_Least a = [0, 0, 0, 0, 0]) = true := decide_eq_true (la.1.inj zero_can (by rw [la.2, hz, z0]))
    simp only [decide_eq_true hz, cond_true, d13, d14]
  · have d15 : decide (m12 = [1, 0, 0, 0, 0]) = true := decide_eq_true (cm12.inj one_can (by rw [vm12, vi, inv_mul _ hz, z1]))
    have d16 : decide (j = field_Elem_Least a) = true := decide_eq_true (cj.inj la.1 (by rw [vj, vi, inv_inv, la.2]))
    simp only [decide_eq_false hz, cond_false, d15, ej, d16, cond_true, mo]

end Go.Vx
