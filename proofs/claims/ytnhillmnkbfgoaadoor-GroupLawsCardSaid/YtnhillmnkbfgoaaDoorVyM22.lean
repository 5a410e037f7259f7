import Derived.Test.YtnhillmnkbfgoaaDoorVyL2
import Derived.Test.YtnhillmnkbfgoaaDoorVyK0
import Derived.Test.YtnhillmnkbfgoaaDoorVyZ
import Derived.Test.YtnhillmnkbfgoaaDoorVyS
/- Numbers, part M2: the group's texts in the field K: the program's Decode and Encode. -/
set_option autoImplicit false
set_option linter.unusedSimpArgs false
namespace Go.Vx
open Go

theorem can_v {a : List Int} (h : Can a) : (kv a).v = val a := by
  have := h.nonneg
  show val a % pF = val a
  exact Int.emod_eq_of_lt this.1 this.2
theorem can_ev {a : List Int} (h : Can a) : (kv a).ev ↔ val a % 2 = 0 := by
  unfold K.ev; rw [can_v h]
theorem neg_ev {a : List Int} (h : Can a) : field_Elem_Negative a = true ↔ ¬ (kv a).ev := by
  rw [negative_spec h.L5, can_ev h, Int.emod_eq_of_lt h.nonneg.1 h.nonneg.2, decide_eq_true_eq]
  omega
theorem neg_ev_f {a : List Int} (h : Can a) (e : (kv a).ev) : field_Elem_Negative a = false := by
  cases hq : field_Elem_Negative a
  · rfl
  · exact absurd e ((neg_ev h).1 hq)

theorem sqrt_sr {a b : List Int} (ha : L5 a) (hb : L5 b) : ∃ r ok, field_SqrtRatio 300 a b = some (r, ok) ∧ Can r ∧ SR (kv a) (kv b) (kv r) ok := by
  obtain ⟨r, ok, h1, h2, h3, h4, h5, h6⟩ := sqrt_k ha hb
  exact ⟨r, ok, h1, h2, ⟨(can_ev h2).2 h3, h4, h5, h6⟩⟩
theorem abs_sr {a : List Int} (ha : L5 a) : Can (field_Elem_Abs a) ∧ (kv (field_Elem_Abs a)).ev ∧ kv (field_Elem_Abs a) ^ 2 = kv a ^ 2 := by
  obtain ⟨h1, h2, h3⟩ := abs_k ha
  exact ⟨h1, (can_ev h1).2 h2, by rcases h3 with h | h <;> rw [h] <;> grind⟩

theorem tab2_can : Can (field_tab 2) := ⟨_, _, _, _, _, rfl, by decide, by decide, by decide, by decide, by decide, by decide⟩
theorem tab2_k : kv (field_tab 2) = kD := by unfold kv kD; rfl
theorem tab4_can' : Can (field_tab 4) := ⟨_, _, _, _, _, rfl, by decide, by decide, by decide, by decide, by decide, by decide⟩
theorem const2' : field_Const 2 = some (field_tab 2) := rfl
theorem const1' : field_Const 1 = some (field_tab 1) := rfl
theorem const4' : field_Const 4 = some (field_tab 4) := rfl
theorem one_k (a : List Int) : Can (field_Elem_One a) ∧ kv (field_Elem_One a) = 1 := ⟨one_can, rfl⟩
theorem select_false {a b : List Int} (ha : L5 a) (hb : Can b) : field_Select (group_pick false) a b = b := by
  rw [select_spec ha hb.L5, show group_pick false = 0 from rfl, if_neg (by decide), least_can hb]
theorem least_id {a : List Int} (h : Can a) : field_Elem_Least a = a := least_can h

/-- Coordinates that are on the curve make a point. -/
theorem from_affine {a b : List Int} (ha : Can a) (hb : Can b) (hon : kv b ^ 2 - kv a ^ 2 = 1 + kD * kv a ^ 2 * kv b ^ 2) :
    ∃ t, curve_FromAffine a b = some ((a, b, [1, 0, 0, 0, 0], t), 0) ∧ Can t ∧ kv t = kv a * kv b := by
  obtain ⟨r1, h1, c1, e1⟩ := sq_k ha.L5
  obtain ⟨r2, h2, c2, e2⟩ := sq_k hb.L5
  obtain ⟨r4, h4, c4, e4⟩ := mul_k tab2_can.L5 c1.L5
  obtain ⟨r5, h5, c5, e5⟩ := mul_k c4.L5 c2.L5
  obtain ⟨r6, h6, c6, e6⟩ := mul_k ha.L5 hb.L5
  have k1 := sub_k c2.L5 c1.L5
  have k2 := add_k one_can.L5 c5.L5
  have hd : field_Elem_Sub r2 r1 = field_Elem_Add [1, 0, 0, 0, 0] r5 := by
    refine can_k k1.1 k2.1 ?_
    rw [k1.2, k2.2, e5, e4, e1, e2, tab2_k, show kv [1, 0, 0, 0, 0] = 1 from rfl]
    grind
  refine ⟨r6, ?_, c6, e6⟩
  unfold curve_FromAffine
  simp only [least_id ha, least_id hb, h1, h2, const2', h4, h5, mo, hd, decide_true, Bool.not_true, cond_false, curve_at, h6]

theorem k_one_pow (n : Nat) : (1 : K) ^ n = 1 := by
  rw [show (1 : K) = K.of 1 from rfl, ← K.of_pow, Int.one_pow]

/-- The coordinates of a point that has none below. -/
theorem affine_one {x y t : List Int} (hx : Can x) (hy : Can y) : curve_Point_Affine 300 (x, y, [1, 0, 0, 0, 0], t) = some (x, y) := by
  obtain ⟨r1, h1, p1⟩ := invert_spec (a := [1, 0, 0, 0, 0]) one_can.L5
  have e1 : kv r1 = 1 := by rw [pow_k p1, show kv [1, 0, 0, 0, 0] = 1 from rfl, k_one_pow]
  obtain ⟨r2, h2, c2, e2⟩ := mul_k hx.L5 p1.1.L5
  obtain ⟨r3, h3, c3, e3⟩ := mul_k hy.L5 p1.1.L5
  have f2 : r2 = x := can_k c2 hx (by rw [e2, e1]; grind)
  have f3 : r3 = y := can_k c3 hy (by rw [e3, e1]; grind)
  subst f2
  subst f3
  unfold curve_Point_Affine curve_place_whole
  have hz : decide (([1, 0, 0, 0, 0] : List Int) = [0, 0, 0, 0, 0]) = false := by decide
  simp only [hz, cond_false, h1, h2, h3, mo]

theorem select_true {a b : List Int} (ha : Can a) (hb : L5 b) : field_Select (group_pick true) a b = a := by
  rw [select_spec ha.L5 hb, show group_pick true = 1 from rfl, if_pos (by decide), least_can ha]
theorem neg_ev_t {a : List Int} (h : Can a) (e : ¬ (kv a).ev) : field_Elem_Negative a = true := (neg_ev h).2 e
theorem tab4_k : kv (field_tab 4) = kM := by unfold kv kM; rfl

/-- The root that the program takes. -/
theorem enc_root {x y r q : K} {ok : Bool} (hq : (1 + y) * (1 - y) = q ^ 2) (hn : x * y ≠ 0) (hu : (1 + y) * (1 - y) ≠ 0) (sr : SR 1 (((1 + y) * (1 - y)) * (x * y) ^ 2) r ok) : r ^ 2 * (((1 + y) * (1 - y)) * (x * y) ^ 2) = 1 := by
  have q0 : q ≠ 0 := fun e => hu (by rw [hq, e]; grind)
  obtain ⟨z, hz⟩ := inv_ex (K.mul_ne q0 hn)
  have hv : ((1 + y) * (1 - y)) * (x * y) ^ 2 = (q * (x * y)) ^ 2 := by rw [hq]; grind
  have := (sr.found (r := z) (K.mul_ne hu (K.pow_ne hn 2)) (by rw [hv]; generalize q * (x * y) = w at *; grind)).2
  rw [this, hv]
  generalize q * (x * y) = w at *
  grind

theorem u_ne {x y : K} (on : y ^ 2 - x ^ 2 = 1 + kD * x ^ 2 * y ^ 2) (hn : x * y ≠ 0) : (1 + y) * (1 - y) ≠ 0 := by
  intro h
  have hm := kM_sq
  have hx := (K.ne_mul hn).1
  have h1 : (-1 - kD) * x ^ 2 = 0 := by generalize kD = d at *; grind
  rcases K.mul_zero' h1 with h1 | h1
  · rw [h1] at hm; exact K.one_ne (by rw [← hm]; grind)
  · exact hx (K.sq_zero h1)

theorem k_neg_neg (b : K) : - -b = b := by grind
theorem k_mul_negs (a b : K) : -a * -b = a * b := by grind
theorem k_neg_zero {a : K} (h : -a = 0) : a = 0 := by grind
theorem rel_negs (a b : K) : Rel a b (-a) (-b) := .inr (.inr (.inl ⟨(k_neg_neg a).symm, (k_neg_neg b).symm⟩))
theorem on_neg {a b d : K} (h : b ^ 2 - a ^ 2 = 1 + d * a ^ 2 * b ^ 2) : (-b) ^ 2 - (-a) ^ 2 = 1 + d * (-a) ^ 2 * (-b) ^ 2 := by grind
theorem on_turn {a b d : K} (h : b ^ 2 - a ^ 2 = 1 + d * a ^ 2 * b ^ 2) : (a * kI) ^ 2 - (b * kI) ^ 2 = 1 + d * (b * kI) ^ 2 * (a * kI) ^ 2 := by
  have hi := kI_sq
  grind
theorem rel_turn (a b : K) : Rel a b (b * kI) (a * kI) := by
  have hi := kI_sq
  exact .inr (.inr (.inr ⟨by grind, by grind⟩))
theorem turn_mul (a b : K) : b * kI * (a * kI) = -(a * b) := by
  have hi := kI_sq
  grind
theorem den_turn {u t2 m w r d : K} (tn : t2 ≠ 0) (R : r ^ 2 * (u * t2) = 1) (tt : u * w = (-1 - d) * t2) (hm : (-1 - d) * m ^ 2 = 1) : (r * u * m) ^ 2 * w = 1 := by
  refine K.cancel tn ?_
  have : t2 * ((r * u * m) ^ 2 * w) = (r ^ 2 * (u * t2)) * m ^ 2 * (u * w) := by grind
  rw [this, R, tt]
  grind
theorem fin_neg (b : K) : (1 + -b) * (1 - -b) = (1 + b) * (1 - b) := by grind
theorem fin_one (r x y : K) : (r * (x * y)) ^ 2 * ((1 + y) * (1 - y)) = r ^ 2 * (((1 + y) * (1 - y)) * (x * y) ^ 2) := by
  generalize x * y = t
  generalize (1 + y) * (1 - y) = u
  grind

/-- The program's Encode of any even point. -/
theorem pencode {p1 p2 p3 p4 x y : List Int} {q : K} (h1 : curve_Point_Affine 300 (p1, p2, p3, p4) = some (x, y)) (hx : Can x) (hy : Can y) (on : kv y ^ 2 - kv x ^ 2 = 1 + kD * kv x ^ 2 * kv y ^ 2) (hq : (1 + kv y) * (1 - kv y) = q ^ 2) :
    ∃ s X Y, group_Point_Encode 300 (p1, p2, p3, p4) = some (field_Elem_Encode s) ∧ Can s ∧ Stands (kv s) X Y ∧ Rel (kv x) (kv y) X Y := by
  obtain ⟨r2, h2, c2, e2⟩ := mul_k hx.L5 hy.L5
  have one := one_k x
  have a1 := add_k one.1.L5 hy.L5
  have s1 := sub_k one.1.L5 hy.L5
  obtain ⟨r3, h3, c3, e3⟩ := mul_k a1.1.L5 s1.1.L5
  obtain ⟨r4, h4, c4, e4⟩ := sq_k c2.L5
  obtain ⟨r5, h5, c5, e5⟩ := mul_k c3.L5 c4.L5
  obtain ⟨r6, ok, h6, c6, sr⟩ := sqrt_sr one.1.L5 c5.L5
  obtain ⟨r7, h7, c7, e7⟩ := mul_k c6.L5 c3.L5
  obtain ⟨r8, h8, c8, e8⟩ := mul_k c6.L5 c2.L5
  obtain ⟨r9, h9, c9, e9⟩ := mul_k c7.L5 c8.L5
  obtain ⟨r10, h10, c10, e10⟩ := mul_k c9.L5 c2.L5
  obtain ⟨r11, h11, c11, e11⟩ := mul_k c2.L5 c10.L5
  obtain ⟨r13, h13, c13, e13⟩ := mul_k hx.L5 tab1_can.L5
  obtain ⟨r14, h14, c14, e14⟩ := mul_k hy.L5 tab1_can.L5
  obtain ⟨r16, h16, c16, e16⟩ := mul_k c7.L5 tab4_can'.L5
  rw [tab1_k] at e13 e14
  rw [tab4_k] at e16
  have E3 : kv r3 = (1 + kv y) * (1 - kv y) := by rw [e3, a1.2, s1.2, one.2]
  have E5 : kv r5 = ((1 + kv y) * (1 - kv y)) * (kv x * kv y) ^ 2 := by rw [e5, E3, e4, e2]; generalize kv x * kv y = t; grind
  rw [one.2, E5] at sr
  have E10 : kv r10 = kv r6 ^ 2 * (((1 + kv y) * (1 - kv y)) * (kv x * kv y) ^ 2) := by
    rw [e10, e9, e8, e7, e2, E3]
    generalize (1 + kv y) * (1 - kv y) = u
    generalize kv x * kv y = t
    grind
  -- what is handed back, once the signs are known
  have U : ∀ (b1 b2 : Bool) (x1 y1 dn : List Int), field_Elem_Negative r11 = b1 → field_Select (group_pick b1) r14 x = x1 → field_Select (group_pick b1) r13 y = y1 → field_Select (group_pick b1) r16 r8 = dn → Can x1 → Can y1 → Can dn →
      (∀ r17, field_Elem_Mul x1 r10 = some r17 → field_Elem_Negative r17 = b2) →
      ∃ s, group_Point_Encode 300 (p1, p2, p3, p4) = some (field_Elem_Encode s) ∧ Can s ∧ (kv s).ev ∧ kv s ^ 2 = (kv dn * (1 - (bif b2 then - kv y1 else kv y1))) ^ 2 := by
    intro b1 b2 x1 y1 dn g1 g2 g3 g4 k1 k2 k3 g5
    obtain ⟨r17, h17, c17, e17⟩ := mul_k k1.L5 c10.L5
    have g6 := g5 r17 h17
    have ny := neg_k k2.L5
    have hsel : Can (field_Select (group_pick b2) (field_Elem_Neg y1) y1) ∧ kv (field_Select (group_pick b2) (field_Elem_Neg y1) y1) = (bif b2 then - kv y1 else kv y1) := by
      cases b2
      · rw [select_false ny.1.L5 k2]; exact ⟨k2, rfl⟩
      · rw [select_true ny.1 k2.L5]; exact ⟨ny.1, ny.2⟩
    have s2 := sub_k one.1.L5 hsel.1.L5
    obtain ⟨r18, h18, c18, e18⟩ := mul_k k3.L5 s2.1.L5
    obtain ⟨m1, m2, m3⟩ := abs_sr c18.L5
    refine ⟨_, ?_, m1, m2, by rw [m3, e18, s2.2, hsel.2, one.2]⟩
    unfold group_Point_Encode
    simp only [h1, h2, h3, h4, h5, h6, h7, h8, h9, h10, h11, const1', h13, h14, const4', h16, mo, g1, g2, g3, g4, h17, g6, h18]
  have hi := kI_sq
  by_cases hn : kv x * kv y = 0
  · -- the neutral element
    have z6 : kv r6 = 0 := (sr.z' K.one_ne (by rw [hn]; grind)).2
    have z10 : kv r10 = 0 := by rw [E10, z6]; grind
    have z8 : kv r8 = 0 := by rw [e8, z6]; grind
    have n11 : field_Elem_Negative r11 = false := neg_ev_f c11 (by rw [e11, z10, show kv r2 * 0 = 0 by grind]; exact K.ev_zero)
    obtain ⟨s, k1, k2, k3, k4⟩ := U false false x y r8 n11 (select_false c14.L5 hx) (select_false c13.L5 hy) (select_false c16.L5 c8) hx hy c8 (fun r17 h17 => by
      obtain ⟨r, j1, j2, j3⟩ := mul_k hx.L5 c10.L5
      rw [h17] at j1
      obtain rfl := Option.some.inj j1
      exact neg_ev_f j2 (by rw [j3, z10, show kv x * 0 = 0 by grind]; exact K.ev_zero))
    have s0 : kv s = 0 := K.sq_zero (by rw [k4, z8]; grind)
    exact ⟨s, 0, 1, k1, k2, by rw [s0]; exact stands_zero, rel_zero on hn⟩
  · have hu := u_ne on hn
    have R := enc_root hq hn hu sr
    have Z : kv r10 = 1 := by rw [E10, R]
    obtain ⟨x0, y0⟩ := K.ne_mul hn
    have e11' : kv r11 = kv x * kv y := by rw [e11, e2, Z]; grind
    have neg17 : ∀ x1, Can x1 → ∀ r17, field_Elem_Mul x1 r10 = some r17 → Can r17 ∧ kv r17 = kv x1 := by
      intro x1 k r17 h17
      obtain ⟨r, j1, j2, j3⟩ := mul_k k.L5 c10.L5
      rw [h17] at j1
      obtain rfl := Option.some.inj j1
      exact ⟨j2, by rw [j3, Z]; grind⟩
    -- a point of the four with the product not negative, and its factor
    have fin : ∀ (b1 : Bool) (x1 y1 dn : List Int), field_Elem_Negative r11 = b1 → field_Select (group_pick b1) r14 x = x1 → field_Select (group_pick b1) r13 y = y1 → field_Select (group_pick b1) r16 r8 = dn → Can x1 → Can y1 → Can dn →
        (kv x1 * kv y1).ev → kv x1 ≠ 0 → kv y1 ≠ 0 → kv y1 ^ 2 - kv x1 ^ 2 = 1 + kD * kv x1 ^ 2 * kv y1 ^ 2 → kv dn ^ 2 * ((1 + kv y1) * (1 - kv y1)) = 1 → Rel (kv x) (kv y) (kv x1) (kv y1) →
        ∃ s X Y, group_Point_Encode 300 (p1, p2, p3, p4) = some (field_Elem_Encode s) ∧ Can s ∧ Stands (kv s) X Y ∧ Rel (kv x) (kv y) X Y := by
      intro b1 x1 y1 dn g1 g2 g3 g4 k1 k2 k3 xyev x10 y10 on1 de rel
      by_cases hev : (kv x1).ev
      · obtain ⟨s, j1, j2, j3, j4⟩ := U b1 false x1 y1 dn g1 g2 g3 g4 k1 k2 k3 (fun r17 h17 => by
          obtain ⟨q1, q2⟩ := neg17 x1 k1 r17 h17
          exact neg_ev_f q1 (by rw [q2]; exact hev))
        exact ⟨s, kv x1, kv y1, j1, j2, stands_of (e := kv dn) j3 hev xyev x10 y10 on1 de j4, rel⟩
      · obtain ⟨s, j1, j2, j3, j4⟩ := U b1 true x1 y1 dn g1 g2 g3 g4 k1 k2 k3 (fun r17 h17 => by
          obtain ⟨q1, q2⟩ := neg17 x1 k1 r17 h17
          exact neg_ev_t q1 (by rw [q2]; exact hev))
        refine ⟨s, - kv x1, - kv y1, j1, j2, stands_of (e := kv dn) j3 ((K.ev_neg x10).2 hev) ?_ ?_ ?_ ?_ ?_ j4, rel.trans (rel_negs _ _)⟩
        · rw [k_mul_negs]; exact xyev
        · exact fun h => x10 (k_neg_zero h)
        · exact fun h => y10 (k_neg_zero h)
        · exact on_neg on1
        · rw [fin_neg]; exact de
    by_cases hneg : (kv x * kv y).ev
    · refine fin false x y r8 (neg_ev_f c11 (by rw [e11']; exact hneg)) (select_false c14.L5 hx) (select_false c13.L5 hy) (select_false c16.L5 c8) hx hy c8 hneg x0 y0 on ?_ (Rel.refl _ _)
      rw [e8, e2, fin_one, R]
    · have t11 := neg_ev_t c11 (by rw [e11']; exact hneg)
      refine fin true r14 r13 r16 t11 (select_true c14 hx.L5) (select_true c13 hy.L5) (select_true c16 c8.L5) c14 c13 c16 ?_ ?_ ?_ ?_ ?_ ?_
      · rw [e13, e14, turn_mul]
        exact (K.ev_neg hn).2 hneg
      · rw [e14]; exact K.mul_ne y0 (fun h => by rw [h] at hi; exact K.one_ne (by grind))
      · rw [e13]; exact K.mul_ne x0 (fun h => by rw [h] at hi; exact K.one_ne (by grind))
      · rw [e13, e14]; exact on_turn on
      · rw [e16, e7, E3, e13]
        exact den_turn (K.pow_ne hn 2) R (turn_id on) kM_sq
      · rw [e13, e14]; exact rel_turn _ _

end Go.Vx

/- Numbers, part M4: the group's texts in the field K: what bytes are mapped to, by the program. -/
set_option autoImplicit false
set_option linter.unusedSimpArgs false
namespace Go.Vx
open Go

theorem tab3_can' : Can (field_tab 3) := ⟨_, _, _, _, _, rfl, by decide, by decide, by decide, by decide, by decide, by decide⟩
theorem tab5_can' : Can (field_tab 5) := ⟨_, _, _, _, _, rfl, by decide, by decide, by decide, by decide, by decide, by decide⟩
theorem tab6_can' : Can (field_tab 6) := ⟨_, _, _, _, _, rfl, by decide, by decide, by decide, by decide, by decide, by decide⟩
theorem tab3_k : kv (field_tab 3) = kA := by unfold kv kA; rfl
theorem tab5_k : kv (field_tab 5) = 1 - kD ^ 2 := by
  have h : kv (field_tab 5) = 1 - kD * kD := by
    unfold kv kD
    rw [show (1 : K) = K.of 1 from rfl, ← K.of_mul, ← K.of_sub, K.of_eq]
    decide
  rw [h]; generalize kD = d; grind
theorem tab6_k : kv (field_tab 6) = (kD - 1) ^ 2 := by
  have h : kv (field_tab 6) = (kD - 1) * (kD - 1) := by
    unfold kv kD
    rw [show (1 : K) = K.of 1 from rfl, ← K.of_sub, ← K.of_mul, K.of_eq]
    decide
  rw [h]; generalize kD = d; grind
theorem const3' : field_Const 3 = some (field_tab 3) := rfl
theorem const5' : field_Const 5 = some (field_tab 5) := rfl
theorem const6' : field_Const 6 = some (field_tab 6) := rfl
theorem inv_k {a : List Int} (ha : L5 a) : ∃ r, field_Elem_Invert 300 a = some r ∧ Can r ∧ kv r = kv a ^ eI := by
  obtain ⟨r, h1, p1⟩ := invert_spec ha
  exact ⟨r, h1, p1.1, pow_k p1⟩
theorem k_sq (a : K) : a * a = a ^ 2 := by grind

/-- What the program maps a number to. -/
theorem phalf {a : List Int} (ha : L5 a) : ∃ x y t R V S ok s c, group_MapHalf 300 a = some (x, y, [1, 0, 0, 0, 0], t) ∧ Can x ∧ Can y ∧ Can t ∧ kv t = kv x * kv y ∧ HalfK (kv a) (kv x) (kv y) R V S ok s c := by
  have one := one_k a
  have n1 := neg_k one.1.L5
  obtain ⟨r3, h3, c3, e3⟩ := sq_k ha
  obtain ⟨r4, h4, c4, e4⟩ := mul_k tab1_can.L5 c3.L5
  have a4 := add_k c4.L5 one.1.L5
  obtain ⟨r6, h6, c6, e6⟩ := mul_k a4.1.L5 tab5_can'.L5
  obtain ⟨r7, h7, c7, e7⟩ := mul_k c4.L5 tab2_can.L5
  have s7 := sub_k n1.1.L5 c7.L5
  have a7 := add_k c4.L5 tab2_can.L5
  obtain ⟨r8, h8, c8, e8⟩ := mul_k s7.1.L5 a7.1.L5
  obtain ⟨r9, ok, h9, c9, sr⟩ := sqrt_sr c6.L5 c8.L5
  obtain ⟨r10, h10, c10, e10⟩ := mul_k c9.L5 ha
  obtain ⟨b1, b2, b3⟩ := abs_sr c10.L5
  have nb := neg_k b1.L5
  have s4 := sub_k c4.L5 one.1.L5
  -- the numbers
  have R : kv r4 = kI * kv a ^ 2 := by rw [e4, e3, tab1_k, k_sq]
  have V : kv r8 = (-1 - kv r4 * kD) * (kv r4 + kD) := by rw [e8, s7.2, a7.2, n1.2, one.2, e7, tab2_k]
  have U : kv r6 = (kv r4 + 1) * (1 - kD ^ 2) := by rw [e6, a4.2, one.2, tab5_k]
  rw [U] at sr
  have sel : ∃ s c, field_Select (group_pick ok) r9 (field_Elem_Neg (field_Elem_Abs r10)) = s ∧ Can s ∧ field_Select (group_pick ok) (field_Elem_Neg (field_Elem_One a)) r4 = c ∧ Can c ∧
      (ok = true → kv s = kv r9 ∧ kv c = -1) ∧ (ok = false → (∃ w : K, w.ev ∧ w ^ 2 = (kv r9 * kv a) ^ 2 ∧ kv s = -w) ∧ kv c = kv r4) := by
    cases ok with
    | true =>
      refine ⟨_, _, select_true c9 nb.1.L5, c9, select_true n1.1 c4.L5, n1.1, (fun _ => ⟨rfl, by rw [n1.2, one.2]⟩), (fun h => by cases h)⟩
    | false =>
      exact ⟨_, _, select_false c9.L5 nb.1, nb.1, select_false n1.1.L5 c4, c4, (fun h => by cases h), (fun _ => ⟨⟨_, b2, by rw [b3, e10], nb.2⟩, rfl⟩)⟩
  obtain ⟨s, c, g1, g2, g3, g4, g5, g6⟩ := sel
  obtain ⟨r11, h11, c11, e11⟩ := mul_k g4.L5 s4.1.L5
  obtain ⟨r13, h13, c13, e13⟩ := mul_k c11.L5 tab6_can'.L5
  obtain ⟨r14, h14, c14, e14⟩ := sq_k g2.L5
  have ss := add_k g2.L5 g2.L5
  obtain ⟨r15, h15, c15, e15⟩ := mul_k ss.1.L5 c8.L5
  have s13 := sub_k c13.L5 c8.L5
  obtain ⟨r17, h17, c17, e17⟩ := mul_k s13.1.L5 tab3_can'.L5
  obtain ⟨r18, h18, c18, e18⟩ := inv_k c17.L5
  obtain ⟨r19, h19, c19, e19⟩ := mul_k c15.L5 c18.L5
  have a14 := add_k one.1.L5 c14.L5
  obtain ⟨r20, h20, c20, e20⟩ := inv_k a14.1.L5
  have s14 := sub_k one.1.L5 c14.L5
  obtain ⟨r21, h21, c21, e21⟩ := mul_k s14.1.L5 c20.L5
  have X : kv r19 = 2 * kv s * kv r8 * ((kv c * (kv r4 - 1) * (kD - 1) ^ 2 - kv r8) * kA) ^ eI := by
    rw [e19, e18, e17, tab3_k, s13.2, e13, tab6_k, e11, s4.2, one.2, e15, ss.2]
    generalize ((kv c * (kv r4 - 1) * (kD - 1) ^ 2 - kv r8) * kA) ^ eI = w
    grind
  have Y : kv r21 = (1 - kv s ^ 2) * (1 + kv s ^ 2) ^ eI := by
    rw [e21, e20, a14.2, s14.2, one.2, e14, k_sq]
  have hk : HalfK (kv a) (kv r19) (kv r21) (kv r4) (kv r8) (kv r9) ok (kv s) (kv c) := ⟨R, V, sr, g5, g6, X, Y⟩
  obtain ⟨t, f1, f2, f3⟩ := from_affine c19 c21 hk.on.1
  refine ⟨r19, r21, t, _, _, _, _, _, _, ?_, c19, c21, f2, f3, hk⟩
  unfold group_MapHalf
  simp only [const1', const2', const3', const5', const6', h3, h4, h6, h7, h8, h9, h10, g1, g3, h11, h13, h14, h15, h17, h18, h19, h20, h21, f1, mo]

end Go.Vx

/- Numbers, part M6: the curve's points in the field K: what the program's points stand for; sums. -/
set_option autoImplicit false
set_option linter.unusedSimpArgs false
namespace Go.Vx
open Go

abbrev P4 := List Int × List Int × List Int × List Int
abbrev o5 : List Int := [1, 0, 0, 0, 0]
abbrev z5 : List Int := [0, 0, 0, 0, 0]
theorem z5_can : Can z5 := ⟨_, _, _, _, _, rfl, by decide, by decide, by decide, by decide, by decide, by decide⟩
theorem z5_k : kv z5 = 0 := rfl
theorem o5_k : kv o5 = 1 := rfl
theorem can_zero {a : List Int} (h : Can a) : a = z5 ↔ kv a = 0 := ⟨fun e => by rw [e]; rfl, fun e => can_k h z5_can e⟩

/-- The coordinates (X, Y) are those of x/z, y/z; t is x y / z. -/
structure Rep0 (p : P4) (X Y : K) : Prop where
  cx : Can p.1
  cy : Can p.2.1
  cz : Can p.2.2.1
  ct : Can p.2.2.2
  z : kv p.2.2.1 ≠ 0
  x : kv p.1 = X * kv p.2.2.1
  y : kv p.2.1 = Y * kv p.2.2.1
  t : kv p.2.2.2 = X * Y * kv p.2.2.1
/-- The point p stands for the coordinates (X, Y). -/
def Rep (p : P4) (X Y : K) : Prop := Rep0 p X Y ∨ (p.2.2.1 = z5 ∧ X = 0 ∧ Y = 1)

theorem Rep.whole {p : P4} {X Y : K} (h : Rep p X Y) : Rep0 (curve_place_whole p) X Y := by
  unfold curve_place_whole
  rcases h with h | ⟨h, rfl, rfl⟩
  · have : decide (p.2.2.1 = [0, 0, 0, 0, 0]) = false := decide_eq_false fun e => h.z (by rw [e]; rfl)
    rw [this]
    exact h
  · rw [h]
    exact ⟨z5_can, one_can, one_can, z5_can, K.one_ne, by show (0 : K) = 0 * 1; grind, by show (1 : K) = 1 * 1; grind, by show (0 : K) = 0 * 1 * 1; grind⟩
theorem rep_one {x y t : List Int} (hx : Can x) (hy : Can y) (ht : Can t) (h : kv t = kv x * kv y) : Rep (x, y, o5, t) (kv x) (kv y) :=
  .inl ⟨hx, hy, one_can, ht, K.one_ne, by show _ = _ * (1 : K); grind, by show _ = _ * (1 : K); grind, by show _ = _ * (1 : K); rw [h]; grind⟩
theorem rep_zero : Rep (z5, z5, z5, z5) 0 1 := .inr ⟨rfl, rfl, rfl⟩

theorem Rep.affine {p : P4} {X Y : K} (h : Rep p X Y) : ∃ x y, curve_Point_Affine 300 p = some (x, y) ∧ Can x ∧ Can y ∧ kv x = X ∧ kv y = Y := by
  have w := h.whole
  unfold curve_Point_Affine
  generalize curve_place_whole (p.1, p.2.1, p.2.2.1, p.2.2.2) = q at *
  obtain ⟨r1, h1, c1, e1⟩ := inv_k w.cz.L5
  obtain ⟨r2, h2, c2, e2⟩ := mul_k w.cx.L5 c1.L5
  obtain ⟨r3, h3, c3, e3⟩ := mul_k w.cy.L5 c1.L5
  have hi := k_inv w.z
  have hx := w.x
  have hy := w.y
  refine ⟨r2, r3, by simp only [h1, h2, h3, mo], c2, c3, ?_, ?_⟩
  · rw [e2, e1, hx]; generalize kv q.2.2.1 ^ eI = i at *; grind
  · rw [e3, e1, hy]; generalize kv q.2.2.1 ^ eI = i at *; grind

theorem d2_can : Can [1859910466990425, 932731440258426, 1072319116312658, 1815898335770999, 633789495995903] := ⟨_, _, _, _, _, rfl, by decide, by decide, by decide, by decide, by decide, by decide⟩
theorem d2_k : kv [1859910466990425, 932731440258426, 1072319116312658, 1815898335770999, 633789495995903] = kD + kD := by
  unfold kv kD
  rw [← K.of_add, K.of_eq]
  decide

theorem made_k {a b c d : List Int} (ha : Can a) (hb : Can b) (hc : Can c) (hd : Can d) : ∃ x y z t, curve_made a b c d = some (x, y, z, t) ∧ Can x ∧ Can y ∧ Can z ∧ Can t ∧ kv x = kv a * kv b ∧ kv y = kv c * kv d ∧ kv z = kv b * kv c ∧ kv t = kv a * kv d := by
  obtain ⟨r1, h1, c1, e1⟩ := mul_k ha.L5 hb.L5
  obtain ⟨r2, h2, c2, e2⟩ := mul_k hc.L5 hd.L5
  obtain ⟨r3, h3, c3, e3⟩ := mul_k hb.L5 hc.L5
  obtain ⟨r4, h4, c4, e4⟩ := mul_k ha.L5 hd.L5
  exact ⟨r1, r2, r3, r4, by unfold curve_made; simp only [h1, h2, h3, h4, mo], c1, c2, c3, c4, e1, e2, e3, e4⟩

theorem add_fin {a b x y z w d X Y : K} (hX : X * (1 + d * a * x * b * y) = a * y + b * x) (hY : Y * (1 - d * a * x * b * y) = b * y + a * x) :
    ∃ E F G H : K, E = (b * z + a * z) * (y * w + x * w) - (b * z - a * z) * (y * w - x * w) ∧ H = (b * z + a * z) * (y * w + x * w) + (b * z - a * z) * (y * w - x * w) ∧ F = (z * w + z * w) - (a * b * z) * (d + d) * (x * y * w) ∧ G = (z * w + z * w) + (a * b * z) * (d + d) * (x * y * w) ∧
      F = 2 * (z * w) * (1 - d * a * x * b * y) ∧ G = 2 * (z * w) * (1 + d * a * x * b * y) ∧ E * F = X * (F * G) ∧ G * H = Y * (F * G) ∧ E * H = X * Y * (F * G) := by
  have hE : (b * z + a * z) * (y * w + x * w) - (b * z - a * z) * (y * w - x * w) = X * (2 * (z * w) * (1 + d * a * x * b * y)) := by
    rw [show X * (2 * (z * w) * (1 + d * a * x * b * y)) = 2 * (z * w) * (X * (1 + d * a * x * b * y)) by grind, hX]; grind
  have hH : (b * z + a * z) * (y * w + x * w) + (b * z - a * z) * (y * w - x * w) = Y * (2 * (z * w) * (1 - d * a * x * b * y)) := by
    rw [show Y * (2 * (z * w) * (1 - d * a * x * b * y)) = 2 * (z * w) * (Y * (1 - d * a * x * b * y)) by grind, hY]; grind
  have hF : (z * w + z * w) - (a * b * z) * (d + d) * (x * y * w) = 2 * (z * w) * (1 - d * a * x * b * y) := by clear hX hY hE hH; grind
  have hG : (z * w + z * w) + (a * b * z) * (d + d) * (x * y * w) = 2 * (z * w) * (1 + d * a * x * b * y) := by clear hX hY hE hH; grind
  refine ⟨_, _, _, _, rfl, rfl, rfl, rfl, hF, hG, ?_, ?_, ?_⟩
  · rw [hE, hF, hG]; generalize 1 - d * a * x * b * y = u; generalize 1 + d * a * x * b * y = v; clear hX hY hE hH hF hG; grind
  · rw [hH, hF, hG]; generalize 1 - d * a * x * b * y = u; generalize 1 + d * a * x * b * y = v; clear hX hY hE hH hF hG; grind
  · rw [hE, hH, hF, hG]; generalize 1 - d * a * x * b * y = u; generalize 1 + d * a * x * b * y = v; clear hX hY hE hH hF hG; grind

/-- The program's sum. -/
theorem Rep.add {p q : P4} {a b x y : K} (hp : Rep p a b) (hq : Rep q x y) (h1 : On a b) (h2 : On x y) : ∃ r, curve_Point_Add p q = some r ∧ Rep r (ax a b x y) (ay a b x y) := by
  have u := hp.whole
  have v := hq.whole
  unfold curve_Point_Add
  generalize curve_place_whole (p.1, p.2.1, p.2.2.1, p.2.2.2) = p at *
  generalize curve_place_whole (q.1, q.2.1, q.2.2.1, q.2.2.2) = q at *
  have s1 := sub_k u.cy.L5 u.cx.L5
  have s2 := sub_k v.cy.L5 v.cx.L5
  have a1 := add_k u.cy.L5 u.cx.L5
  have a2 := add_k v.cy.L5 v.cx.L5
  obtain ⟨r1, k1, c1, e1⟩ := mul_k s1.1.L5 s2.1.L5
  obtain ⟨r2, k2, c2, e2⟩ := mul_k a1.1.L5 a2.1.L5
  obtain ⟨r3, k3, c3, e3⟩ := mul_k u.ct.L5 d2_can.L5
  obtain ⟨r4, k4, c4, e4⟩ := mul_k c3.L5 v.ct.L5
  obtain ⟨r5, k5, c5, e5⟩ := mul_k u.cz.L5 v.cz.L5
  have f1 := sub_k c2.L5 c1.L5
  have f2 := add_k c5.L5 c5.L5
  have f3 := sub_k f2.1.L5 c4.L5
  have f4 := add_k f2.1.L5 c4.L5
  have f5 := add_k c2.L5 c1.L5
  obtain ⟨X, Y, Z, T, k6, g1, g2, g3, g4, g5, g6, g7, g8⟩ := made_k f1.1 f3.1 f4.1 f5.1
  refine ⟨(X, Y, Z, T), by simp only [k1, k2, k3, k4, k5, k6, mo], .inl ?_⟩
  obtain ⟨E, F, G, H, m1, m2, m3, m4, m5, m6, m7, m8, m9⟩ := add_fin (z := kv p.2.2.1) (w := kv q.2.2.1) (ax_mul h1 h2) (ay_mul h1 h2)
  have eE : kv (field_Elem_Sub r2 r1) = E := by rw [f1.2, e2, e1, a1.2, a2.2, s1.2, s2.2, u.x, u.y, v.x, v.y, m1]
  have eH : kv (field_Elem_Add r2 r1) = H := by rw [f5.2, e2, e1, a1.2, a2.2, s1.2, s2.2, u.x, u.y, v.x, v.y, m2]
  have eF : kv (field_Elem_Sub (field_Elem_Add r5 r5) r4) = F := by rw [f3.2, f2.2, e5, e4, e3, d2_k, u.t, v.t, m3]
  have eG : kv (field_Elem_Add (field_Elem_Add r5 r5) r4) = G := by rw [f4.2, f2.2, e5, e4, e3, d2_k, u.t, v.t, m4]
  rw [eE, eF] at g5
  rw [eG, eH] at g6
  rw [eF, eG] at g7
  rw [eE, eH] at g8
  obtain ⟨w1, w2⟩ := add_whole h1 h2
  have zz : 2 * (kv p.2.2.1 * kv q.2.2.1) ≠ 0 := K.mul_ne K.two_ne (K.mul_ne u.z v.z)
  refine ⟨g1, g2, g3, g4, ?_, ?_, ?_, ?_⟩
  · show kv Z ≠ 0
    rw [g7, m5, m6]; exact K.mul_ne (K.mul_ne zz w2) (K.mul_ne zz w1)
  · show kv X = _ * kv Z
    rw [g5, g7]; exact m7
  · show kv Y = _ * kv Z
    rw [g6, g7]; exact m8
  · show kv T = _ * kv Z
    rw [g8, g7]; exact m9

end Go.Vx

/- Numbers, part M10: the curve's functions in the field K: opposite, double, same, multiples, 'live'. -/
set_option autoImplicit false
set_option linter.unusedSimpArgs false
namespace Go.Vx
open Go

/-- The point p stands for the pair q. -/
abbrev RepP (p : P4) (q : KP) : Prop := Rep p q.1 q.2

theorem repP_add {p q : P4} {a b : KP} (h1 : RepP p a) (h2 : RepP q b) (o1 : OnP a) (o2 : OnP b) : ∃ r, curve_Point_Add p q = some r ∧ RepP r (kadd a b) := Rep.add h1 h2 o1 o2

theorem repP_neg {p : P4} {a : KP} (h : RepP p a) : RepP (curve_Point_Neg p) (kneg a) := by
  have w := h.whole
  unfold curve_Point_Neg
  generalize curve_place_whole (p.1, p.2.1, p.2.2.1, p.2.2.2) = q at *
  have n1 := neg_k w.cx.L5
  have n2 := neg_k w.ct.L5
  refine .inl ⟨n1.1, w.cy, w.cz, n2.1, w.z, ?_, w.y, ?_⟩
  · show kv (field_Elem_Neg q.1) = -a.1 * _
    rw [n1.2, w.x]; grind
  · show kv (field_Elem_Neg q.2.2.2) = -a.1 * a.2 * _
    rw [n2.2, w.t]; grind
theorem repP_sub {p q : P4} {a b : KP} (h1 : RepP p a) (h2 : RepP q b) (o1 : OnP a) (o2 : OnP b) : ∃ r, curve_Point_Sub p q = some r ∧ RepP r (kadd a (kneg b)) := by
  obtain ⟨r, k1, k2⟩ := repP_add h1 (repP_neg h2) o1 (kneg_on o2)
  refine ⟨r, ?_, k2⟩
  unfold curve_Point_Sub
  have : curve_Point_Add (p.1, p.2.1, p.2.2.1, p.2.2.2) ((curve_Point_Neg (q.1, q.2.1, q.2.2.1, q.2.2.2)).1, (curve_Point_Neg (q.1, q.2.1, q.2.2.1, q.2.2.2)).2.1, (curve_Point_Neg (q.1, q.2.1, q.2.2.1, q.2.2.2)).2.2.1, (curve_Point_Neg (q.1, q.2.1, q.2.2.1, q.2.2.2)).2.2.2) = some r := k1
  simp only [this, mo]

theorem dbl_fin {x y z d X Y : K} (on : y ^ 2 - x ^ 2 = 1 + d * x ^ 2 * y ^ 2) (hX : X * (1 + d * x * x * y * y) = x * y + y * x) (hY : Y * (1 - d * x * x * y * y) = y * y + x * x) :
    ∃ E F G H : K, E = (x * z + y * z) * (x * z + y * z) - x * z * (x * z) - y * z * (y * z) ∧ H = -(x * z * (x * z)) - y * z * (y * z) ∧ F = y * z * (y * z) - x * z * (x * z) - z * z - z * z ∧ G = y * z * (y * z) - x * z * (x * z) ∧
      F = -(z * z) * (1 - d * x * x * y * y) ∧ G = z * z * (1 + d * x * x * y * y) ∧ E * F = X * (F * G) ∧ G * H = Y * (F * G) ∧ E * H = X * Y * (F * G) := by
  have hE : (x * z + y * z) * (x * z + y * z) - x * z * (x * z) - y * z * (y * z) = X * (z * z * (1 + d * x * x * y * y)) := by
    rw [show X * (z * z * (1 + d * x * x * y * y)) = z * z * (X * (1 + d * x * x * y * y)) by grind, hX]; grind
  have hH : -(x * z * (x * z)) - y * z * (y * z) = Y * (-(z * z) * (1 - d * x * x * y * y)) := by
    rw [show Y * (-(z * z) * (1 - d * x * x * y * y)) = -(z * z) * (Y * (1 - d * x * x * y * y)) by grind, hY]; grind
  have hG : y * z * (y * z) - x * z * (x * z) = z * z * (1 + d * x * x * y * y) := by
    rw [show y * z * (y * z) - x * z * (x * z) = z * z * (y ^ 2 - x ^ 2) by grind, on]; grind
  have hF : y * z * (y * z) - x * z * (x * z) - z * z - z * z = -(z * z) * (1 - d * x * x * y * y) := by rw [hG]; grind
  refine ⟨_, _, _, _, rfl, rfl, rfl, rfl, hF, hG, ?_, ?_, ?_⟩
  · rw [hE, hF, hG]; generalize 1 - d * x * x * y * y = u; generalize 1 + d * x * x * y * y = v; clear hX hY hE hH hF hG on; grind
  · rw [hH, hF, hG]; generalize 1 - d * x * x * y * y = u; generalize 1 + d * x * x * y * y = v; clear hX hY hE hH hF hG on; grind
  · rw [hE, hH, hF, hG]; generalize 1 - d * x * x * y * y = u; generalize 1 + d * x * x * y * y = v; clear hX hY hE hH hF hG on; grind

theorem repP_dbl {p : P4} {a : KP} (h : RepP p a) (o : OnP a) : ∃ r, curve_Point_Double p = some r ∧ RepP r (kdbl a) := by
  have w := h.whole
  unfold curve_Point_Double
  generalize curve_place_whole (p.1, p.2.1, p.2.2.1, p.2.2.2) = q at *
  obtain ⟨r1, k1, c1, e1⟩ := sq_k w.cx.L5
  obtain ⟨r2, k2, c2, e2⟩ := sq_k w.cy.L5
  obtain ⟨r3, k3, c3, e3⟩ := sq_k w.cz.L5
  have a1 := add_k w.cx.L5 w.cy.L5
  obtain ⟨r4, k4, c4, e4⟩ := sq_k a1.1.L5
  have s1 := sub_k c4.L5 c1.L5
  have s2 := sub_k s1.1.L5 c2.L5
  have s3 := sub_k c2.L5 c1.L5
  have s4 := sub_k s3.1.L5 c3.L5
  have s5 := sub_k s4.1.L5 c3.L5
  have n1 := neg_k c1.L5
  have s6 := sub_k n1.1.L5 c2.L5
  obtain ⟨X, Y, Z, T, k6, g1, g2, g3, g4, g5, g6, g7, g8⟩ := made_k s2.1 s5.1 s3.1 s6.1
  refine ⟨(X, Y, Z, T), by simp only [k1, k2, k3, k4, k6, mo], .inl ?_⟩
  obtain ⟨E, F, G, H, m1, m2, m3, m4, m5, m6, m7, m8, m9⟩ := dbl_fin (z := kv q.2.2.1) o (ax_mul o o) (ay_mul o o)
  have eE : kv (field_Elem_Sub (field_Elem_Sub r4 r1) r2) = E := by rw [s2.2, s1.2, e4, e1, e2, a1.2, w.x, w.y, m1]
  have eF : kv (field_Elem_Sub (field_Elem_Sub (field_Elem_Sub r2 r1) r3) r3) = F := by rw [s5.2, s4.2, s3.2, e3, e2, e1, w.x, w.y, m3]
  have eG : kv (field_Elem_Sub r2 r1) = G := by rw [s3.2, e2, e1, w.x, w.y, m4]
  have eH : kv (field_Elem_Sub (field_Elem_Neg r1) r2) = H := by rw [s6.2, n1.2, e1, e2, w.x, w.y, m2]
  rw [eE, eF] at g5
  rw [eG, eH] at g6
  rw [eF, eG] at g7
  rw [eE, eH] at g8
  obtain ⟨w1, w2⟩ := add_whole o o
  have zz : kv q.2.2.1 * kv q.2.2.1 ≠ 0 := K.mul_ne w.z w.z
  have zn : -(kv q.2.2.1 * kv q.2.2.1) ≠ 0 := fun h => zz (by rw [show kv q.2.2.1 * kv q.2.2.1 = - -(kv q.2.2.1 * kv q.2.2.1) by grind, h]; grind)
  refine ⟨g1, g2, g3, g4, ?_, ?_, ?_, ?_⟩
  · show kv Z ≠ 0
    rw [g7, m5, m6]; exact K.mul_ne (K.mul_ne zn w2) (K.mul_ne zz w1)
  · show kv X = _ * kv Z
    rw [g5, g7]; exact m7
  · show kv Y = _ * kv Z
    rw [g6, g7]; exact m8
  · show kv T = _ * kv Z
    rw [g8, g7]; exact m9

theorem same_fin {X Y z w : K} (hz : z ≠ 0) (hw : w ≠ 0) : X * z * w = Y * w * z ↔ X = Y := by
  constructor
  · intro h
    refine K.cancel (K.mul_ne hz hw) ?_
    rw [show z * w * X = X * z * w by grind, h]; grind
  · rintro rfl; grind
/-- The program's Same. -/
theorem repP_same {p q : P4} {a b : KP} (h1 : RepP p a) (h2 : RepP q b) : ∃ c, curve_Point_Same p q = some c ∧ (c = true ↔ a = b) := by
  have u := h1.whole
  have v := h2.whole
  unfold curve_Point_Same
  generalize curve_place_whole (p.1, p.2.1, p.2.2.1, p.2.2.2) = p at *
  generalize curve_place_whole (q.1, q.2.1, q.2.2.1, q.2.2.2) = q at *
  obtain ⟨r1, k1, c1, e1⟩ := mul_k u.cx.L5 v.cz.L5
  obtain ⟨r2, k2, c2, e2⟩ := mul_k v.cx.L5 u.cz.L5
  obtain ⟨r3, k3, c3, e3⟩ := mul_k u.cy.L5 v.cz.L5
  obtain ⟨r4, k4, c4, e4⟩ := mul_k v.cy.L5 u.cz.L5
  rw [u.x] at e1
  rw [v.x] at e2
  rw [u.y] at e3
  rw [v.y] at e4
  have x : r1 = r2 ↔ a.1 = b.1 := by
    rw [← same_fin u.z v.z, ← e1, ← e2]
    exact ⟨fun h => by rw [h], fun h => can_k c1 c2 h⟩
  have y : r3 = r4 ↔ a.2 = b.2 := by
    rw [← same_fin u.z v.z, ← e3, ← e4]
    exact ⟨fun h => by rw [h], fun h => can_k c3 c4 h⟩
  by_cases hx : r1 = r2
  · refine ⟨decide (r3 = r4), by simp only [k1, k2, k3, k4, mo, decide_eq_true hx, cond_true], ?_⟩
    rw [decide_eq_true_eq, y]
    exact ⟨fun h => Prod.ext (x.1 hx) h, fun h => by rw [h]⟩
  · refine ⟨false, by simp only [k1, k2, mo, decide_eq_false hx, cond_false], ?_⟩
    constructor
    · intro h; cases h
    · intro h; exact absurd (x.2 (by rw [h])) hx

/- Multiples. -/
def nib (b : List Int) (i : Nat) : Nat := (List.getD b (i / 2) 0).toNat / 16 ^ (i % 2) % 16
/-- The digits below place n, the highest first. -/
def digs (b : List Int) : Nat → List Nat
  | 0 => []
  | n + 1 => nib b n :: digs b n

theorem b_nib {y : Int} (h : 0 ≤ y ∧ y ≤ 255) (r : Nat) (hr : r < 2) : ibin .and .u8 (ibin .shr .u8 y ((4 * r : Nat) : Int)) 15 = ((y.toNat / 16 ^ r % 16 : Nat) : Int) := by
  have hp : (2 : Nat) ^ (4 * r) = 16 ^ r := by rw [Nat.pow_mul]
  have e1 : ibin .shr .u8 y ((4 * r : Nat) : Int) = ((y.toNat / 16 ^ r : Nat) : Int) := by
    show y.fdiv (2 ^ (min ((4 * r : Nat) : Int).toNat 8)) = _
    rw [Int.toNat_natCast, Nat.min_eq_left (by omega), Int.fdiv_eq_ediv_of_nonneg _ (Int.le_of_lt (Int.pow_pos (by decide)))]
    have : y = (y.toNat : Int) := by omega
    conv => lhs; rw [this]
    rw [← hp, Int.natCast_ediv, Int.natCast_pow]; rfl
  rw [e1]
  generalize hz : y.toNat / 16 ^ r = z
  have hz2 : z ≤ 255 := by
    rw [← hz]
    exact Nat.le_trans (Nat.div_le_self _ _) (by omega)
  show IntKind.wrap .u8 ((BitVec.ofInt 8 (z : Int) &&& BitVec.ofInt 8 15).toNat : Int) = _
  have : (BitVec.ofInt 8 (z : Int) &&& BitVec.ofInt 8 15).toNat = z % 16 := by
    rw [BitVec.toNat_and, BitVec.toNat_ofInt, show (BitVec.ofInt 8 15).toNat = 2 ^ 4 - 1 from rfl, Nat.and_two_pow_sub_one_eq_mod]
    omega
  rw [this, wrap8]
  omega

theorem rnd_zero (p : KP) : rnd p kzero 0 = kzero := by
  unfold rnd kdbl nmul
  rw [kadd_zero, kadd_zero, kadd_zero, kadd_zero, kadd_zero]
theorem fold_low (p : KP) (b : List Int) : (n m : Nat) → (∀ j, n ≤ j → j < m → nib b j = 0) → n ≤ m → (digs b m).foldl (rnd p) kzero = (digs b n).foldl (rnd p) kzero
  | n, 0, _, h => by
    obtain rfl : n = 0 := by omega
    rfl
  | n, m + 1, hz, h => by
    rcases Nat.lt_or_ge m n with hm | hm
    · obtain rfl : n = m + 1 := by omega
      rfl
    · rw [← fold_low p b n m (fun j h1 h2 => hz j h1 (by omega)) hm, digs, List.foldl_cons, hz m hm (by omega), rnd_zero]

abbrev T16 (t : Nat → P4) : P4 × P4 × P4 × P4 × P4 × P4 × P4 × P4 × P4 × P4 × P4 × P4 × P4 × P4 × P4 × P4 := (t 0, t 1, t 2, t 3, t 4, t 5, t 6, t 7, t 8, t 9, t 10, t 11, t 12, t 13, t 14, t 15)
theorem sel16 {Q : P4 → Nat → Prop} {t : Nat → P4} (ht : ∀ i, i < 16 → Q (t i) i) (d : Nat) (hd : d < 16) :
    Q (List.getD [(t 0).1, (t 1).1, (t 2).1, (t 3).1, (t 4).1, (t 5).1, (t 6).1, (t 7).1, (t 8).1, (t 9).1, (t 10).1, (t 11).1, (t 12).1, (t 13).1, (t 14).1, (t 15).1] d [],
      List.getD [(t 0).2.1, (t 1).2.1, (t 2).2.1, (t 3).2.1, (t 4).2.1, (t 5).2.1, (t 6).2.1, (t 7).2.1, (t 8).2.1, (t 9).2.1, (t 10).2.1, (t 11).2.1, (t 12).2.1, (t 13).2.1, (t 14).2.1, (t 15).2.1] d [],
      List.getD [(t 0).2.2.1, (t 1).2.2.1, (t 2).2.2.1, (t 3).2.2.1, (t 4).2.2.1, (t 5).2.2.1, (t 6).2.2.1, (t 7).2.2.1, (t 8).2.2.1, (t 9).2.2.1, (t 10).2.2.1, (t 11).2.2.1, (t 12).2.2.1, (t 13).2.2.1, (t 14).2.2.1, (t 15).2.2.1] d [],
      List.getD [(t 0).2.2.2, (t 1).2.2.2, (t 2).2.2.2, (t 3).2.2.2, (t 4).2.2.2, (t 5).2.2.2, (t 6).2.2.2, (t 7).2.2.2, (t 8).2.2.2, (t 9).2.2.2, (t 10).2.2.2, (t 11).2.2.2, (t 12).2.2.2, (t 13).2.2.2, (t 14).2.2.2, (t 15).2.2.2] d []) d := by
  match d, hd with
  | 0, _ => exact ht 0 (by decide)
  | 1, _ => exact ht 1 (by decide)
  | 2, _ => exact ht 2 (by decide)
  | 3, _ => exact ht 3 (by decide)
  | 4, _ => exact ht 4 (by decide)
  | 5, _ => exact ht 5 (by decide)
  | 6, _ => exact ht 6 (by decide)
  | 7, _ => exact ht 7 (by decide)
  | 8, _ => exact ht 8 (by decide)
  | 9, _ => exact ht 9 (by decide)
  | 10, _ => exact ht 10 (by decide)
  | 11, _ => exact ht 11 (by decide)
  | 12, _ => exact ht 12 (by decide)
  | 13, _ => exact ht 13 (by decide)
  | 14, _ => exact ht 14 (by decide)
  | 15, _ => exact ht 15 (by decide)
  | n + 16, h => exact absurd h (by omega)

theorem dec_rng {n : Nat} {i : Nat} (h : i < n) : decide (0 ≤ (i : Int) ∧ (i : Int) < ((n : Nat) : Int)) = true := decide_eq_true ⟨by omega, by omega⟩
theorem dec_nn (i : Nat) : decide (0 ≤ (i : Int)) = true := decide_eq_true (by omega)
theorem geq_zero (i : Nat) : icmp .geq (i : Int) 0 = true := by
  have h : (i : Int) ≥ 0 := by omega
  simp [icmp]
theorem byte_at {b : List Int} (hb : L32 b) (i : Nat) : 0 ≤ List.getD b i 0 ∧ List.getD b i 0 ≤ 255 := by
  rw [List.getD_eq_getElem?_getD]
  rcases Nat.lt_or_ge i b.length with h | h
  · rw [List.getElem?_eq_getElem h]
    exact hb.2 _ (List.getElem_mem h)
  · rw [List.getElem?_eq_none h]; exact ⟨by decide, by decide⟩

theorem l6_step (N : Nat) {t : Nat → P4} {p : KP} (hp : OnP p) (ht : ∀ i, i < 16 → RepP (t i) (nmul p i)) {b : List Int} (hb : L32 b) {acc : P4} {q : KP} (ha : RepP acc q) (hq : OnP q) {i : Nat} (hi : i < 64) :
    ∃ r, curve_Point_TimesBytes_l6 N (((), (), (), (), (i : Int)), (b, (), T16 t, acc)) = some (.inl (((), (), (), (), (i : Int) - 1), (b, (), T16 t, r))) ∧ RepP r (rnd p q (nib b i)) := by
  obtain ⟨r1, k1, h1⟩ := repP_dbl ha hq
  have o1 := kdbl_on hq
  obtain ⟨r2, k2, h2⟩ := repP_dbl h1 o1
  have o2 := kdbl_on o1
  obtain ⟨r3, k3, h3⟩ := repP_dbl h2 o2
  have o3 := kdbl_on o2
  obtain ⟨r4, k4, h4⟩ := repP_dbl h3 o3
  have o4 := kdbl_on o3
  have hlt : nib b i < 16 := Nat.mod_lt _ (by decide)
  obtain ⟨r5, k5, h5⟩ := repP_add h4 (sel16 (Q := fun x d => RepP x (nmul p d)) ht (nib b i) hlt) o4 (nmul_on hp _)
  have e1 : ibin .quo .i64 (i : Int) 2 = ((i / 2 : Nat) : Int) := Ref.i_quo 2 (by omega)
  have e2 : ibin .rem .i64 (i : Int) 2 = ((i % 2 : Nat) : Int) := Ref.i_rem 2
  have e3 : ibin .mul .i64 4 ((i % 2 : Nat) : Int) = ((4 * (i % 2) : Nat) : Int) := by rw [Ref.i_mul (by omega) (by omega)]; omega
  have e4 : ibin .and .u8 (ibin .shr .u8 (List.getD b (i / 2) 0) ((4 * (i % 2) : Nat) : Int)) 15 = ((nib b i : Nat) : Int) := b_nib (byte_at hb _) _ (Nat.mod_lt _ (by decide))
  have e5 : ibin .sub .i64 (i : Int) 1 = (i : Int) - 1 := Ref.i_sub (by omega) (by omega)
  refine ⟨r5, ?_, h5⟩
  obtain ⟨a1, a2, a3, a4⟩ := acc
  obtain ⟨b1, b2, b3, b4⟩ := r1
  obtain ⟨c1, c2, c3, c4⟩ := r2
  obtain ⟨d1, d2, d3, d4⟩ := r3
  obtain ⟨f1, f2, f3, f4⟩ := r4
  unfold curve_Point_TimesBytes_l6
  simp only [geq_zero, cond_true, k1, k2, k3, k4, mo, e1, dec_rng (show i / 2 < 32 by omega), e2, e3, dec_nn, Int.toNat_natCast, e4, dec_rng hlt, k5, e5]

theorem l6_loop (N : Nat) {t : Nat → P4} {p : KP} (hp : OnP p) (ht : ∀ i, i < 16 → RepP (t i) (nmul p i)) {b : List Int} (hb : L32 b) : (k : Nat) → k ≤ 64 → (fuel : Nat) → k < fuel → (acc : P4) → (q : KP) → RepP acc q → OnP q →
    ∃ r, loopF (curve_Point_TimesBytes_l6 N) fuel (((), (), (), (), (k : Int) - 1), (b, (), T16 t, acc)) = some (.inl (((), ()), ((), r))) ∧ RepP r ((digs b k).foldl (rnd p) q)
  | 0, _, fuel + 1, _, acc, q, ha, hq => by
    refine ⟨acc, ?_, ha⟩
    rw [loopF_succ]
    have : icmp .geq (((0 : Nat) : Int) - 1) 0 = false := by decide
    unfold curve_Point_TimesBytes_l6
    simp only [this, cond_false, mo]
  | k + 1, hk, fuel + 1, hf, acc, q, ha, hq => by
    obtain ⟨r, h1, h2⟩ := l6_step N hp ht hb ha hq (show k < 64 by omega)
    obtain ⟨r', g1, g2⟩ := l6_loop N hp ht hb k (by omega) fuel (by omega) r _ h2 (rnd_on hp hq _)
    refine ⟨r', ?_, g2⟩
    rw [loopF_succ, show (((k + 1 : Nat) : Int) - 1) = (k : Int) by omega, h1]
    exact g1

theorem nib_bool (n : Nat) : icmp .neq (n : Int) 0 = !decide (n = 0) := by
  by_cases h : n = 0
  · subst h; rfl
  · have h' : (n : Int) ≠ 0 := by omega
    simp only [icmp, h, h', decide_false]
    simp [h]
theorem l0_loop (N : Nat) {b : List Int} (hb : L32 b) (x y z u : List Int) : (k : Nat) → k ≤ 32 → (fuel : Nat) → k < fuel →
    ∃ n : Nat, n ≤ 2 * k ∧ loopF (curve_Point_TimesBytes_l0 N) fuel (((), (), (), (), (k : Int) - 1), ((x, y, z, u), b, ())) = some (.inl (((), (), (), (n : Int) - 1), ((x, y, z, u), b, ()))) ∧ ∀ j, n ≤ j → j < 2 * k → nib b j = 0
  | 0, _, fuel + 1, _ => by
    refine ⟨0, by omega, ?_, fun j h1 h2 => by omega⟩
    rw [loopF_succ]
    have : icmp .geq (((0 : Nat) : Int) - 1) 0 = false := by decide
    unfold curve_Point_TimesBytes_l0
    simp only [this, cond_false, mo]
    rfl
  | k + 1, hk, fuel + 1, hf => by
    have e0 : (((k + 1 : Nat) : Int) - 1) = (k : Int) := by omega
    have n1 : ibin .and .u8 (ibin .shr .u8 (List.getD b k 0) 4) 15 = ((nib b (2 * k + 1) : Nat) : Int) := by
      have := b_nib (byte_at hb k) 1 (by decide)
      rw [show ((4 * 1 : Nat) : Int) = 4 from rfl] at this
      rw [this]; unfold nib
      rw [show (2 * k + 1) / 2 = k by omega, show (2 * k + 1) % 2 = 1 by omega]
    have n0 : ibin .and .u8 (ibin .shr .u8 (List.getD b k 0) 0) 15 = ((nib b (2 * k) : Nat) : Int) := by
      have := b_nib (byte_at hb k) 0 (by decide)
      rw [show ((4 * 0 : Nat) : Int) = 0 from rfl] at this
      rw [this]; unfold nib
      rw [show (2 * k) / 2 = k by omega, show (2 * k) % 2 = 0 by omega]
    have m2 : ibin .mul .i64 2 (k : Int) = ((2 * k : Nat) : Int) := by rw [Ref.i_mul (by omega) (by omega)]; omega
    have a1 : ibin .add .i64 ((2 * k : Nat) : Int) 1 = ((2 * k + 2 : Nat) : Int) - 1 := by rw [Ref.i_add (by omega) (by omega)]; omega
    have a0 : ibin .add .i64 ((2 * k : Nat) : Int) 0 = ((2 * k + 1 : Nat) : Int) - 1 := by rw [Ref.i_add (by omega) (by omega)]; omega
    have s1 : ibin .sub .i64 (k : Int) 1 = (k : Int) - 1 := Ref.i_sub (by omega) (by omega)
    by_cases h1 : nib b (2 * k + 1) = 0
    · by_cases h0 : nib b (2 * k) = 0
      · obtain ⟨n, g1, g2, g3⟩ := l0_loop N hb x y z u k (by omega) fuel (by omega)
        refine ⟨n, by omega, ?_, fun j j1 j2 => ?_⟩
        · rw [loopF_succ, e0]
          unfold curve_Point_TimesBytes_l0
          simp only [geq_zero, dec_rng (show k < 32 by omega), Int.toNat_natCast, n1, n0, nib_bool, h1, h0, decide_true, Bool.not_true, cond_true, cond_false, s1, mo]
          exact g2
        · rcases Nat.lt_or_ge j (2 * k) with h | h
          · exact g3 j j1 h
          · rcases Nat.lt_or_ge j (2 * k + 1) with h' | h'
            · rw [show j = 2 * k by omega]; exact h0
            · rw [show j = 2 * k + 1 by omega]; exact h1
      · refine ⟨2 * k + 1, by omega, ?_, fun j j1 j2 => by rw [show j = 2 * k + 1 by omega]; exact h1⟩
        rw [loopF_succ, e0]
        unfold curve_Point_TimesBytes_l0
        simp only [geq_zero, dec_rng (show k < 32 by omega), Int.toNat_natCast, n1, n0, nib_bool, h1, decide_eq_false h0, decide_true, Bool.not_true, Bool.not_false, cond_true, cond_false, m2, a0, mo]
    · refine ⟨2 * k + 2, by omega, ?_, fun j j1 j2 => by omega⟩
      rw [loopF_succ, e0]
      unfold curve_Point_TimesBytes_l0
      simp only [geq_zero, dec_rng (show k < 32 by omega), Int.toNat_natCast, n1, nib_bool, decide_eq_false h1, Bool.not_false, cond_true, m2, a1, mo]

/-- The table. -/
theorem table_rep {x : P4} {p : KP} (h : RepP x p) (hp : OnP p) : ∃ t : Nat → P4, t 0 = (z5, z5, z5, z5) ∧ (∀ i, i < 15 → curve_Point_Add (t i) x = some (t (i + 1))) ∧ ∀ i, RepP (t i) (nmul p i) := by
  let step : P4 → P4 := fun a => (curve_Point_Add a x).getD a
  let t : Nat → P4 := fun n => n.rec (z5, z5, z5, z5) fun _ a => step a
  have key : ∀ i, RepP (t i) (nmul p i) ∧ curve_Point_Add (t i) x = some (t (i + 1)) := by
    intro i
    induction i with
    | zero =>
      have h0 : RepP (t 0) (nmul p 0) := rep_zero
      obtain ⟨r, k1, k2⟩ := repP_add h0 h (nmul_on hp 0) hp
      refine ⟨h0, ?_⟩
      show _ = some (step (t 0))
      show _ = some ((curve_Point_Add (t 0) x).getD (t 0))
      rw [k1]; rfl
    | succ i ih =>
      obtain ⟨h1, h2⟩ := ih
      have h3 : RepP (t (i + 1)) (nmul p (i + 1)) := by
        obtain ⟨r, k1, k2⟩ := repP_add h1 h (nmul_on hp i) hp
        rw [h2] at k1
        rw [Option.some.inj k1]; exact k2
      obtain ⟨r, k1, k2⟩ := repP_add h3 h (nmul_on hp (i + 1)) hp
      refine ⟨h3, ?_⟩
      show _ = some ((curve_Point_Add (t (i + 1)) x).getD (t (i + 1)))
      rw [k1]; rfl
  exact ⟨t, rfl, fun i _ => (key i).2, fun i => (key i).1⟩

/-- The program's multiples. -/
theorem repP_times (N : Nat) (hN : 65 ≤ N) {x : P4} {p : KP} (h : RepP x p) (hp : OnP p) {b : List Int} (hb : L32 b) : ∃ r, curve_Point_TimesBytes N x b = some r ∧ RepP r (horn p (digs b 64)) := by
  obtain ⟨x1, x2, x3, x4⟩ := x
  obtain ⟨n, n1, n2, n3⟩ := l0_loop N hb x1 x2 x3 x4 32 (by decide) N (by omega)
  obtain ⟨t, t1, t2, t3⟩ := table_rep h hp
  obtain ⟨r, k1, k2⟩ := l6_loop N hp (fun i _ => t3 i) hb n (by omega) N (by omega) (z5, z5, z5, z5) kzero rep_zero zero_on
  rw [← fold_low p b n 64 (fun j j1 j2 => n3 j j1 (by omega)) (by omega)] at k2
  refine ⟨r, ?_, k2⟩
  have a0 := t2 0 (by decide)
  rw [t1] at a0
  have a1 := t2 1 (by decide)
  have a2 := t2 2 (by decide)
  have a3 := t2 3 (by decide)
  have a4 := t2 4 (by decide)
  have a5 := t2 5 (by decide)
  have a6 := t2 6 (by decide)
  have a7 := t2 7 (by decide)
  have a8 := t2 8 (by decide)
  have a9 := t2 9 (by decide)
  have a10 := t2 10 (by decide)
  have a11 := t2 11 (by decide)
  have a12 := t2 12 (by decide)
  have a13 := t2 13 (by decide)
  have a14 := t2 14 (by decide)
  unfold T16 at k1
  rw [t1] at k1
  have n2' : loopF (curve_Point_TimesBytes_l0 N) N (((), (), (), (), 31), ((x1, x2, x3, x4), b, ())) = some (.inl (((), (), (), (n : Int) - 1), ((x1, x2, x3, x4), b, ()))) := n2
  unfold curve_Point_TimesBytes
  simp only [n2', mo, a0, a1, a2, a3, a4, a5, a6, a7, a8, a9, a10, a11, a12, a13, a14, k1]

end Go.Vx

/- Numbers, part M11: the base, the torsion points, Free, 'live', 'around', 'on'. -/
set_option autoImplicit false
set_option linter.unusedSimpArgs false
namespace Go.Vx
open Go

theorem repP_zero : RepP (z5, z5, z5, z5) kzero := rep_zero
theorem kv_num {l : List Int} {n : Nat} (h : val l % pF = (n : Int) % pF) : kv l = kn n := K.of_eq.2 h
theorem pt_of {x y t : List Int} (hx : Can x) (hy : Can y) (ht : Can t) (h : val t % pF = val x * val y % pF)
    (hon : (val y * val y - val x * val x) % pF = (1 + 37095705934669439343138083508754565189542113879843219016388785533085940283555 * (val x * val x) * (val y * val y)) % pF) : RepP (x, y, o5, t) (kv x, kv y) ∧ OnP (kv x, kv y) := by
  refine ⟨rep_one hx hy ht ?_, ?_⟩
  · show K.of (val t) = K.of (val x) * K.of (val y)
    rw [← K.of_mul, K.of_eq]; exact h
  · have h1 := K.of_eq.2 hon
    rw [K.of_sub, K.of_add, K.of_mul, K.of_mul, K.of_mul, K.of_mul, K.of_mul, K.of_mul] at h1
    show On (K.of (val x)) (K.of (val y))
    unfold On
    have hd : K.of 37095705934669439343138083508754565189542113879843219016388785533085940283555 = kD := rfl
    have h1' : K.of 1 = 1 := rfl
    rw [hd, h1'] at h1
    generalize K.of (val x) = a at *
    generalize K.of (val y) = b at *
    generalize kD = d at *
    grind

theorem base_all : RepP (curve_Base.1, curve_Base.2.1, curve_Base.2.2.1, curve_Base.2.2.2) kB := by
  have h := (pt_of (x := curve_Base.1) (y := curve_Base.2.1) (t := curve_Base.2.2.2) ⟨_, _, _, _, _, rfl, by decide, by decide, by decide, by decide, by decide, by decide⟩ ⟨_, _, _, _, _, rfl, by decide, by decide, by decide, by decide, by decide, by decide⟩ ⟨_, _, _, _, _, rfl, by decide, by decide, by decide, by decide, by decide, by decide⟩ (by decide) (by decide)).1
  have e1 : kv curve_Base.1 = kB.1 := K.of_eq.2 (by decide)
  have e2 : kv curve_Base.2.1 = kB.2 := K.of_eq.2 (by decide)
  rw [e1, e2] at h
  exact h

def torX : Nat → List Int
  | 0 => [0, 0, 0, 0, 0]
  | 1 => [358744748052810, 1691584618240980, 977650209285361, 1429865912637724, 560044844278676]
  | 2 => [1718705420411056, 234908883556509, 2233514472574048, 2117202627021982, 765476049583133]
  | 3 => [358744748052810, 1691584618240980, 977650209285361, 1429865912637724, 560044844278676]
  | 4 => [0, 0, 0, 0, 0]
  | 5 => [1893055065632419, 560215195444267, 1274149604399886, 821933901047523, 1691754969406571]
  | 6 => [533094393274173, 2016890930128738, 18285341111199, 134597186663265, 1486323764102114]
  | _ => [1893055065632419, 560215195444267, 1274149604399886, 821933901047523, 1691754969406571]
def torY : Nat → List Int
  | 0 => [0, 0, 0, 0, 0]
  | 1 => [2166873539340326, 1778179147085316, 1886209374839743, 1223329526802818, 105300633354275]
  | 2 => [0, 0, 0, 0, 0]
  | 3 => [84926274344903, 473620666599931, 365590438845504, 1028470286882429, 2146499180330972]
  | 4 => [2251799813685228, 2251799813685247, 2251799813685247, 2251799813685247, 2251799813685247]
  | 5 => [84926274344903, 473620666599931, 365590438845504, 1028470286882429, 2146499180330972]
  | 6 => [0, 0, 0, 0, 0]
  | _ => [2166873539340326, 1778179147085316, 1886209374839743, 1223329526802818, 105300633354275]
def torT : Nat → List Int
  | 0 => [0, 0, 0, 0, 0]
  | 1 => [803472979097708, 393902981724766, 1158077081819914, 574391322974006, 336294660666841]
  | 2 => [0, 0, 0, 0, 0]
  | 3 => [1448326834587521, 1857896831960481, 1093722731865333, 1677408490711241, 1915505153018406]
  | 4 => [0, 0, 0, 0, 0]
  | 5 => [803472979097708, 393902981724766, 1158077081819914, 574391322974006, 336294660666841]
  | 6 => [0, 0, 0, 0, 0]
  | _ => [1448326834587521, 1857896831960481, 1093722731865333, 1677408490711241, 1915505153018406]
/-- The torsion points as pairs. -/
def torK : Nat → KP
  | 0 => kzero
  | n + 1 => (kv (torX (n + 1)), kv (torY (n + 1)))
theorem and7 {a : Int} (h : -9223372036854775808 ≤ a ∧ a ≤ 9223372036854775807) : ibin .and .i64 a 7 = a % 8 := by
  show IntKind.wrap .i64 ((BitVec.ofInt 64 a &&& BitVec.ofInt 64 7).toNat : Int) = _
  have : (BitVec.ofInt 64 a &&& BitVec.ofInt 64 7).toNat = (a % 18446744073709551616).toNat % 8 := by
    rw [BitVec.toNat_and, BitVec.toNat_ofInt, show (BitVec.ofInt 64 7).toNat = 2 ^ 3 - 1 from rfl, Nat.and_two_pow_sub_one_eq_mod]
    rfl
  rw [this]
  have e := Ref.wrapi (n := (((a % 18446744073709551616).toNat % 8 : Nat) : Int)) (by omega) (by omega)
  rw [e]
  omega
theorem tor_rep (j : Nat) (h : j < 8) : RepP (torX j, torY j, (if j = 0 then z5 else o5), torT j) (torK j) ∧ OnP (torK j) := by
  match j, h with
  | 0, _ => exact ⟨rep_zero, zero_on⟩
  | 1, _ => exact pt_of ⟨_, _, _, _, _, rfl, by decide, by decide, by decide, by decide, by decide, by decide⟩ ⟨_, _, _, _, _, rfl, by decide, by decide, by decide, by decide, by decide, by decide⟩ ⟨_, _, _, _, _, rfl, by decide, by decide, by decide, by decide, by decide, by decide⟩ (by decide) (by decide)
  | 2, _ => exact pt_of ⟨_, _, _, _, _, rfl, by decide, by decide, by decide, by decide, by decide, by decide⟩ ⟨_, _, _, _, _, rfl, by decide, by decide, by decide, by decide, by decide, by decide⟩ ⟨_, _, _, _, _, rfl, by decide, by decide, by decide, by decide, by decide, by decide⟩ (by decide) (by decide)
  | 3, _ => exact pt_of ⟨_, _, _, _, _, rfl, by decide, by decide, by decide, by decide, by decide, by decide⟩ ⟨_, _, _, _, _, rfl, by decide, by decide, by decide, by decide, by decide, by decide⟩ ⟨_, _, _, _, _, rfl, by decide, by decide, by decide, by decide, by decide, by decide⟩ (by decide) (by decide)
  | 4, _ => exact pt_of ⟨_, _, _, _, _, rfl, by decide, by decide, by decide, by decide, by decide, by decide⟩ ⟨_, _, _, _, _, rfl, by decide, by decide, by decide, by decide, by decide, by decide⟩ ⟨_, _, _, _, _, rfl, by decide, by decide, by decide, by decide, by decide, by decide⟩ (by decide) (by decide)
  | 5, _ => exact pt_of ⟨_, _, _, _, _, rfl, by decide, by decide, by decide, by decide, by decide, by decide⟩ ⟨_, _, _, _, _, rfl, by decide, by decide, by decide, by decide, by decide, by decide⟩ ⟨_, _, _, _, _, rfl, by decide, by decide, by decide, by decide, by decide, by decide⟩ (by decide) (by decide)
  | 6, _ => exact pt_of ⟨_, _, _, _, _, rfl, by decide, by decide, by decide, by decide, by decide, by decide⟩ ⟨_, _, _, _, _, rfl, by decide, by decide, by decide, by decide, by decide, by decide⟩ ⟨_, _, _, _, _, rfl, by decide, by decide, by decide, by decide, by decide, by decide⟩ (by decide) (by decide)
  | 7, _ => exact pt_of ⟨_, _, _, _, _, rfl, by decide, by decide, by decide, by decide, by decide, by decide⟩ ⟨_, _, _, _, _, rfl, by decide, by decide, by decide, by decide, by decide, by decide⟩ ⟨_, _, _, _, _, rfl, by decide, by decide, by decide, by decide, by decide, by decide⟩ (by decide) (by decide)
  | n + 8, h => exact absurd h (by omega)
theorem ordL_32 : L32 [237, 211, 245, 92, 26, 99, 18, 88, 214, 156, 247, 162, 222, 249, 222, 20, 0, 0, 0, 0, 0, 0, 0, 0, 0, 0, 0, 0, 0, 0, 0, 16] := ⟨rfl, by decide⟩
theorem ordL_digs : digs [237, 211, 245, 92, 26, 99, 18, 88, 214, 156, 247, 162, 222, 249, 222, 20, 0, 0, 0, 0, 0, 0, 0, 0, 0, 0, 0, 0, 0, 0, 0, 16] 64 = ordD := by decide
theorem kB_ne : kB ≠ kzero := fun h => by
  have h1 := congrArg Prod.fst h
  have := K.of_eq.1 (show K.of 15112221349535400772501151409588531511454012693041857206046113283949847762202 = K.of 0 from h1)
  revert this; decide
theorem RepN.same {a b : N4} {p : KP} (ha : RepN a p) (hb : RepN b p) : a.1 * b.2.2.1 % pN = b.1 * a.2.2.1 % pN := by
  have h : kn (a.1 * b.2.2.1) = kn (b.1 * a.2.2.1) := by
    rw [kn_mul, kn_mul]
    have xa : kn a.1 = p.1 * kn a.2.2.1 := ha.x
    have xb : kn b.1 = p.1 * kn b.2.2.1 := hb.x
    rw [xa, xb]; grind
  have := K.of_eq.1 h
  have e : ∀ n : Nat, ((n % pN : Nat) : Int) = (n : Int) % pF := fun n => by rw [Int.natCast_emod]; rfl
  rw [← e, ← e] at this
  exact Int.ofNat.inj this
theorem kB_dbl : kdbl kB ≠ kB := fun h => by
  have h1 := repN_dbl natB_rep kB_on
  rw [h] at h1
  have := h1.same natB_rep
  revert this
  decide
theorem kT_tor : torK 1 = kT := Prod.ext (K.of_eq.2 (by decide)) (K.of_eq.2 (by decide))

end Go.Vx

/- Numbers, part M12: points from outside: FromAffine, Compress, Decompress, 'point', 'on'. -/
set_option autoImplicit false
set_option linter.unusedSimpArgs false
namespace Go.Vx
open Go

theorem numB_W' : (l : List Int) → Bs l → (numB l : Int) = Ref.numW 8 l
  | [], _ => rfl
  | x :: l, h => by
    have h1 := h x (by simp)
    have h2 := numB_W' l (fun y hy => h y (by simp [hy]))
    simp only [numB, Ref.numW]
    rw [← h2]
    show ((x.toNat + 256 * numB l : Nat) : Int) = x + 256 * (numB l : Int)
    omega
theorem numB_32' {l : List Int} (hl : L32 l) : (numB l : Int) < 115792089237316195423570985008687907853269984665640564039457584007913129639936 := by
  have := numB_lt l hl.2
  rw [hl.1] at this
  have e : (256 : Nat) ^ 32 = 115792089237316195423570985008687907853269984665640564039457584007913129639936 := by decide
  rw [e] at this
  omega

/-- The bytes without the sign. -/
abbrev lowB (b : List Int) : List Int := List.set b 31 (ibin .and .u8 (List.getD b 31 0) 127)
theorem lowB_eq {b : List Int} (hb : L32 b) : lowB b = List.set b 31 (List.getD b 31 0 % 128) := by
  unfold lowB
  rw [b_and127 (top_byte hb).1]
theorem set_l32 {b : List Int} (hb : L32 b) {v : Int} (hv : 0 ≤ v ∧ v ≤ 255) : L32 (List.set b 31 v) := by
  refine ⟨by rw [List.length_set]; exact hb.1, fun x hx => ?_⟩
  rcases List.mem_or_eq_of_mem_set hx with h | h
  · exact hb.2 x h
  · rw [h]; exact hv
theorem low_l32 {b : List Int} (hb : L32 b) : L32 (lowB b) := by
  rw [lowB_eq hb]
  exact set_l32 hb (by omega)
theorem get_set {b : List Int} (hb : L32 b) (v : Int) : List.getD (List.set b 31 v) 31 0 = v := by
  rw [List.getD_eq_getElem?_getD, List.getElem?_set_self (by rw [hb.1]; decide)]; rfl
theorem set_get {b : List Int} (hb : L32 b) : List.set b 31 (List.getD b 31 0) = b := by
  have h : 31 < b.length := by rw [hb.1]; decide
  rw [List.getD_eq_getElem?_getD, List.getElem?_eq_getElem h]
  exact List.set_getElem_self h
theorem or128 {y : Int} (h : 0 ≤ y ∧ y < 128) : ibin .or .u8 y 128 = y + 128 := by
  have : ∀ n : Fin 128, ibin .or .u8 (n.1 : Int) 128 = (n.1 : Int) + 128 := by decide +kernel
  have := this ⟨y.toNat, by omega⟩
  simp only at this
  rwa [Int.toNat_of_nonneg h.1] at this
theorem shr7 {y : Int} (h : 0 ≤ y ∧ y ≤ 255) : icmp .eql (ibin .shr .u8 y 7) 1 = decide (127 < y) := by
  have : ∀ n : Fin 256, icmp .eql (ibin .shr .u8 (n.1 : Int) 7) 1 = decide (127 < (n.1 : Int)) := by decide +kernel
  have := this ⟨y.toNat, by omega⟩
  simp only at this
  rwa [Int.toNat_of_nonneg h.1] at this

/-- What encodes an element is read back. -/
theorem dec_enc {y : List Int} (hy : Can y) : L32 (field_Elem_Encode y) ∧ field_Decode (field_Elem_Encode y) = (y, 0) ∧ 0 ≤ List.getD (field_Elem_Encode y) 31 0 ∧ List.getD (field_Elem_Encode y) 31 0 < 128 := by
  obtain ⟨l, e⟩ := encode_spec hy.L5
  have n := hy.nonneg
  rw [Int.emod_eq_of_lt n.1 n.2] at e
  have t := top_byte l
  refine ⟨l, ?_, t.1.1, ?_⟩
  · rcases decode_spec l with ⟨g1, g2, g3, g4⟩ | ⟨g1, g2⟩
    · have : (field_Decode (field_Elem_Encode y)).1 = y := g3.inj hy (by rw [g4, e])
      exact Prod.ext this g2
    · have := n.2
      rw [← e] at this
      exact absurd this (by omega)
  · have : ¬ 127 < List.getD (field_Elem_Encode y) 31 0 := fun h => by
      have := t.2.1 h
      rw [e] at this
      have := n.2
      simp only [pF] at this
      omega
    omega
theorem low_enc {y : List Int} (hy : Can y) : lowB (field_Elem_Encode y) = field_Elem_Encode y := by
  obtain ⟨l, -, h0, h1⟩ := dec_enc hy
  rw [lowB_eq l, Int.emod_eq_of_lt h0 h1, set_get l]

/-- FromAffine of any numbers. -/
theorem faff {x y : List Int} (hx : L5 x) (hy : L5 y) :
    (∃ t, curve_FromAffine x y = some ((field_Elem_Least x, field_Elem_Least y, o5, t), 0) ∧ RepP (field_Elem_Least x, field_Elem_Least y, o5, t) (kv x, kv y) ∧ OnP (kv x, kv y)) ∨
    (curve_FromAffine x y = some ((z5, z5, z5, z5), 40) ∧ ¬ OnP (kv x, kv y)) := by
  have la := least_k hx
  have lb := least_k hy
  obtain ⟨r1, h1, c1, e1⟩ := sq_k la.1.L5
  obtain ⟨r2, h2, c2, e2⟩ := sq_k lb.1.L5
  obtain ⟨r4, h4, c4, e4⟩ := mul_k tab2_can.L5 c1.L5
  obtain ⟨r5, h5, c5, e5⟩ := mul_k c4.L5 c2.L5
  obtain ⟨r6, h6, c6, e6⟩ := mul_k la.1.L5 lb.1.L5
  have k1 := sub_k c2.L5 c1.L5
  have k2 := add_k one_can.L5 c5.L5
  have hiff : field_Elem_Sub r2 r1 = field_Elem_Add [1, 0, 0, 0, 0] r5 ↔ OnP (kv x, kv y) := by
    have : kv (field_Elem_Sub r2 r1) = kv (field_Elem_Add [1, 0, 0, 0, 0] r5) ↔ OnP (kv x, kv y) := by
      rw [k1.2, k2.2, e5, e4, e1, e2, tab2_k, la.2, lb.2, show kv [1, 0, 0, 0, 0] = 1 from rfl]
      show _ ↔ On (kv x) (kv y)
      unfold On
      generalize kv x = a
      generalize kv y = b
      generalize kD = d
      constructor <;> (intro h; grind)
    rw [← this]
    exact ⟨fun h => by rw [h], fun h => can_k k1.1 k2.1 h⟩
  have hr := rep_one la.1 lb.1 c6 e6
  rw [la.2, lb.2] at hr
  by_cases hc : field_Elem_Sub r2 r1 = field_Elem_Add [1, 0, 0, 0, 0] r5
  · left
    refine ⟨r6, ?_, hr, hiff.1 hc⟩
    unfold curve_FromAffine curve_at
    simp only [h1, h2, const2', h4, h5, mo, decide_eq_true hc, Bool.not_true, cond_false, h6]
  · right
    refine ⟨?_, fun h => hc (hiff.2 h)⟩
    unfold curve_FromAffine
    simp only [h1, h2, const2', h4, h5, mo, decide_eq_false hc, Bool.not_false, cond_true]

/-- The denominator of x is not 0. -/
theorem den_ne (y : K) : kD * y ^ 2 + 1 ≠ 0 := fun h => by
  have hi := kI_sq
  have := (d_sq (a := y) (b := kI) (by generalize kD = d at *; grind)).2
  exact kI_ne this

theorem on_x {x y : K} : On x y ↔ (kD * y ^ 2 + 1) * x ^ 2 = y ^ 2 - 1 := by
  unfold On
  generalize kD = d
  constructor <;> (intro h; grind)

theorem ev_or {x y s : K} (hx : On x y) (sr : SR (y ^ 2 - 1) (kD * y ^ 2 + 1) s true) : s ^ 2 = x ^ 2 := (sr.found (den_ne y) (on_x.1 hx)).2
theorem sr_on {y s : K} (sr : SR (y ^ 2 - 1) (kD * y ^ 2 + 1) s true) : On s y := by
  rw [on_x]
  by_cases hu : y ^ 2 - 1 = 0
  · rw [(sr.z hu).2, hu]; grind
  · exact (sr.q hu (den_ne y)).2.1 rfl
theorem on_negx {x y : K} (h : On x y) : On (-x) y := kneg_on (p := (x, y)) h

end Go.Vx

/- Numbers, part M13: CurveBack. -/
set_option autoImplicit false
set_option linter.unusedSimpArgs false
namespace Go.Vx
open Go

theorem same_of {x y : P4} {p : KP} (h1 : RepP x p) (h2 : RepP y p) : curve_Point_Same x y = some true := by
  obtain ⟨c, k1, k2⟩ := repP_same h1 h2
  rw [k1, k2.2 rfl]
theorem same_zero : curve_Point_Same (z5, z5, z5, z5) (z5, z5, z5, z5) = some true := same_of repP_zero repP_zero

theorem enc_low {b y : List Int} (hb : L32 b) (hy : Can y) (h : val y = numB (lowB b)) : field_Elem_Encode y = lowB b := by
  have e := encode_spec hy.L5
  refine e.1.inj (low_l32 hb) ?_
  rw [e.2, Int.emod_eq_of_lt hy.nonneg.1 hy.nonneg.2, h]

end Go.Vx

/- Numbers, part M14: CurveBack, with the arguments' ranges as the row has them. -/
set_option autoImplicit false
namespace Go.Vx
open Go
abbrev StepT : Type := Int × Int × Int × Int × List Int × List Int × List Int × List Int
/-- The ranges of a step's fields. -/
abbrev StepOK (a : StepT) : Prop := (IntKind.i64.min ≤ a.1 ∧ a.1 ≤ IntKind.i64.max) ∧ (IntKind.i64.min ≤ a.2.1 ∧ a.2.1 ≤ IntKind.i64.max) ∧ (IntKind.i64.min ≤ a.2.2.1 ∧ a.2.2.1 ≤ IntKind.i64.max) ∧ (IntKind.i64.min ≤ a.2.2.2.1 ∧ a.2.2.2.1 ≤ IntKind.i64.max) ∧
  (a.2.2.2.2.1.length = 32 ∧ ∀ x ∈ a.2.2.2.2.1, IntKind.u8.min ≤ x ∧ x ≤ IntKind.u8.max) ∧ (a.2.2.2.2.2.1.length = 4 ∧ ∀ x ∈ a.2.2.2.2.2.1, IntKind.u64.min ≤ x ∧ x ≤ IntKind.u64.max) ∧
  (a.2.2.2.2.2.2.1.length = 5 ∧ ∀ x ∈ a.2.2.2.2.2.2.1, IntKind.u64.min ≤ x ∧ x ≤ IntKind.u64.max) ∧ (a.2.2.2.2.2.2.2.length = 5 ∧ ∀ x ∈ a.2.2.2.2.2.2.2, IntKind.u64.min ≤ x ∧ x ≤ IntKind.u64.max) ∧ True
end Go.Vx

/- Numbers, part M15: the program's points as elements of the group; CurveTorsion. -/
set_option autoImplicit false
set_option linter.unusedSimpArgs false
namespace Go.Vx
open Go

abbrev RepE (x : P4) (e : E) : Prop := RepP x e.p
theorem repE_add {p q : P4} {a b : E} (h1 : RepE p a) (h2 : RepE q b) : ∃ r, curve_Point_Add p q = some r ∧ RepE r (a + b) := repP_add h1 h2 a.on b.on
theorem repE_dbl {p : P4} {a : E} (h : RepE p a) : ∃ r, curve_Point_Double p = some r ∧ RepE r (a + a) := repP_dbl h a.on
theorem repE_same {p q : P4} {a b : E} (h1 : RepE p a) (h2 : RepE q b) : ∃ c, curve_Point_Same p q = some c ∧ (c = true ↔ a = b) := by
  obtain ⟨c, k1, k2⟩ := repP_same h1 h2
  exact ⟨c, k1, k2.trans ⟨E.ext, fun h => by rw [h]⟩⟩
theorem repE_zero : RepE (z5, z5, z5, z5) 0 := repP_zero
theorem yes {c : Bool} {p : Prop} (h : c = true ↔ p) (hp : p) : c = true := h.2 hp
theorem no {c : Bool} {p : Prop} (h : c = true ↔ p) (hp : ¬ p) : c = false := Bool.eq_false_iff.2 fun e => hp (h.1 e)
theorem eight (x : E) : x + x + (x + x) + (x + x + (x + x)) = (8 : Nat) • x := by
  rw [show (8 : Nat) = 1 + 1 + (1 + 1) + (1 + 1 + (1 + 1)) from rfl, E.ns_add, E.ns_add, E.ns_add, E.ns_one]
theorem dbl3 {x : P4} {a : E} (h : RepE x a) : ∃ u v w, curve_Point_Double x = some u ∧ curve_Point_Double u = some v ∧ curve_Point_Double v = some w ∧ RepE w ((8 : Nat) • a) := by
  obtain ⟨u, h1, k1⟩ := repE_dbl h
  obtain ⟨v, h2, k2⟩ := repE_dbl k1
  obtain ⟨w, h3, k3⟩ := repE_dbl k2
  rw [eight] at k3
  exact ⟨u, v, w, h1, h2, h3, k3⟩

theorem tor_eq (k x y : Nat) {a : N4} (ha : mulN natT k = a) (hx : x * a.2.2.1 % pN = a.1 % pN) (hy : y * a.2.2.1 % pN = a.2.1 % pN) : nmul kT k = (kn x, kn y) := by
  have h := repN_mul natT_rep kT_on k
  rw [ha] at h
  have hz : kn a.2.2.1 ≠ 0 := h.z
  have h1 : kn a.1 = (nmul kT k).1 * kn a.2.2.1 := h.x
  have h2 : kn a.2.1 = (nmul kT k).2 * kn a.2.2.1 := h.y
  have e1 := congrArg kn hx
  have e2 := congrArg kn hy
  rw [kn_mod, kn_mod, kn_mul, h1] at e1
  rw [kn_mod, kn_mod, kn_mul, h2] at e2
  refine Prod.ext (K.cancel hz ?_) (K.cancel hz ?_)
  · show kn a.2.2.1 * (nmul kT k).1 = kn a.2.2.1 * kn x
    rw [Lean.Grind.CommRing.mul_comm, ← e1, Lean.Grind.CommRing.mul_comm]
  · show kn a.2.2.1 * (nmul kT k).2 = kn a.2.2.1 * kn y
    rw [Lean.Grind.CommRing.mul_comm, ← e2, Lean.Grind.CommRing.mul_comm]
theorem tor_ns (k : Nat) (h : k < 8) : torK k = (k • eT).p := by
  rw [E.ns_p]
  show torK k = nmul kT k
  rcases (by omega : k = 0 ∨ k = 1 ∨ k = 2 ∨ k = 3 ∨ k = 4 ∨ k = 5 ∨ k = 6 ∨ k = 7) with rfl | rfl | rfl | rfl | rfl | rfl | rfl | rfl
  · rfl
  · rw [tor_eq 1 14399317868200118260347934320527232580618823971194345261214217575416788799818 2707385501144840649318225287225658788936804267575313519463743609750303402022 tabT_1 (by decide) (by decide)]
    exact Prod.ext (kv_num (by decide)) (kv_num (by decide))
  · rw [tor_eq 2 19681161376707505956807079304988542015446066515923890162744021073123829784752 0 tabT_2 (by decide) (by decide)]
    exact Prod.ext (kv_num (by decide)) (kv_num (by decide))
  · rw [tor_eq 3 14399317868200118260347934320527232580618823971194345261214217575416788799818 55188659117513257062467267217118295137698188065244968500265048394206261417927 tabT_3 (by decide) (by decide)]
    exact Prod.ext (kv_num (by decide)) (kv_num (by decide))
  · rw [tor_eq 4 0 57896044618658097711785492504343953926634992332820282019728792003956564819948 tabT_4 (by decide) (by decide)]
    exact Prod.ext (kv_num (by decide)) (kv_num (by decide))
  · rw [tor_eq 5 43496726750457979451437558183816721346016168361625936758514574428539776020131 55188659117513257062467267217118295137698188065244968500265048394206261417927 tabT_5 (by decide) (by decide)]
    exact Prod.ext (kv_num (by decide)) (kv_num (by decide))
  · rw [tor_eq 6 38214883241950591754978413199355411911188925816896391856984770930832735035197 0 tabT_6 (by decide) (by decide)]
    exact Prod.ext (kv_num (by decide)) (kv_num (by decide))
  · rw [tor_eq 7 43496726750457979451437558183816721346016168361625936758514574428539776020131 2707385501144840649318225287225658788936804267575313519463743609750303402022 tabT_7 (by decide) (by decide)]
    exact Prod.ext (kv_num (by decide)) (kv_num (by decide))

theorem free_T (k : Nat) (h : k < 8) : ordl • (k • eT) = 0 ↔ k = 0 := by
  rw [← E.ns_mul]
  constructor
  · intro h0
    have := ord_T h0
    rw [Nat.mul_mod, show ordl % 8 = 5 from rfl] at this
    omega
  · intro h0
    rw [h0, Nat.mul_zero, E.ns_zero]
theorem lss8 {k : Nat} (h : k < 8) : icmp .lss (k : Int) 8 = true := decide_eq_true (by omega)
theorem inc8 {k : Nat} (h : k < 8) : ibin .add .i64 (k : Int) 1 = ((k + 1 : Nat) : Int) := by rw [Ref.i_add (by omega) (by omega)]; omega
theorem eql_k (k : Nat) : icmp .eql (k : Int) 0 = decide (k = 0) := by
  by_cases h : k = 0
  · subst h; rfl
  · have h' : (k : Int) ≠ 0 := by omega
    simp only [icmp, h, decide_false]
    simp [h]
theorem gtr_k (k : Nat) : icmp .gtr (k : Int) 0 = decide (0 < k) := by
  show decide ((k : Int) > 0) = decide (0 < k)
  by_cases h : 0 < k
  · rw [decide_eq_true h]; exact decide_eq_true (by omega)
  · rw [decide_eq_false h]; exact decide_eq_false (by omega)

theorem kT_ev : K.ev kT.1 ∧ K.ev kT.2 := ⟨by unfold K.ev; decide, by unfold K.ev; decide⟩
theorem kT_ne : kT.1 ≠ 0 ∧ kT.2 ≠ 0 := ⟨fun h => by
    have := K.of_eq.1 (show K.of (natT.1 : Int) = K.of 0 from h)
    revert this; decide, fun h => by
    have := K.of_eq.1 (show K.of (natT.2.1 : Int) = K.of 0 from h)
    revert this; decide⟩

end Go.Vx

/- Numbers, part M16: CurveTorsion, with the arguments' ranges as the row has them. -/
set_option autoImplicit false
namespace Go.Vx
open Go
end Go.Vx

/- Numbers, part M17: CurveLaws. -/
set_option autoImplicit false
set_option linter.unusedSimpArgs false
namespace Go.Vx
open Go

theorem same_E {x y : P4} {a b : E} (h1 : RepE x a) (h2 : RepE y b) (h : a = b) : curve_Point_Same x y = some true := by
  obtain ⟨c, k1, k2⟩ := repE_same h1 h2
  rw [k1, k2.2 h]
theorem repE_neg {x : P4} {a : E} (h : RepE x a) : RepE (curve_Point_Neg x) (-a) := repP_neg h
theorem repE_sub {x y : P4} {a b : E} (h1 : RepE x a) (h2 : RepE y b) : ∃ r, curve_Point_Sub x y = some r ∧ RepE r (a + -b) := repP_sub h1 h2 a.on b.on
/-- The two fractions. -/
theorem fractions {x1 y1 x2 y2 x3 y3 : List Int} (c1 : Can x1) (d1 : Can y1) (c2 : Can x2) (d2 : Can y2) (c3 : Can x3) (d3 : Can y3) {a b : E} (e1 : kv x1 = a.p.1) (f1 : kv y1 = a.p.2) (e2 : kv x2 = b.p.1) (f2 : kv y2 = b.p.2) (e3 : kv x3 = (a + b).p.1) (f3 : kv y3 = (a + b).p.2) :
    ∃ r32 r33 r34 r35 r36 r37 r38 r39 r40 r41, field_Elem_Mul (field_tab 2) x1 = some r32 ∧ field_Elem_Mul r32 x2 = some r33 ∧ field_Elem_Mul r33 y1 = some r34 ∧ field_Elem_Mul r34 y2 = some r35 ∧ field_Elem_Mul x3 (field_Elem_Add (field_Elem_One x1) r35) = some r36 ∧ field_Elem_Mul x1 y2 = some r37 ∧ field_Elem_Mul y1 x2 = some r38 ∧
      field_Elem_Mul y3 (field_Elem_Sub (field_Elem_One x1) r35) = some r39 ∧ field_Elem_Mul y1 y2 = some r40 ∧ field_Elem_Mul x1 x2 = some r41 ∧ r36 = field_Elem_Add r37 r38 ∧ r39 = field_Elem_Add r40 r41 := by
  obtain ⟨r32, h32, k32, m32⟩ := mul_k tab2_can.L5 c1.L5
  obtain ⟨r33, h33, k33, m33⟩ := mul_k k32.L5 c2.L5
  obtain ⟨r34, h34, k34, m34⟩ := mul_k k33.L5 d1.L5
  obtain ⟨r35, h35, k35, m35⟩ := mul_k k34.L5 d2.L5
  have one := one_k x1
  have ad := add_k one.1.L5 k35.L5
  have sb := sub_k one.1.L5 k35.L5
  obtain ⟨r36, h36, k36, m36⟩ := mul_k c3.L5 ad.1.L5
  obtain ⟨r37, h37, k37, m37⟩ := mul_k c1.L5 d2.L5
  obtain ⟨r38, h38, k38, m38⟩ := mul_k d1.L5 c2.L5
  obtain ⟨r39, h39, k39, m39⟩ := mul_k d3.L5 sb.1.L5
  obtain ⟨r40, h40, k40, m40⟩ := mul_k d1.L5 d2.L5
  obtain ⟨r41, h41, k41, m41⟩ := mul_k c1.L5 c2.L5
  have s1 := add_k k37.L5 k38.L5
  have s2 := add_k k40.L5 k41.L5
  have t35 : kv r35 = kD * a.p.1 * b.p.1 * a.p.2 * b.p.2 := by rw [m35, m34, m33, m32, tab2_k, e1, e2, f1, f2]
  refine ⟨r32, r33, r34, r35, r36, r37, r38, r39, r40, r41, h32, h33, h34, h35, h36, h37, h38, h39, h40, h41, can_k k36 s1.1 ?_, can_k k39 s2.1 ?_⟩
  · rw [m36, ad.2, one.2, t35, s1.2, m37, m38, e3, e1, e2, f1, f2]
    exact ax_mul a.on b.on
  · rw [m39, sb.2, one.2, t35, s2.2, m40, m41, f3, e1, e2, f1, f2]
    exact ay_mul a.on b.on

end Go.Vx

/- Numbers, part M18: multiples by the number of 32 bytes. -/
set_option autoImplicit false
set_option linter.unusedSimpArgs false
namespace Go.Vx
open Go

/-- The number of the lowest n half bytes. -/
def lowV (b : List Int) : Nat → Nat
  | 0 => 0
  | n + 1 => lowV b n + nib b n * 16 ^ n
theorem digs_val (b : List Int) : (n s : Nat) → (digs b n).foldl (fun s d => 16 * s + d) s = s * 16 ^ n + lowV b n
  | 0, s => by simp [digs, lowV]
  | n + 1, s => by
    rw [digs, List.foldl_cons, digs_val b n, lowV, Nat.pow_succ, Nat.add_mul]
    have : 16 * s * 16 ^ n = s * (16 ^ n * 16) := by rw [Nat.mul_comm 16 s, Nat.mul_assoc, Nat.mul_comm 16]
    omega
theorem nib_cons (x : Int) (l : List Int) (i : Nat) : nib (x :: l) (i + 2) = nib l i := by
  unfold nib
  rw [show (i + 2) / 2 = i / 2 + 1 by omega, show (i + 2) % 2 = i % 2 by omega, List.getD_cons_succ]
theorem lowV_cons (x : Int) (l : List Int) : (n : Nat) → lowV (x :: l) (n + 2) = nib (x :: l) 0 + 16 * nib (x :: l) 1 + 256 * lowV l n
  | 0 => by simp only [lowV]; omega
  | n + 1 => by
    have h := lowV_cons x l n
    rw [show n + 1 + 2 = (n + 2) + 1 from rfl, lowV, h, nib_cons, lowV, Nat.pow_add]
    rw [Nat.mul_add]
    have : nib l n * (16 ^ n * 16 ^ 2) = 256 * (nib l n * 16 ^ n) := by
      rw [show (16 : Nat) ^ 2 = 256 from rfl, ← Nat.mul_assoc, Nat.mul_comm _ 256]
    omega
theorem lowV_all : (l : List Int) → (∀ x ∈ l, 0 ≤ x ∧ x ≤ 255) → lowV l (2 * l.length) = numB l
  | [], _ => rfl
  | x :: l, h => by
    have hx := h x (by simp)
    have ih := lowV_all l (fun y hy => h y (by simp [hy]))
    rw [List.length_cons, show 2 * (l.length + 1) = 2 * l.length + 2 by omega, lowV_cons, ih, numB]
    have e0 : nib (x :: l) 0 = x.toNat / 1 % 16 := rfl
    have e1 : nib (x :: l) 1 = x.toNat / 16 % 16 := rfl
    rw [e0, e1]
    omega
theorem digs_num {b : List Int} (hb : L32 b) : (digs b 64).foldl (fun s d => 16 * s + d) 0 = numB b := by
  rw [digs_val, Nat.zero_mul, Nat.zero_add]
  have := lowV_all b hb.2
  rw [hb.1] at this
  exact this
/-- The program's multiple, by the bytes' number. -/
theorem repE_times (N : Nat) (hN : 65 ≤ N) {x : P4} {a : E} (h : RepE x a) {b : List Int} (hb : L32 b) : ∃ r, curve_Point_TimesBytes N x b = some r ∧ RepE r (numB b • a) := by
  obtain ⟨r, k1, k2⟩ := repP_times N hN h a.on hb
  rw [horn_ns, digs_num hb] at k2
  exact ⟨r, k1, k2⟩

end Go.Vx

/- Numbers, part M19: scalars: Least. -/
set_option autoImplicit false
set_option linter.unusedSimpArgs false
namespace Go.Vx
open Go

/-- Four limbs. -/
def U4 (a : List Int) : Prop := ∃ x0 x1 x2 x3, a = [x0, x1, x2, x3] ∧ U x0 ∧ U x1 ∧ U x2 ∧ U x3
def v4 (a : List Int) : Int := List.getD a 0 0 + List.getD a 1 0 * 18446744073709551616 + List.getD a 2 0 * 340282366920938463463374607431768211456 + List.getD a 3 0 * 6277101735386680763835789423207666416102355444464034512896

theorem sub64_spec {x y c : Int} (hx : U x) (hy : U y) (hc : c = 0 ∨ c = 1) : ∃ r d, bits_Sub64 x y c = some (r, d) ∧ U r ∧ (d = 0 ∨ d = 1) ∧ r = x - y - c + d * 18446744073709551616 := by
  have hd : decide (c ≤ 1) = true := decide_eq_true (by omega)
  unfold U at hx hy
  by_cases h : x < y + c
  · refine ⟨_, 1, by unfold bits_Sub64; rw [hd, cond_true, decide_eq_true h, cond_true], ?_, .inr rfl, ?_⟩
    · unfold U; omega
    · omega
  · refine ⟨_, 0, by unfold bits_Sub64; rw [hd, cond_true, decide_eq_false h, cond_false], ?_, .inl rfl, ?_⟩
    · unfold U; omega
    · omega
theorem add64_spec {x y c : Int} (hx : U x) (hy : U y) (hc : c = 0 ∨ c = 1) : ∃ r d, bits_Add64 x y c = some (r, d) ∧ U r ∧ (d = 0 ∨ d = 1) ∧ r + d * 18446744073709551616 = x + y + c := by
  have hd : decide (c ≤ 1) = true := decide_eq_true (by omega)
  unfold U at hx hy
  refine ⟨_, _, by unfold bits_Add64; rw [hd, cond_true], ?_, ?_, ?_⟩
  · unfold U; omega
  · omega
  · omega

theorem v4_mk (x0 x1 x2 x3 : Int) : v4 [x0, x1, x2, x3] = x0 + x1 * 18446744073709551616 + x2 * 340282366920938463463374607431768211456 + x3 * 6277101735386680763835789423207666416102355444464034512896 := rfl
theorem U4.rng {a : List Int} (h : U4 a) : 0 ≤ v4 a ∧ v4 a < 115792089237316195423570985008687907853269984665640564039457584007913129639936 := by
  obtain ⟨x0, x1, x2, x3, rfl, h0, h1, h2, h3⟩ := h
  unfold U at *
  rw [v4_mk]
  omega
theorem minus_k {a b : List Int} (ha : U4 a) (hb : U4 b) : ∃ r c, scalar_minus a b = some (r, c) ∧ U4 r ∧ ((c = 0 ∧ v4 b ≤ v4 a ∧ v4 r = v4 a - v4 b) ∨ (c = 1 ∧ v4 a < v4 b ∧ v4 r = v4 a - v4 b + 115792089237316195423570985008687907853269984665640564039457584007913129639936)) := by
  obtain ⟨x0, x1, x2, x3, rfl, a0, a1, a2, a3⟩ := ha
  obtain ⟨y0, y1, y2, y3, rfl, b0, b1, b2, b3⟩ := hb
  obtain ⟨r0, c0, h0, u0, d0, e0⟩ := sub64_spec a0 b0 (.inl rfl)
  obtain ⟨r1, c1, h1, u1, d1, e1⟩ := sub64_spec a1 b1 d0
  obtain ⟨r2, c2, h2, u2, d2, e2⟩ := sub64_spec a2 b2 d1
  obtain ⟨r3, c3, h3, u3, d3, e3⟩ := sub64_spec a3 b3 d2
  refine ⟨[r0, r1, r2, r3], c3, ?_, ⟨_, _, _, _, rfl, u0, u1, u2, u3⟩, ?_⟩
  · unfold scalar_minus
    simp only [List.getD_cons_zero, List.getD_cons_succ, h0, h1, h2, h3, mo]
  · have hr : U4 [r0, r1, r2, r3] := ⟨_, _, _, _, rfl, u0, u1, u2, u3⟩
    have rr := hr.rng
    rw [v4_mk] at rr ⊢
    rw [v4_mk, v4_mk]
    rcases d3 with rfl | rfl
    · left
      refine ⟨rfl, ?_, ?_⟩ <;> omega
    · right
      refine ⟨rfl, ?_, ?_⟩ <;> omega
theorem plus_k {a b : List Int} (ha : U4 a) (hb : U4 b) : ∃ r c, scalar_plus a b = some (r, c) ∧ U4 r ∧ (c = 0 ∨ c = 1) ∧ v4 r + c * 115792089237316195423570985008687907853269984665640564039457584007913129639936 = v4 a + v4 b := by
  obtain ⟨x0, x1, x2, x3, rfl, a0, a1, a2, a3⟩ := ha
  obtain ⟨y0, y1, y2, y3, rfl, b0, b1, b2, b3⟩ := hb
  obtain ⟨r0, c0, h0, u0, d0, e0⟩ := add64_spec a0 b0 (.inl rfl)
  obtain ⟨r1, c1, h1, u1, d1, e1⟩ := add64_spec a1 b1 d0
  obtain ⟨r2, c2, h2, u2, d2, e2⟩ := add64_spec a2 b2 d1
  obtain ⟨r3, c3, h3, u3, d3, e3⟩ := add64_spec a3 b3 d2
  refine ⟨[r0, r1, r2, r3], c3, ?_, ⟨_, _, _, _, rfl, u0, u1, u2, u3⟩, d3, ?_⟩
  · unfold scalar_plus
    simp only [List.getD_cons_zero, List.getD_cons_succ, h0, h1, h2, h3, mo]
  · rw [v4_mk, v4_mk, v4_mk]
    omega

theorem and_all {x : Int} (h : U x) : ibin .and .u64 x 18446744073709551615 = x := by
  unfold U at h
  rw [u_and h.1 (by omega) (by decide) (by decide), show (18446744073709551615 : Int).toNat = 2 ^ 64 - 1 from rfl, Nat.and_two_pow_sub_one_eq_mod]
  omega
theorem and_no {x : Int} (h : U x) : ibin .and .u64 x 0 = 0 := by
  unfold U at h
  rw [u_and h.1 (by omega) (by decide) (by decide)]
  simp
theorem or_no {x : Int} (h : U x) : ibin .or .u64 x 0 = x := by
  unfold U at h
  show IntKind.wrap .u64 ((BitVec.ofInt 64 x ||| BitVec.ofInt 64 0).toNat : Int) = x
  rw [show BitVec.ofInt 64 0 = 0#64 from rfl, BitVec.or_zero, ofInt64 h.1 (by omega), wrap64]
  omega
theorem no_or {x : Int} (h : U x) : ibin .or .u64 0 x = x := by
  unfold U at h
  show IntKind.wrap .u64 ((BitVec.ofInt 64 0 ||| BitVec.ofInt 64 x).toNat : Int) = x
  rw [show BitVec.ofInt 64 0 = 0#64 from rfl, BitVec.zero_or, ofInt64 h.1 (by omega), wrap64]
  omega
theorem andnot_all (x : Int) : ibin .andNot .u64 x 18446744073709551615 = 0 := by
  show IntKind.wrap .u64 ((BitVec.ofInt 64 x &&& ~~~(BitVec.ofInt 64 18446744073709551615)).toNat : Int) = 0
  rw [show ~~~(BitVec.ofInt 64 18446744073709551615) = 0#64 by decide, BitVec.and_zero]
  rfl
theorem andnot_no {x : Int} (h : U x) : ibin .andNot .u64 x 0 = x := by
  unfold U at h
  show IntKind.wrap .u64 ((BitVec.ofInt 64 x &&& ~~~(BitVec.ofInt 64 0)).toNat : Int) = x
  rw [show ~~~(BitVec.ofInt 64 0) = BitVec.allOnes 64 by decide, BitVec.and_allOnes, ofInt64 h.1 (by omega), wrap64]
  omega
theorem choose_k {a b : List Int} (ha : U4 a) (hb : U4 b) : scalar_choose (ineg .u64 0) a b = b ∧ scalar_choose (ineg .u64 1) a b = a := by
  obtain ⟨x0, x1, x2, x3, rfl, a0, a1, a2, a3⟩ := ha
  obtain ⟨y0, y1, y2, y3, rfl, b0, b1, b2, b3⟩ := hb
  have z : U 0 := ⟨by decide, by decide⟩
  constructor
  · rw [show ineg .u64 0 = 0 from rfl]
    unfold scalar_choose
    simp only [List.getD_cons_zero, List.getD_cons_succ, List.set_cons_zero, List.set_cons_succ, and_no a0, and_no a1, and_no a2, and_no a3, andnot_no b0, andnot_no b1, andnot_no b2, andnot_no b3, no_or b0, no_or b1, no_or b2, no_or b3]
  · rw [show ineg .u64 1 = 18446744073709551615 from rfl]
    unfold scalar_choose
    simp only [List.getD_cons_zero, List.getD_cons_succ, List.set_cons_zero, List.set_cons_succ, and_all a0, and_all a1, and_all a2, and_all a3, andnot_all, or_no a0, or_no a1, or_no a2, or_no a3]

abbrev lL : List Int := [6346243789798364141, 1503914060200516822, 0, 1152921504606846976]
theorem lL_U : U4 lL := ⟨_, _, _, _, rfl, ⟨by decide, by decide⟩, ⟨by decide, by decide⟩, ⟨by decide, by decide⟩, ⟨by decide, by decide⟩⟩
theorem lL_v : v4 lL = 7237005577332262213973186563042994240857116359379907606001950938285454250989 := by decide
theorem lower_k {a : List Int} (ha : U4 a) (h : v4 a < 2 * 7237005577332262213973186563042994240857116359379907606001950938285454250989) : ∃ r, scalar_lower a = some r ∧ U4 r ∧ 0 ≤ v4 r ∧ v4 r < 7237005577332262213973186563042994240857116359379907606001950938285454250989 ∧ (v4 r = v4 a ∨ v4 r = v4 a - 7237005577332262213973186563042994240857116359379907606001950938285454250989) := by
  obtain ⟨r, c, h1, u, hc⟩ := minus_k ha lL_U
  rw [lL_v] at hc
  have ra := ha.rng
  obtain ⟨k0, k1⟩ := choose_k ha u
  unfold scalar_lower
  rcases hc with ⟨rfl, g1, g2⟩ | ⟨rfl, g1, g2⟩
  · exact ⟨r, by simp only [h1, mo, k0], u, by omega, by omega, .inr g2⟩
  · exact ⟨a, by simp only [h1, mo, k1], ha, ra.1, g1, .inl rfl⟩

/-- The least limbs. -/
theorem sleast {a : List Int} (ha : U4 a) : ∃ r, scalar_Scalar_Least a = some r ∧ U4 r ∧ 0 ≤ v4 r ∧ v4 r < 7237005577332262213973186563042994240857116359379907606001950938285454250989 ∧ ∃ k : Int, 0 ≤ k ∧ k < 16 ∧ v4 a = v4 r + k * 7237005577332262213973186563042994240857116359379907606001950938285454250989 := by
  have rng := ha.rng
  obtain ⟨x0, x1, x2, x3, rfl, a0, a1, a2, a3⟩ := ha
  unfold scalar_Scalar_Least
  by_cases hs : x3 < 1152921504606846976
  · have hc : icmp .lss (List.getD [x0, x1, x2, x3] 3 0) 1152921504606846976 = true := decide_eq_true hs
    refine ⟨_, by rw [hc, cond_true], ⟨_, _, _, _, rfl, a0, a1, a2, a3⟩, rng.1, ?_, 0, by decide, by decide, by omega⟩
    rw [v4_mk]
    unfold U at *
    omega
  · have hc : icmp .lss (List.getD [x0, x1, x2, x3] 3 0) 1152921504606846976 = false := decide_eq_false hs
    rw [hc, cond_false]
    have hq : ibin .shr .u64 (List.getD [x0, x1, x2, x3] 3 0) 60 = x3 / 1152921504606846976 := u_shr (a := x3) 60 (by decide)
    have hm : ibin .and .u64 (List.getD [x0, x1, x2, x3] 3 0) 1152921504606846975 = x3 % 1152921504606846976 := by
      unfold U at a3
      show ibin .and .u64 x3 1152921504606846975 = _
      rw [u_and a3.1 (by omega) (by decide) (by decide), show (1152921504606846975 : Int).toNat = 2 ^ 60 - 1 from rfl, Nat.and_two_pow_sub_one_eq_mod]
      omega
    rw [hq, hm]
    generalize hQ : x3 / 1152921504606846976 = q
    generalize hL : x3 % 1152921504606846976 = m
    have q16 : 0 ≤ q ∧ q < 16 := by unfold U at a3; omega
    have hm60 : 0 ≤ m ∧ m < 1152921504606846976 := by omega
    have hx3 : x3 = q * 1152921504606846976 + m := by omega
    have uq : U q := ⟨q16.1, by omega⟩
    have t0 : U 6346243789798364141 := ⟨by decide, by decide⟩
    have t1 : U 1503914060200516822 := ⟨by decide, by decide⟩
    rw [mul64_spec uq t0, mul64_spec uq t1]
    simp only
    have p0 : U (q * 6346243789798364141 % 18446744073709551616) := ⟨by omega, by omega⟩
    have p1 : U (q * 1503914060200516822 % 18446744073709551616) := ⟨by omega, by omega⟩
    have p2 : U (q * 6346243789798364141 / 18446744073709551616) := ⟨by omega, by omega⟩
    obtain ⟨s1, d1, h1, u1, e1, f1⟩ := add64_spec p1 p2 (.inl rfl)
    have hset : List.set [x0, x1, x2, x3] 3 m = [x0, x1, x2, m] := rfl
    rw [hset]
    have um : U m := ⟨hm60.1, by omega⟩
    have hadd : ibin .add .u64 (q * 1503914060200516822 / 18446744073709551616) d1 = q * 1503914060200516822 / 18446744073709551616 + d1 := by
      rw [u_add]
      omega
    have u2 : U (q * 1503914060200516822 / 18446744073709551616 + d1) := ⟨by omega, by omega⟩
    have z : U 0 := ⟨by decide, by decide⟩
    have lowU : U4 [x0, x1, x2, m] := ⟨_, _, _, _, rfl, a0, a1, a2, um⟩
    have cU : U4 [q * 6346243789798364141 % 18446744073709551616, s1, q * 1503914060200516822 / 18446744073709551616 + d1, 0] := ⟨_, _, _, _, rfl, p0, u1, u2, z⟩
    have cv : v4 [q * 6346243789798364141 % 18446744073709551616, s1, q * 1503914060200516822 / 18446744073709551616 + d1, 0] = q * 27742317777372353535851937790883648493 := by
      rw [v4_mk]
      omega
    have lv : v4 [x0, x1, x2, x3] = q * 7237005577332262213973186563042994240829374041602535252466099000494570602496 + v4 [x0, x1, x2, m] := by
      rw [v4_mk, v4_mk, hx3]
      omega
    have lr : 0 ≤ v4 [x0, x1, x2, m] ∧ v4 [x0, x1, x2, m] < 7237005577332262213973186563042994240829374041602535252466099000494570602496 := by
      rw [v4_mk]
      unfold U at a0 a1 a2
      omega
    obtain ⟨r, c, h2, ur, hcr⟩ := minus_k lowU cU
    rw [cv] at hcr
    obtain ⟨e, g, h3, ue, hg, heq⟩ := plus_k ur lL_U
    rw [lL_v] at heq
    obtain ⟨k0, k1⟩ := choose_k ue ur
    have re := ue.rng
    have rr := ur.rng
    rw [lv]
    generalize v4 [x0, x1, x2, m] = low at *
    simp only [h1, hadd, h2, h3, mo]
    rcases hcr with ⟨rfl, g1, g2⟩ | ⟨rfl, g1, g2⟩
    · rw [k0]
      obtain ⟨w, j1, j2, j3, j4, j5⟩ := lower_k ur (by omega)
      refine ⟨w, by rw [j1], j2, j3, j4, q, q16.1, q16.2, ?_⟩
      rcases j5 with j5 | j5 <;> omega
    · rw [k1]
      obtain ⟨w, j1, j2, j3, j4, j5⟩ := lower_k ue (by omega)
      refine ⟨w, by rw [j1], j2, j3, j4, q - 1, by omega, by omega, ?_⟩
      rcases j5 with j5 | j5 <;> omega

end Go.Vx

/- Numbers, part M20: bytes: sums, the order taken away, 'below', bytes of limbs. -/
set_option autoImplicit false
set_option linter.unusedSimpArgs false
namespace Go.Vx
open Go

/-- The number of the lowest i bytes. -/
abbrev tk (l : List Int) (i : Nat) : Int := Ref.numW 8 (l.take i)
theorem tk_succ : (l : List Int) → (i : Nat) → i < l.length → tk l (i + 1) = tk l i + List.getD l i 0 * 2 ^ (8 * i)
  | [], i, h => by simp at h
  | x :: l, 0, _ => by simp [tk, Ref.numW]
  | x :: l, i + 1, h => by
    have ih := tk_succ l i (by simpa using h)
    simp only [tk, List.take_succ_cons, Ref.numW, List.getD_cons_succ] at ih ⊢
    rw [ih, show 8 * (i + 1) = 8 * i + 8 by omega, Int.pow_add, show (2 : Int) ^ 8 = 256 from rfl, Int.mul_add, ← Int.mul_assoc, Int.mul_comm 256 (List.getD l i 0), Int.mul_assoc, Int.mul_comm 256 ((2 : Int) ^ (8 * i))]
    omega
theorem tk_all {l : List Int} (h : L32 l) : tk l 32 = numB l := by
  have : l.take 32 = l := List.take_of_length_le (by rw [h.1]; exact Nat.le_refl _)
  unfold tk
  rw [this, numB_W' l h.2]
theorem and255 {a : Int} : ibin .and .i64 a 255 = a % 256 := by
  show IntKind.wrap .i64 ((BitVec.ofInt 64 a &&& BitVec.ofInt 64 255).toNat : Int) = _
  have : (BitVec.ofInt 64 a &&& BitVec.ofInt 64 255).toNat = (a % 18446744073709551616).toNat % 256 := by
    rw [BitVec.toNat_and, BitVec.toNat_ofInt, show (BitVec.ofInt 64 255).toNat = 2 ^ 8 - 1 from rfl, Nat.and_two_pow_sub_one_eq_mod]
    rfl
  rw [this]
  have e := Ref.wrapi (n := (((a % 18446744073709551616).toNat % 256 : Nat) : Int)) (by omega) (by omega)
  rw [e]
  omega
theorem shr8 (a : Int) : ibin .shr .i64 a 8 = a / 256 := Ref.i_shr (a := a) 8 (by decide)
theorem wrap_b {y : Int} (h : 0 ≤ y ∧ y ≤ 255) : IntKind.wrap .i64 y = y := Ref.wrapi (by omega) (by omega)
theorem lss32 {k : Nat} (h : k < 32) : icmp .lss (k : Int) 32 = true := decide_eq_true (by omega)
theorem inc32 {k : Nat} (h : k < 32) : ibin .add .i64 (k : Int) 1 = ((k + 1 : Nat) : Int) := by rw [Ref.i_add (by omega) (by omega)]; omega
theorem set_other {l : List Int} {i j : Nat} (v : Int) (h : i ≠ j) : List.getD (l.set i v) j 0 = List.getD l j 0 := by
  rw [List.getD_eq_getElem?_getD, List.getD_eq_getElem?_getD, List.getElem?_set_ne h]
theorem set_l32' {b : List Int} (hb : L32 b) (i : Nat) {v : Int} (hv : 0 ≤ v ∧ v ≤ 255) : L32 (List.set b i v) := by
  refine ⟨by rw [List.length_set]; exact hb.1, fun x hx => ?_⟩
  rcases List.mem_or_eq_of_mem_set hx with h | h
  · exact hb.2 x h
  · rw [h]; exact hv
theorem num_set {l : List Int} (hl : L32 l) {i : Nat} (hi : i < 32) (v : Int) : Ref.numW 8 (l.set i v) = Ref.numW 8 l + (v - List.getD l i 0) * 2 ^ (8 * i) := by
  have := Ref.numW_set (w := 8) i l (v - List.getD l i 0) (by rw [hl.1]; exact hi)
  rw [show List.getD l i 0 + (v - List.getD l i 0) = v by omega] at this
  exact this
theorem pow_next (i : Nat) : (2 : Int) ^ (8 * (i + 1)) = 256 * 2 ^ (8 * i) := by
  rw [show 8 * (i + 1) = 8 * i + 8 by omega, Int.pow_add, show (2 : Int) ^ 8 = 256 from rfl, Int.mul_comm]

/-- One step of a sum with a carry: the numbers. -/
theorem carry_step {n c s P t z : Int} (hz : z = 0) (h : n + c * P = t) : n + (s % 256 - z) * P + s / 256 * (256 * P) = t + (s - c) * P := by
  subst hz
  have : s = 256 * (s / 256) + s % 256 := (Int.mul_ediv_add_emod s 256).symm
  generalize s / 256 = q at *
  generalize s % 256 = r at *
  subst this
  rw [← h, Int.sub_zero, Int.sub_mul, Int.add_mul, ← Int.mul_assoc q 256 P, Int.mul_comm q 256]
  omega

theorem z32 : L32 [0, 0, 0, 0, 0, 0, 0, 0, 0, 0, 0, 0, 0, 0, 0, 0, 0, 0, 0, 0, 0, 0, 0, 0, 0, 0, 0, 0, 0, 0, 0, 0] := ⟨rfl, by decide⟩
theorem z32_get (j : Nat) : List.getD [0, 0, 0, 0, 0, 0, 0, 0, 0, 0, 0, 0, 0, 0, 0, 0, 0, 0, 0, 0, 0, 0, 0, 0, 0, 0, 0, 0, 0, 0, 0, 0] j (0 : Int) = 0 := by
  have : ([0, 0, 0, 0, 0, 0, 0, 0, 0, 0, 0, 0, 0, 0, 0, 0, 0, 0, 0, 0, 0, 0, 0, 0, 0, 0, 0, 0, 0, 0, 0, 0] : List Int) = List.replicate 32 0 := rfl
  rw [this, List.getD_eq_getElem?_getD, List.getElem?_replicate]
  split <;> rfl
/- The order's bytes. -/
abbrev oB : List Int := [237, 211, 245, 92, 26, 99, 18, 88, 214, 156, 247, 162, 222, 249, 222, 20, 0, 0, 0, 0, 0, 0, 0, 0, 0, 0, 0, 0, 0, 0, 0, 16]
theorem oB_num : numB oB = ordl := by decide

theorem lt_top {x y o p P : Int} (hx : 0 ≤ x ∧ x < P) (hy : 0 ≤ y ∧ y < P) : (o < p → x + o * P < y + p * P) ∧ (p < o → y + p * P < x + o * P) := by
  have hP : 0 < P := by omega
  constructor
  · intro h
    have : (o + 1) * P ≤ p * P := Int.mul_le_mul_of_nonneg_right (by omega) (by omega)
    rw [Int.add_mul, Int.one_mul] at this
    omega
  · intro h
    have : (p + 1) * P ≤ o * P := Int.mul_le_mul_of_nonneg_right (by omega) (by omega)
    rw [Int.add_mul, Int.one_mul] at this
    omega
theorem tk_rng {l : List Int} (h : L32 l) (i : Nat) (hi : i ≤ 32) : 0 ≤ tk l i ∧ tk l i < 2 ^ (8 * i) := by
  have hd : Ref.Dg 8 (l.take i) := fun x hx => by
    have := h.2 x (List.mem_of_mem_take hx)
    show 0 ≤ x ∧ x < 256
    omega
  refine ⟨hd.nonneg, ?_⟩
  have := Ref.numW_lt (l.take i) hd
  rw [List.length_take, h.1, Nat.min_eq_left hi, ← Int.pow_mul] at this
  exact this

/-- One step of a difference with a borrow: the numbers. -/
theorem borrow_step {n c s P t z o : Int} (h : n = t - c * P) (hs : s = c + z - o) : n + (s % 256 - z) * P = t - o * P - s / 256 * (256 * P) := by
  have : s = 256 * (s / 256) + s % 256 := (Int.mul_ediv_add_emod s 256).symm
  generalize s / 256 = q at *
  generalize s % 256 = r at *
  have hr : r - z = c - o - 256 * q := by omega
  rw [hr, h, Int.sub_mul, Int.sub_mul, ← Int.mul_assoc q 256 P, Int.mul_comm q 256]
  omega

end Go.Vx

/- Numbers, part M21: limbs as bytes; CurveMultiples. -/
set_option autoImplicit false
set_option linter.unusedSimpArgs false
namespace Go.Vx
open Go

abbrev enc4 (x0 x1 x2 x3 : Int) : List Int := [IntKind.wrap .u8 (ibin .shr .u64 x0 0), IntKind.wrap .u8 (ibin .shr .u64 x0 8), IntKind.wrap .u8 (ibin .shr .u64 x0 16), IntKind.wrap .u8 (ibin .shr .u64 x0 24), IntKind.wrap .u8 (ibin .shr .u64 x0 32), IntKind.wrap .u8 (ibin .shr .u64 x0 40), IntKind.wrap .u8 (ibin .shr .u64 x0 48), IntKind.wrap .u8 (ibin .shr .u64 x0 56),
  IntKind.wrap .u8 (ibin .shr .u64 x1 0), IntKind.wrap .u8 (ibin .shr .u64 x1 8), IntKind.wrap .u8 (ibin .shr .u64 x1 16), IntKind.wrap .u8 (ibin .shr .u64 x1 24), IntKind.wrap .u8 (ibin .shr .u64 x1 32), IntKind.wrap .u8 (ibin .shr .u64 x1 40), IntKind.wrap .u8 (ibin .shr .u64 x1 48), IntKind.wrap .u8 (ibin .shr .u64 x1 56),
  IntKind.wrap .u8 (ibin .shr .u64 x2 0), IntKind.wrap .u8 (ibin .shr .u64 x2 8), IntKind.wrap .u8 (ibin .shr .u64 x2 16), IntKind.wrap .u8 (ibin .shr .u64 x2 24), IntKind.wrap .u8 (ibin .shr .u64 x2 32), IntKind.wrap .u8 (ibin .shr .u64 x2 40), IntKind.wrap .u8 (ibin .shr .u64 x2 48), IntKind.wrap .u8 (ibin .shr .u64 x2 56),
  IntKind.wrap .u8 (ibin .shr .u64 x3 0), IntKind.wrap .u8 (ibin .shr .u64 x3 8), IntKind.wrap .u8 (ibin .shr .u64 x3 16), IntKind.wrap .u8 (ibin .shr .u64 x3 24), IntKind.wrap .u8 (ibin .shr .u64 x3 32), IntKind.wrap .u8 (ibin .shr .u64 x3 40), IntKind.wrap .u8 (ibin .shr .u64 x3 48), IntKind.wrap .u8 (ibin .shr .u64 x3 56)]
theorem enc4_ok {x0 x1 x2 x3 : Int} (h0 : U x0) (h1 : U x1) (h2 : U x2) (h3 : U x3) : L32 (enc4 x0 x1 x2 x3) ∧ (numB (enc4 x0 x1 x2 x3) : Int) = v4 [x0, x1, x2, x3] := by
  constructor
  · refine ⟨rfl, fun y hy => ?_⟩
    simp only [enc4, List.mem_cons, List.not_mem_nil, or_false] at hy
    rcases hy with rfl | rfl | rfl | rfl | rfl | rfl | rfl | rfl | rfl | rfl | rfl | rfl | rfl | rfl | rfl | rfl | rfl | rfl | rfl | rfl | rfl | rfl | rfl | rfl | rfl | rfl | rfl | rfl | rfl | rfl | rfl | rfl <;> exact wrap8_byte _
  · rw [bytes8 h0, bytes8 h1, bytes8 h2, bytes8 h3, v4_mk]
    simp only [numB]
    omega
theorem enc_loop (N f : Nat) (x0 x1 x2 x3 : Int) : loopF (scalar_Scalar_Encode_l0 N) (f + 33) (((), (), (), 0), ([x0, x1, x2, x3], (), [0, 0, 0, 0, 0, 0, 0, 0, 0, 0, 0, 0, 0, 0, 0, 0, 0, 0, 0, 0, 0, 0, 0, 0, 0, 0, 0, 0, 0, 0, 0, 0])) = some (.inl (((), ()), ((), enc4 x0 x1 x2 x3))) := by kernel_rfl
theorem mod_uniq {x r q L : Nat} (h : x = r + q * L) (hr : r < L) : r = x % L := by rw [h, Nat.add_mul_mod_self_right, Nat.mod_eq_of_lt hr]
/-- The scalar's number. -/
abbrev sc (a : List Int) : Nat := (v4 a).toNat % ordl
theorem sc_lt (a : List Int) : sc a < ordl := Nat.mod_lt _ (by decide)

theorem encode_k (N : Nat) (hN : 33 ≤ N) {a : List Int} (ha : U4 a) : ∃ b, scalar_Scalar_Encode N a = some b ∧ L32 b ∧ numB b = sc a := by
  obtain ⟨r, h1, hr, h2, h3, k, k0, k16, hk⟩ := sleast ha
  obtain ⟨x0, x1, x2, x3, rfl, u0, u1, u2, u3⟩ := hr
  obtain ⟨f, rfl⟩ : ∃ f, N = f + 33 := ⟨N - 33, by omega⟩
  obtain ⟨e1, e2⟩ := enc4_ok u0 u1 u2 u3
  refine ⟨enc4 x0 x1 x2 x3, ?_, e1, ?_⟩
  · unfold scalar_Scalar_Encode
    simp only [h1, enc_loop, mo]
  · have ra := ha.rng
    refine mod_uniq (q := k.toNat) ?_ ?_
    · unfold ordl
      omega
    · unfold ordl
      omega
/-- The program's multiple by a scalar. -/
theorem repE_scal (N : Nat) (hN : 65 ≤ N) {x : P4} {e : E} (h : RepE x e) {a : List Int} (ha : U4 a) : ∃ r, curve_Point_Times N x a = some r ∧ RepE r (sc a • e) := by
  obtain ⟨b, h1, h2, h3⟩ := encode_k N (by omega) ha
  obtain ⟨⟨r1, r2, r3, r4⟩, h4, h5⟩ := repE_times N hN h h2
  rw [h3] at h5
  refine ⟨(r1, r2, r3, r4), ?_, h5⟩
  obtain ⟨x1, x2, x3, x4⟩ := x
  unfold curve_Point_Times
  simp only [h1, h4, mo]

theorem u4_of {f : List Int} (hf : f.length = 4 ∧ ∀ x ∈ f, IntKind.u64.min ≤ x ∧ x ≤ IntKind.u64.max) : U4 f := by
  obtain ⟨h1, h2⟩ := hf
  match f, h1 with
  | [x0, x1, x2, x3], _ =>
    have g (x : Int) (h : IntKind.u64.min ≤ x ∧ x ≤ IntKind.u64.max) : U x := by
      have h3 : (0 : Int) ≤ x := h.1
      have h4 : x ≤ 18446744073709551615 := h.2
      unfold U; omega
    exact ⟨x0, x1, x2, x3, rfl, g _ (h2 x0 (by simp)), g _ (h2 x1 (by simp)), g _ (h2 x2 (by simp)), g _ (h2 x3 (by simp))⟩
end Go.Vx

/- Numbers, part M22: scalars: sums, opposites, products. -/
set_option autoImplicit false
set_option linter.unusedSimpArgs false
namespace Go.Vx
open Go

/-- r has the least limbs of n. -/
structure Lm (r : List Int) (n : Nat) : Prop where
  u : U4 r
  v : v4 r = n
  lt : n < ordl
theorem Lm.uniq {r s : List Int} {n : Nat} (h : Lm r n) (g : Lm s n) : r = s := by
  obtain ⟨⟨x0, x1, x2, x3, rfl, a0, a1, a2, a3⟩, hv, -⟩ := h
  obtain ⟨⟨y0, y1, y2, y3, rfl, b0, b1, b2, b3⟩, gv, -⟩ := g
  rw [v4_mk] at hv gv
  unfold U at *
  have e0 : x0 = y0 := by omega
  have e1 : x1 = y1 := by omega
  have e2 : x2 = y2 := by omega
  have e3 : x3 = y3 := by omega
  rw [e0, e1, e2, e3]
theorem Lm.iff {r s : List Int} {m n : Nat} (h : Lm r m) (g : Lm s n) : r = s ↔ m = n := by
  constructor
  · intro e
    have h1 := h.v
    rw [e, g.v] at h1
    omega
  · rintro rfl; exact h.uniq g
theorem Lm.sc {r : List Int} {n : Nat} (h : Lm r n) : sc r = n := by
  show (v4 r).toNat % ordl = n
  rw [h.v, Int.toNat_natCast, Nat.mod_eq_of_lt h.lt]
theorem sleast' {a : List Int} (ha : U4 a) : ∃ r, scalar_Scalar_Least a = some r ∧ Lm r (sc a) := by
  obtain ⟨r, h1, hr, h2, h3, k, k0, k16, hk⟩ := sleast ha
  have e : (v4 r).toNat = sc a := by
    have ra := ha.rng
    refine mod_uniq (q := k.toNat) ?_ ?_
    · unfold ordl; omega
    · unfold ordl; omega
  exact ⟨r, h1, hr, by omega, by rw [← e]; unfold ordl; omega⟩
theorem lm_zero : Lm [0, 0, 0, 0] 0 := ⟨⟨_, _, _, _, rfl, ⟨by decide, by decide⟩, ⟨by decide, by decide⟩, ⟨by decide, by decide⟩, ⟨by decide, by decide⟩⟩, rfl, by decide⟩

theorem sadd_k {a b : List Int} (ha : U4 a) (hb : U4 b) : ∃ r, scalar_Scalar_Add a b = some r ∧ Lm r ((sc a + sc b) % ordl) := by
  obtain ⟨x, h1, k1⟩ := sleast' ha
  obtain ⟨y, h2, k2⟩ := sleast' hb
  obtain ⟨s, c, h3, us, hc, hv⟩ := plus_k k1.u k2.u
  have l1 := k1.lt
  have l2 := k2.lt
  have rs := us.rng
  rw [k1.v, k2.v] at hv
  unfold ordl at l1 l2
  have c0 : c = 0 := by omega
  subst c0
  obtain ⟨r, h4, ur, r0, r1, hr⟩ := lower_k us (by omega)
  refine ⟨r, ?_, ur, ?_, Nat.mod_lt _ (by decide)⟩
  · unfold scalar_Scalar_Add
    simp only [h1, h2, h3, h4, mo]
  · have e : (v4 r).toNat = (sc a + sc b) % ordl := by
      rcases hr with hr | hr
      · exact mod_uniq (q := 0) (by omega) (by unfold ordl; omega)
      · exact mod_uniq (q := 1) (by rw [Nat.one_mul]; unfold ordl; omega) (by unfold ordl; omega)
    omega
theorem ssub_k {a b : List Int} (ha : U4 a) (hb : U4 b) : ∃ r, scalar_Scalar_Sub a b = some r ∧ Lm r ((sc a + (ordl - sc b)) % ordl) := by
  obtain ⟨x, h1, k1⟩ := sleast' ha
  obtain ⟨y, h2, k2⟩ := sleast' hb
  obtain ⟨d, c, h3, ud, hd⟩ := minus_k k1.u k2.u
  obtain ⟨e, g, h4, ue, hg, hv⟩ := plus_k ud lL_U
  obtain ⟨c0, c1⟩ := choose_k ue ud
  have l1 := k1.lt
  have l2 := k2.lt
  rw [k1.v, k2.v] at hd
  rw [lL_v] at hv
  have re := ue.rng
  have rd := ud.rng
  unfold scalar_Scalar_Sub
  rcases hd with ⟨rfl, g1, g2⟩ | ⟨rfl, g1, g2⟩
  · refine ⟨d, by simp only [h1, h2, h3, h4, mo, c0], ud, ?_, Nat.mod_lt _ (by decide)⟩
    have e : (v4 d).toNat = (sc a + (ordl - sc b)) % ordl := mod_uniq (q := 1) (by rw [Nat.one_mul]; omega) (by omega)
    omega
  · refine ⟨e, by simp only [h1, h2, h3, h4, mo, c1], ue, ?_, Nat.mod_lt _ (by decide)⟩
    have e1 : (v4 e).toNat = sc a + (ordl - sc b) := by unfold ordl at *; omega
    have e : (v4 e).toNat = (sc a + (ordl - sc b)) % ordl := mod_uniq (q := 0) (by omega) (by omega)
    omega
theorem sneg_k {a : List Int} (ha : U4 a) : ∃ r, scalar_Scalar_Neg a = some r ∧ Lm r ((ordl - sc a) % ordl) := by
  obtain ⟨r, h1, h2⟩ := ssub_k lm_zero.u ha
  rw [lm_zero.sc, Nat.zero_add] at h2
  exact ⟨r, by unfold scalar_Scalar_Neg; simp only [h1, mo], h2⟩

/- Products. -/
theorem into_k {x y z c : Int} (hx : U x) (hy : U y) (hz : U z) (hc : U c) : ∃ lo hi, scalar_into x y z c = some (lo, hi) ∧ U lo ∧ U hi ∧ lo + hi * 18446744073709551616 = x * y + z + c := by
  have hp : 0 ≤ x * y ∧ x * y ≤ 18446744073709551615 * 18446744073709551615 := by
    unfold U at hx hy
    exact ⟨Int.mul_nonneg hx.1 hy.1, Int.le_trans (Int.mul_le_mul_of_nonneg_right (show x ≤ 18446744073709551615 by omega) hy.1) (Int.mul_le_mul_of_nonneg_left (show y ≤ 18446744073709551615 by omega) (by decide))⟩
  unfold scalar_into
  rw [mul64_spec hx hy]
  simp only
  generalize x * y = p at *
  have u0 : U (p % 18446744073709551616) := ⟨by omega, by omega⟩
  obtain ⟨a, k, h1, ua, hk, e1⟩ := add64_spec u0 hz (.inl rfl)
  obtain ⟨b, j, h2, ub, hj, e2⟩ := add64_spec ua hc (.inl rfl)
  refine ⟨b, ibin .add .u64 (ibin .add .u64 (p / 18446744073709551616) k) j, by simp only [h1, h2, mo], ub, ?_, ?_⟩
  · rw [u_add]; exact ⟨by omega, by omega⟩
  · rw [u_add, u_add]
    unfold U at *
    omega

abbrev wB : Int := 18446744073709551616
def v5 (t : List Int) : Int := List.getD t 0 0 + List.getD t 1 0 * 18446744073709551616 + List.getD t 2 0 * 340282366920938463463374607431768211456 + List.getD t 3 0 * 6277101735386680763835789423207666416102355444464034512896 + List.getD t 4 0 * 115792089237316195423570985008687907853269984665640564039457584007913129639936
theorem v5_mk (x0 x1 x2 x3 x4 : Int) : v5 [x0, x1, x2, x3, x4] = x0 + x1 * 18446744073709551616 + x2 * 340282366920938463463374607431768211456 + x3 * 6277101735386680763835789423207666416102355444464034512896 + x4 * 115792089237316195423570985008687907853269984665640564039457584007913129639936 := rfl
def U5 (t : List Int) : Prop := ∃ x0 x1 x2 x3 x4, t = [x0, x1, x2, x3, x4] ∧ U x0 ∧ U x1 ∧ U x2 ∧ U x3 ∧ U x4

/-- The low word goes away. -/
theorem low_gone {u0 m w0 d0 : Int} (hm : m = u0 * 15183074304973897243 % 18446744073709551616) (hw : U w0) (e : w0 + d0 * 18446744073709551616 = m * 6346243789798364141 + u0) : w0 = 0 := by
  unfold U at hw
  omega
theorem mul_top {a l b B : Int} (ha : 0 ≤ a ∧ a < l) (hb : 0 ≤ b ∧ b < B) : 0 ≤ a * b ∧ a * b ≤ (l - 1) * (B - 1) :=
  ⟨Int.mul_nonneg ha.1 hb.1, Int.le_trans (Int.mul_le_mul_of_nonneg_right (show a ≤ l - 1 by omega) hb.1) (Int.mul_le_mul_of_nonneg_left (show b ≤ B - 1 by omega) (by omega))⟩

theorem prod_step (N : Nat) {a b t : List Int} (ha : U4 a) (hl : v4 a < 7237005577332262213973186563042994240857116359379907606001950938285454250989) (i : Nat) (hi : i < 4) (hb : U (List.getD b i 0)) (ht : U5 t) (hv : v5 t < 2 * 7237005577332262213973186563042994240857116359379907606001950938285454250989) :
    ∃ t' m, scalar_product_l0 N (((), (), (), (), (i : Int)), ((), a, b, (), t)) = some (.inl (((), (), (), (), ((i + 1 : Nat) : Int)), ((), a, b, (), t'))) ∧ U5 t' ∧ v5 t' < 2 * 7237005577332262213973186563042994240857116359379907606001950938285454250989 ∧
      v5 t' * 18446744073709551616 = v5 t + v4 a * List.getD b i 0 + m * 7237005577332262213973186563042994240857116359379907606001950938285454250989 := by
  have rng := ha.rng
  have top := mul_top ⟨rng.1, hl⟩ (show 0 ≤ List.getD b i 0 ∧ List.getD b i 0 < 18446744073709551616 from hb)
  obtain ⟨a0, a1, a2, a3, rfl, ua0, ua1, ua2, ua3⟩ := ha
  obtain ⟨t0, t1, t2, t3, t4, rfl, ut0, ut1, ut2, ut3, ut4⟩ := ht
  have z : U 0 := ⟨by decide, by decide⟩
  have c1 : icmp .lss (i : Int) 4 = true := decide_eq_true (by omega)
  have c2 : decide (0 ≤ (i : Int) ∧ (i : Int) < ((4 : Nat) : Int)) = true := decide_eq_true (by omega)
  have c3 : ibin .add .i64 (i : Int) 1 = ((i + 1 : Nat) : Int) := by rw [Ref.i_add (by omega) (by omega)]; omega
  generalize hB : List.getD b i 0 = y at *
  obtain ⟨u0, k0, h0, uu0, uk0, e0⟩ := into_k ua0 hb ut0 z
  obtain ⟨u1, k1, h1, uu1, uk1, e1⟩ := into_k ua1 hb ut1 uk0
  obtain ⟨u2, k2, h2, uu2, uk2, e2⟩ := into_k ua2 hb ut2 uk1
  obtain ⟨u3, k3, h3, uu3, uk3, e3⟩ := into_k ua3 hb ut3 uk2
  obtain ⟨u4, k4, h4, uu4, dk4, e4⟩ := add64_spec ut4 uk3 (.inl rfl)
  have hm : ibin .mul .u64 u0 15183074304973897243 = u0 * 15183074304973897243 % 18446744073709551616 := u_mul _ _
  have um : U (u0 * 15183074304973897243 % 18446744073709551616) := ⟨by omega, by omega⟩
  generalize hM : u0 * 15183074304973897243 % 18446744073709551616 = m at *
  obtain ⟨w0, d0, g0, uw0, ud0, f0⟩ := into_k um (y := 6346243789798364141) ⟨by decide, by decide⟩ uu0 z
  obtain ⟨w1, d1, g1, uw1, ud1, f1⟩ := into_k um (y := 1503914060200516822) ⟨by decide, by decide⟩ uu1 ud0
  obtain ⟨w2, d2, g2, uw2, ud2, f2⟩ := into_k um (y := 0) z uu2 ud1
  obtain ⟨w3, d3, g3, uw3, ud3, f3⟩ := into_k um (y := 1152921504606846976) ⟨by decide, by decide⟩ uu3 ud2
  obtain ⟨w4, d4, g4, uw4, dd4, f4⟩ := add64_spec uu4 ud3 (.inl rfl)
  have w00 : w0 = 0 := low_gone hM.symm uw0 (by rw [f0]; omega)
  subst w00
  have hk : ibin .add .u64 k4 d4 = k4 + d4 := by rw [u_add]; omega
  have uk : U (k4 + d4) := ⟨by omega, by omega⟩
  have key : v5 [w1, w2, w3, w4, k4 + d4] * 18446744073709551616 = v5 [t0, t1, t2, t3, t4] + v4 [a0, a1, a2, a3] * y + m * 7237005577332262213973186563042994240857116359379907606001950938285454250989 := by
    have hmul : (a0 + a1 * 18446744073709551616 + a2 * 340282366920938463463374607431768211456 + a3 * 6277101735386680763835789423207666416102355444464034512896) * y = a0 * y + a1 * y * 18446744073709551616 + a2 * y * 340282366920938463463374607431768211456 + a3 * y * 6277101735386680763835789423207666416102355444464034512896 := by
      rw [Int.add_mul, Int.add_mul, Int.add_mul, Int.mul_right_comm a1, Int.mul_right_comm a2, Int.mul_right_comm a3]
    rw [v5_mk, v5_mk, v4_mk, hmul]
    generalize a0 * y = p0 at *
    generalize a1 * y = p1 at *
    generalize a2 * y = p2 at *
    generalize a3 * y = p3 at *
    clear top rng hv hl hM hm
    omega
  refine ⟨[w1, w2, w3, w4, k4 + d4], m, ?_, ⟨_, _, _, _, _, rfl, uw1, uw2, uw3, uw4, uk⟩, ?_, key⟩
  · unfold scalar_product_l0
    simp only [c1, c2, c3, cond_true, Int.toNat_natCast, hB, List.getD_cons_zero, List.getD_cons_succ, List.set_cons_zero, List.set_cons_succ, h0, h1, h2, h3, h4, hm, g0, g1, g2, g3, g4, hk, mo]
  · generalize v5 [w1, w2, w3, w4, k4 + d4] = V' at *
    generalize v5 [t0, t1, t2, t3, t4] = V at *
    generalize v4 [a0, a1, a2, a3] * y = P at *
    unfold U at um
    clear e0 e1 e2 e3 e4 f0 f1 f2 f3 f4 hM hm
    omega

theorem loop_in {α β γ : Type} {b : α → Option (α ⊕ (β ⊕ γ))} {v w : α} (h : b v = some (.inl w)) (f : Nat) : loopF b (f + 1) v = loopF b f w := by rw [loopF_succ, h]; rfl
theorem loop_out {α β γ : Type} {b : α → Option (α ⊕ (β ⊕ γ))} {v : α} {x : β ⊕ γ} (h : b v = some (.inr x)) (f : Nat) : loopF b (f + 1) v = some x := by rw [loopF_succ, h]; rfl
theorem mont_sum {V1 V2 V3 V4 p0 p1 p2 p3 m1 m2 m3 m4 L : Int} (e1 : V1 * 18446744073709551616 = p0 + m1 * L) (e2 : V2 * 18446744073709551616 = V1 + p1 + m2 * L) (e3 : V3 * 18446744073709551616 = V2 + p2 + m3 * L) (e4 : V4 * 18446744073709551616 = V3 + p3 + m4 * L) :
    V4 * 115792089237316195423570985008687907853269984665640564039457584007913129639936 = p0 + p1 * 18446744073709551616 + p2 * 340282366920938463463374607431768211456 + p3 * 6277101735386680763835789423207666416102355444464034512896 + (m1 + m2 * 18446744073709551616 + m3 * 340282366920938463463374607431768211456 + m4 * 6277101735386680763835789423207666416102355444464034512896) * L := by
  have t4 : V4 * 115792089237316195423570985008687907853269984665640564039457584007913129639936 = V3 * 6277101735386680763835789423207666416102355444464034512896 + p3 * 6277101735386680763835789423207666416102355444464034512896 + m4 * L * 6277101735386680763835789423207666416102355444464034512896 := by
    rw [← Int.add_mul, ← Int.add_mul, ← e4, Int.mul_assoc]; rfl
  have t3 : V3 * 6277101735386680763835789423207666416102355444464034512896 = V2 * 340282366920938463463374607431768211456 + p2 * 340282366920938463463374607431768211456 + m3 * L * 340282366920938463463374607431768211456 := by
    rw [← Int.add_mul, ← Int.add_mul, ← e3, Int.mul_assoc]; rfl
  have t2 : V2 * 340282366920938463463374607431768211456 = V1 * 18446744073709551616 + p1 * 18446744073709551616 + m2 * L * 18446744073709551616 := by
    rw [← Int.add_mul, ← Int.add_mul, ← e2, Int.mul_assoc]; rfl
  rw [t4, t3, t2, e1, Int.add_mul, Int.add_mul, Int.add_mul, Int.mul_right_comm m2, Int.mul_right_comm m3, Int.mul_right_comm m4]
  generalize m1 * L = q1
  generalize m2 * L = q2
  generalize m3 * L = q3
  generalize m4 * L = q4
  clear e1 e2 e3 e4 t2 t3 t4
  omega

theorem product_k (N : Nat) (hN : 5 ≤ N) {a b : List Int} {m n : Nat} (ha : Lm a m) (hb : Lm b n) : ∃ r x, scalar_product N a b = some r ∧ Lm r x ∧ ∃ q : Int, (x : Int) * 115792089237316195423570985008687907853269984665640564039457584007913129639936 = m * n + q * ordl := by
  have hl : v4 a < 7237005577332262213973186563042994240857116359379907606001950938285454250989 := by have := ha.v; have := ha.lt; unfold ordl at *; omega
  have z5 : U5 [0, 0, 0, 0, 0] := ⟨_, _, _, _, _, rfl, ⟨by decide, by decide⟩, ⟨by decide, by decide⟩, ⟨by decide, by decide⟩, ⟨by decide, by decide⟩, ⟨by decide, by decide⟩⟩
  obtain ⟨b0, b1, b2, b3, hB, ub0, ub1, ub2, ub3⟩ := hb.u
  have hbv := hb.v
  rw [hB, v4_mk] at hbv
  obtain ⟨r1, m1, h1, u1, l1, e1⟩ := prod_step N ha.u hl 0 (by decide) (b := b) (by rw [hB]; exact ub0) z5 (by decide)
  obtain ⟨r2, m2, h2, u2, l2, e2⟩ := prod_step N ha.u hl 1 (by decide) (b := b) (by rw [hB]; exact ub1) u1 l1
  obtain ⟨r3, m3, h3, u3, l3, e3⟩ := prod_step N ha.u hl 2 (by decide) (b := b) (by rw [hB]; exact ub2) u2 l2
  obtain ⟨r4, m4, h4, u4, l4, e4⟩ := prod_step N ha.u hl 3 (by decide) (b := b) (by rw [hB]; exact ub3) u3 l3
  have s0 : List.getD b 0 0 = b0 := by rw [hB]; rfl
  have s1 : List.getD b 1 0 = b1 := by rw [hB]; rfl
  have s2 : List.getD b 2 0 = b2 := by rw [hB]; rfl
  have s3 : List.getD b 3 0 = b3 := by rw [hB]; rfl
  rw [s0] at e1
  rw [s1] at e2
  rw [s2] at e3
  rw [s3] at e4
  rw [show v5 [0, 0, 0, 0, 0] = 0 from rfl] at e1
  rw [ha.v] at e1 e2 e3 e4
  obtain ⟨x0, x1, x2, x3, x4, rfl, ux0, ux1, ux2, ux3, ux4⟩ := u4
  have x40 : x4 = 0 := by
    rw [v5_mk] at l4
    unfold U at ux0 ux1 ux2 ux3 ux4
    omega
  subst x40
  have ev : v5 [x0, x1, x2, x3, 0] = v4 [x0, x1, x2, x3] := by rw [v5_mk, v4_mk]; omega
  rw [ev] at e4 l4
  obtain ⟨r, h5, ur, r0, r1', hr⟩ := lower_k (a := [x0, x1, x2, x3]) ⟨_, _, _, _, rfl, ux0, ux1, ux2, ux3⟩ l4
  have c5 : scalar_product_l0 N (((), (), (), (), ((4 : Nat) : Int)), ((), a, b, (), [x0, x1, x2, x3, 0])) = some (.inr (.inl (((), ()), ((), (), [x0, x1, x2, x3, 0])))) := by
    unfold scalar_product_l0
    simp only [show icmp .lss ((4 : Nat) : Int) 4 = false from rfl, cond_false, mo]
  have hloop : loopF (scalar_product_l0 N) N (((), (), (), (), 0), ((), a, b, (), [0, 0, 0, 0, 0])) = some (.inl (((), ()), ((), (), [x0, x1, x2, x3, 0]))) := by
    obtain ⟨f, hf⟩ : ∃ f, N = f + 1 + 1 + 1 + 1 + 1 := ⟨N - 5, by omega⟩
    have : ∀ g, g = f + 1 + 1 + 1 + 1 + 1 → loopF (scalar_product_l0 N) g (((), (), (), (), ((0 : Nat) : Int)), ((), a, b, (), [0, 0, 0, 0, 0])) = some (.inl (((), ()), ((), (), [x0, x1, x2, x3, 0]))) := by
      rintro g rfl
      rw [loop_in h1, loop_in h2, loop_in h3, loop_in h4]
      exact loop_out c5 f
    exact this N hf
  refine ⟨r, (v4 r).toNat, ?_, ⟨ur, by omega, by unfold ordl; omega⟩, ?_⟩
  · unfold scalar_product
    simp only [hloop, mo, List.getD_cons_zero, List.getD_cons_succ, h5]
  · have hx : ((v4 r).toNat : Int) = v4 r := by omega
    rw [hx]
    refine ⟨m1 + m2 * 18446744073709551616 + m3 * 340282366920938463463374607431768211456 + m4 * 6277101735386680763835789423207666416102355444464034512896 - (if v4 r = v4 [x0, x1, x2, x3] then 0 else 115792089237316195423570985008687907853269984665640564039457584007913129639936), ?_⟩
    have hn : (m : Int) * n = m * b0 + (m * b1) * 18446744073709551616 + (m * b2) * 340282366920938463463374607431768211456 + (m * b3) * 6277101735386680763835789423207666416102355444464034512896 := by
      rw [← hbv, Int.mul_add, Int.mul_add, Int.mul_add, Int.mul_assoc, Int.mul_assoc, Int.mul_assoc]
    rw [hn]
    have e1' : v5 r1 * 18446744073709551616 = m * b0 + m1 * 7237005577332262213973186563042994240857116359379907606001950938285454250989 := by rw [e1, Int.zero_add]
    have key := mont_sum e1' e2 e3 e4
    rw [show ((ordl : Nat) : Int) = 7237005577332262213973186563042994240857116359379907606001950938285454250989 from rfl]
    generalize m1 + m2 * 18446744073709551616 + m3 * 340282366920938463463374607431768211456 + m4 * 6277101735386680763835789423207666416102355444464034512896 = q at *
    rw [Int.sub_mul, ← Int.add_sub_assoc, ← key]
    split
    · rename_i hq
      rw [hq]
      omega
    · have hr' := hr.resolve_left (by assumption)
      rw [hr', Int.sub_mul]
      omega

end Go.Vx
