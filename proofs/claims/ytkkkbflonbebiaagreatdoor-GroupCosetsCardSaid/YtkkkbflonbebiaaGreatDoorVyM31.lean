import Derived.Test.YtkkkbflonbebiaaGreatDoorVyL2
import Derived.Test.YtkkkbflonbebiaaGreatDoorVyK0
import Derived.Test.YtkkkbflonbebiaaGreatDoorVyZ2
import Derived.Test.YtkkkbflonbebiaaGreatDoorVyS
import Derived.Test.YtkkkbflonbebiaaGreatDoorVyZ3
import Derived.Test.YtkkkbflonbebiaaGreatDoorVyL7
/- Numbers, part M2: the group's texts in the field K: the program's Decode and Encode. -/
set_option autoImplicit false
set_option linter.unusedSimpArgs false
namespace Go.Vx
open Go

theorem can_v {a : List Int} (h : Can a) : (kv a).v = val a := by
  have := h.nonneg
  show val a % pF = val a
  exact Int.emod_eq_of_lt this.1 this.2
theorem can_ev {a : List Int} (h : Can a) : (kv a).ev ↔ val a % 2 = 0 := by
  unfold K.ev; rw [can_v h]
theorem neg_ev {a : List Int} (h : Can a) : field_Elem_Negative a = true ↔ ¬ (kv a).ev := by
  rw [negative_spec h.L5, can_ev h, Int.emod_eq_of_lt h.nonneg.1 h.nonneg.2, decide_eq_true_eq]
  omega
theorem neg_ev_f {a : List Int} (h : Can a) (e : (kv a).ev) : field_Elem_Negative a = false := by
  cases hq : field_Elem_Negative a
  · rfl
  · exact absurd e ((neg_ev h).1 hq)

theorem sqrt_sr {a b : List Int} (ha : L5 a) (hb : L5 b) : ∃ r ok, field_SqrtRatio 300 a b = some (r, ok) ∧ Can r ∧ SR (kv a) (kv b) (kv r) ok := by
  obtain ⟨r, ok, h1, h2, h3, h4, h5, h6⟩ := sqrt_k ha hb
  exact ⟨r, ok, h1, h2, ⟨(can_ev h2).2 h3, h4, h5, h6⟩⟩
theorem abs_sr {a : List Int} (ha : L5 a) : Can (field_Elem_Abs a) ∧ (kv (field_Elem_Abs a)).ev ∧ kv (field_Elem_Abs a) ^ 2 = kv a ^ 2 := by
  obtain ⟨h1, h2, h3⟩ := abs_k ha
  exact ⟨h1, (can_ev h1).2 h2, by rcases h3 with h | h <;> rw [h] <;> grind⟩

theorem tab2_can : Can (field_tab 2) := ⟨_, _, _, _, _, rfl, by decide, by decide, by decide, by decide, by decide, by decide⟩
theorem tab2_k : kv (field_tab 2) = kD := by unfold kv kD; rfl
theorem tab4_can' : Can (field_tab 4) := ⟨_, _, _, _, _, rfl, by decide, by decide, by decide, by decide, by decide, by decide⟩
theorem const2' : field_Const 2 = some (field_tab 2) := rfl
theorem const1' : field_Const 1 = some (field_tab 1) := rfl
theorem const4' : field_Const 4 = some (field_tab 4) := rfl
theorem one_k (a : List Int) : Can (field_Elem_One a) ∧ kv (field_Elem_One a) = 1 := ⟨one_can, rfl⟩
theorem select_false {a b : List Int} (ha : L5 a) (hb : Can b) : field_Select (group_pick false) a b = b := by
  rw [select_spec ha hb.L5, show group_pick false = 0 from rfl, if_neg (by decide), least_can hb]
theorem least_id {a : List Int} (h : Can a) : field_Elem_Least a = a := least_can h

/-- Coordinates that are on the curve make a point. -/
theorem from_affine {a b : List Int} (ha : Can a) (hb : Can b) (hon : kv b ^ 2 - kv a ^ 2 = 1 + kD * kv a ^ 2 * kv b ^ 2) :
    ∃ t, curve_FromAffine a b = some ((a, b, [1, 0, 0, 0, 0], t), 0) ∧ Can t ∧ kv t = kv a * kv b := by
  obtain ⟨r1, h1, c1, e1⟩ := sq_k ha.L5
  obtain ⟨r2, h2, c2, e2⟩ := sq_k hb.L5
  obtain ⟨r4, h4, c4, e4⟩ := mul_k tab2_can.L5 c1.L5
  obtain ⟨r5, h5, c5, e5⟩ := mul_k c4.L5 c2.L5
  obtain ⟨r6, h6, c6, e6⟩ := mul_k ha.L5 hb.L5
  have k1 := sub_k c2.L5 c1.L5
  have k2 := add_k one_can.L5 c5.L5
  have hd : field_Elem_Sub r2 r1 = field_Elem_Add [1, 0, 0, 0, 0] r5 := by
    refine can_k k1.1 k2.1 ?_
    rw [k1.2, k2.2, e5, e4, e1, e2, tab2_k, show kv [1, 0, 0, 0, 0] = 1 from rfl]
    grind
  refine ⟨r6, ?_, c6, e6⟩
  unfold curve_FromAffine
  simp only [least_id ha, least_id hb, h1, h2, const2', h4, h5, mo, hd, decide_true, Bool.not_true, cond_false, curve_at, h6]

theorem select_true {a b : List Int} (ha : Can a) (hb : L5 b) : field_Select (group_pick true) a b = a := by
  rw [select_spec ha.L5 hb, show group_pick true = 1 from rfl, if_pos (by decide), least_can ha]
theorem neg_ev_t {a : List Int} (h : Can a) (e : ¬ (kv a).ev) : field_Elem_Negative a = true := (neg_ev h).2 e
theorem tab4_k : kv (field_tab 4) = kM := by unfold kv kM; rfl

/-- The root that the program takes. -/
theorem enc_root {x y r q : K} {ok : Bool} (hq : (1 + y) * (1 - y) = q ^ 2) (hn : x * y ≠ 0) (hu : (1 + y) * (1 - y) ≠ 0) (sr : SR 1 (((1 + y) * (1 - y)) * (x * y) ^ 2) r ok) : r ^ 2 * (((1 + y) * (1 - y)) * (x * y) ^ 2) = 1 := by
  have q0 : q ≠ 0 := fun e => hu (by rw [hq, e]; grind)
  obtain ⟨z, hz⟩ := inv_ex (K.mul_ne q0 hn)
  have hv : ((1 + y) * (1 - y)) * (x * y) ^ 2 = (q * (x * y)) ^ 2 := by rw [hq]; grind
  have := (sr.found (r := z) (K.mul_ne hu (K.pow_ne hn 2)) (by rw [hv]; generalize q * (x * y) = w at *; grind)).2
  rw [this, hv]
  generalize q * (x * y) = w at *
  grind

theorem u_ne {x y : K} (on : y ^ 2 - x ^ 2 = 1 + kD * x ^ 2 * y ^ 2) (hn : x * y ≠ 0) : (1 + y) * (1 - y) ≠ 0 := by
  intro h
  have hm := kM_sq
  have hx := (K.ne_mul hn).1
  have h1 : (-1 - kD) * x ^ 2 = 0 := by generalize kD = d at *; grind
  rcases K.mul_zero' h1 with h1 | h1
  · rw [h1] at hm; exact K.one_ne (by rw [← hm]; grind)
  · exact hx (K.sq_zero h1)

theorem k_neg_neg (b : K) : - -b = b := by grind
theorem k_mul_negs (a b : K) : -a * -b = a * b := by grind
theorem k_neg_zero {a : K} (h : -a = 0) : a = 0 := by grind
theorem rel_negs (a b : K) : Rel a b (-a) (-b) := .inr (.inr (.inl ⟨(k_neg_neg a).symm, (k_neg_neg b).symm⟩))
theorem on_neg {a b d : K} (h : b ^ 2 - a ^ 2 = 1 + d * a ^ 2 * b ^ 2) : (-b) ^ 2 - (-a) ^ 2 = 1 + d * (-a) ^ 2 * (-b) ^ 2 := by grind
theorem on_turn {a b d : K} (h : b ^ 2 - a ^ 2 = 1 + d * a ^ 2 * b ^ 2) : (a * kI) ^ 2 - (b * kI) ^ 2 = 1 + d * (b * kI) ^ 2 * (a * kI) ^ 2 := by
  have hi := kI_sq
  grind
theorem rel_turn (a b : K) : Rel a b (b * kI) (a * kI) := by
  have hi := kI_sq
  exact .inr (.inr (.inr ⟨by grind, by grind⟩))
theorem turn_mul (a b : K) : b * kI * (a * kI) = -(a * b) := by
  have hi := kI_sq
  grind
theorem den_turn {u t2 m w r d : K} (tn : t2 ≠ 0) (R : r ^ 2 * (u * t2) = 1) (tt : u * w = (-1 - d) * t2) (hm : (-1 - d) * m ^ 2 = 1) : (r * u * m) ^ 2 * w = 1 := by
  refine K.cancel tn ?_
  have : t2 * ((r * u * m) ^ 2 * w) = (r ^ 2 * (u * t2)) * m ^ 2 * (u * w) := by grind
  rw [this, R, tt]
  grind
theorem fin_neg (b : K) : (1 + -b) * (1 - -b) = (1 + b) * (1 - b) := by grind
theorem fin_one (r x y : K) : (r * (x * y)) ^ 2 * ((1 + y) * (1 - y)) = r ^ 2 * (((1 + y) * (1 - y)) * (x * y) ^ 2) := by
  generalize x * y = t
  generalize (1 + y) * (1 - y) = u
  grind

/-- The program's Encode of any even point. -/
theorem pencode {p1 p2 p3 p4 x y : List Int} {q : K} (h1 : curve_Point_Affine 300 (p1, p2, p3, p4) = some (x, y)) (hx : Can x) (hy : Can y) (on : kv y ^ 2 - kv x ^ 2 = 1 + kD * kv x ^ 2 * kv y ^ 2) (hq : (1 + kv y) * (1 - kv y) = q ^ 2) :
    ∃ s X Y, group_Point_Encode 300 (p1, p2, p3, p4) = some (field_Elem_Encode s) ∧ Can s ∧ Stands (kv s) X Y ∧ Rel (kv x) (kv y) X Y := by
  obtain ⟨r2, h2, c2, e2⟩ := mul_k hx.L5 hy.L5
  have one := one_k x
  have a1 := add_k one.1.L5 hy.L5
  have s1 := sub_k one.1.L5 hy.L5
  obtain ⟨r3, h3, c3, e3⟩ := mul_k a1.1.L5 s1.1.L5
  obtain ⟨r4, h4, c4, e4⟩ := sq_k c2.L5
  obtain ⟨r5, h5, c5, e5⟩ := mul_k c3.L5 c4.L5
  obtain ⟨r6, ok, h6, c6, sr⟩ := sqrt_sr one.1.L5 c5.L5
  obtain ⟨r7, h7, c7, e7⟩ := mul_k c6.L5 c3.L5
  obtain ⟨r8, h8, c8, e8⟩ := mul_k c6.L5 c2.L5
  obtain ⟨r9, h9, c9, e9⟩ := mul_k c7.L5 c8.L5
  obtain ⟨r10, h10, c10, e10⟩ := mul_k c9.L5 c2.L5
  obtain ⟨r11, h11, c11, e11⟩ := mul_k c2.L5 c10.L5
  obtain ⟨r13, h13, c13, e13⟩ := mul_k hx.L5 tab1_can.L5
  obtain ⟨r14, h14, c14, e14⟩ := mul_k hy.L5 tab1_can.L5
  obtain ⟨r16, h16, c16, e16⟩ := mul_k c7.L5 tab4_can'.L5
  rw [tab1_k] at e13 e14
  rw [tab4_k] at e16
  have E3 : kv r3 = (1 + kv y) * (1 - kv y) := by rw [e3, a1.2, s1.2, one.2]
  have E5 : kv r5 = ((1 + kv y) * (1 - kv y)) * (kv x * kv y) ^ 2 := by rw [e5, E3, e4, e2]; generalize kv x * kv y = t; grind
  rw [one.2, E5] at sr
  have E10 : kv r10 = kv r6 ^ 2 * (((1 + kv y) * (1 - kv y)) * (kv x * kv y) ^ 2) := by
    rw [e10, e9, e8, e7, e2, E3]
    generalize (1 + kv y) * (1 - kv y) = u
    generalize kv x * kv y = t
    grind
  -- what is handed back, once the signs are known
  have U : ∀ (b1 b2 : Bool) (x1 y1 dn : List Int), field_Elem_Negative r11 = b1 → field_Select (group_pick b1) r14 x = x1 → field_Select (group_pick b1) r13 y = y1 → field_Select (group_pick b1) r16 r8 = dn → Can x1 → Can y1 → Can dn →
      (∀ r17, field_Elem_Mul x1 r10 = some r17 → field_Elem_Negative r17 = b2) →
      ∃ s, group_Point_Encode 300 (p1, p2, p3, p4) = some (field_Elem_Encode s) ∧ Can s ∧ (kv s).ev ∧ kv s ^ 2 = (kv dn * (1 - (bif b2 then - kv y1 else kv y1))) ^ 2 := by
    intro b1 b2 x1 y1 dn g1 g2 g3 g4 k1 k2 k3 g5
    obtain ⟨r17, h17, c17, e17⟩ := mul_k k1.L5 c10.L5
    have g6 := g5 r17 h17
    have ny := neg_k k2.L5
    have hsel : Can (field_Select (group_pick b2) (field_Elem_Neg y1) y1) ∧ kv (field_Select (group_pick b2) (field_Elem_Neg y1) y1) = (bif b2 then - kv y1 else kv y1) := by
      cases b2
      · rw [select_false ny.1.L5 k2]; exact ⟨k2, rfl⟩
      · rw [select_true ny.1 k2.L5]; exact ⟨ny.1, ny.2⟩
    have s2 := sub_k one.1.L5 hsel.1.L5
    obtain ⟨r18, h18, c18, e18⟩ := mul_k k3.L5 s2.1.L5
    obtain ⟨m1, m2, m3⟩ := abs_sr c18.L5
    refine ⟨_, ?_, m1, m2, by rw [m3, e18, s2.2, hsel.2, one.2]⟩
    unfold group_Point_Encode
    simp only [h1, h2, h3, h4, h5, h6, h7, h8, h9, h10, h11, const1', h13, h14, const4', h16, mo, g1, g2, g3, g4, h17, g6, h18]
  have hi := kI_sq
  by_cases hn : kv x * kv y = 0
  · -- the neutral element
    have z6 : kv r6 = 0 := (sr.z' K.one_ne (by rw [hn]; grind)).2
    have z10 : kv r10 = 0 := by rw [E10, z6]; grind
    have z8 : kv r8 = 0 := by rw [e8, z6]; grind
    have n11 : field_Elem_Negative r11 = false := neg_ev_f c11 (by rw [e11, z10, show kv r2 * 0 = 0 by grind]; exact K.ev_zero)
    obtain ⟨s, k1, k2, k3, k4⟩ := U false false x y r8 n11 (select_false c14.L5 hx) (select_false c13.L5 hy) (select_false c16.L5 c8) hx hy c8 (fun r17 h17 => by
      obtain ⟨r, j1, j2, j3⟩ := mul_k hx.L5 c10.L5
      rw [h17] at j1
      obtain rfl := Option.some.inj j1
      exact neg_ev_f j2 (by rw [j3, z10, show kv x * 0 = 0 by grind]; exact K.ev_zero))
    have s0 : kv s = 0 := K.sq_zero (by rw [k4, z8]; grind)
    exact ⟨s, 0, 1, k1, k2, by rw [s0]; exact stands_zero, rel_zero on hn⟩
  · have hu := u_ne on hn
    have R := enc_root hq hn hu sr
    have Z : kv r10 = 1 := by rw [E10, R]
    obtain ⟨x0, y0⟩ := K.ne_mul hn
    have e11' : kv r11 = kv x * kv y := by rw [e11, e2, Z]; grind
    have neg17 : ∀ x1, Can x1 → ∀ r17, field_Elem_Mul x1 r10 = some r17 → Can r17 ∧ kv r17 = kv x1 := by
      intro x1 k r17 h17
      obtain ⟨r, j1, j2, j3⟩ := mul_k k.L5 c10.L5
      rw [h17] at j1
      obtain rfl := Option.some.inj j1
      exact ⟨j2, by rw [j3, Z]; grind⟩
    -- a point of the four with the product not negative, and its factor
    have fin : ∀ (b1 : Bool) (x1 y1 dn : List Int), field_Elem_Negative r11 = b1 → field_Select (group_pick b1) r14 x = x1 → field_Select (group_pick b1) r13 y = y1 → field_Select (group_pick b1) r16 r8 = dn → Can x1 → Can y1 → Can dn →
        (kv x1 * kv y1).ev → kv x1 ≠ 0 → kv y1 ≠ 0 → kv y1 ^ 2 - kv x1 ^ 2 = 1 + kD * kv x1 ^ 2 * kv y1 ^ 2 → kv dn ^ 2 * ((1 + kv y1) * (1 - kv y1)) = 1 → Rel (kv x) (kv y) (kv x1) (kv y1) →
        ∃ s X Y, group_Point_Encode 300 (p1, p2, p3, p4) = some (field_Elem_Encode s) ∧ Can s ∧ Stands (kv s) X Y ∧ Rel (kv x) (kv y) X Y := by
      intro b1 x1 y1 dn g1 g2 g3 g4 k1 k2 k3 xyev x10 y10 on1 de rel
      by_cases hev : (kv x1).ev
      · obtain ⟨s, j1, j2, j3, j4⟩ := U b1 false x1 y1 dn g1 g2 g3 g4 k1 k2 k3 (fun r17 h17 => by
          obtain ⟨q1, q2⟩ := neg17 x1 k1 r17 h17
          exact neg_ev_f q1 (by rw [q2]; exact hev))
        exact ⟨s, kv x1, kv y1, j1, j2, stands_of (e := kv dn) j3 hev xyev x10 y10 on1 de j4, rel⟩
      · obtain ⟨s, j1, j2, j3, j4⟩ := U b1 true x1 y1 dn g1 g2 g3 g4 k1 k2 k3 (fun r17 h17 => by
          obtain ⟨q1, q2⟩ := neg17 x1 k1 r17 h17
          exact neg_ev_t q1 (by rw [q2]; exact hev))
        refine ⟨s, - kv x1, - kv y1, j1, j2, stands_of (e := kv dn) j3 ((K.ev_neg x10).2 hev) ?_ ?_ ?_ ?_ ?_ j4, rel.trans (rel_negs _ _)⟩
        · rw [k_mul_negs]; exact xyev
        · exact fun h => x10 (k_neg_zero h)
        · exact fun h => y10 (k_neg_zero h)
        · exact on_neg on1
        · rw [fin_neg]; exact de
    by_cases hneg : (kv x * kv y).ev
    · refine fin false x y r8 (neg_ev_f c11 (by rw [e11']; exact hneg)) (select_false c14.L5 hx) (select_false c13.L5 hy) (select_false c16.L5 c8) hx hy c8 hneg x0 y0 on ?_ (Rel.refl _ _)
      rw [e8, e2, fin_one, R]
    · have t11 := neg_ev_t c11 (by rw [e11']; exact hneg)
      refine fin true r14 r13 r16 t11 (select_true c14 hx.L5) (select_true c13 hy.L5) (select_true c16 c8.L5) c14 c13 c16 ?_ ?_ ?_ ?_ ?_ ?_
      · rw [e13, e14, turn_mul]
        exact (K.ev_neg hn).2 hneg
      · rw [e14]; exact K.mul_ne y0 (fun h => by rw [h] at hi; exact K.one_ne (by grind))
      · rw [e13]; exact K.mul_ne x0 (fun h => by rw [h] at hi; exact K.one_ne (by grind))
      · rw [e13, e14]; exact on_turn on
      · rw [e16, e7, E3, e13]
        exact den_turn (K.pow_ne hn 2) R (turn_id on) kM_sq
      · rw [e13, e14]; exact rel_turn _ _

end Go.Vx

/- Numbers, part M4: the group's texts in the field K: what bytes are mapped to, by the program. -/
set_option autoImplicit false
set_option linter.unusedSimpArgs false
namespace Go.Vx
open Go

theorem tab3_can' : Can (field_tab 3) := ⟨_, _, _, _, _, rfl, by decide, by decide, by decide, by decide, by decide, by decide⟩
theorem tab5_can' : Can (field_tab 5) := ⟨_, _, _, _, _, rfl, by decide, by decide, by decide, by decide, by decide, by decide⟩
theorem tab6_can' : Can (field_tab 6) := ⟨_, _, _, _, _, rfl, by decide, by decide, by decide, by decide, by decide, by decide⟩
theorem tab3_k : kv (field_tab 3) = kA := by unfold kv kA; rfl
theorem tab5_k : kv (field_tab 5) = 1 - kD ^ 2 := by
  have h : kv (field_tab 5) = 1 - kD * kD := by
    unfold kv kD
    rw [show (1 : K) = K.of 1 from rfl, ← K.of_mul, ← K.of_sub, K.of_eq]
    decide
  rw [h]; generalize kD = d; grind
theorem tab6_k : kv (field_tab 6) = (kD - 1) ^ 2 := by
  have h : kv (field_tab 6) = (kD - 1) * (kD - 1) := by
    unfold kv kD
    rw [show (1 : K) = K.of 1 from rfl, ← K.of_sub, ← K.of_mul, K.of_eq]
    decide
  rw [h]; generalize kD = d; grind
theorem const3' : field_Const 3 = some (field_tab 3) := rfl
theorem const5' : field_Const 5 = some (field_tab 5) := rfl
theorem const6' : field_Const 6 = some (field_tab 6) := rfl
theorem inv_k {a : List Int} (ha : L5 a) : ∃ r, field_Elem_Invert 300 a = some r ∧ Can r ∧ kv r = kv a ^ eI := by
  obtain ⟨r, h1, p1⟩ := invert_spec ha
  exact ⟨r, h1, p1.1, pow_k p1⟩
theorem k_sq (a : K) : a * a = a ^ 2 := by grind

/-- What the program maps a number to. -/
theorem phalf {a : List Int} (ha : L5 a) : ∃ x y t R V S ok s c, group_MapHalf 300 a = some (x, y, [1, 0, 0, 0, 0], t) ∧ Can x ∧ Can y ∧ Can t ∧ kv t = kv x * kv y ∧ HalfK (kv a) (kv x) (kv y) R V S ok s c := by
  have one := one_k a
  have n1 := neg_k one.1.L5
  obtain ⟨r3, h3, c3, e3⟩ := sq_k ha
  obtain ⟨r4, h4, c4, e4⟩ := mul_k tab1_can.L5 c3.L5
  have a4 := add_k c4.L5 one.1.L5
  obtain ⟨r6, h6, c6, e6⟩ := mul_k a4.1.L5 tab5_can'.L5
  obtain ⟨r7, h7, c7, e7⟩ := mul_k c4.L5 tab2_can.L5
  have s7 := sub_k n1.1.L5 c7.L5
  have a7 := add_k c4.L5 tab2_can.L5
  obtain ⟨r8, h8, c8, e8⟩ := mul_k s7.1.L5 a7.1.L5
  obtain ⟨r9, ok, h9, c9, sr⟩ := sqrt_sr c6.L5 c8.L5
  obtain ⟨r10, h10, c10, e10⟩ := mul_k c9.L5 ha
  obtain ⟨b1, b2, b3⟩ := abs_sr c10.L5
  have nb := neg_k b1.L5
  have s4 := sub_k c4.L5 one.1.L5
  -- the numbers
  have R : kv r4 = kI * kv a ^ 2 := by rw [e4, e3, tab1_k, k_sq]
  have V : kv r8 = (-1 - kv r4 * kD) * (kv r4 + kD) := by rw [e8, s7.2, a7.2, n1.2, one.2, e7, tab2_k]
  have U : kv r6 = (kv r4 + 1) * (1 - kD ^ 2) := by rw [e6, a4.2, one.2, tab5_k]
  rw [U] at sr
  have sel : ∃ s c, field_Select (group_pick ok) r9 (field_Elem_Neg (field_Elem_Abs r10)) = s ∧ Can s ∧ field_Select (group_pick ok) (field_Elem_Neg (field_Elem_One a)) r4 = c ∧ Can c ∧
      (ok = true → kv s = kv r9 ∧ kv c = -1) ∧ (ok = false → (∃ w : K, w.ev ∧ w ^ 2 = (kv r9 * kv a) ^ 2 ∧ kv s = -w) ∧ kv c = kv r4) := by
    cases ok with
    | true =>
      refine ⟨_, _, select_true c9 nb.1.L5, c9, select_true n1.1 c4.L5, n1.1, (fun _ => ⟨rfl, by rw [n1.2, one.2]⟩), (fun h => by cases h)⟩
    | false =>
      exact ⟨_, _, select_false c9.L5 nb.1, nb.1, select_false n1.1.L5 c4, c4, (fun h => by cases h), (fun _ => ⟨⟨_, b2, by rw [b3, e10], nb.2⟩, rfl⟩)⟩
  obtain ⟨s, c, g1, g2, g3, g4, g5, g6⟩ := sel
  obtain ⟨r11, h11, c11, e11⟩ := mul_k g4.L5 s4.1.L5
  obtain ⟨r13, h13, c13, e13⟩ := mul_k c11.L5 tab6_can'.L5
  obtain ⟨r14, h14, c14, e14⟩ := sq_k g2.L5
  have ss := add_k g2.L5 g2.L5
  obtain ⟨r15, h15, c15, e15⟩ := mul_k ss.1.L5 c8.L5
  have s13 := sub_k c13.L5 c8.L5
  obtain ⟨r17, h17, c17, e17⟩ := mul_k s13.1.L5 tab3_can'.L5
  obtain ⟨r18, h18, c18, e18⟩ := inv_k c17.L5
  obtain ⟨r19, h19, c19, e19⟩ := mul_k c15.L5 c18.L5
  have a14 := add_k one.1.L5 c14.L5
  obtain ⟨r20, h20, c20, e20⟩ := inv_k a14.1.L5
  have s14 := sub_k one.1.L5 c14.L5
  obtain ⟨r21, h21, c21, e21⟩ := mul_k s14.1.L5 c20.L5
  have X : kv r19 = 2 * kv s * kv r8 * ((kv c * (kv r4 - 1) * (kD - 1) ^ 2 - kv r8) * kA) ^ eI := by
    rw [e19, e18, e17, tab3_k, s13.2, e13, tab6_k, e11, s4.2, one.2, e15, ss.2]
    generalize ((kv c * (kv r4 - 1) * (kD - 1) ^ 2 - kv r8) * kA) ^ eI = w
    grind
  have Y : kv r21 = (1 - kv s ^ 2) * (1 + kv s ^ 2) ^ eI := by
    rw [e21, e20, a14.2, s14.2, one.2, e14, k_sq]
  have hk : HalfK (kv a) (kv r19) (kv r21) (kv r4) (kv r8) (kv r9) ok (kv s) (kv c) := ⟨R, V, sr, g5, g6, X, Y⟩
  obtain ⟨t, f1, f2, f3⟩ := from_affine c19 c21 hk.on.1
  refine ⟨r19, r21, t, _, _, _, _, _, _, ?_, c19, c21, f2, f3, hk⟩
  unfold group_MapHalf
  simp only [const1', const2', const3', const5', const6', h3, h4, h6, h7, h8, h9, h10, g1, g3, h11, h13, h14, h15, h17, h18, h19, h20, h21, f1, mo]

end Go.Vx

/- Numbers, part M6: the curve's points in the field K: what the program's points stand for; sums. -/
set_option autoImplicit false
set_option linter.unusedSimpArgs false
namespace Go.Vx
open Go

abbrev P4 := List Int × List Int × List Int × List Int
abbrev o5 : List Int := [1, 0, 0, 0, 0]
abbrev z5 : List Int := [0, 0, 0, 0, 0]
theorem z5_can : Can z5 := ⟨_, _, _, _, _, rfl, by decide, by decide, by decide, by decide, by decide, by decide⟩
/-- The coordinates (X, Y) are those of x/z, y/z; t is x y / z. -/
structure Rep0 (p : P4) (X Y : K) : Prop where
  cx : Can p.1
  cy : Can p.2.1
  cz : Can p.2.2.1
  ct : Can p.2.2.2
  z : kv p.2.2.1 ≠ 0
  x : kv p.1 = X * kv p.2.2.1
  y : kv p.2.1 = Y * kv p.2.2.1
  t : kv p.2.2.2 = X * Y * kv p.2.2.1
/-- The point p stands for the coordinates (X, Y). -/
def Rep (p : P4) (X Y : K) : Prop := Rep0 p X Y ∨ (p.2.2.1 = z5 ∧ X = 0 ∧ Y = 1)

theorem Rep.whole {p : P4} {X Y : K} (h : Rep p X Y) : Rep0 (curve_place_whole p) X Y := by
  unfold curve_place_whole
  rcases h with h | ⟨h, rfl, rfl⟩
  · have : decide (p.2.2.1 = [0, 0, 0, 0, 0]) = false := decide_eq_false fun e => h.z (by rw [e]; rfl)
    rw [this]
    exact h
  · rw [h]
    exact ⟨z5_can, one_can, one_can, z5_can, K.one_ne, by show (0 : K) = 0 * 1; grind, by show (1 : K) = 1 * 1; grind, by show (0 : K) = 0 * 1 * 1; grind⟩
theorem rep_one {x y t : List Int} (hx : Can x) (hy : Can y) (ht : Can t) (h : kv t = kv x * kv y) : Rep (x, y, o5, t) (kv x) (kv y) :=
  .inl ⟨hx, hy, one_can, ht, K.one_ne, by show _ = _ * (1 : K); grind, by show _ = _ * (1 : K); grind, by show _ = _ * (1 : K); rw [h]; grind⟩
theorem rep_zero : Rep (z5, z5, z5, z5) 0 1 := .inr ⟨rfl, rfl, rfl⟩

theorem Rep.affine {p : P4} {X Y : K} (h : Rep p X Y) : ∃ x y, curve_Point_Affine 300 p = some (x, y) ∧ Can x ∧ Can y ∧ kv x = X ∧ kv y = Y := by
  have w := h.whole
  unfold curve_Point_Affine
  generalize curve_place_whole (p.1, p.2.1, p.2.2.1, p.2.2.2) = q at *
  obtain ⟨r1, h1, c1, e1⟩ := inv_k w.cz.L5
  obtain ⟨r2, h2, c2, e2⟩ := mul_k w.cx.L5 c1.L5
  obtain ⟨r3, h3, c3, e3⟩ := mul_k w.cy.L5 c1.L5
  have hi := k_inv w.z
  have hx := w.x
  have hy := w.y
  refine ⟨r2, r3, by simp only [h1, h2, h3, mo], c2, c3, ?_, ?_⟩
  · rw [e2, e1, hx]; generalize kv q.2.2.1 ^ eI = i at *; grind
  · rw [e3, e1, hy]; generalize kv q.2.2.1 ^ eI = i at *; grind

theorem d2_can : Can [1859910466990425, 932731440258426, 1072319116312658, 1815898335770999, 633789495995903] := ⟨_, _, _, _, _, rfl, by decide, by decide, by decide, by decide, by decide, by decide⟩
theorem d2_k : kv [1859910466990425, 932731440258426, 1072319116312658, 1815898335770999, 633789495995903] = kD + kD := by
  unfold kv kD
  rw [← K.of_add, K.of_eq]
  decide

theorem made_k {a b c d : List Int} (ha : Can a) (hb : Can b) (hc : Can c) (hd : Can d) : ∃ x y z t, curve_made a b c d = some (x, y, z, t) ∧ Can x ∧ Can y ∧ Can z ∧ Can t ∧ kv x = kv a * kv b ∧ kv y = kv c * kv d ∧ kv z = kv b * kv c ∧ kv t = kv a * kv d := by
  obtain ⟨r1, h1, c1, e1⟩ := mul_k ha.L5 hb.L5
  obtain ⟨r2, h2, c2, e2⟩ := mul_k hc.L5 hd.L5
  obtain ⟨r3, h3, c3, e3⟩ := mul_k hb.L5 hc.L5
  obtain ⟨r4, h4, c4, e4⟩ := mul_k ha.L5 hd.L5
  exact ⟨r1, r2, r3, r4, by unfold curve_made; simp only [h1, h2, h3, h4, mo], c1, c2, c3, c4, e1, e2, e3, e4⟩

theorem add_fin {a b x y z w d X Y : K} (hX : X * (1 + d * a * x * b * y) = a * y + b * x) (hY : Y * (1 - d * a * x * b * y) = b * y + a * x) :
    ∃ E F G H : K, E = (b * z + a * z) * (y * w + x * w) - (b * z - a * z) * (y * w - x * w) ∧ H = (b * z + a * z) * (y * w + x * w) + (b * z - a * z) * (y * w - x * w) ∧ F = (z * w + z * w) - (a * b * z) * (d + d) * (x * y * w) ∧ G = (z * w + z * w) + (a * b * z) * (d + d) * (x * y * w) ∧
      F = 2 * (z * w) * (1 - d * a * x * b * y) ∧ G = 2 * (z * w) * (1 + d * a * x * b * y) ∧ E * F = X * (F * G) ∧ G * H = Y * (F * G) ∧ E * H = X * Y * (F * G) := by
  have hE : (b * z + a * z) * (y * w + x * w) - (b * z - a * z) * (y * w - x * w) = X * (2 * (z * w) * (1 + d * a * x * b * y)) := by
    rw [show X * (2 * (z * w) * (1 + d * a * x * b * y)) = 2 * (z * w) * (X * (1 + d * a * x * b * y)) by grind, hX]; grind
  have hH : (b * z + a * z) * (y * w + x * w) + (b * z - a * z) * (y * w - x * w) = Y * (2 * (z * w) * (1 - d * a * x * b * y)) := by
    rw [show Y * (2 * (z * w) * (1 - d * a * x * b * y)) = 2 * (z * w) * (Y * (1 - d * a * x * b * y)) by grind, hY]; grind
  have hF : (z * w + z * w) - (a * b * z) * (d + d) * (x * y * w) = 2 * (z * w) * (1 - d * a * x * b * y) := by clear hX hY hE hH; grind
  have hG : (z * w + z * w) + (a * b * z) * (d + d) * (x * y * w) = 2 * (z * w) * (1 + d * a * x * b * y) := by clear hX hY hE hH; grind
  refine ⟨_, _, _, _, rfl, rfl, rfl, rfl, hF, hG, ?_, ?_, ?_⟩
  · rw [hE, hF, hG]; generalize 1 - d * a * x * b * y = u; generalize 1 + d * a * x * b * y = v; clear hX hY hE hH hF hG; grind
  · rw [hH, hF, hG]; generalize 1 - d * a * x * b * y = u; generalize 1 + d * a * x * b * y = v; clear hX hY hE hH hF hG; grind
  · rw [hE, hH, hF, hG]; generalize 1 - d * a * x * b * y = u; generalize 1 + d * a * x * b * y = v; clear hX hY hE hH hF hG; grind

/-- The program's sum. -/
theorem Rep.add {p q : P4} {a b x y : K} (hp : Rep p a b) (hq : Rep q x y) (h1 : On a b) (h2 : On x y) : ∃ r, curve_Point_Add p q = some r ∧ Rep r (ax a b x y) (ay a b x y) := by
  have u := hp.whole
  have v := hq.whole
  unfold curve_Point_Add
  generalize curve_place_whole (p.1, p.2.1, p.2.2.1, p.2.2.2) = p at *
  generalize curve_place_whole (q.1, q.2.1, q.2.2.1, q.2.2.2) = q at *
  have s1 := sub_k u.cy.L5 u.cx.L5
  have s2 := sub_k v.cy.L5 v.cx.L5
  have a1 := add_k u.cy.L5 u.cx.L5
  have a2 := add_k v.cy.L5 v.cx.L5
  obtain ⟨r1, k1, c1, e1⟩ := mul_k s1.1.L5 s2.1.L5
  obtain ⟨r2, k2, c2, e2⟩ := mul_k a1.1.L5 a2.1.L5
  obtain ⟨r3, k3, c3, e3⟩ := mul_k u.ct.L5 d2_can.L5
  obtain ⟨r4, k4, c4, e4⟩ := mul_k c3.L5 v.ct.L5
  obtain ⟨r5, k5, c5, e5⟩ := mul_k u.cz.L5 v.cz.L5
  have f1 := sub_k c2.L5 c1.L5
  have f2 := add_k c5.L5 c5.L5
  have f3 := sub_k f2.1.L5 c4.L5
  have f4 := add_k f2.1.L5 c4.L5
  have f5 := add_k c2.L5 c1.L5
  obtain ⟨X, Y, Z, T, k6, g1, g2, g3, g4, g5, g6, g7, g8⟩ := made_k f1.1 f3.1 f4.1 f5.1
  refine ⟨(X, Y, Z, T), by simp only [k1, k2, k3, k4, k5, k6, mo], .inl ?_⟩
  obtain ⟨E, F, G, H, m1, m2, m3, m4, m5, m6, m7, m8, m9⟩ := add_fin (z := kv p.2.2.1) (w := kv q.2.2.1) (ax_mul h1 h2) (ay_mul h1 h2)
  have eE : kv (field_Elem_Sub r2 r1) = E := by rw [f1.2, e2, e1, a1.2, a2.2, s1.2, s2.2, u.x, u.y, v.x, v.y, m1]
  have eH : kv (field_Elem_Add r2 r1) = H := by rw [f5.2, e2, e1, a1.2, a2.2, s1.2, s2.2, u.x, u.y, v.x, v.y, m2]
  have eF : kv (field_Elem_Sub (field_Elem_Add r5 r5) r4) = F := by rw [f3.2, f2.2, e5, e4, e3, d2_k, u.t, v.t, m3]
  have eG : kv (field_Elem_Add (field_Elem_Add r5 r5) r4) = G := by rw [f4.2, f2.2, e5, e4, e3, d2_k, u.t, v.t, m4]
  rw [eE, eF] at g5
  rw [eG, eH] at g6
  rw [eF, eG] at g7
  rw [eE, eH] at g8
  obtain ⟨w1, w2⟩ := add_whole h1 h2
  have zz : 2 * (kv p.2.2.1 * kv q.2.2.1) ≠ 0 := K.mul_ne K.two_ne (K.mul_ne u.z v.z)
  refine ⟨g1, g2, g3, g4, ?_, ?_, ?_, ?_⟩
  · show kv Z ≠ 0
    rw [g7, m5, m6]; exact K.mul_ne (K.mul_ne zz w2) (K.mul_ne zz w1)
  · show kv X = _ * kv Z
    rw [g5, g7]; exact m7
  · show kv Y = _ * kv Z
    rw [g6, g7]; exact m8
  · show kv T = _ * kv Z
    rw [g8, g7]; exact m9

end Go.Vx

/- Numbers, part M10: the curve's functions in the field K: opposite, double, same, multiples, 'live'. -/
set_option autoImplicit false
set_option linter.unusedSimpArgs false
namespace Go.Vx
open Go

/-- The point p stands for the pair q. -/
abbrev RepP (p : P4) (q : KP) : Prop := Rep p q.1 q.2

theorem repP_add {p q : P4} {a b : KP} (h1 : RepP p a) (h2 : RepP q b) (o1 : OnP a) (o2 : OnP b) : ∃ r, curve_Point_Add p q = some r ∧ RepP r (kadd a b) := Rep.add h1 h2 o1 o2

theorem repP_neg {p : P4} {a : KP} (h : RepP p a) : RepP (curve_Point_Neg p) (kneg a) := by
  have w := h.whole
  unfold curve_Point_Neg
  generalize curve_place_whole (p.1, p.2.1, p.2.2.1, p.2.2.2) = q at *
  have n1 := neg_k w.cx.L5
  have n2 := neg_k w.ct.L5
  refine .inl ⟨n1.1, w.cy, w.cz, n2.1, w.z, ?_, w.y, ?_⟩
  · show kv (field_Elem_Neg q.1) = -a.1 * _
    rw [n1.2, w.x]; grind
  · show kv (field_Elem_Neg q.2.2.2) = -a.1 * a.2 * _
    rw [n2.2, w.t]; grind
theorem repP_sub {p q : P4} {a b : KP} (h1 : RepP p a) (h2 : RepP q b) (o1 : OnP a) (o2 : OnP b) : ∃ r, curve_Point_Sub p q = some r ∧ RepP r (kadd a (kneg b)) := by
  obtain ⟨r, k1, k2⟩ := repP_add h1 (repP_neg h2) o1 (kneg_on o2)
  refine ⟨r, ?_, k2⟩
  unfold curve_Point_Sub
  have : curve_Point_Add (p.1, p.2.1, p.2.2.1, p.2.2.2) ((curve_Point_Neg (q.1, q.2.1, q.2.2.1, q.2.2.2)).1, (curve_Point_Neg (q.1, q.2.1, q.2.2.1, q.2.2.2)).2.1, (curve_Point_Neg (q.1, q.2.1, q.2.2.1, q.2.2.2)).2.2.1, (curve_Point_Neg (q.1, q.2.1, q.2.2.1, q.2.2.2)).2.2.2) = some r := k1
  simp only [this, mo]

theorem dbl_fin {x y z d X Y : K} (on : y ^ 2 - x ^ 2 = 1 + d * x ^ 2 * y ^ 2) (hX : X * (1 + d * x * x * y * y) = x * y + y * x) (hY : Y * (1 - d * x * x * y * y) = y * y + x * x) :
    ∃ E F G H : K, E = (x * z + y * z) * (x * z + y * z) - x * z * (x * z) - y * z * (y * z) ∧ H = -(x * z * (x * z)) - y * z * (y * z) ∧ F = y * z * (y * z) - x * z * (x * z) - z * z - z * z ∧ G = y * z * (y * z) - x * z * (x * z) ∧
      F = -(z * z) * (1 - d * x * x * y * y) ∧ G = z * z * (1 + d * x * x * y * y) ∧ E * F = X * (F * G) ∧ G * H = Y * (F * G) ∧ E * H = X * Y * (F * G) := by
  have hE : (x * z + y * z) * (x * z + y * z) - x * z * (x * z) - y * z * (y * z) = X * (z * z * (1 + d * x * x * y * y)) := by
    rw [show X * (z * z * (1 + d * x * x * y * y)) = z * z * (X * (1 + d * x * x * y * y)) by grind, hX]; grind
  have hH : -(x * z * (x * z)) - y * z * (y * z) = Y * (-(z * z) * (1 - d * x * x * y * y)) := by
    rw [show Y * (-(z * z) * (1 - d * x * x * y * y)) = -(z * z) * (Y * (1 - d * x * x * y * y)) by grind, hY]; grind
  have hG : y * z * (y * z) - x * z * (x * z) = z * z * (1 + d * x * x * y * y) := by
    rw [show y * z * (y * z) - x * z * (x * z) = z * z * (y ^ 2 - x ^ 2) by grind, on]; grind
  have hF : y * z * (y * z) - x * z * (x * z) - z * z - z * z = -(z * z) * (1 - d * x * x * y * y) := by rw [hG]; grind
  refine ⟨_, _, _, _, rfl, rfl, rfl, rfl, hF, hG, ?_, ?_, ?_⟩
  · rw [hE, hF, hG]; generalize 1 - d * x * x * y * y = u; generalize 1 + d * x * x * y * y = v; clear hX hY hE hH hF hG on; grind
  · rw [hH, hF, hG]; generalize 1 - d * x * x * y * y = u; generalize 1 + d * x * x * y * y = v; clear hX hY hE hH hF hG on; grind
  · rw [hE, hH, hF, hG]; generalize 1 - d * x * x * y * y = u; generalize 1 + d * x * x * y * y = v; clear hX hY hE hH hF hG on; grind

theorem repP_dbl {p : P4} {a : KP} (h : RepP p a) (o : OnP a) : ∃ r, curve_Point_Double p = some r ∧ RepP r (kdbl a) := by
  have w := h.whole
  unfold curve_Point_Double
  generalize curve_place_whole (p.1, p.2.1, p.2.2.1, p.2.2.2) = q at *
  obtain ⟨r1, k1, c1, e1⟩ := sq_k w.cx.L5
  obtain ⟨r2, k2, c2, e2⟩ := sq_k w.cy.L5
  obtain ⟨r3, k3, c3, e3⟩ := sq_k w.cz.L5
  have a1 := add_k w.cx.L5 w.cy.L5
  obtain ⟨r4, k4, c4, e4⟩ := sq_k a1.1.L5
  have s1 := sub_k c4.L5 c1.L5
  have s2 := sub_k s1.1.L5 c2.L5
  have s3 := sub_k c2.L5 c1.L5
  have s4 := sub_k s3.1.L5 c3.L5
  have s5 := sub_k s4.1.L5 c3.L5
  have n1 := neg_k c1.L5
  have s6 := sub_k n1.1.L5 c2.L5
  obtain ⟨X, Y, Z, T, k6, g1, g2, g3, g4, g5, g6, g7, g8⟩ := made_k s2.1 s5.1 s3.1 s6.1
  refine ⟨(X, Y, Z, T), by simp only [k1, k2, k3, k4, k6, mo], .inl ?_⟩
  obtain ⟨E, F, G, H, m1, m2, m3, m4, m5, m6, m7, m8, m9⟩ := dbl_fin (z := kv q.2.2.1) o (ax_mul o o) (ay_mul o o)
  have eE : kv (field_Elem_Sub (field_Elem_Sub r4 r1) r2) = E := by rw [s2.2, s1.2, e4, e1, e2, a1.2, w.x, w.y, m1]
  have eF : kv (field_Elem_Sub (field_Elem_Sub (field_Elem_Sub r2 r1) r3) r3) = F := by rw [s5.2, s4.2, s3.2, e3, e2, e1, w.x, w.y, m3]
  have eG : kv (field_Elem_Sub r2 r1) = G := by rw [s3.2, e2, e1, w.x, w.y, m4]
  have eH : kv (field_Elem_Sub (field_Elem_Neg r1) r2) = H := by rw [s6.2, n1.2, e1, e2, w.x, w.y, m2]
  rw [eE, eF] at g5
  rw [eG, eH] at g6
  rw [eF, eG] at g7
  rw [eE, eH] at g8
  obtain ⟨w1, w2⟩ := add_whole o o
  have zz : kv q.2.2.1 * kv q.2.2.1 ≠ 0 := K.mul_ne w.z w.z
  have zn : -(kv q.2.2.1 * kv q.2.2.1) ≠ 0 := fun h => zz (by rw [show kv q.2.2.1 * kv q.2.2.1 = - -(kv q.2.2.1 * kv q.2.2.1) by grind, h]; grind)
  refine ⟨g1, g2, g3, g4, ?_, ?_, ?_, ?_⟩
  · show kv Z ≠ 0
    rw [g7, m5, m6]; exact K.mul_ne (K.mul_ne zn w2) (K.mul_ne zz w1)
  · show kv X = _ * kv Z
    rw [g5, g7]; exact m7
  · show kv Y = _ * kv Z
    rw [g6, g7]; exact m8
  · show kv T = _ * kv Z
    rw [g8, g7]; exact m9

theorem same_fin {X Y z w : K} (hz : z ≠ 0) (hw : w ≠ 0) : X * z * w = Y * w * z ↔ X = Y := by
  constructor
  · intro h
    refine K.cancel (K.mul_ne hz hw) ?_
    rw [show z * w * X = X * z * w by grind, h]; grind
  · rintro rfl; grind
/-- The program's Same. -/
theorem repP_same {p q : P4} {a b : KP} (h1 : RepP p a) (h2 : RepP q b) : ∃ c, curve_Point_Same p q = some c ∧ (c = true ↔ a = b) := by
  have u := h1.whole
  have v := h2.whole
  unfold curve_Point_Same
  generalize curve_place_whole (p.1, p.2.1, p.2.2.1, p.2.2.2) = p at *
  generalize curve_place_whole (q.1, q.2.1, q.2.2.1, q.2.2.2) = q at *
  obtain ⟨r1, k1, c1, e1⟩ := mul_k u.cx.L5 v.cz.L5
  obtain ⟨r2, k2, c2, e2⟩ := mul_k v.cx.L5 u.cz.L5
  obtain ⟨r3, k3, c3, e3⟩ := mul_k u.cy.L5 v.cz.L5
  obtain ⟨r4, k4, c4, e4⟩ := mul_k v.cy.L5 u.cz.L5
  rw [u.x] at e1
  rw [v.x] at e2
  rw [u.y] at e3
  rw [v.y] at e4
  have x : r1 = r2 ↔ a.1 = b.1 := by
    rw [← same_fin u.z v.z, ← e1, ← e2]
    exact ⟨fun h => by rw [h], fun h => can_k c1 c2 h⟩
  have y : r3 = r4 ↔ a.2 = b.2 := by
    rw [← same_fin u.z v.z, ← e3, ← e4]
    exact ⟨fun h => by rw [h], fun h => can_k c3 c4 h⟩
  by_cases hx : r1 = r2
  · refine ⟨decide (r3 = r4), by simp only [k1, k2, k3, k4, mo, decide_eq_true hx, cond_true], ?_⟩
    rw [decide_eq_true_eq, y]
    exact ⟨fun h => Prod.ext (x.1 hx) h, fun h => by rw [h]⟩
  · refine ⟨false, by simp only [k1, k2, mo, decide_eq_false hx, cond_false], ?_⟩
    constructor
    · intro h; cases h
    · intro h; exact absurd (x.2 (by rw [h])) hx

/- Multiples. -/
def nib (b : List Int) (i : Nat) : Nat := (List.getD b (i / 2) 0).toNat / 16 ^ (i % 2) % 16
/-- The digits below place n, the highest first. -/
def digs (b : List Int) : Nat → List Nat
  | 0 => []
  | n + 1 => nib b n :: digs b n

theorem b_nib {y : Int} (h : 0 ≤ y ∧ y ≤ 255) (r : Nat) (hr : r < 2) : ibin .and .u8 (ibin .shr .u8 y ((4 * r : Nat) : Int)) 15 = ((y.toNat / 16 ^ r % 16 : Nat) : Int) := by
  have hp : (2 : Nat) ^ (4 * r) = 16 ^ r := by rw [Nat.pow_mul]
  have e1 : ibin .shr .u8 y ((4 * r : Nat) : Int) = ((y.toNat / 16 ^ r : Nat) : Int) := by
    show y.fdiv (2 ^ (min ((4 * r : Nat) : Int).toNat 8)) = _
    rw [Int.toNat_natCast, Nat.min_eq_left (by omega), Int.fdiv_eq_ediv_of_nonneg _ (Int.le_of_lt (Int.pow_pos (by decide)))]
    have : y = (y.toNat : Int) := by omega
    conv => lhs; rw [this]
    rw [← hp, Int.natCast_ediv, Int.natCast_pow]; rfl
  rw [e1]
  generalize hz : y.toNat / 16 ^ r = z
  have hz2 : z ≤ 255 := by
    rw [← hz]
    exact Nat.le_trans (Nat.div_le_self _ _) (by omega)
  show IntKind.wrap .u8 ((BitVec.ofInt 8 (z : Int) &&& BitVec.ofInt 8 15).toNat : Int) = _
  have : (BitVec.ofInt 8 (z : Int) &&& BitVec.ofInt 8 15).toNat = z % 16 := by
    rw [BitVec.toNat_and, BitVec.toNat_ofInt, show (BitVec.ofInt 8 15).toNat = 2 ^ 4 - 1 from rfl, Nat.and_two_pow_sub_one_eq_mod]
    omega
  rw [this, wrap8]
  omega

theorem rnd_zero (p : KP) : rnd p kzero 0 = kzero := by
  unfold rnd kdbl nmul
  rw [kadd_zero, kadd_zero, kadd_zero, kadd_zero, kadd_zero]
theorem fold_low (p : KP) (b : List Int) : (n m : Nat) → (∀ j, n ≤ j → j < m → nib b j = 0) → n ≤ m → (digs b m).foldl (rnd p) kzero = (digs b n).foldl (rnd p) kzero
  | n, 0, _, h => by
    obtain rfl : n = 0 := by omega
    rfl
  | n, m + 1, hz, h => by
    rcases Nat.lt_or_ge m n with hm | hm
    · obtain rfl : n = m + 1 := by omega
      rfl
    · rw [← fold_low p b n m (fun j h1 h2 => hz j h1 (by omega)) hm, digs, List.foldl_cons, hz m hm (by omega), rnd_zero]

abbrev T16 (t : Nat → P4) : P4 × P4 × P4 × P4 × P4 × P4 × P4 × P4 × P4 × P4 × P4 × P4 × P4 × P4 × P4 × P4 := (t 0, t 1, t 2, t 3, t 4, t 5, t 6, t 7, t 8, t 9, t 10, t 11, t 12, t 13, t 14, t 15)
theorem sel16 {Q : P4 → Nat → Prop} {t : Nat → P4} (ht : ∀ i, i < 16 → Q (t i) i) (d : Nat) (hd : d < 16) :
    Q (List.getD [(t 0).1, (t 1).1, (t 2).1, (t 3).1, (t 4).1, (t 5).1, (t 6).1, (t 7).1, (t 8).1, (t 9).1, (t 10).1, (t 11).1, (t 12).1, (t 13).1, (t 14).1, (t 15).1] d [],
      List.getD [(t 0).2.1, (t 1).2.1, (t 2).2.1, (t 3).2.1, (t 4).2.1, (t 5).2.1, (t 6).2.1, (t 7).2.1, (t 8).2.1, (t 9).2.1, (t 10).2.1, (t 11).2.1, (t 12).2.1, (t 13).2.1, (t 14).2.1, (t 15).2.1] d [],
      List.getD [(t 0).2.2.1, (t 1).2.2.1, (t 2).2.2.1, (t 3).2.2.1, (t 4).2.2.1, (t 5).2.2.1, (t 6).2.2.1, (t 7).2.2.1, (t 8).2.2.1, (t 9).2.2.1, (t 10).2.2.1, (t 11).2.2.1, (t 12).2.2.1, (t 13).2.2.1, (t 14).2.2.1, (t 15).2.2.1] d [],
      List.getD [(t 0).2.2.2, (t 1).2.2.2, (t 2).2.2.2, (t 3).2.2.2, (t 4).2.2.2, (t 5).2.2.2, (t 6).2.2.2, (t 7).2.2.2, (t 8).2.2.2, (t 9).2.2.2, (t 10).2.2.2, (t 11).2.2.2, (t 12).2.2.2, (t 13).2.2.2, (t 14).2.2.2, (t 15).2.2.2] d []) d := by
  match d, hd with
  | 0, _ => exact ht 0 (by decide)
  | 1, _ => exact ht 1 (by decide)
  | 2, _ => exact ht 2 (by decide)
  | 3, _ => exact ht 3 (by decide)
  | 4, _ => exact ht 4 (by decide)
  | 5, _ => exact ht 5 (by decide)
  | 6, _ => exact ht 6 (by decide)
  | 7, _ => exact ht 7 (by decide)
  | 8, _ => exact ht 8 (by decide)
  | 9, _ => exact ht 9 (by decide)
  | 10, _ => exact ht 10 (by decide)
  | 11, _ => exact ht 11 (by decide)
  | 12, _ => exact ht 12 (by decide)
  | 13, _ => exact ht 13 (by decide)
  | 14, _ => exact ht 14 (by decide)
  | 15, _ => exact ht 15 (by decide)
  | n + 16, h => exact absurd h (by omega)

theorem dec_rng {n : Nat} {i : Nat} (h : i < n) : decide (0 ≤ (i : Int) ∧ (i : Int) < ((n : Nat) : Int)) = true := decide_eq_true ⟨by omega, by omega⟩
theorem dec_nn (i : Nat) : decide (0 ≤ (i : Int)) = true := decide_eq_true (by omega)
theorem geq_zero (i : Nat) : icmp .geq (i : Int) 0 = true := by
  have h : (i : Int) ≥ 0 := by omega
  simp [icmp]
theorem byte_at {b : List Int} (hb : L32 b) (i : Nat) : 0 ≤ List.getD b i 0 ∧ List.getD b i 0 ≤ 255 := by
  rw [List.getD_eq_getElem?_getD]
  rcases Nat.lt_or_ge i b.length with h | h
  · rw [List.getElem?_eq_getElem h]
    exact hb.2 _ (List.getElem_mem h)
  · rw [List.getElem?_eq_none h]; exact ⟨by decide, by decide⟩

theorem l6_step (N : Nat) {t : Nat → P4} {p : KP} (hp : OnP p) (ht : ∀ i, i < 16 → RepP (t i) (nmul p i)) {b : List Int} (hb : L32 b) {acc : P4} {q : KP} (ha : RepP acc q) (hq : OnP q) {i : Nat} (hi : i < 64) :
    ∃ r, curve_Point_TimesBytes_l6 N (((), (), (), (), (i : Int)), (b, (), T16 t, acc)) = some (.inl (((), (), (), (), (i : Int) - 1), (b, (), T16 t, r))) ∧ RepP r (rnd p q (nib b i)) := by
  obtain ⟨r1, k1, h1⟩ := repP_dbl ha hq
  have o1 := kdbl_on hq
  obtain ⟨r2, k2, h2⟩ := repP_dbl h1 o1
  have o2 := kdbl_on o1
  obtain ⟨r3, k3, h3⟩ := repP_dbl h2 o2
  have o3 := kdbl_on o2
  obtain ⟨r4, k4, h4⟩ := repP_dbl h3 o3
  have o4 := kdbl_on o3
  have hlt : nib b i < 16 := Nat.mod_lt _ (by decide)
  obtain ⟨r5, k5, h5⟩ := repP_add h4 (sel16 (Q := fun x d => RepP x (nmul p d)) ht (nib b i) hlt) o4 (nmul_on hp _)
  have e1 : ibin .quo .i64 (i : Int) 2 = ((i / 2 : Nat) : Int) := Ref.i_quo 2 (by omega)
  have e2 : ibin .rem .i64 (i : Int) 2 = ((i % 2 : Nat) : Int) := Ref.i_rem 2
  have e3 : ibin .mul .i64 4 ((i % 2 : Nat) : Int) = ((4 * (i % 2) : Nat) : Int) := by rw [Ref.i_mul (by omega) (by omega)]; omega
  have e4 : ibin .and .u8 (ibin .shr .u8 (List.getD b (i / 2) 0) ((4 * (i % 2) : Nat) : Int)) 15 = ((nib b i : Nat) : Int) := b_nib (byte_at hb _) _ (Nat.mod_lt _ (by decide))
  have e5 : ibin .sub .i64 (i : Int) 1 = (i : Int) - 1 := Ref.i_sub (by omega) (by omega)
  refine ⟨r5, ?_, h5⟩
  obtain ⟨a1, a2, a3, a4⟩ := acc
  obtain ⟨b1, b2, b3, b4⟩ := r1
  obtain ⟨c1, c2, c3, c4⟩ := r2
  obtain ⟨d1, d2, d3, d4⟩ := r3
  obtain ⟨f1, f2, f3, f4⟩ := r4
  unfold curve_Point_TimesBytes_l6
  simp only [geq_zero, cond_true, k1, k2, k3, k4, mo, e1, dec_rng (show i / 2 < 32 by omega), e2, e3, dec_nn, Int.toNat_natCast, e4, dec_rng hlt, k5, e5]

theorem l6_loop (N : Nat) {t : Nat → P4} {p : KP} (hp : OnP p) (ht : ∀ i, i < 16 → RepP (t i) (nmul p i)) {b : List Int} (hb : L32 b) : (k : Nat) → k ≤ 64 → (fuel : Nat) → k < fuel → (acc : P4) → (q : KP) → RepP acc q → OnP q →
    ∃ r, loopF (curve_Point_TimesBytes_l6 N) fuel (((), (), (), (), (k : Int) - 1), (b, (), T16 t, acc)) = some (.inl (((), ()), ((), r))) ∧ RepP r ((digs b k).foldl (rnd p) q)
  | 0, _, fuel + 1, _, acc, q, ha, hq => by
    refine ⟨acc, ?_, ha⟩
    rw [loopF_succ]
    have : icmp .geq (((0 : Nat) : Int) - 1) 0 = false := by decide
    unfold curve_Point_TimesBytes_l6
    simp only [this, cond_false, mo]
  | k + 1, hk, fuel + 1, hf, acc, q, ha, hq => by
    obtain ⟨r, h1, h2⟩ := l6_step N hp ht hb ha hq (show k < 64 by omega)
    obtain ⟨r', g1, g2⟩ := l6_loop N hp ht hb k (by omega) fuel (by omega) r _ h2 (rnd_on hp hq _)
    refine ⟨r', ?_, g2⟩
    rw [loopF_succ, show (((k + 1 : Nat) : Int) - 1) = (k : Int) by omega, h1]
    exact g1

theorem nib_bool (n : Nat) : icmp .neq (n : Int) 0 = !decide (n = 0) := by
  by_cases h : n = 0
  · subst h; rfl
  · have h' : (n : Int) ≠ 0 := by omega
    simp only [icmp, h, h', decide_false]
    simp [h]
theorem l0_loop (N : Nat) {b : List Int} (hb : L32 b) (x y z u : List Int) : (k : Nat) → k ≤ 32 → (fuel : Nat) → k < fuel →
    ∃ n : Nat, n ≤ 2 * k ∧ loopF (curve_Point_TimesBytes_l0 N) fuel (((), (), (), (), (k : Int) - 1), ((x, y, z, u), b, ())) = some (.inl (((), (), (), (n : Int) - 1), ((x, y, z, u), b, ()))) ∧ ∀ j, n ≤ j → j < 2 * k → nib b j = 0
  | 0, _, fuel + 1, _ => by
    refine ⟨0, by omega, ?_, fun j h1 h2 => by omega⟩
    rw [loopF_succ]
    have : icmp .geq (((0 : Nat) : Int) - 1) 0 = false := by decide
    unfold curve_Point_TimesBytes_l0
    simp only [this, cond_false, mo]
    rfl
  | k + 1, hk, fuel + 1, hf => by
    have e0 : (((k + 1 : Nat) : Int) - 1) = (k : Int) := by omega
    have n1 : ibin .and .u8 (ibin .shr .u8 (List.getD b k 0) 4) 15 = ((nib b (2 * k + 1) : Nat) : Int) := by
      have := b_nib (byte_at hb k) 1 (by decide)
      rw [show ((4 * 1 : Nat) : Int) = 4 from rfl] at this
      rw [this]; unfold nib
      rw [show (2 * k + 1) / 2 = k by omega, show (2 * k + 1) % 2 = 1 by omega]
    have n0 : ibin .and .u8 (ibin .shr .u8 (List.getD b k 0) 0) 15 = ((nib b (2 * k) : Nat) : Int) := by
      have := b_nib (byte_at hb k) 0 (by decide)
      rw [show ((4 * 0 : Nat) : Int) = 0 from rfl] at this
      rw [this]; unfold nib
      rw [show (2 * k) / 2 = k by omega, show (2 * k) % 2 = 0 by omega]
    have m2 : ibin .mul .i64 2 (k : Int) = ((2 * k : Nat) : Int) := by rw [Ref.i_mul (by omega) (by omega)]; omega
    have a1 : ibin .add .i64 ((2 * k : Nat) : Int) 1 = ((2 * k + 2 : Nat) : Int) - 1 := by rw [Ref.i_add (by omega) (by omega)]; omega
    have a0 : ibin .add .i64 ((2 * k : Nat) : Int) 0 = ((2 * k + 1 : Nat) : Int) - 1 := by rw [Ref.i_add (by omega) (by omega)]; omega
    have s1 : ibin .sub .i64 (k : Int) 1 = (k : Int) - 1 := Ref.i_sub (by omega) (by omega)
    by_cases h1 : nib b (2 * k + 1) = 0
    · by_cases h0 : nib b (2 * k) = 0
      · obtain ⟨n, g1, g2, g3⟩ := l0_loop N hb x y z u k (by omega) fuel (by omega)
        refine ⟨n, by omega, ?_, fun j j1 j2 => ?_⟩
        · rw [loopF_succ, e0]
          unfold curve_Point_TimesBytes_l0
          simp only [geq_zero, dec_rng (show k < 32 by omega), Int.toNat_natCast, n1, n0, nib_bool, h1, h0, decide_true, Bool.not_true, cond_true, cond_false, s1, mo]
          exact g2
        · rcases Nat.lt_or_ge j (2 * k) with h | h
          · exact g3 j j1 h
          · rcases Nat.lt_or_ge j (2 * k + 1) with h' | h'
            · rw [show j = 2 * k by omega]; exact h0
            · rw [show j = 2 * k + 1 by omega]; exact h1
      · refine ⟨2 * k + 1, by omega, ?_, fun j j1 j2 => by rw [show j = 2 * k + 1 by omega]; exact h1⟩
        rw [loopF_succ, e0]
        unfold curve_Point_TimesBytes_l0
        simp only [geq_zero, dec_rng (show k < 32 by omega), Int.toNat_natCast, n1, n0, nib_bool, h1, decide_eq_false h0, decide_true, Bool.not_true, Bool.not_false, cond_true, cond_false, m2, a0, mo]
    · refine ⟨2 * k + 2, by omega, ?_, fun j j1 j2 => by omega⟩
      rw [loopF_succ, e0]
      unfold curve_Point_TimesBytes_l0
      simp only [geq_zero, dec_rng (show k < 32 by omega), Int.toNat_natCast, n1, nib_bool, decide_eq_false h1, Bool.not_false, cond_true, m2, a1, mo]

/-- The table. -/
theorem table_rep {x : P4} {p : KP} (h : RepP x p) (hp : OnP p) : ∃ t : Nat → P4, t 0 = (z5, z5, z5, z5) ∧ (∀ i, i < 15 → curve_Point_Add (t i) x = some (t (i + 1))) ∧ ∀ i, RepP (t i) (nmul p i) := by
  let step : P4 → P4 := fun a => (curve_Point_Add a x).getD a
  let t : Nat → P4 := fun n => n.rec (z5, z5, z5, z5) fun _ a => step a
  have key : ∀ i, RepP (t i) (nmul p i) ∧ curve_Point_Add (t i) x = some (t (i + 1)) := by
    intro i
    induction i with
    | zero =>
      have h0 : RepP (t 0) (nmul p 0) := rep_zero
      obtain ⟨r, k1, k2⟩ := repP_add h0 h (nmul_on hp 0) hp
      refine ⟨h0, ?_⟩
      show _ = some (step (t 0))
      show _ = some ((curve_Point_Add (t 0) x).getD (t 0))
      rw [k1]; rfl
    | succ i ih =>
      obtain ⟨h1, h2⟩ := ih
      have h3 : RepP (t (i + 1)) (nmul p (i + 1)) := by
        obtain ⟨r, k1, k2⟩ := repP_add h1 h (nmul_on hp i) hp
        rw [h2] at k1
        rw [Option.some.inj k1]; exact k2
      obtain ⟨r, k1, k2⟩ := repP_add h3 h (nmul_on hp (i + 1)) hp
      refine ⟨h3, ?_⟩
      show _ = some ((curve_Point_Add (t (i + 1)) x).getD (t (i + 1)))
      rw [k1]; rfl
  exact ⟨t, rfl, fun i _ => (key i).2, fun i => (key i).1⟩

/-- The program's multiples. -/
theorem repP_times (N : Nat) (hN : 65 ≤ N) {x : P4} {p : KP} (h : RepP x p) (hp : OnP p) {b : List Int} (hb : L32 b) : ∃ r, curve_Point_TimesBytes N x b = some r ∧ RepP r (horn p (digs b 64)) := by
  obtain ⟨x1, x2, x3, x4⟩ := x
  obtain ⟨n, n1, n2, n3⟩ := l0_loop N hb x1 x2 x3 x4 32 (by decide) N (by omega)
  obtain ⟨t, t1, t2, t3⟩ := table_rep h hp
  obtain ⟨r, k1, k2⟩ := l6_loop N hp (fun i _ => t3 i) hb n (by omega) N (by omega) (z5, z5, z5, z5) kzero rep_zero zero_on
  rw [← fold_low p b n 64 (fun j j1 j2 => n3 j j1 (by omega)) (by omega)] at k2
  refine ⟨r, ?_, k2⟩
  have a0 := t2 0 (by decide)
  rw [t1] at a0
  have a1 := t2 1 (by decide)
  have a2 := t2 2 (by decide)
  have a3 := t2 3 (by decide)
  have a4 := t2 4 (by decide)
  have a5 := t2 5 (by decide)
  have a6 := t2 6 (by decide)
  have a7 := t2 7 (by decide)
  have a8 := t2 8 (by decide)
  have a9 := t2 9 (by decide)
  have a10 := t2 10 (by decide)
  have a11 := t2 11 (by decide)
  have a12 := t2 12 (by decide)
  have a13 := t2 13 (by decide)
  have a14 := t2 14 (by decide)
  unfold T16 at k1
  rw [t1] at k1
  have n2' : loopF (curve_Point_TimesBytes_l0 N) N (((), (), (), (), 31), ((x1, x2, x3, x4), b, ())) = some (.inl (((), (), (), (n : Int) - 1), ((x1, x2, x3, x4), b, ()))) := n2
  unfold curve_Point_TimesBytes
  simp only [n2', mo, a0, a1, a2, a3, a4, a5, a6, a7, a8, a9, a10, a11, a12, a13, a14, k1]

end Go.Vx

/- Numbers, part M11: the base, the torsion points, Free, 'live', 'around', 'on'. -/
set_option autoImplicit false
set_option linter.unusedSimpArgs false
namespace Go.Vx
open Go

theorem repP_zero : RepP (z5, z5, z5, z5) kzero := rep_zero
theorem kv_num {l : List Int} {n : Nat} (h : val l % pF = (n : Int) % pF) : kv l = kn n := K.of_eq.2 h
theorem pt_of {x y t : List Int} (hx : Can x) (hy : Can y) (ht : Can t) (h : val t % pF = val x * val y % pF)
    (hon : (val y * val y - val x * val x) % pF = (1 + 37095705934669439343138083508754565189542113879843219016388785533085940283555 * (val x * val x) * (val y * val y)) % pF) : RepP (x, y, o5, t) (kv x, kv y) ∧ OnP (kv x, kv y) := by
  refine ⟨rep_one hx hy ht ?_, ?_⟩
  · show K.of (val t) = K.of (val x) * K.of (val y)
    rw [← K.of_mul, K.of_eq]; exact h
  · have h1 := K.of_eq.2 hon
    rw [K.of_sub, K.of_add, K.of_mul, K.of_mul, K.of_mul, K.of_mul, K.of_mul, K.of_mul] at h1
    show On (K.of (val x)) (K.of (val y))
    unfold On
    have hd : K.of 37095705934669439343138083508754565189542113879843219016388785533085940283555 = kD := rfl
    have h1' : K.of 1 = 1 := rfl
    rw [hd, h1'] at h1
    generalize K.of (val x) = a at *
    generalize K.of (val y) = b at *
    generalize kD = d at *
    grind

def torX : Nat → List Int
  | 0 => [0, 0, 0, 0, 0]
  | 1 => [358744748052810, 1691584618240980, 977650209285361, 1429865912637724, 560044844278676]
  | 2 => [1718705420411056, 234908883556509, 2233514472574048, 2117202627021982, 765476049583133]
  | 3 => [358744748052810, 1691584618240980, 977650209285361, 1429865912637724, 560044844278676]
  | 4 => [0, 0, 0, 0, 0]
  | 5 => [1893055065632419, 560215195444267, 1274149604399886, 821933901047523, 1691754969406571]
  | 6 => [533094393274173, 2016890930128738, 18285341111199, 134597186663265, 1486323764102114]
  | _ => [1893055065632419, 560215195444267, 1274149604399886, 821933901047523, 1691754969406571]
def torY : Nat → List Int
  | 0 => [0, 0, 0, 0, 0]
  | 1 => [2166873539340326, 1778179147085316, 1886209374839743, 1223329526802818, 105300633354275]
  | 2 => [0, 0, 0, 0, 0]
  | 3 => [84926274344903, 473620666599931, 365590438845504, 1028470286882429, 2146499180330972]
  | 4 => [2251799813685228, 2251799813685247, 2251799813685247, 2251799813685247, 2251799813685247]
  | 5 => [84926274344903, 473620666599931, 365590438845504, 1028470286882429, 2146499180330972]
  | 6 => [0, 0, 0, 0, 0]
  | _ => [2166873539340326, 1778179147085316, 1886209374839743, 1223329526802818, 105300633354275]
def torT : Nat → List Int
  | 0 => [0, 0, 0, 0, 0]
  | 1 => [803472979097708, 393902981724766, 1158077081819914, 574391322974006, 336294660666841]
  | 2 => [0, 0, 0, 0, 0]
  | 3 => [1448326834587521, 1857896831960481, 1093722731865333, 1677408490711241, 1915505153018406]
  | 4 => [0, 0, 0, 0, 0]
  | 5 => [803472979097708, 393902981724766, 1158077081819914, 574391322974006, 336294660666841]
  | 6 => [0, 0, 0, 0, 0]
  | _ => [1448326834587521, 1857896831960481, 1093722731865333, 1677408490711241, 1915505153018406]
/-- The torsion points as pairs. -/
def torK : Nat → KP
  | 0 => kzero
  | n + 1 => (kv (torX (n + 1)), kv (torY (n + 1)))
theorem and7 {a : Int} (h : -9223372036854775808 ≤ a ∧ a ≤ 9223372036854775807) : ibin .and .i64 a 7 = a % 8 := by
  show IntKind.wrap .i64 ((BitVec.ofInt 64 a &&& BitVec.ofInt 64 7).toNat : Int) = _
  have : (BitVec.ofInt 64 a &&& BitVec.ofInt 64 7).toNat = (a % 18446744073709551616).toNat % 8 := by
    rw [BitVec.toNat_and, BitVec.toNat_ofInt, show (BitVec.ofInt 64 7).toNat = 2 ^ 3 - 1 from rfl, Nat.and_two_pow_sub_one_eq_mod]
    rfl
  rw [this]
  have e := Ref.wrapi (n := (((a % 18446744073709551616).toNat % 8 : Nat) : Int)) (by omega) (by omega)
  rw [e]
  omega
theorem tor_rep (j : Nat) (h : j < 8) : RepP (torX j, torY j, (if j = 0 then z5 else o5), torT j) (torK j) ∧ OnP (torK j) := by
  match j, h with
  | 0, _ => exact ⟨rep_zero, zero_on⟩
  | 1, _ => exact pt_of ⟨_, _, _, _, _, rfl, by decide, by decide, by decide, by decide, by decide, by decide⟩ ⟨_, _, _, _, _, rfl, by decide, by decide, by decide, by decide, by decide, by decide⟩ ⟨_, _, _, _, _, rfl, by decide, by decide, by decide, by decide, by decide, by decide⟩ (by decide) (by decide)
  | 2, _ => exact pt_of ⟨_, _, _, _, _, rfl, by decide, by decide, by decide, by decide, by decide, by decide⟩ ⟨_, _, _, _, _, rfl, by decide, by decide, by decide, by decide, by decide, by decide⟩ ⟨_, _, _, _, _, rfl, by decide, by decide, by decide, by decide, by decide, by decide⟩ (by decide) (by decide)
  | 3, _ => exact pt_of ⟨_, _, _, _, _, rfl, by decide, by decide, by decide, by decide, by decide, by decide⟩ ⟨_, _, _, _, _, rfl, by decide, by decide, by decide, by decide, by decide, by decide⟩ ⟨_, _, _, _, _, rfl, by decide, by decide, by decide, by decide, by decide, by decide⟩ (by decide) (by decide)
  | 4, _ => exact pt_of ⟨_, _, _, _, _, rfl, by decide, by decide, by decide, by decide, by decide, by decide⟩ ⟨_, _, _, _, _, rfl, by decide, by decide, by decide, by decide, by decide, by decide⟩ ⟨_, _, _, _, _, rfl, by decide, by decide, by decide, by decide, by decide, by decide⟩ (by decide) (by decide)
  | 5, _ => exact pt_of ⟨_, _, _, _, _, rfl, by decide, by decide, by decide, by decide, by decide, by decide⟩ ⟨_, _, _, _, _, rfl, by decide, by decide, by decide, by decide, by decide, by decide⟩ ⟨_, _, _, _, _, rfl, by decide, by decide, by decide, by decide, by decide, by decide⟩ (by decide) (by decide)
  | 6, _ => exact pt_of ⟨_, _, _, _, _, rfl, by decide, by decide, by decide, by decide, by decide, by decide⟩ ⟨_, _, _, _, _, rfl, by decide, by decide, by decide, by decide, by decide, by decide⟩ ⟨_, _, _, _, _, rfl, by decide, by decide, by decide, by decide, by decide, by decide⟩ (by decide) (by decide)
  | 7, _ => exact pt_of ⟨_, _, _, _, _, rfl, by decide, by decide, by decide, by decide, by decide, by decide⟩ ⟨_, _, _, _, _, rfl, by decide, by decide, by decide, by decide, by decide, by decide⟩ ⟨_, _, _, _, _, rfl, by decide, by decide, by decide, by decide, by decide, by decide⟩ (by decide) (by decide)
  | n + 8, h => exact absurd h (by omega)
theorem torsion_k {a : Int} (h : -9223372036854775808 ≤ a ∧ a ≤ 9223372036854775807) : ∃ x y z t, curve_Torsion a = some (x, y, z, t) ∧ RepP (x, y, z, t) (torK (a % 8).toNat) ∧ OnP (torK (a % 8).toNat) := by
  have hj : (a % 8).toNat < 8 := by omega
  have hd : decide (0 ≤ a % 8 ∧ a % 8 < ((8 : Nat) : Int)) = true := decide_eq_true ⟨by omega, by omega⟩
  refine ⟨_, _, _, _, ?_, (tor_rep _ hj).1, (tor_rep _ hj).2⟩
  unfold curve_Torsion
  rw [and7 h, hd, cond_true]
  generalize (a % 8).toNat = j at *
  match j, hj with
  | 0, _ => rfl
  | 1, _ => rfl
  | 2, _ => rfl
  | 3, _ => rfl
  | 4, _ => rfl
  | 5, _ => rfl
  | 6, _ => rfl
  | 7, _ => rfl
  | n + 8, h => exact absurd h (by omega)

theorem ordL_32 : L32 [237, 211, 245, 92, 26, 99, 18, 88, 214, 156, 247, 162, 222, 249, 222, 20, 0, 0, 0, 0, 0, 0, 0, 0, 0, 0, 0, 0, 0, 0, 0, 16] := ⟨rfl, by decide⟩
theorem ordL_digs : digs [237, 211, 245, 92, 26, 99, 18, 88, 214, 156, 247, 162, 222, 249, 222, 20, 0, 0, 0, 0, 0, 0, 0, 0, 0, 0, 0, 0, 0, 0, 0, 16] 64 = ordD := by decide
/-- The program's Free. -/
theorem repP_free (N : Nat) (hN : 65 ≤ N) {x : P4} {p : KP} (h : RepP x p) (hp : OnP p) : ∃ c, curve_Point_Free N x = some c ∧ (c = true ↔ horn p ordD = kzero) := by
  obtain ⟨r, k1, k2⟩ := repP_times N hN h hp ordL_32
  rw [ordL_digs] at k2
  obtain ⟨c, g1, g2⟩ := repP_same k2 repP_zero
  refine ⟨c, ?_, g2⟩
  obtain ⟨x1, x2, x3, x4⟩ := x
  obtain ⟨r1, r2, r3, r4⟩ := r
  unfold curve_Point_Free
  simp only [k1, mo, g1]

theorem RepN.same {a b : N4} {p : KP} (ha : RepN a p) (hb : RepN b p) : a.1 * b.2.2.1 % pN = b.1 * a.2.2.1 % pN := by
  have h : kn (a.1 * b.2.2.1) = kn (b.1 * a.2.2.1) := by
    rw [kn_mul, kn_mul]
    have xa : kn a.1 = p.1 * kn a.2.2.1 := ha.x
    have xb : kn b.1 = p.1 * kn b.2.2.1 := hb.x
    rw [xa, xb]; grind
  have := K.of_eq.1 h
  have e : ∀ n : Nat, ((n % pN : Nat) : Int) = (n : Int) % pF := fun n => by rw [Int.natCast_emod]; rfl
  rw [← e, ← e] at this
  exact Int.ofNat.inj this
end Go.Vx

/- Numbers, part M12: points from outside: FromAffine, Compress, Decompress, 'point', 'on'. -/
set_option autoImplicit false
set_option linter.unusedSimpArgs false
namespace Go.Vx
open Go

/-- The bytes without the sign. -/
abbrev lowB (b : List Int) : List Int := List.set b 31 (ibin .and .u8 (List.getD b 31 0) 127)
theorem lowB_eq {b : List Int} (hb : L32 b) : lowB b = List.set b 31 (List.getD b 31 0 % 128) := by
  unfold lowB
  rw [b_and127 (top_byte hb).1]
theorem set_l32 {b : List Int} (hb : L32 b) {v : Int} (hv : 0 ≤ v ∧ v ≤ 255) : L32 (List.set b 31 v) := by
  refine ⟨by rw [List.length_set]; exact hb.1, fun x hx => ?_⟩
  rcases List.mem_or_eq_of_mem_set hx with h | h
  · exact hb.2 x h
  · rw [h]; exact hv
theorem get_set {b : List Int} (hb : L32 b) (v : Int) : List.getD (List.set b 31 v) 31 0 = v := by
  rw [List.getD_eq_getElem?_getD, List.getElem?_set_self (by rw [hb.1]; decide)]; rfl
theorem set_get {b : List Int} (hb : L32 b) : List.set b 31 (List.getD b 31 0) = b := by
  have h : 31 < b.length := by rw [hb.1]; decide
  rw [List.getD_eq_getElem?_getD, List.getElem?_eq_getElem h]
  exact List.set_getElem_self h
theorem or128 {y : Int} (h : 0 ≤ y ∧ y < 128) : ibin .or .u8 y 128 = y + 128 := by
  have : ∀ n : Fin 128, ibin .or .u8 (n.1 : Int) 128 = (n.1 : Int) + 128 := by decide +kernel
  have := this ⟨y.toNat, by omega⟩
  simp only at this
  rwa [Int.toNat_of_nonneg h.1] at this
/-- What encodes an element is read back. -/
theorem dec_enc {y : List Int} (hy : Can y) : L32 (field_Elem_Encode y) ∧ field_Decode (field_Elem_Encode y) = (y, 0) ∧ 0 ≤ List.getD (field_Elem_Encode y) 31 0 ∧ List.getD (field_Elem_Encode y) 31 0 < 128 := by
  obtain ⟨l, e⟩ := encode_spec hy.L5
  have n := hy.nonneg
  rw [Int.emod_eq_of_lt n.1 n.2] at e
  have t := top_byte l
  refine ⟨l, ?_, t.1.1, ?_⟩
  · rcases decode_spec l with ⟨g1, g2, g3, g4⟩ | ⟨g1, g2⟩
    · have : (field_Decode (field_Elem_Encode y)).1 = y := g3.inj hy (by rw [g4, e])
      exact Prod.ext this g2
    · have := n.2
      rw [← e] at this
      exact absurd this (by omega)
  · have : ¬ 127 < List.getD (field_Elem_Encode y) 31 0 := fun h => by
      have := t.2.1 h
      rw [e] at this
      have := n.2
      simp only [pF] at this
      omega
    omega
theorem low_enc {y : List Int} (hy : Can y) : lowB (field_Elem_Encode y) = field_Elem_Encode y := by
  obtain ⟨l, -, h0, h1⟩ := dec_enc hy
  rw [lowB_eq l, Int.emod_eq_of_lt h0 h1, set_get l]

/-- The denominator of x is not 0. -/
theorem den_ne (y : K) : kD * y ^ 2 + 1 ≠ 0 := fun h => by
  have hi := kI_sq
  have := (d_sq (a := y) (b := kI) (by generalize kD = d at *; grind)).2
  exact kI_ne this

theorem on_x {x y : K} : On x y ↔ (kD * y ^ 2 + 1) * x ^ 2 = y ^ 2 - 1 := by
  unfold On
  generalize kD = d
  constructor <;> (intro h; grind)

/-- Compress of a point. -/
theorem comp_k {x : P4} {xl yl : List Int} (ha : curve_Point_Affine 300 x = some (xl, yl)) (hx : Can xl) (hy : Can yl) : ∃ c, curve_Point_Compress 300 x = some c ∧ L32 c ∧ lowB c = field_Elem_Encode yl ∧ (127 < List.getD c 31 0 ↔ ¬ (kv xl).ev) ∧
    ((kv xl).ev → c = field_Elem_Encode yl) ∧ (¬ (kv xl).ev → c = List.set (field_Elem_Encode yl) 31 (List.getD (field_Elem_Encode yl) 31 0 + 128)) := by
  obtain ⟨l, -, h0, h1⟩ := dec_enc hy
  obtain ⟨x1, x2, x3, x4⟩ := x
  by_cases hn : (kv xl).ev
  · refine ⟨field_Elem_Encode yl, ?_, l, low_enc hy, ?_, fun _ => rfl, fun h => absurd hn h⟩
    · unfold curve_Point_Compress
      simp only [ha, mo, neg_ev_f hx hn, cond_false]
    · constructor
      · intro h; omega
      · intro h; exact absurd hn h
  · have e : ibin .or .u8 (List.getD (field_Elem_Encode yl) 31 0) 128 = List.getD (field_Elem_Encode yl) 31 0 + 128 := or128 ⟨h0, h1⟩
    have l2 := set_l32 l (v := List.getD (field_Elem_Encode yl) 31 0 + 128) (by omega)
    refine ⟨_, ?_, l2, ?_, ?_, fun h => absurd h hn, fun _ => rfl⟩
    · unfold curve_Point_Compress
      simp only [ha, mo, (neg_ev hx).2 hn, cond_true, e]
    · rw [lowB_eq l2, get_set l, List.set_set, show (List.getD (field_Elem_Encode yl) 31 0 + 128) % 128 = List.getD (field_Elem_Encode yl) 31 0 by omega, set_get l]
    · rw [get_set l]
      exact ⟨fun _ => hn, fun _ => by omega⟩

end Go.Vx

/- Numbers, part M13: CurveBack. -/
set_option autoImplicit false
set_option linter.unusedSimpArgs false
namespace Go.Vx
open Go

end Go.Vx

/- Numbers, part M14: CurveBack, with the arguments' ranges as the row has them. -/
set_option autoImplicit false
namespace Go.Vx
open Go
end Go.Vx

/- Numbers, part M15: the program's points as elements of the group; CurveTorsion. -/
set_option autoImplicit false
set_option linter.unusedSimpArgs false
namespace Go.Vx
open Go

abbrev RepE (x : P4) (e : E) : Prop := RepP x e.p
theorem repE_add {p q : P4} {a b : E} (h1 : RepE p a) (h2 : RepE q b) : ∃ r, curve_Point_Add p q = some r ∧ RepE r (a + b) := repP_add h1 h2 a.on b.on
theorem repE_dbl {p : P4} {a : E} (h : RepE p a) : ∃ r, curve_Point_Double p = some r ∧ RepE r (a + a) := repP_dbl h a.on
theorem repE_same {p q : P4} {a b : E} (h1 : RepE p a) (h2 : RepE q b) : ∃ c, curve_Point_Same p q = some c ∧ (c = true ↔ a = b) := by
  obtain ⟨c, k1, k2⟩ := repP_same h1 h2
  exact ⟨c, k1, k2.trans ⟨E.ext, fun h => by rw [h]⟩⟩
theorem repE_zero : RepE (z5, z5, z5, z5) 0 := repP_zero
theorem repE_free (N : Nat) (hN : 65 ≤ N) {x : P4} {a : E} (h : RepE x a) : ∃ c, curve_Point_Free N x = some c ∧ (c = true ↔ ordl • a = 0) := by
  obtain ⟨c, k1, k2⟩ := repP_free N hN h a.on
  refine ⟨c, k1, k2.trans ?_⟩
  rw [horn_ns, ordD_val]
  exact ⟨fun h => E.ext h, fun h => by rw [h]; rfl⟩
theorem yes {c : Bool} {p : Prop} (h : c = true ↔ p) (hp : p) : c = true := h.2 hp
theorem no {c : Bool} {p : Prop} (h : c = true ↔ p) (hp : ¬ p) : c = false := Bool.eq_false_iff.2 fun e => hp (h.1 e)
theorem tor_eq (k x y : Nat) {a : N4} (ha : mulN natT k = a) (hx : x * a.2.2.1 % pN = a.1 % pN) (hy : y * a.2.2.1 % pN = a.2.1 % pN) : nmul kT k = (kn x, kn y) := by
  have h := repN_mul natT_rep kT_on k
  rw [ha] at h
  have hz : kn a.2.2.1 ≠ 0 := h.z
  have h1 : kn a.1 = (nmul kT k).1 * kn a.2.2.1 := h.x
  have h2 : kn a.2.1 = (nmul kT k).2 * kn a.2.2.1 := h.y
  have e1 := congrArg kn hx
  have e2 := congrArg kn hy
  rw [kn_mod, kn_mod, kn_mul, h1] at e1
  rw [kn_mod, kn_mod, kn_mul, h2] at e2
  refine Prod.ext (K.cancel hz ?_) (K.cancel hz ?_)
  · show kn a.2.2.1 * (nmul kT k).1 = kn a.2.2.1 * kn x
    rw [Lean.Grind.CommRing.mul_comm, ← e1, Lean.Grind.CommRing.mul_comm]
  · show kn a.2.2.1 * (nmul kT k).2 = kn a.2.2.1 * kn y
    rw [Lean.Grind.CommRing.mul_comm, ← e2, Lean.Grind.CommRing.mul_comm]
theorem tor_ns (k : Nat) (h : k < 8) : torK k = (k • eT).p := by
  rw [E.ns_p]
  show torK k = nmul kT k
  rcases (by omega : k = 0 ∨ k = 1 ∨ k = 2 ∨ k = 3 ∨ k = 4 ∨ k = 5 ∨ k = 6 ∨ k = 7) with rfl | rfl | rfl | rfl | rfl | rfl | rfl | rfl
  · rfl
  · rw [tor_eq 1 14399317868200118260347934320527232580618823971194345261214217575416788799818 2707385501144840649318225287225658788936804267575313519463743609750303402022 tabT_1 (by decide) (by decide)]
    exact Prod.ext (kv_num (by decide)) (kv_num (by decide))
  · rw [tor_eq 2 19681161376707505956807079304988542015446066515923890162744021073123829784752 0 tabT_2 (by decide) (by decide)]
    exact Prod.ext (kv_num (by decide)) (kv_num (by decide))
  · rw [tor_eq 3 14399317868200118260347934320527232580618823971194345261214217575416788799818 55188659117513257062467267217118295137698188065244968500265048394206261417927 tabT_3 (by decide) (by decide)]
    exact Prod.ext (kv_num (by decide)) (kv_num (by decide))
  · rw [tor_eq 4 0 57896044618658097711785492504343953926634992332820282019728792003956564819948 tabT_4 (by decide) (by decide)]
    exact Prod.ext (kv_num (by decide)) (kv_num (by decide))
  · rw [tor_eq 5 43496726750457979451437558183816721346016168361625936758514574428539776020131 55188659117513257062467267217118295137698188065244968500265048394206261417927 tabT_5 (by decide) (by decide)]
    exact Prod.ext (kv_num (by decide)) (kv_num (by decide))
  · rw [tor_eq 6 38214883241950591754978413199355411911188925816896391856984770930832735035197 0 tabT_6 (by decide) (by decide)]
    exact Prod.ext (kv_num (by decide)) (kv_num (by decide))
  · rw [tor_eq 7 43496726750457979451437558183816721346016168361625936758514574428539776020131 2707385501144840649318225287225658788936804267575313519463743609750303402022 tabT_7 (by decide) (by decide)]
    exact Prod.ext (kv_num (by decide)) (kv_num (by decide))

theorem tor_E {a : Int} (h : -9223372036854775808 ≤ a ∧ a ≤ 9223372036854775807) : ∃ x y z t, curve_Torsion a = some (x, y, z, t) ∧ RepE (x, y, z, t) ((a % 8).toNat • eT) := by
  obtain ⟨x, y, z, t, h1, h2, -⟩ := torsion_k h
  rw [tor_ns _ (by omega)] at h2
  exact ⟨x, y, z, t, h1, h2⟩
theorem tor_nat {k : Nat} (h : k < 8) : ∃ x y z t, curve_Torsion (k : Int) = some (x, y, z, t) ∧ RepE (x, y, z, t) (k • eT) := by
  obtain ⟨x, y, z, t, h1, h2⟩ := tor_E (a := (k : Int)) (by omega)
  rw [show ((k : Int) % 8).toNat = k by omega] at h2
  exact ⟨x, y, z, t, h1, h2⟩

end Go.Vx

/- Numbers, part M16: CurveTorsion, with the arguments' ranges as the row has them. -/
set_option autoImplicit false
namespace Go.Vx
open Go
end Go.Vx

/- Numbers, part M17: CurveLaws. -/
set_option autoImplicit false
set_option linter.unusedSimpArgs false
namespace Go.Vx
open Go

theorem same_E {x y : P4} {a b : E} (h1 : RepE x a) (h2 : RepE y b) (h : a = b) : curve_Point_Same x y = some true := by
  obtain ⟨c, k1, k2⟩ := repE_same h1 h2
  rw [k1, k2.2 h]
theorem repE_sub {x y : P4} {a b : E} (h1 : RepE x a) (h2 : RepE y b) : ∃ r, curve_Point_Sub x y = some r ∧ RepE r (a + -b) := repP_sub h1 h2 a.on b.on
end Go.Vx

/- Numbers, part M18: multiples by the number of 32 bytes. -/
set_option autoImplicit false
set_option linter.unusedSimpArgs false
namespace Go.Vx
open Go

end Go.Vx

/- Numbers, part M19: scalars: Least. -/
set_option autoImplicit false
set_option linter.unusedSimpArgs false
namespace Go.Vx
open Go

/-- Four limbs. -/
def U4 (a : List Int) : Prop := ∃ x0 x1 x2 x3, a = [x0, x1, x2, x3] ∧ U x0 ∧ U x1 ∧ U x2 ∧ U x3
def v4 (a : List Int) : Int := List.getD a 0 0 + List.getD a 1 0 * 18446744073709551616 + List.getD a 2 0 * 340282366920938463463374607431768211456 + List.getD a 3 0 * 6277101735386680763835789423207666416102355444464034512896

theorem v4_mk (x0 x1 x2 x3 : Int) : v4 [x0, x1, x2, x3] = x0 + x1 * 18446744073709551616 + x2 * 340282366920938463463374607431768211456 + x3 * 6277101735386680763835789423207666416102355444464034512896 := rfl
end Go.Vx

/- Numbers, part M20: bytes: sums, the order taken away, 'below', bytes of limbs. -/
set_option autoImplicit false
set_option linter.unusedSimpArgs false
namespace Go.Vx
open Go

theorem inc32 {k : Nat} (h : k < 32) : ibin .add .i64 (k : Int) 1 = ((k + 1 : Nat) : Int) := by rw [Ref.i_add (by omega) (by omega)]; omega
/- The order's bytes. -/
abbrev oB : List Int := [237, 211, 245, 92, 26, 99, 18, 88, 214, 156, 247, 162, 222, 249, 222, 20, 0, 0, 0, 0, 0, 0, 0, 0, 0, 0, 0, 0, 0, 0, 0, 16]
end Go.Vx

/- Numbers, part M21: limbs as bytes; CurveMultiples. -/
set_option autoImplicit false
set_option linter.unusedSimpArgs false
namespace Go.Vx
open Go

end Go.Vx

/- Numbers, part M22: scalars: sums, opposites, products. -/
set_option autoImplicit false
set_option linter.unusedSimpArgs false
namespace Go.Vx
open Go

/-- r has the least limbs of n. -/
structure Lm (r : List Int) (n : Nat) : Prop where
  u : U4 r
  v : v4 r = n
  lt : n < ordl
theorem Lm.uniq {r s : List Int} {n : Nat} (h : Lm r n) (g : Lm s n) : r = s := by
  obtain ⟨⟨x0, x1, x2, x3, rfl, a0, a1, a2, a3⟩, hv, -⟩ := h
  obtain ⟨⟨y0, y1, y2, y3, rfl, b0, b1, b2, b3⟩, gv, -⟩ := g
  rw [v4_mk] at hv gv
  unfold U at *
  have e0 : x0 = y0 := by omega
  have e1 : x1 = y1 := by omega
  have e2 : x2 = y2 := by omega
  have e3 : x3 = y3 := by omega
  rw [e0, e1, e2, e3]
def v5 (t : List Int) : Int := List.getD t 0 0 + List.getD t 1 0 * 18446744073709551616 + List.getD t 2 0 * 340282366920938463463374607431768211456 + List.getD t 3 0 * 6277101735386680763835789423207666416102355444464034512896 + List.getD t 4 0 * 115792089237316195423570985008687907853269984665640564039457584007913129639936
theorem loop_in {α β γ : Type} {b : α → Option (α ⊕ (β ⊕ γ))} {v w : α} (h : b v = some (.inl w)) (f : Nat) : loopF b (f + 1) v = loopF b f w := by rw [loopF_succ, h]; rfl
theorem loop_out {α β γ : Type} {b : α → Option (α ⊕ (β ⊕ γ))} {v : α} {x : β ⊕ γ} (h : b v = some (.inr x)) (f : Nat) : loopF b (f + 1) v = some x := by rw [loopF_succ, h]; rfl
end Go.Vx

/- Numbers, part M23: the group modulo the four points; GroupLaws. -/
set_option autoImplicit false
set_option linter.unusedSimpArgs false
namespace Go.Vx
open Go

/- The group. -/
instance : Std.Associative (α := E) (· + ·) := ⟨E.add_assoc⟩
instance : Std.Commutative (α := E) (· + ·) := ⟨E.add_comm⟩
theorem four (x : E) : x + x + (x + x) = (4 : Nat) • x := by
  rw [show (4 : Nat) = 1 + 1 + (1 + 1) from rfl, E.ns_add, E.ns_add, E.ns_one]
theorem gsame {x y : P4} {a b : E} (h1 : RepE x a) (h2 : RepE y b) : ∃ c, group_Point_Same x y = some c ∧ (c = true ↔ Eqv a b) := by
  obtain ⟨⟨u1, u2, u3, u4⟩, k1, r1⟩ := repE_sub h1 h2
  obtain ⟨⟨v1, v2, v3, v4⟩, k2, r2⟩ := repE_dbl r1
  obtain ⟨⟨w1, w2, w3, w4⟩, k3, r3⟩ := repE_dbl r2
  obtain ⟨c, k4, e4⟩ := repE_same r3 repE_zero
  rw [four] at e4
  obtain ⟨x1, x2, x3, x4⟩ := x
  obtain ⟨y1, y2, y3, y4⟩ := y
  refine ⟨c, ?_, e4⟩
  unfold group_Point_Same
  simp only [k1, k2, k3, k4, mo]
theorem gyes {x y : P4} {a b : E} (h1 : RepE x a) (h2 : RepE y b) (h : Eqv a b) : group_Point_Same x y = some true := by
  obtain ⟨c, k, e⟩ := gsame h1 h2
  rw [k, e.2 h]
/- The base element. -/
end Go.Vx

/- Numbers, part M24: encodings, decodings and FromCurve by the curve's points. -/
set_option autoImplicit false
set_option linter.unusedSimpArgs false
namespace Go.Vx
open Go

theorem enc_E {p1 p2 p3 p4 : List Int} {a : E} (h : RepE (p1, p2, p3, p4) a) (ev : Ev a) : ∃ s X Y, group_Point_Encode 300 (p1, p2, p3, p4) = some (field_Elem_Encode s) ∧ Can s ∧ Stands (kv s) X Y ∧ Rel a.p.1 a.p.2 X Y := by
  obtain ⟨x, y, k1, k2, k3, k4, k5⟩ := Rep.affine h
  obtain ⟨q, hq⟩ := ev
  have on : a.p.2 ^ 2 - a.p.1 ^ 2 = 1 + kD * a.p.1 ^ 2 * a.p.2 ^ 2 := a.on
  have := pencode k1 k2 k3 (by rw [k4, k5]; exact on) (by rw [k5]; exact hq)
  rw [k4, k5] at this
  exact this

/-- One encoding for each element. -/
theorem enc_iff {p1 p2 p3 p4 q1 q2 q3 q4 : List Int} {a b : E} (h : RepE (p1, p2, p3, p4) a) (g : RepE (q1, q2, q3, q4) b) (ea : Ev a) (eb : Ev b) :
    ∃ c d, group_Point_Encode 300 (p1, p2, p3, p4) = some c ∧ group_Point_Encode 300 (q1, q2, q3, q4) = some d ∧ L32 c ∧ L32 d ∧ (c = d ↔ Eqv a b) := by
  obtain ⟨s, X, Y, k1, k2, k3, k4⟩ := enc_E h ea
  obtain ⟨t, u, v, g1, g2, g3, g4⟩ := enc_E g eb
  have ds := dec_enc k2
  have dt := dec_enc g2
  refine ⟨_, _, k1, g1, ds.1, dt.1, fun e => ?_, fun e => ?_⟩
  · have est : s = t := by
      have e1 := ds.2.1
      rw [e, dt.2.1] at e1
      exact (Prod.mk.inj e1).1.symm
    subst est
    obtain ⟨e1, e2⟩ := k3.same g3
    rw [e1, e2] at k4
    exact eqv_rel.2 (k4.trans g4.back)
  · have r := eqv_rel.1 e
    have r2 : Rel u v X Y := (g4.back.trans r.back).trans k4
    rw [can_k k2 g2 (k3.uniq g3 r2).1]

theorem from_ok (N : Nat) (hN : 65 ≤ N) {x : P4} {a : E} (h : RepE x a) (h4 : (4 * ordl) • a = 0) : group_FromCurve N x = some (x, 0) := by
  obtain ⟨u, k1, k2⟩ := repE_dbl h
  obtain ⟨v, k3, k4⟩ := repE_dbl k2
  obtain ⟨c, k5, k6⟩ := repE_free N hN k4
  obtain ⟨x1, x2, x3, x4⟩ := x
  obtain ⟨u1, u2, u3, u4⟩ := u
  obtain ⟨v1, v2, v3, v4⟩ := v
  have hc : c = true := k6.2 (by rw [four, ← E.ns_mul, Nat.mul_comm]; exact h4)
  unfold group_FromCurve
  simp only [k1, k3, k5, hc, mo, Bool.not_true, cond_false]
theorem from_no (N : Nat) (hN : 65 ≤ N) {x : P4} {a : E} (h : RepE x a) (h4 : (4 * ordl) • a ≠ 0) : group_FromCurve N x = some ((z5, z5, z5, z5), 50) := by
  obtain ⟨u, k1, k2⟩ := repE_dbl h
  obtain ⟨v, k3, k4⟩ := repE_dbl k2
  obtain ⟨c, k5, k6⟩ := repE_free N hN k4
  obtain ⟨x1, x2, x3, x4⟩ := x
  obtain ⟨u1, u2, u3, u4⟩ := u
  obtain ⟨v1, v2, v3, v4⟩ := v
  have hc : c = false := Bool.eq_false_iff.2 fun e => h4 (by rw [Nat.mul_comm, E.ns_mul, ← four]; exact k6.1 e)
  unfold group_FromCurve
  simp only [k1, k3, k5, hc, mo, Bool.not_false, cond_true]

/-- The points of a coset. -/
def cp (a : E) (k : Nat) : E := a + (2 * k) • eT
theorem cp_eqv (a : E) (k : Nat) : Eqv (cp a k) a := by
  show (4 : Nat) • (a + (2 * k) • eT + -a) = 0
  rw [E.add_comm a, E.add_assoc, E.add_neg, E.add_zero, ← E.ns_mul, show 4 * (2 * k) = k * 8 by omega, E.ns_mul, T8, E.ns_z]
theorem eT_4l : (4 * ordl) • eT ≠ 0 := fun h => by
  rw [E.ns_mod T8] at h
  exact T4 (by rw [← h]; rfl)
theorem cp_4l {a : E} (h : (4 * ordl) • a = 0) (k : Nat) : (4 * ordl) • cp a k = 0 := by
  unfold cp
  rw [E.ns_sum, h, E.zero_add, ← E.ns_mul, show 4 * ordl * (2 * k) = ordl * k * 8 by simp only [Nat.mul_assoc, Nat.mul_comm, Nat.mul_left_comm], E.ns_mul, T8, E.ns_z]
theorem cp_odd {a : E} (h : (4 * ordl) • a = 0) (k i : Nat) : (4 * ordl) • (cp a k + (2 * i + 1) • eT) ≠ 0 := fun h0 => by
  rw [E.ns_sum, cp_4l h, E.zero_add, ← E.ns_mul, Nat.mul_add, Nat.mul_one, E.ns_add, show 4 * ordl * (2 * i) = ordl * i * 8 by simp only [Nat.mul_assoc, Nat.mul_comm, Nat.mul_left_comm], E.ns_mul, T8, E.ns_z, E.zero_add] at h0
  exact eT_4l h0
theorem ev_cp {a : E} (h : Ev a) (k : Nat) : Ev (cp a k) := by
  refine ev_add h ?_
  rw [Nat.mul_comm, E.ns_mul]
  refine ev_ns ?_ k
  have h2 : ((2 : Nat) • eT).p.2 = 0 := by rw [← tor_ns 2 (by decide)]; rfl
  show Even ((2 : Nat) • eT).p.2
  rw [h2]
  exact ⟨1, by grind⟩

end Go.Vx

/- Numbers, part M25: the points of a coset in the order of their bytes. -/
set_option autoImplicit false
set_option linter.unusedSimpArgs false
namespace Go.Vx
open Go

theorem comp_uniq {x y : P4} {a : E} (h : RepE x a) (g : RepE y a) : ∃ c, curve_Point_Compress 300 x = some c ∧ curve_Point_Compress 300 y = some c := by
  obtain ⟨xl, yl, k1, k2, k3, k4, k5⟩ := Rep.affine h
  obtain ⟨xm, ym, g1, g2, g3, g4, g5⟩ := Rep.affine g
  obtain rfl : xl = xm := can_k k2 g2 (k4.trans g4.symm)
  obtain rfl : yl = ym := can_k k3 g3 (k5.trans g5.symm)
  obtain ⟨c, c1, -, -, -, c2, c3⟩ := comp_k k1 k2 k3
  obtain ⟨d, d1, -, -, -, d2, d3⟩ := comp_k g1 g2 g3
  refine ⟨c, c1, ?_⟩
  rw [d1]
  by_cases ev : (kv xl).ev
  · rw [c2 ev, d2 ev]
  · rw [c3 ev, d3 ev]

open Classical in
/-- A point's bytes. -/
noncomputable def keyE (a : E) : List Int := if h : ∃ x : P4, RepE x a then (curve_Point_Compress 300 h.choose).getD [] else []
theorem keyE_spec {x : P4} {a : E} (h : RepE x a) : curve_Point_Compress 300 x = some (keyE a) := by
  have hx : ∃ x : P4, RepE x a := ⟨x, h⟩
  obtain ⟨c, c1, c2⟩ := comp_uniq h hx.choose_spec
  unfold keyE
  rw [dif_pos hx, c2, c1]
  rfl
theorem keyE_inj {x y : P4} {a b : E} (h : RepE x a) (g : RepE y b) (e : keyE a = keyE b) : a = b := by
  have h1 := keyE_spec h
  have h2 := keyE_spec g
  obtain ⟨xl, yl, k1, k2, k3, k4, k5⟩ := Rep.affine h
  obtain ⟨xm, ym, g1, g2, g3, g4, g5⟩ := Rep.affine g
  obtain ⟨c, c1, -, c2, c3, -⟩ := comp_k k1 k2 k3
  obtain ⟨d, d1, -, d2, d3, -⟩ := comp_k g1 g2 g3
  have hcd : c = d := by
    rw [h1] at c1
    rw [h2] at d1
    rw [← Option.some.inj c1, ← Option.some.inj d1, e]
  subst hcd
  have hy : yl = ym := by
    have e1 := (dec_enc k3).2.1
    rw [← c2, d2, (dec_enc g3).2.1] at e1
    exact (Prod.mk.inj e1).1.symm
  have hev : (kv xl).ev ↔ (kv xm).ev := by
    have hn : ¬ (kv xl).ev ↔ ¬ (kv xm).ev := c3.symm.trans d3
    exact ⟨fun q => Classical.byContradiction fun h => hn.2 h q, fun q => Classical.byContradiction fun h => hn.1 h q⟩
  subst hy
  have ha := on_x.1 (show On a.p.1 a.p.2 from a.on)
  have hb := on_x.1 (show On b.p.1 b.p.2 from b.on)
  have ey : a.p.2 = b.p.2 := k5.symm.trans g5
  rw [← ey] at hb
  have hsq : a.p.1 ^ 2 = b.p.1 ^ 2 := K.cancel (den_ne a.p.2) (ha.trans hb.symm)
  rw [k4, g4] at hev
  refine E.ext (Prod.ext ?_ ey)
  by_cases ev : a.p.1.ev
  · exact K.ev_root ev (hev.1 ev) hsq
  · have na : a.p.1 ≠ 0 := fun h => ev (by rw [h]; exact K.ev_zero)
    have nb : b.p.1 ≠ 0 := fun h => ev (hev.2 (by rw [h]; exact K.ev_zero))
    have := K.ev_root ((K.ev_neg na).2 ev) ((K.ev_neg nb).2 fun h => ev (hev.2 h)) (by
      generalize a.p.1 = u at *
      generalize b.p.1 = v at *
      grind)
    generalize a.p.1 = u at *
    generalize b.p.1 = v at *
    grind

theorem less_k {x y : P4} {a b : E} (h : RepE x a) (g : RepE y b) : group_Point_Coset_1 300 (x.1, x.2.1, x.2.2.1, x.2.2.2) (y.1, y.2.1, y.2.2.1, y.2.2.2) = some (cmpI (keyE a) (keyE b)) := by
  unfold group_Point_Coset_1
  have h1 : curve_Point_Compress 300 (x.1, x.2.1, x.2.2.1, x.2.2.2) = some (keyE a) := keyE_spec h
  have h2 : curve_Point_Compress 300 (y.1, y.2.1, y.2.2.1, y.2.2.2) = some (keyE b) := keyE_spec g
  simp only [h1, h2, mo]
  rfl

/-- The four points, in order. -/
structure Cos (a : E) (q0 q1 q2 q3 : P4) (i j k l : Nat) : Prop where
  perm : [i, j, k, l].Perm [0, 1, 2, 3]
  r0 : RepE q0 (cp a i)
  r1 : RepE q1 (cp a j)
  r2 : RepE q2 (cp a k)
  r3 : RepE q3 (cp a l)
  o : [keyE (cp a i), keyE (cp a j), keyE (cp a k), keyE (cp a l)].Pairwise leI

theorem coset_N (N : Nat) (hN : N = 300) {x : P4} {a : E} (h : RepE x a) : ∃ q0 q1 q2 q3 i j k l, group_Point_Coset N x = some (q0, q1, q2, q3) ∧ Cos a q0 q1 q2 q3 i j k l := by
  have tor : ∀ k : Nat, k < 4 → ∃ r q, curve_Torsion ((2 * k : Nat) : Int) = some r ∧ curve_Point_Add x r = some q ∧ RepE q (cp a k) := by
    intro k hk
    obtain ⟨u, v, z, t, k1, k2⟩ := tor_nat (k := 2 * k) (by omega)
    obtain ⟨q, k3, k4⟩ := repE_add h k2
    exact ⟨_, q, k1, k3, k4⟩
  obtain ⟨u0, f0, t0, s0, p0⟩ := tor 0 (by decide)
  obtain ⟨u1, f1, t1, s1, p1⟩ := tor 1 (by decide)
  obtain ⟨u2, f2, t2, s2, p2⟩ := tor 2 (by decide)
  obtain ⟨u3, f3, t3, s3, p3⟩ := tor 3 (by decide)
  let f : Nat → P4 := fun n => match n with
    | 0 => f0
    | 1 => f1
    | 2 => f2
    | _ => f3
  let B : Nat → Nat → Bool := fun i j => icmp .lss (cmpI (keyE (cp a i)) (keyE (cp a j))) 0
  obtain ⟨i, j, k, l, hp, hs, b1, b2, b3⟩ := sortT_sorts f B fun i j => lss_asym
  have hf : ∀ n, n < 4 → RepE (f n) (cp a n) := by
    intro n hn
    match n, hn with
    | 0, _ => exact p0
    | 1, _ => exact p1
    | 2, _ => exact p2
    | 3, _ => exact p3
  have hm : ∀ n, n ∈ [i, j, k, l] → n < 4 := by
    intro n hn
    have := hp.subset hn
    simp only [List.mem_cons, List.not_mem_nil, or_false] at this
    omega
  refine ⟨f i, f j, f k, f l, i, j, k, l, ?_, hp, hf i (hm i (by simp)), hf j (hm j (by simp)), hf k (hm k (by simp)), hf l (hm l (by simp)), pair4 (leI_of b1) (leI_of b2) (leI_of b3)⟩
  rw [← hs]
  have c10 := less_k p1 p0
  have c20 := less_k p2 p0
  have c21 := less_k p2 p1
  have c30 := less_k p3 p0
  have c31 := less_k p3 p1
  have c32 := less_k p3 p2
  rw [← hN] at c10 c20 c21 c30 c31 c32
  have e0 : curve_Torsion 0 = some u0 := t0
  have e1 : curve_Torsion 2 = some u1 := t1
  have e2 : curve_Torsion 4 = some u2 := t2
  have e3 : curve_Torsion 6 = some u3 := t3
  have g0 : curve_Point_Add (x.1, x.2.1, x.2.2.1, x.2.2.2) (u0.1, u0.2.1, u0.2.2.1, u0.2.2.2) = some f0 := s0
  have g1 : curve_Point_Add (x.1, x.2.1, x.2.2.1, x.2.2.2) (u1.1, u1.2.1, u1.2.2.1, u1.2.2.2) = some f1 := s1
  have g2 : curve_Point_Add (x.1, x.2.1, x.2.2.1, x.2.2.2) (u2.1, u2.2.1, u2.2.2.1, u2.2.2.2) = some f2 := s2
  have g3 : curve_Point_Add (x.1, x.2.1, x.2.2.1, x.2.2.2) (u3.1, u3.2.1, u3.2.2.1, u3.2.2.2) = some f3 := s3
  unfold group_Point_Coset
  simp only [e0, e1, e2, e3, g0, g1, g2, g3, mo, c10, c20, c21, c30, c31, c32]
  rfl

end Go.Vx

/- Numbers, part M26: GroupLimbs. -/
set_option autoImplicit false
set_option linter.unusedSimpArgs false
namespace Go.Vx
open Go

theorem cp_cp (a : E) (m k : Nat) : cp (cp a m) k = cp a ((m + k) % 4) := by
  unfold cp
  rw [E.add_assoc, ← E.ns_add]
  congr 1
  rw [E.ns_mod T8 (2 * m + 2 * k), E.ns_mod T8 (2 * ((m + k) % 4))]
  congr 1
  omega
theorem Cos.lt {a : E} {q0 q1 q2 q3 : P4} {i j k l : Nat} (h : Cos a q0 q1 q2 q3 i j k l) : i < 4 ∧ j < 4 ∧ k < 4 ∧ l < 4 := by
  have hm : ∀ n, n ∈ [i, j, k, l] → n < 4 := by
    intro n hn
    have := h.perm.subset hn
    simp only [List.mem_cons, List.not_mem_nil, or_false] at this
    omega
  exact ⟨hm i (by simp), hm j (by simp), hm k (by simp), hm l (by simp)⟩
theorem perm_rot : (m : Nat) → m < 4 → [(m + 0) % 4, (m + 1) % 4, (m + 2) % 4, (m + 3) % 4].Perm [0, 1, 2, 3]
  | 0, _ => by decide
  | 1, _ => by decide
  | 2, _ => by decide
  | 3, _ => by decide
/-- Two points of one coset have the same four points, in the same order. -/
theorem Cos.same {a : E} {m : Nat} (hm : m < 4) {q0 q1 q2 q3 r0 r1 r2 r3 : P4} {i j k l i' j' k' l' : Nat} (h : Cos a q0 q1 q2 q3 i j k l) (g : Cos (cp a m) r0 r1 r2 r3 i' j' k' l') :
    curve_Point_Same q0 r0 = some true ∧ curve_Point_Same q1 r1 = some true ∧ curve_Point_Same q2 r2 = some true ∧ curve_Point_Same q3 r3 = some true := by
  have p1 := h.perm.map fun n => keyE (cp a n)
  have p2 := g.perm.map fun n => keyE (cp (cp a m) n)
  have p3 : ([0, 1, 2, 3].map fun n => keyE (cp (cp a m) n)).Perm ([0, 1, 2, 3].map fun n => keyE (cp a n)) := by
    have e : ([0, 1, 2, 3].map fun n => keyE (cp (cp a m) n)) = ([(m + 0) % 4, (m + 1) % 4, (m + 2) % 4, (m + 3) % 4].map fun n => keyE (cp a n)) := by
      simp only [List.map_cons, List.map_nil, cp_cp]
    rw [e]
    exact (perm_rot m hm).map fun n => keyE (cp a n)
  have e := keys_eq (p1.trans (p3.symm.trans p2.symm)) h.o g.o
  simp only [List.map_cons, List.map_nil, List.cons.injEq, and_true] at e
  obtain ⟨e0, e1, e2, e3⟩ := e
  exact ⟨same_E h.r0 g.r0 (keyE_inj h.r0 g.r0 e0), same_E h.r1 g.r1 (keyE_inj h.r1 g.r1 e1), same_E h.r2 g.r2 (keyE_inj h.r2 g.r2 e2), same_E h.r3 g.r3 (keyE_inj h.r3 g.r3 e3)⟩

end Go.Vx

/- Numbers, part M27: GroupOne. -/
set_option autoImplicit false
set_option linter.unusedSimpArgs false
namespace Go.Vx
open Go

abbrev zP : P4 := (z5, z5, z5, z5)
/-- One of the four points, as the statement asks of it. -/
theorem one_pt (N : Nat) (hN : N = 300) {p q : P4} {a : E} (ev : Ev a) (h : RepE p a) {k : Nat} (g : RepE q (cp a k)) {i : Nat} (hi : i < 4) {c : List Int} (hc : group_Point_Encode N p = some c) :
    group_FromCurve N q = some (q, 0) ∧ group_Point_Same q p = some true ∧ group_Point_Encode N q = some c ∧ ∃ r s, curve_Torsion ((2 * i + 1 : Nat) : Int) = some r ∧ curve_Point_Add q r = some s ∧ group_FromCurve N s = some (zP, 50) := by
  have h65 : 65 ≤ N := by omega
  have h4 := ev_4l ev
  refine ⟨from_ok N h65 g (cp_4l h4 k), gyes g h (cp_eqv a k), ?_, ?_⟩
  · obtain ⟨p1, p2, p3, p4⟩ := p
    obtain ⟨q1, q2, q3, q4⟩ := q
    subst hN
    obtain ⟨c1, c2, k1, k2, -, -, k3⟩ := enc_iff g h (ev_cp ev k) ev
    rw [k1, k3.2 (cp_eqv a k), ← k2, hc]
  · obtain ⟨u, v, z, t, k1, k2⟩ := tor_nat (k := 2 * i + 1) (by omega)
    obtain ⟨s, k3, k4⟩ := repE_add g k2
    exact ⟨_, s, k1, k3, from_no N h65 k4 (cp_odd h4 k i)⟩
theorem enc_k (N : Nat) (hN : N = 300) {p : P4} {a : E} (h : RepE p a) (ev : Ev a) : ∃ c, group_Point_Encode N p = some c ∧ L32 c := by
  subst hN
  obtain ⟨p1, p2, p3, p4⟩ := p
  obtain ⟨c, d, k1, -, k2, -⟩ := enc_iff h h ev ev
  exact ⟨c, k1, k2⟩

end Go.Vx

/- Numbers, part M3: the group's texts in the field K: the reference's Decode and Encode. -/
set_option autoImplicit false
set_option linter.unusedSimpArgs false
namespace Go.Vx.Ref
open Go

theorem cf_v {a : List Int} (h : CF a) : (kf a).v = num a := by
  show num a % pF = num a
  exact Int.emod_eq_of_lt h.2.1.nonneg h.2.2
theorem cf_ev {a : List Int} (h : CF a) : (kf a).ev ↔ num a % 2 = 0 := by unfold K.ev; rw [cf_v h]
theorem rneg_ev {a : List Int} (h : CF a) : veilref01_F_Negative a = true ↔ ¬ (kf a).ev := by
  rw [rnegative_spec h, cf_ev h, decide_eq_true_eq]; omega
theorem rneg_ev_f {a : List Int} (h : CF a) (e : (kf a).ev) : veilref01_F_Negative a = false := by
  cases hq : veilref01_F_Negative a
  · rfl
  · exact absurd e ((rneg_ev h).1 hq)
theorem rsqrt_sr {a b : List Int} (ha : CF a) (hb : CF b) : ∃ s ok, veilref01_SqrtRatio 300 a b = some (s, ok) ∧ CF s ∧ SR (kf a) (kf b) (kf s) ok := by
  obtain ⟨s, ok, h1, h2, h3, h4, h5, h6⟩ := rsqrt_k ha hb
  exact ⟨s, ok, h1, h2, ⟨(cf_ev h2).2 h3, h4, h5, h6⟩⟩
theorem radd_k {a b : List Int} (ha : CF a) (hb : CF b) : ∃ r, veilref01_F_Add 300 a b = some r ∧ CF r ∧ kf r = kf a + kf b := by
  obtain ⟨r, h1, h2, h3⟩ := radd_spec ha hb
  exact ⟨r, h1, h2, by rw [kf_of h3, K.of_add]; rfl⟩
theorem D_k : kf veilref01_D = kD := by unfold kf kD; rfl
theorem rinv_k {a : List Int} (ha : CF a) (h : kf a ≠ 0) : ∃ r, veilref01_F_Invert 300 a = some r ∧ CF r ∧ kf r * kf a = 1 := by
  obtain ⟨r, h1, h2, h3⟩ := rinvert_k ha
  refine ⟨r, h1, h2, ?_⟩
  rw [h3]
  have := K.fermat h
  rw [show eP1 = eInv + 1 from rfl, K.pow_add, kpow1] at this
  exact this
theorem cf_zero_f {a : List Int} (ha : CF a) (h : kf a ≠ 0) : decide (a = [0, 0, 0, 0, 0, 0, 0, 0, 0, 0]) = false := decide_eq_false fun e => h ((kf_zero ha).1 e)

abbrev z10 : List Int := [0, 0, 0, 0, 0, 0, 0, 0, 0, 0]

theorem coset_k {x y : List Int} (hx : CF x) (hy : CF y) : ∃ a b, veilref05_coset 300 (x, y) = some ((x, y), (a, b), ((veilref01_F_Neg x), (veilref01_F_Neg y)), ((veilref01_F_Neg a), (veilref01_F_Neg b))) ∧ CF a ∧ CF b ∧ kf a = kf y * kI ∧ kf b = kf x * kI := by
  obtain ⟨r1, h1, c1, e1⟩ := rmul_k hy I_cf
  obtain ⟨r2, h2, c2, e2⟩ := rmul_k hx I_cf
  rw [I_k] at e1 e2
  refine ⟨r1, r2, ?_, c1, c2, e1, e2⟩
  unfold veilref05_coset
  simp only [h1, h2, mo]

theorem at_k {x y : List Int} (hx : CF x) (hy : CF y) (h : kf x ≠ 0 ∨ kf y ≠ 0) : veilref05_Point_at (x, y) = (x, y) := by
  unfold veilref05_Point_at
  rcases h with h | h
  · simp only [cf_zero_f hx h, Bool.false_and, cond_false]
  · simp only [cf_zero_f hy h, Bool.false_and, Bool.and_false, cond_false]

end Go.Vx.Ref

/- Numbers, part M5: the group's texts in the field K: what bytes are mapped to, by the reference. -/
set_option autoImplicit false
set_option linter.unusedSimpArgs false
namespace Go.Vx.Ref
open Go

theorem rconst3 (N : Nat) (hN : N = 300) : ∃ n, veilref01_Const N 3 = some n ∧ CF n ∧ kf n = kA := by
  have n := rneg_k D_cf
  obtain ⟨r1, h1, c1, e1⟩ := rsub_k n.1 rone_cf
  rw [n.2, kf_one, ← tab3_sq] at e1
  have t0 : kv (field_tab 3) ≠ 0 := fun h => by
    have := K.of_eq.1 (show K.of (val (field_tab 3)) = K.of 0 from h)
    revert this; decide
  have h0 : kf r1 ≠ 0 := by rw [e1]; exact K.pow_ne t0 2
  obtain ⟨s, h2, c2, p2, q2⟩ := (rroot_k c1 h0).1 (by rw [e1]; exact K.half t0)
  have m := rneg_k c2
  have hs : kf s = - kv (field_tab 3) := by
    have : (kf s - kv (field_tab 3)) * (kf s + kv (field_tab 3)) = 0 := by rw [e1] at q2; grind
    rcases K.mul_zero' this with h | h
    · exfalso
      have h3 : kf s = kv (field_tab 3) := by grind
      have h4 := K.of_eq.1 (show K.of (num s) = K.of (val (field_tab 3)) from h3)
      rw [Int.emod_eq_of_lt c2.2.1.nonneg c2.2.2] at h4
      simp only [num] at p2
      rw [h4] at p2
      revert p2; decide
    · grind
  refine ⟨veilref01_F_Neg s, ?_, m.1, by rw [m.2, hs, tab3_k]; grind⟩
  rw [← hN] at h1 h2
  unfold veilref01_Const
  simp only [show icmp .eql 3 1 = false by decide, show icmp .eql 3 2 = false by decide, show icmp .eql 3 3 = true by decide, cond_false, cond_true, h1, mo, h2]

theorem rinv_e {a : List Int} (ha : CF a) : ∃ r, veilref01_F_Invert 300 a = some r ∧ CF r ∧ kf r = kf a ^ eI := rinvert_k ha
theorem rabs_ev {a : List Int} (ha : CF a) : CF (veilref01_F_Abs a) ∧ (kf (veilref01_F_Abs a)).ev ∧ kf (veilref01_F_Abs a) ^ 2 = kf a ^ 2 := by
  obtain ⟨h1, h2, h3⟩ := rabs_k ha
  exact ⟨h1, (cf_ev h1).2 h2, h3⟩

/-- The last part of the map. -/
def htail (N : Nat) (R V s c : List Int) : Option (List Int × List Int) :=
  mo (veilref01_F_Sub N veilref01_D [1, 0, 0, 0, 0, 0, 0, 0, 0, 0]) none fun r13 =>
  mo (veilref01_F_Sub N R [1, 0, 0, 0, 0, 0, 0, 0, 0, 0]) none fun r14 =>
  mo (veilref01_F_Mul N c r14) none fun r15 =>
  mo (veilref01_F_Mul N r15 r13) none fun r16 =>
  mo (veilref01_F_Mul N r16 r13) none fun r17 =>
  mo (veilref01_F_Sub N r17 V) none fun r18 =>
  mo (veilref01_Const N 3) none fun r19 =>
  mo (veilref01_F_Mul N s s) none fun r20 =>
  mo (veilref01_F_Add N s s) none fun r21 =>
  mo (veilref01_F_Mul N r21 V) none fun r22 =>
  mo (veilref01_F_Mul N r18 r19) none fun r23 =>
  mo (veilref01_F_Invert N r23) none fun r24 =>
  mo (veilref01_F_Mul N r22 r24) none fun r25 =>
  mo (veilref01_F_Sub N [1, 0, 0, 0, 0, 0, 0, 0, 0, 0] r20) none fun r26 =>
  mo (veilref01_F_Add N [1, 0, 0, 0, 0, 0, 0, 0, 0, 0] r20) none fun r27 =>
  mo (veilref01_F_Invert N r27) none fun r28 =>
  mo (veilref01_F_Mul N r26 r28) none fun r29 =>
  some (r25, r29)

theorem htail_k (N : Nat) (hN : N = 300) {R V s c : List Int} (hR : CF R) (hV : CF V) (hs : CF s) (hc : CF c) : ∃ x y, htail N R V s c = some (x, y) ∧ CF x ∧ CF y ∧
    kf x = 2 * kf s * kf V * ((kf c * (kf R - 1) * (kD - 1) ^ 2 - kf V) * kA) ^ eI ∧ kf y = (1 - kf s ^ 2) * (1 + kf s ^ 2) ^ eI := by
  obtain ⟨r13, h13, c13, e13⟩ := rsub_k D_cf rone_cf
  obtain ⟨r14, h14, c14, e14⟩ := rsub_k hR rone_cf
  obtain ⟨r15, h15, c15, e15⟩ := rmul_k hc c14
  obtain ⟨r16, h16, c16, e16⟩ := rmul_k c15 c13
  obtain ⟨r17, h17, c17, e17⟩ := rmul_k c16 c13
  obtain ⟨r18, h18, c18, e18⟩ := rsub_k c17 hV
  obtain ⟨r19, h19, c19, e19⟩ := rconst3 N hN
  obtain ⟨r20, h20, c20, e20⟩ := rmul_k hs hs
  obtain ⟨r21, h21, c21, e21⟩ := radd_k hs hs
  obtain ⟨r22, h22, c22, e22⟩ := rmul_k c21 hV
  obtain ⟨r23, h23, c23, e23⟩ := rmul_k c18 c19
  obtain ⟨r24, h24, c24, e24⟩ := rinv_e c23
  obtain ⟨r25, h25, c25, e25⟩ := rmul_k c22 c24
  obtain ⟨r26, h26, c26, e26⟩ := rsub_k rone_cf c20
  obtain ⟨r27, h27, c27, e27⟩ := radd_k rone_cf c20
  obtain ⟨r28, h28, c28, e28⟩ := rinv_e c27
  obtain ⟨r29, h29, c29, e29⟩ := rmul_k c26 c28
  refine ⟨r25, r29, ?_, c25, c29, ?_, ?_⟩
  · rw [← hN] at h13 h14 h15 h16 h17 h18 h20 h21 h22 h23 h24 h25 h26 h27 h28 h29
    unfold htail
    simp only [h13, h14, h15, h16, h17, h18, h19, h20, h21, h22, h23, h24, h25, h26, h27, h28, h29, mo]
  · have F : kf r18 = kf c * (kf R - 1) * (kD - 1) ^ 2 - kf V := by
      rw [e18, e17, e16, e15, e14, e13, kf_one, D_k]
      generalize kD = d
      grind
    rw [e25, e24, e23, e19, F, e22, e21]
    generalize ((kf c * (kf R - 1) * (kD - 1) ^ 2 - kf V) * kA) ^ eI = w
    grind
  · rw [e29, e28, e27, e26, e20, kf_one, k_sq]

theorem half_form (N : Nat) (a : List Int) : veilref05_MapHalf N a =
  mo (veilref01_F_Mul N veilref01_I a) none fun r1 =>
  mo (veilref01_F_Mul N r1 a) none fun r2 =>
  mo (veilref01_F_Add N r2 [1, 0, 0, 0, 0, 0, 0, 0, 0, 0]) none fun r3 =>
  mo (veilref01_F_Mul N veilref01_D veilref01_D) none fun r4 =>
  mo (veilref01_F_Sub N [1, 0, 0, 0, 0, 0, 0, 0, 0, 0] r4) none fun r5 =>
  mo (veilref01_F_Mul N r3 r5) none fun r6 =>
  mo (veilref01_F_Mul N r2 veilref01_D) none fun r7 =>
  mo (veilref01_F_Sub N (veilref01_F_Neg [1, 0, 0, 0, 0, 0, 0, 0, 0, 0]) r7) none fun r8 =>
  mo (veilref01_F_Add N r2 veilref01_D) none fun r9 =>
  mo (veilref01_F_Mul N r8 r9) none fun r10 =>
  mo (veilref01_SqrtRatio N r6 r10) none fun r11 =>
  cond (!r11.2) (
    mo (veilref01_F_Mul N r11.1 a) none fun r12 => htail N r2 r10 (veilref01_F_Neg (veilref01_F_Abs r12)) r2)
    (htail N r2 r10 r11.1 (veilref01_F_Neg [1, 0, 0, 0, 0, 0, 0, 0, 0, 0])) := rfl

/-- What the reference maps a number to. -/
theorem rhalf (N : Nat) (hN : N = 300) {a : List Int} (ha : CF a) : ∃ x y R V S ok s c, veilref05_MapHalf N a = some (x, y) ∧ CF x ∧ CF y ∧ HalfK (kf a) (kf x) (kf y) R V S ok s c := by
  obtain ⟨r1, h1, c1, e1⟩ := rmul_k I_cf ha
  obtain ⟨r2, h2, c2, e2⟩ := rmul_k c1 ha
  obtain ⟨r3, h3, c3, e3⟩ := radd_k c2 rone_cf
  obtain ⟨r4, h4, c4, e4⟩ := rmul_k D_cf D_cf
  obtain ⟨r5, h5, c5, e5⟩ := rsub_k rone_cf c4
  obtain ⟨r6, h6, c6, e6⟩ := rmul_k c3 c5
  obtain ⟨r7, h7, c7, e7⟩ := rmul_k c2 D_cf
  have n1 := rneg_k rone_cf
  obtain ⟨r8, h8, c8, e8⟩ := rsub_k n1.1 c7
  obtain ⟨r9, h9, c9, e9⟩ := radd_k c2 D_cf
  obtain ⟨r10, h10, c10, e10⟩ := rmul_k c8 c9
  obtain ⟨r11, ok, h11, c11, sr⟩ := rsqrt_sr c6 c10
  have R : kf r2 = kI * kf a ^ 2 := by rw [e2, e1, I_k]; grind
  have V : kf r10 = (-1 - kf r2 * kD) * (kf r2 + kD) := by rw [e10, e8, e9, n1.2, e7, D_k, kf_one]
  have U : kf r6 = (kf r2 + 1) * (1 - kD ^ 2) := by rw [e6, e5, e4, e3, D_k, kf_one, k_sq]
  rw [U] at sr
  rw [← hN] at h1 h2 h3 h4 h5 h6 h7 h8 h9 h10 h11
  rw [half_form]
  simp only [h1, h2, h3, h4, h5, h6, h7, h8, h9, h10, h11, mo]
  cases ok with
  | true =>
    obtain ⟨x, y, k1, k2, k3, k4, k5⟩ := htail_k N hN c2 c10 c11 n1.1
    rw [n1.2, kf_one] at k4
    exact ⟨x, y, _, _, _, _, _, _, k1, k2, k3, ⟨R, V, sr, (fun _ => ⟨rfl, rfl⟩), (fun h => by cases h), k4, k5⟩⟩
  | false =>
    obtain ⟨r12, h12, c12, e12⟩ := rmul_k c11 ha
    obtain ⟨b1, b2, b3⟩ := rabs_ev c12
    have nb := rneg_k b1
    obtain ⟨x, y, k1, k2, k3, k4, k5⟩ := htail_k N hN c2 c10 nb.1 c2
    rw [← hN] at h12
    refine ⟨x, y, _, _, _, _, _, _, ?_, k2, k3, ⟨R, V, sr, fun h => (by cases h), fun _ => ⟨⟨_, b2, by rw [b3, e12], nb.2⟩, rfl⟩, k4, k5⟩⟩
    simp only [Bool.not_false, cond_true, h12, mo]
    exact k1

/-- Both maps are one. -/
theorem half_both {a n : List Int} (ha : L5 a) (hn : CF n) (e : kf n = kv a) : ∃ x y t x' y', group_MapHalf 300 a = some (x, y, [1, 0, 0, 0, 0], t) ∧ veilref05_MapHalf 300 n = some (x', y') ∧ Can x ∧ Can y ∧ Can t ∧ kv t = kv x * kv y ∧ CF x' ∧ CF y' ∧ kf x' = kv x ∧ kf y' = kv y ∧ On (kv x) (kv y) ∧ Even (kv y) := by
  obtain ⟨x, y, t, R, V, S, ok, s, c, h1, h2, h3, h4, h5, h6⟩ := phalf ha
  obtain ⟨x', y', R', V', S', ok', s', c', g1, g2, g3, g4⟩ := rhalf 300 rfl hn
  rw [e] at g4
  obtain ⟨u1, u2⟩ := g4.uniq h6
  exact ⟨x, y, t, x', y', h1, g1, h2, h3, h4, h5, g2, g3, u1, u2, h6.on⟩

end Go.Vx.Ref

/- Numbers, part M7: the group's texts in the field K: the reference's sums, its map; GroupMaps. -/
set_option autoImplicit false
set_option linter.unusedSimpArgs false
namespace Go.Vx.Ref
open Go

theorem on_ne {x y : K} (h : On x y) : x ≠ 0 ∨ y ≠ 0 := by
  by_cases h0 : x = 0
  · right
    intro h2
    unfold On at h
    rw [h0, h2] at h
    exact K.one_ne (by generalize kD = d at *; grind)
  · exact .inl h0

theorem dv1 {s u v i : K} (h : i * (v * u) = 1) : s * u * i * v = s := by
  rw [show s * u * i * v = s * (i * (v * u)) by grind, h]; grind
theorem dv2 {s u v i : K} (h : i * (v * u) = 1) : s * v * i * u = s := by
  rw [show s * v * i * u = s * (i * (v * u)) by grind, h]; grind

theorem radd4 {a b x y : List Int} (ha : CF a) (hb : CF b) (hx : CF x) (hy : CF y) (h1 : On (kf a) (kf b)) (h2 : On (kf x) (kf y)) :
    ∃ u v, veilref04_Point_Add 300 (a, b) (x, y) = some (u, v) ∧ CF u ∧ CF v ∧ kf u = ax (kf a) (kf b) (kf x) (kf y) ∧ kf v = ay (kf a) (kf b) (kf x) (kf y) := by
  obtain ⟨r1, k1, c1, e1⟩ := rmul_k ha hy
  obtain ⟨r2, k2, c2, e2⟩ := rmul_k hb hx
  obtain ⟨r3, k3, c3, e3⟩ := rmul_k ha hx
  obtain ⟨r4, k4, c4, e4⟩ := rmul_k hb hy
  obtain ⟨r5, k5, c5, e5⟩ := rmul_k D_cf c3
  obtain ⟨r6, k6, c6, e6⟩ := rmul_k c5 c4
  obtain ⟨r7, k7, c7, e7⟩ := radd_k rone_cf c6
  obtain ⟨r8, k8, c8, e8⟩ := rsub_k rone_cf c6
  obtain ⟨r9, k9, c9, e9⟩ := rmul_k c7 c8
  obtain ⟨w1, w2⟩ := add_whole h1 h2
  have E6 : kf r6 = kD * kf a * kf x * kf b * kf y := by rw [e6, e5, e4, e3, D_k]; generalize kD = d; grind
  rw [kf_one, E6] at e7 e8
  have z9 : kf r9 ≠ 0 := by rw [e9, e7, e8]; exact K.mul_ne w1 w2
  obtain ⟨r10, k10, c10, e10⟩ := rinv_k c9 z9
  obtain ⟨r11, k11, c11, e11⟩ := radd_k c1 c2
  obtain ⟨r12, k12, c12, e12⟩ := rmul_k c11 c8
  obtain ⟨r13, k13, c13, e13⟩ := rmul_k c12 c10
  obtain ⟨r14, k14, c14, e14⟩ := radd_k c4 c3
  obtain ⟨r15, k15, c15, e15⟩ := rmul_k c14 c7
  obtain ⟨r16, k16, c16, e16⟩ := rmul_k c15 c10
  refine ⟨r13, r16, ?_, c13, c16, ax_of h1 h2 ?_, ay_of h1 h2 ?_⟩
  · unfold veilref04_Point_Add
    simp only [k1, k2, k3, k4, k5, k6, k7, k8, k9, k10, k11, k12, k13, k14, k15, k16, mo]
  · rw [e9, e7, e8] at e10
    rw [e13, e12, e11, e8, e1, e2]
    exact dv1 e10
  · rw [e9, e7, e8] at e10
    rw [e16, e15, e14, e7, e4, e3]
    exact dv2 e10

theorem radd5 {a b x y : List Int} (ha : CF a) (hb : CF b) (hx : CF x) (hy : CF y) (h1 : On (kf a) (kf b)) (h2 : On (kf x) (kf y)) :
    ∃ u v, veilref05_Point_Add 300 (a, b) (x, y) = some (u, v) ∧ CF u ∧ CF v ∧ kf u = ax (kf a) (kf b) (kf x) (kf y) ∧ kf v = ay (kf a) (kf b) (kf x) (kf y) := by
  obtain ⟨u, v, k, r⟩ := radd4 ha hb hx hy h1 h2
  refine ⟨u, v, ?_, r⟩
  unfold veilref05_Point_Add
  simp only [at_k ha hb (on_ne h1), at_k hx hy (on_ne h2), k, mo]

theorem set_top {b : List Int} (hb : L32 b) : L32 (List.set b 31 (ibin .and .u8 (List.getD b 31 0) 127)) ∧ (numB (List.set b 31 (ibin .and .u8 (List.getD b 31 0) 127)) : Int) = (numB b : Int) % 57896044618658097711785492504343953926634992332820282019728792003956564819968 := by
  obtain ⟨⟨t0, t1⟩, t2⟩ := top_byte hb
  have hand := b_and127 (y := List.getD b 31 0) ⟨t0, t1⟩
  rw [hand]
  have e : List.getD b 31 0 % 128 = List.getD b 31 0 + (List.getD b 31 0 % 128 - List.getD b 31 0) := by omega
  have hB : Bs (List.set b 31 (List.getD b 31 0 % 128)) := fun x hx => by
    have := set_range (lo := 0) (hi := 256) (v := List.getD b 31 0 % 128) (by omega) b (fun x hx => by have := hb.2 x hx; omega) 31 x hx
    omega
  refine ⟨⟨by rw [List.length_set]; exact hb.1, hB⟩, ?_⟩
  have hW := numW_set (w := 8) 31 b (List.getD b 31 0 % 128 - List.getD b 31 0) (by rw [hb.1]; decide)
  rw [← e, ← numB_W b hb.2, ← numB_W _ hB] at hW
  have hlt := numB_32 hb
  rw [hW, show (2 : Int) ^ (8 * 31) = 452312848583266388373324160190187140051835877600158453279131187530910662656 by decide]
  generalize List.getD b 31 0 = y at *
  generalize (numB b : Int) = n at *
  by_cases h : 127 < y
  · have := t2.1 h
    omega
  · have : ¬ 57896044618658097711785492504343953926634992332820282019728792003956564819968 ≤ n := fun g => h (t2.2 g)
    omega

theorem rreduce_k {b : List Int} (hb : L32 b) : ∃ n, veilref01_Reduce 300 b = some n ∧ CF n ∧ kf n = kv (field_Reduce b) := by
  obtain ⟨s1, s2⟩ := set_top hb
  obtain ⟨rc, re⟩ := reduce_spec hb
  obtain ⟨s, k1, k2, k3⟩ := number_spec s1
  refine ⟨s, ?_, k2, ?_⟩
  · unfold veilref01_Reduce
    simp only [k1, mo]
  · show K.of (num s) = K.of (val (field_Reduce b))
    rw [k3, s2, re]

theorem copy_set (a : List Int) (i k : Nat) (h : i < a.length) : List.set (a.take i ++ List.replicate (k + 1) 0) i (List.getD a i 0) = a.take (i + 1) ++ List.replicate k 0 := by
  have hl : (a.take i).length = i := by rw [List.length_take]; omega
  rw [List.set_append_right i _ (by rw [hl]; exact Nat.le_refl i), hl, Nat.sub_self, List.replicate_succ, List.set_cons_zero, List.take_succ_eq_append_getElem h, List.append_assoc]
  have : List.getD a i 0 = a[i] := by rw [List.getD_eq_getElem?_getD, List.getElem?_eq_getElem h]; rfl
  rw [this]; rfl

theorem map_copy (N : Nat) {a : List Int} (ha : a.length = 64) : (k i : Nat) → i + k = 32 → (fuel : Nat) → k < fuel →
    loopF (veilref05_Map_l0 N) fuel (((), (), (), (), (i : Int)), (a, (), a.take i ++ List.replicate k 0, (a.drop 32).take i ++ List.replicate k 0)) = some (.inl (((), (), ()), ((), a.take 32, (a.drop 32).take 32)))
  | 0, i, hi, fuel + 1, _ => by
    obtain rfl : i = 32 := by omega
    rw [loopF_succ]
    simp only [veilref05_Map_l0, show icmp .lss ((32 : Nat) : Int) 32 = false from rfl, cond_false, mo, List.replicate_zero, List.append_nil]
  | k + 1, i, hi, fuel + 1, hf => by
    have h1 : icmp .lss (i : Int) 32 = true := by
      have h : (i : Int) < 32 := by omega
      simpa [icmp] using h
    have h2 : ibin .add .i64 32 (i : Int) = ((32 + i : Nat) : Int) := by rw [i_add (by omega) (by omega)]; omega
    have h3 := i_inc (show i < 1000000 by omega)
    rw [loopF_succ]
    simp only [veilref05_Map_l0, h1, h2, h3, cond_true, dec_range (show i < 64 by omega), dec_range (show i < 32 by omega), dec_range (show 32 + i < 64 by omega), Int.toNat_natCast, mo]
    have e : List.getD a (32 + i) 0 = List.getD (a.drop 32) i 0 := by
      rw [List.getD_eq_getElem?_getD, List.getD_eq_getElem?_getD, List.getElem?_drop]
    rw [e, copy_set a i k (by omega), copy_set (a.drop 32) i k (by rw [List.length_drop]; omega)]
    exact map_copy N ha k (i + 1) (by omega) fuel (by omega)

theorem take_l32 {a : List Int} (hl : a.length = 64) (hb : Bs a) : L32 (List.take 32 (List.drop 0 a)) ∧ L32 (List.take 32 (List.drop 32 a)) :=
  ⟨⟨by rw [List.length_take, List.length_drop]; omega, fun x hx => hb x (List.mem_of_mem_take (by simpa using hx))⟩,
   ⟨by rw [List.length_take, List.length_drop]; omega, fun x hx => hb x (List.mem_of_mem_drop (List.mem_of_mem_take hx))⟩⟩

theorem rmap_form (N : Nat) {a b c x y x' y' u v n m : List Int} (h : loopF (veilref05_Map_l0 N) N (((), (), (), (), 0), (a, (), [0, 0, 0, 0, 0, 0, 0, 0, 0, 0, 0, 0, 0, 0, 0, 0, 0, 0, 0, 0, 0, 0, 0, 0, 0, 0, 0, 0, 0, 0, 0, 0], [0, 0, 0, 0, 0, 0, 0, 0, 0, 0, 0, 0, 0, 0, 0, 0, 0, 0, 0, 0, 0, 0, 0, 0, 0, 0, 0, 0, 0, 0, 0, 0])) = some (.inl (((), (), ()), ((), b, c))))
    (h1 : veilref01_Reduce N b = some n) (h2 : veilref05_MapHalf N n = some (x, y)) (h3 : veilref01_Reduce N c = some m) (h4 : veilref05_MapHalf N m = some (x', y')) (h5 : veilref05_Point_Add N (x, y) (x', y') = some (u, v)) : veilref05_Map N a = some (u, v) := by
  unfold veilref05_Map
  simp only [h, h1, h2, h3, h4, h5, mo]

theorem map_copy0 (N : Nat) (hN : 32 < N) {a : List Int} (ha : a.length = 64) : loopF (veilref05_Map_l0 N) N (((), (), (), (), 0), (a, (), [0, 0, 0, 0, 0, 0, 0, 0, 0, 0, 0, 0, 0, 0, 0, 0, 0, 0, 0, 0, 0, 0, 0, 0, 0, 0, 0, 0, 0, 0, 0, 0], [0, 0, 0, 0, 0, 0, 0, 0, 0, 0, 0, 0, 0, 0, 0, 0, 0, 0, 0, 0, 0, 0, 0, 0, 0, 0, 0, 0, 0, 0, 0, 0])) = some (.inl (((), (), ()), ((), List.take 32 (List.drop 0 a), List.take 32 (List.drop 32 a)))) :=
  map_copy N ha 32 0 rfl N hN

theorem reduce_l5 {b : List Int} (hb : L32 b) : L5 (field_Reduce b) := (reduce_spec hb).1.L5

/-- Both maps of 64 bytes. -/
theorem map_both {a : List Int} (hl : a.length = 64) (hb : Bs a) : ∃ p1 p2 p3 p4 u v, group_Map 300 a = some (p1, p2, p3, p4) ∧ veilref05_Map 300 a = some (u, v) ∧ CF u ∧ CF v ∧ Rep (p1, p2, p3, p4) (kf u) (kf v) ∧ On (kf u) (kf v) ∧ Even (kf v) := by
  obtain ⟨l1, l2⟩ := take_l32 hl hb
  obtain ⟨n1, r1, c1, e1⟩ := rreduce_k l1
  obtain ⟨n2, r2, c2, e2⟩ := rreduce_k l2
  obtain ⟨x, y, t, x', y', k1, k2, k3, k4, k5, k6, k7, k8, k9, k10, k11, k12⟩ := half_both (reduce_l5 l1) c1 e1
  obtain ⟨z, w, s, z', w', m1, m2, m3, m4, m5, m6, m7, m8, m9, m10, m11, m12⟩ := half_both (reduce_l5 l2) c2 e2
  obtain ⟨⟨q1, q2, q3, q4⟩, g1, g2⟩ := (rep_one k3 k4 k5 k6).add (rep_one m3 m4 m5 m6) k11 m11
  obtain ⟨u, v, f1, f2, f3, f4, f5⟩ := radd5 k7 k8 m7 m8 (by rw [k9, k10]; exact k11) (by rw [m9, m10]; exact m11)
  rw [k9, k10, m9, m10] at f4 f5
  refine ⟨q1, q2, q3, q4, u, v, ?_, ?_, f2, f3, by rw [f4, f5]; exact g2, by rw [f4, f5]; exact add_on k11 m11, by rw [f5]; exact add_even k11 m11 k12 m12⟩
  · unfold group_Map group_Point_Add
    simp only [k1, m1, g1, mo]
  · exact rmap_form 300 (map_copy0 300 (by decide) hl) r1 k2 r2 m2 f1

end Go.Vx.Ref

/- Numbers, part M31: the reference's points of a coset, in the order of their bytes; GroupCosets. -/
set_option autoImplicit false
set_option linter.unusedSimpArgs false
namespace Go.Vx
open Go Ref

/-- The reference's point. -/
structure RR (q : List Int × List Int) (a : E) : Prop where
  x : CF q.1
  y : CF q.2
  ex : kf q.1 = a.p.1
  ey : kf q.2 = a.p.2

theorem two_T : ((2 : Nat) • eT).p = (kI, 0) := by
  rw [E.ns_p]
  have h := tor_eq 2 19681161376707505956807079304988542015446066515923890162744021073123829784752 0 tabT_2 (by decide) (by decide)
  show nmul kT 2 = _
  rw [h]
  rfl
theorem cp_p1 (a : E) : (cp a 1).p = (a.p.2 * kI, a.p.1 * kI) := by
  show kadd a.p ((2 : Nat) • eT).p = _
  rw [two_T, kadd_flat (by show kI * 0 = 0; grind)]
  refine Prod.ext ?_ ?_
  · show a.p.1 * 0 + a.p.2 * kI = a.p.2 * kI; grind
  · show a.p.2 * 0 + a.p.1 * kI = a.p.1 * kI; grind
theorem four_T' : ((4 : Nat) • eT).p = (0, -1) := by
  rw [show (4 : Nat) = 2 + 2 from rfl, E.ns_add]
  show kadd ((2 : Nat) • eT).p ((2 : Nat) • eT).p = _
  rw [two_T, kadd_flat (by show kI * 0 = 0; grind)]
  refine Prod.ext ?_ ?_
  · show kI * 0 + 0 * kI = 0; grind
  · show (0 : K) * 0 + kI * kI = -1; rw [kI_sq]; grind
theorem six_T : ((6 : Nat) • eT).p = (-kI, 0) := by
  rw [show (6 : Nat) = 4 + 2 from rfl, E.ns_add]
  show kadd ((4 : Nat) • eT).p ((2 : Nat) • eT).p = _
  rw [two_T, four_T', kadd_flat (by show kI * 0 = 0; grind)]
  refine Prod.ext ?_ ?_
  · show (0 : K) * 0 + (-1) * kI = -kI; grind
  · show (-1 : K) * 0 + 0 * kI = 0; grind
theorem cp_p2 (a : E) : (cp a 2).p = (-a.p.1, -a.p.2) := by
  show kadd a.p ((4 : Nat) • eT).p = _
  rw [four_T', kadd_flat (by show (0 : K) * -1 = 0; grind)]
  refine Prod.ext ?_ ?_
  · show a.p.1 * -1 + a.p.2 * 0 = -a.p.1; grind
  · show a.p.2 * -1 + a.p.1 * 0 = -a.p.2; grind
theorem cp_p3 (a : E) : (cp a 3).p = (-(a.p.2 * kI), -(a.p.1 * kI)) := by
  show kadd a.p ((6 : Nat) • eT).p = _
  rw [six_T, kadd_flat (by show -kI * 0 = 0; grind)]
  refine Prod.ext ?_ ?_
  · show a.p.1 * 0 + a.p.2 * -kI = -(a.p.2 * kI); grind
  · show a.p.2 * 0 + a.p.1 * -kI = -(a.p.1 * kI); grind

theorem rcos {x y : List Int} {a : E} (h : RR (x, y) a) : ∃ q1 q2 q3, veilref05_coset 300 (x, y) = some ((x, y), q1, q2, q3) ∧ RR q1 (cp a 1) ∧ RR q2 (cp a 2) ∧ RR q3 (cp a 3) := by
  obtain ⟨u, v, k1, cu, cv, eu, ev⟩ := coset_k h.x h.y
  have nx := rneg_k h.x
  have ny := rneg_k h.y
  have nu := rneg_k cu
  have nv := rneg_k cv
  have ex : kf x = a.p.1 := h.ex
  have ey : kf y = a.p.2 := h.ey
  rw [ey] at eu
  rw [ex] at ev
  refine ⟨_, _, _, k1, ⟨cu, cv, ?_, ?_⟩, ⟨nx.1, ny.1, ?_, ?_⟩, ⟨nu.1, nv.1, ?_, ?_⟩⟩
  · rw [cp_p1]; exact eu
  · rw [cp_p1]; exact ev
  · rw [cp_p2]; exact nx.2.trans (by rw [show kf (x, y).1 = a.p.1 from ex])
  · rw [cp_p2]; exact ny.2.trans (by rw [show kf (x, y).2 = a.p.2 from ey])
  · rw [cp_p3]; exact nu.2.trans (by rw [eu])
  · rw [cp_p3]; exact nv.2.trans (by rw [ev])

theorem add128 {y : Int} (h : 0 ≤ y ∧ y < 128) : ibin .add .u8 y 128 = y + 128 := by
  have : ∀ n : Fin 128, ibin .add .u8 (n.1 : Int) 128 = (n.1 : Int) + 128 := by decide +kernel
  have := this ⟨y.toNat, by omega⟩
  simp only at this
  rwa [Int.toNat_of_nonneg h.1] at this

/-- The reference's bytes of a point. -/
theorem rcomp {x y : List Int} {p : P4} {a : E} (h : RR (x, y) a) (g : RepE p a) : veilref04_Point_Compress 300 (x, y) = some (keyE a) := by
  have hk := keyE_spec g
  obtain ⟨xl, yl, k1, k2, k3, k4, k5⟩ := Rep.affine g
  obtain ⟨c, c1, -, -, -, c4, c5⟩ := comp_k k1 k2 k3
  rw [hk] at c1
  obtain rfl := Option.some.inj c1
  obtain ⟨b, b1, b2, b3⟩ := renc_l32 h.y
  have e := encode_spec k3.L5
  have hb : b = field_Elem_Encode yl := b2.inj e.1 (by
    have v1 : num y = val yl := by rw [← cf_v h.y, h.ey, ← k5, can_v k3]
    rw [b3, e.2, v1, Int.emod_eq_of_lt k3.nonneg.1 k3.nonneg.2])
  subst hb
  have ev : (kv xl).ev ↔ (kf x).ev := by rw [k4, show kf x = a.p.1 from h.ex]
  obtain ⟨-, -, d0, d1⟩ := dec_enc k3
  unfold veilref04_Point_Compress
  have b1' : veilref01_F_Encode 300 (x, y).2 = some (field_Elem_Encode yl) := b1
  simp only [b1', mo]
  by_cases hn : (kv xl).ev
  · have : veilref01_F_Negative (x, y).1 = false := rneg_ev_f h.x (ev.1 hn)
    simp only [this, cond_false]
    rw [c4 hn]
  · have : veilref01_F_Negative (x, y).1 = true := (rneg_ev h.x).2 fun q => hn (ev.2 q)
    simp only [this, cond_true]
    rw [c5 hn, add128 ⟨d0, d1⟩]

theorem before_loop (N : Nat) {a b : List Int} (la : a.length = 32) (lb : b.length = 32) : (k i : Nat) → i + k = 32 → (fuel : Nat) → k < fuel →
    ∃ r, loopF (veilref05_before_l0 N) fuel (((), (), (), (i : Int)), (a, b)) = some r ∧ ((r = .inl ((), ()) ∧ cmpI (a.drop i) (b.drop i) = 0) ∨ r = .inr (icmp .lss (cmpI (a.drop i) (b.drop i)) 0, ()))
  | 0, i, hi, fuel, hf => by
    obtain ⟨f, rfl⟩ : ∃ f, fuel = f + 1 := ⟨fuel - 1, by omega⟩
    obtain rfl : i = 32 := by omega
    refine ⟨_, loop_out (b := veilref05_before_l0 N) rfl f, .inl ⟨rfl, ?_⟩⟩
    rw [List.drop_eq_nil_of_le (by omega), List.drop_eq_nil_of_le (by omega)]
    rfl
  | k + 1, i, hi, fuel, hf => by
    obtain ⟨f, rfl⟩ : ∃ f, fuel = f + 1 := ⟨fuel - 1, by omega⟩
    have h1 : icmp .lss (i : Int) 32 = true := decide_eq_true (by omega : (i : Int) < 32)
    have h2 : decide (0 ≤ (i : Int) ∧ (i : Int) < ((32 : Nat) : Int)) = true := decide_eq_true (by omega)
    have da : a.drop i = List.getD a i 0 :: a.drop (i + 1) := by
      rw [List.drop_eq_getElem_cons (by omega), List.getD_eq_getElem?_getD, List.getElem?_eq_getElem (by omega)]; rfl
    have db : b.drop i = List.getD b i 0 :: b.drop (i + 1) := by
      rw [List.drop_eq_getElem_cons (by omega), List.getD_eq_getElem?_getD, List.getElem?_eq_getElem (by omega)]; rfl
    by_cases e : List.getD a i 0 = List.getD b i 0
    · have hs : veilref05_before_l0 N (((), (), (), (i : Int)), (a, b)) = some (.inl (((), (), (), ((i + 1 : Nat) : Int)), (a, b))) := by
        unfold veilref05_before_l0
        have h3 : icmp .neq (List.getD a i 0) (List.getD b i 0) = false := by
          show (!decide (List.getD a i 0 = List.getD b i 0)) = false
          rw [decide_eq_true e]; rfl
        simp only [h1, h2, cond_true, Int.toNat_natCast, h3, cond_false, inc32 (k := i) (by omega)]
      obtain ⟨r, r1, r2⟩ := before_loop N la lb k (i + 1) (by omega) f (by omega)
      refine ⟨r, (loop_in hs f).trans r1, ?_⟩
      have : cmpI (a.drop i) (b.drop i) = cmpI (a.drop (i + 1)) (b.drop (i + 1)) := by
        rw [da, db]
        conv => lhs; unfold cmpI
        rw [if_neg (by omega), if_neg (by omega)]
      rw [this]
      exact r2
    · have hs : veilref05_before_l0 N (((), (), (), (i : Int)), (a, b)) = some (.inr (.inr (icmp .lss (List.getD a i 0) (List.getD b i 0), ()))) := by
        unfold veilref05_before_l0
        have h3 : icmp .neq (List.getD a i 0) (List.getD b i 0) = true := by
          show (!decide (List.getD a i 0 = List.getD b i 0)) = true
          rw [decide_eq_false e]; rfl
        simp only [h1, h2, cond_true, Int.toNat_natCast, h3]
      refine ⟨_, loop_out hs f, .inr ?_⟩
      have : icmp .lss (cmpI (a.drop i) (b.drop i)) 0 = icmp .lss (List.getD a i 0) (List.getD b i 0) := by
        rw [da, db]
        generalize List.getD a i 0 = u at *
        generalize List.getD b i 0 = v at *
        show decide (_ < _) = decide (_ < _)
        unfold cmpI
        rcases Int.lt_trichotomy u v with h | h | h
        · rw [show (decide (u < v)) = true from decide_eq_true h, if_pos h]
          rfl
        · exact absurd h e
        · rw [show (decide (u < v)) = false from decide_eq_false (by omega), if_neg (by omega), if_pos h]
          rfl
      rw [this]

theorem before_k (N : Nat) (hN : 33 ≤ N) {a b : List Int} (la : a.length = 32) (lb : b.length = 32) : veilref05_before N a b = some (icmp .lss (cmpI a b) 0) := by
  obtain ⟨r, h1, h2⟩ := before_loop N la lb 32 0 rfl N (by omega)
  have h1' : loopF (veilref05_before_l0 N) N (((), (), (), 0), (a, b)) = some r := h1
  unfold veilref05_before
  simp only [h1', mo]
  simp only [List.drop_zero] at h2
  rcases h2 with ⟨rfl, h⟩ | rfl
  · simp only [h]; rfl
  · rfl

theorem key_32 {p : P4} {a : E} (g : RepE p a) : (keyE a).length = 32 := by
  have hk := keyE_spec g
  obtain ⟨xl, yl, k1, k2, k3, k4, k5⟩ := Rep.affine g
  obtain ⟨c, c1, c2, -⟩ := comp_k k1 k2 k3
  rw [hk] at c1
  obtain rfl := Option.some.inj c1
  exact c2.1

/-- The reference's four points, in order. -/
structure RCos (a : E) (q0 q1 q2 q3 : List Int × List Int) (i j k l : Nat) : Prop where
  perm : [i, j, k, l].Perm [0, 1, 2, 3]
  r0 : RR q0 (cp a i)
  r1 : RR q1 (cp a j)
  r2 : RR q2 (cp a k)
  r3 : RR q3 (cp a l)
  o : [keyE (cp a i), keyE (cp a j), keyE (cp a k), keyE (cp a l)].Pairwise leI

theorem cp_zero (a : E) : cp a 0 = a := by
  show a + (2 * 0) • eT = a
  exact E.add_zero a

theorem rep_cp {p : P4} {a : E} (h : RepE p a) (k : Nat) (hk : k < 4) : ∃ q, RepE q (cp a k) := by
  obtain ⟨u, v, z, t, k1, k2⟩ := tor_nat (k := 2 * k) (by omega)
  obtain ⟨q, -, k4⟩ := repE_add h k2
  exact ⟨q, k4⟩

theorem rcoset_N (N : Nat) (hN : N = 300) {p : P4} {x y : List Int} {a : E} (h : RR (x, y) a) (g : RepE p a) :
    ∃ q0 q1 q2 q3 i j k l, veilref05_Point_Coset N (x, y) = some (q0, q1, q2, q3) ∧ RCos a q0 q1 q2 q3 i j k l := by
  obtain ⟨f1, f2, f3, hc, R1, R2, R3⟩ := rcos h
  have R0 : RR (x, y) (cp a 0) := by rw [cp_zero]; exact h
  obtain ⟨p0, g0⟩ := rep_cp g 0 (by decide)
  obtain ⟨p1, g1⟩ := rep_cp g 1 (by decide)
  obtain ⟨p2, g2⟩ := rep_cp g 2 (by decide)
  obtain ⟨p3, g3⟩ := rep_cp g 3 (by decide)
  obtain ⟨x1, y1⟩ := f1
  obtain ⟨x2, y2⟩ := f2
  obtain ⟨x3, y3⟩ := f3
  let f : Nat → List Int × List Int := fun n => match n with
    | 0 => (x, y)
    | 1 => (x1, y1)
    | 2 => (x2, y2)
    | _ => (x3, y3)
  let B : Nat → Nat → Bool := fun i j => icmp .lss (cmpI (keyE (cp a i)) (keyE (cp a j))) 0
  obtain ⟨i, j, k, l, hp, hs, b1, b2, b3⟩ := sortT_sorts f B fun i j => lss_asym
  have hf : ∀ n, n < 4 → RR (f n) (cp a n) := by
    intro n hn
    match n, hn with
    | 0, _ => exact R0
    | 1, _ => exact R1
    | 2, _ => exact R2
    | 3, _ => exact R3
  have hm : ∀ n, n ∈ [i, j, k, l] → n < 4 := by
    intro n hn
    have := hp.subset hn
    simp only [List.mem_cons, List.not_mem_nil, or_false] at this
    omega
  refine ⟨f i, f j, f k, f l, i, j, k, l, ?_, hp, hf i (hm i (by simp)), hf j (hm j (by simp)), hf k (hm k (by simp)), hf l (hm l (by simp)), pair4 (leI_of b1) (leI_of b2) (leI_of b3)⟩
  rw [← hs]
  have hon : kf x ≠ 0 ∨ kf y ≠ 0 := by
    have := on_ne (x := a.p.1) (y := a.p.2) a.on
    rwa [← show kf x = a.p.1 from h.ex, ← show kf y = a.p.2 from h.ey] at this
  have hat := at_k h.x h.y hon
  have c0 := rcomp R0 g0
  have c1 := rcomp R1 g1
  have c2 := rcomp R2 g2
  have c3 := rcomp R3 g3
  have l0 := key_32 g0
  have l1 := key_32 g1
  have l2 := key_32 g2
  have l3 := key_32 g3
  have hc' : veilref05_coset N (x, y) = some ((x, y), (x1, y1), (x2, y2), (x3, y3)) := by rw [hN]; exact hc
  rw [← hN] at c0 c1 c2 c3
  have e10 := before_k N (by omega) l1 l0
  have e20 := before_k N (by omega) l2 l0
  have e21 := before_k N (by omega) l2 l1
  have e30 := before_k N (by omega) l3 l0
  have e31 := before_k N (by omega) l3 l1
  have e32 := before_k N (by omega) l3 l2
  have hat' : veilref05_Point_at ((x, y).1, (x, y).2) = (x, y) := hat
  unfold veilref05_Point_Coset
  simp only [hat, hat', hc', mo, c0, c1, c2, c3, e10, e20, e21, e30, e31, e32]
  rfl

/-- A point and the reference's, with the same coordinates. -/
theorem same_ref (N : Nat) (hN : N = 300) {p : P4} {x y : List Int} {a : E} (g : RepE p a) (h : RR (x, y) a) : veillaw05_same N p (x, y) = some true := by
  obtain ⟨xl, yl, k1, k2, k3, k4, k5⟩ := Rep.affine g
  obtain ⟨m, m1, m2, m3⟩ := limbs_can h.x
  obtain ⟨n, n1, n2, n3⟩ := limbs_can h.y
  have e1 : xl = m := can_k k2 m2 (by rw [k4, ← show kf x = a.p.1 from h.ex]; exact kf_of (by rw [m3, Int.emod_eq_of_lt (by rw [← m3]; exact m2.nonneg.1) (by rw [← m3]; exact m2.nonneg.2)]))
  have e2 : yl = n := can_k k3 n2 (by rw [k5, ← show kf y = a.p.2 from h.ey]; exact kf_of (by rw [n3, Int.emod_eq_of_lt (by rw [← n3]; exact n2.nonneg.1) (by rw [← n3]; exact n2.nonneg.2)]))
  subst e1 e2
  obtain ⟨p1, p2, p3, p4⟩ := p
  have m1' : veilref01_F_Limbs 300 (x, y).1 = some xl := m1
  have n1' : veilref01_F_Limbs 300 (x, y).2 = some yl := n1
  subst hN
  unfold veillaw05_same
  simp only [k1, m1', n1', mo, decide_true, cond_true]

theorem gcos_N (N : Nat) (hN : N = 300) (w : List Int) (hw : w.length = 64 ∧ Bs w) : veillaw05_GroupCosets N w = some true := by
  obtain ⟨p1, p2, p3, p4, u, v, h1, h2, cu, cv, rp, on, ev⟩ := map_both hw.1 hw.2
  let a : E := ⟨(kf u, kf v), on⟩
  have ra : RepE (p1, p2, p3, p4) a := rp
  have rr : RR (u, v) a := ⟨cu, cv, rfl, rfl⟩
  have va : Ev a := ev
  rw [← hN] at h1 h2
  obtain ⟨q0, q1, q2, q3, i, j, k, l, h3, C⟩ := coset_N N hN ra
  obtain ⟨s0, s1, s2, s3, i', j', k', l', h4, D⟩ := rcoset_N N hN rr ra
  have e := keys_eq ((C.perm.map fun n => keyE (cp a n)).trans (D.perm.map fun n => keyE (cp a n)).symm) C.o D.o
  simp only [List.map_cons, List.map_nil, List.cons.injEq, and_true] at e
  obtain ⟨e0, e1, e2, e3⟩ := e
  have L := C.lt
  have hm : ∀ n, n ∈ [i', j', k', l'] → n < 4 := by
    intro n hn
    have := D.perm.subset hn
    simp only [List.mem_cons, List.not_mem_nil, or_false] at this
    omega
  have tie : ∀ {q : P4} {m n : Nat}, RepE q (cp a m) → n < 4 → keyE (cp a m) = keyE (cp a n) → cp a m = cp a n := by
    intro q m n hq hn hk
    obtain ⟨r, hr⟩ := rep_cp ra n hn
    exact keyE_inj hq hr hk
  have t0 := tie C.r0 (hm i' (by simp)) e0
  have t1 := tie C.r1 (hm j' (by simp)) e1
  have t2 := tie C.r2 (hm k' (by simp)) e2
  have t3 := tie C.r3 (hm l' (by simp)) e3
  have S0 := same_ref N hN C.r0 (x := s0.1) (y := s0.2) (by rw [t0]; exact D.r0)
  have S1 := same_ref N hN C.r1 (x := s1.1) (y := s1.2) (by rw [t1]; exact D.r1)
  have S2 := same_ref N hN C.r2 (x := s2.1) (y := s2.2) (by rw [t2]; exact D.r2)
  have S3 := same_ref N hN C.r3 (x := s3.1) (y := s3.2) (by rw [t3]; exact D.r3)
  obtain ⟨c, hc, -⟩ := enc_k N hN ra va
  obtain ⟨fA0, sA0, -, tA0, uA0, g0, g0', g0''⟩ := one_pt N hN va ra C.r0 (i := 0) (by decide) hc
  obtain ⟨fA1, sA1, -, tA1, uA1, g1, g1', g1''⟩ := one_pt N hN va ra C.r1 (i := 1) (by decide) hc
  obtain ⟨fA2, sA2, -, tA2, uA2, g2, g2', g2''⟩ := one_pt N hN va ra C.r2 (i := 2) (by decide) hc
  obtain ⟨fA3, sA3, -, tA3, uA3, g3, g3', g3''⟩ := one_pt N hN va ra C.r3 (i := 3) (by decide) hc
  have T1 : curve_Torsion 1 = some tA0 := g0
  have T3 : curve_Torsion 3 = some tA1 := g1
  have T5 : curve_Torsion 5 = some tA2 := g2
  have T7 : curve_Torsion 7 = some tA3 := g3
  have z0 : group_Point_Same zP zP = some true := gyes repE_zero repE_zero (.of_eq rfl)
  have n0 : icmp .neq 0 0 = false := rfl
  have n50 : icmp .neq 50 50 = false := rfl
  unfold veillaw05_GroupCosets
  simp only [h1, h2, h3, h4, mo, fA0, sA0, T1, g0', g0'', S0, fA1, sA1, T3, g1', g1'', S1, fA2, sA2, T5, g2', g2'', S2, fA3, sA3, T7, g3', g3'', S3, Bool.not_true, cond_false, n0, n50, z0]

theorem gcos_row (w : List Int) (hw : w.length = 64 ∧ ∀ x ∈ w, IntKind.u8.min ≤ x ∧ x ≤ IntKind.u8.max) : veillaw05_GroupCosets 300 w = some true := gcos_N 300 rfl w hw

end Go.Vx
