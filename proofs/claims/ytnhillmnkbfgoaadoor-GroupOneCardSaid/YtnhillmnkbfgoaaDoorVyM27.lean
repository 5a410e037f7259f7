import Derived.Test.YtnhillmnkbfgoaaDoorVyL2
import Derived.Test.YtnhillmnkbfgoaaDoorVyK0
import Derived.Test.YtnhillmnkbfgoaaDoorVyZ2
import Derived.Test.YtnhillmnkbfgoaaDoorVyS
import Derived.Test.YtnhillmnkbfgoaaDoorVyZ3
/- Numbers, part M2: the group's texts in the field K: the program's Decode and Encode. -/
set_option autoImplicit false
set_option linter.unusedSimpArgs false
namespace Go.Vx
open Go

theorem can_v {a : List Int} (h : Can a) : (kv a).v = val a := by
  have := h.nonneg
  show val a % pF = val a
  exact Int.emod_eq_of_lt this.1 this.2
theorem can_ev {a : List Int} (h : Can a) : (kv a).ev ↔ val a % 2 = 0 := by
  unfold K.ev; rw [can_v h]
theorem neg_ev {a : List Int} (h : Can a) : field_Elem_Negative a = true ↔ ¬ (kv a).ev := by
  rw [negative_spec h.L5, can_ev h, Int.emod_eq_of_lt h.nonneg.1 h.nonneg.2, decide_eq_true_eq]
  omega
theorem neg_ev_f {a : List Int} (h : Can a) (e : (kv a).ev) : field_Elem_Negative a = false := by
  cases hq : field_Elem_Negative a
  · rfl
  · exact absurd e ((neg_ev h).1 hq)

theorem sqrt_sr {a b : List Int} (ha : L5 a) (hb : L5 b) : ∃ r ok, field_SqrtRatio 300 a b = some (r, ok) ∧ Can r ∧ SR (kv a) (kv b) (kv r) ok := by
  obtain ⟨r, ok, h1, h2, h3, h4, h5, h6⟩ := sqrt_k ha hb
  exact ⟨r, ok, h1, h2, ⟨(can_ev h2).2 h3, h4, h5, h6⟩⟩
theorem abs_sr {a : List Int} (ha : L5 a) : Can (field_Elem_Abs a) ∧ (kv (field_Elem_Abs a)).ev ∧ kv (field_Elem_Abs a) ^ 2 = kv a ^ 2 := by
  obtain ⟨h1, h2, h3⟩ := abs_k ha
  exact ⟨h1, (can_ev h1).2 h2, by rcases h3 with h | h <;> rw [h] <;> grind⟩

theorem tab2_can : Can (field_tab 2) := ⟨_, _, _, _, _, rfl, by decide, by decide, by decide, by decide, by decide, by decide⟩
theorem tab2_k : kv (field_tab 2) = kD := by unfold kv kD; rfl
theorem tab4_can' : Can (field_tab 4) := ⟨_, _, _, _, _, rfl, by decide, by decide, by decide, by decide, by decide, by decide⟩
theorem const2' : field_Const 2 = some (field_tab 2) := rfl
theorem const1' : field_Const 1 = some (field_tab 1) := rfl
theorem const4' : field_Const 4 = some (field_tab 4) := rfl
theorem one_k (a : List Int) : Can (field_Elem_One a) ∧ kv (field_Elem_One a) = 1 := ⟨one_can, rfl⟩
theorem select_false {a b : List Int} (ha : L5 a) (hb : Can b) : field_Select (group_pick false) a b = b := by
  rw [select_spec ha hb.L5, show group_pick false = 0 from rfl, if_neg (by decide), least_can hb]
theorem least_id {a : List Int} (h : Can a) : field_Elem_Least a = a := least_can h

/-- Coordinates that are on the curve make a point. -/
theorem from_affine {a b : List Int} (ha : Can a) (hb : Can b) (hon : kv b ^ 2 - kv a ^ 2 = 1 + kD * kv a ^ 2 * kv b ^ 2) :
    ∃ t, curve_FromAffine a b = some ((a, b, [1, 0, 0, 0, 0], t), 0) ∧ Can t ∧ kv t = kv a * kv b := by
  obtain ⟨r1, h1, c1, e1⟩ := sq_k ha.L5
  obtain ⟨r2, h2, c2, e2⟩ := sq_k hb.L5
  obtain ⟨r4, h4, c4, e4⟩ := mul_k tab2_can.L5 c1.L5
  obtain ⟨r5, h5, c5, e5⟩ := mul_k c4.L5 c2.L5
  obtain ⟨r6, h6, c6, e6⟩ := mul_k ha.L5 hb.L5
  have k1 := sub_k c2.L5 c1.L5
  have k2 := add_k one_can.L5 c5.L5
  have hd : field_Elem_Sub r2 r1 = field_Elem_Add [1, 0, 0, 0, 0] r5 := by
    refine can_k k1.1 k2.1 ?_
    rw [k1.2, k2.2, e5, e4, e1, e2, tab2_k, show kv [1, 0, 0, 0, 0] = 1 from rfl]
    grind
  refine ⟨r6, ?_, c6, e6⟩
  unfold curve_FromAffine
  simp only [least_id ha, least_id hb, h1, h2, const2', h4, h5, mo, hd, decide_true, Bool.not_true, cond_false, curve_at, h6]

/-- The program's Decode of bytes that are a number. -/
theorem pdecode (p : List Int × List Int × List Int × List Int) {b s : List Int} (hd : field_Decode b = (s, 0)) (hs : Can s) (hev : (kv s).ev) :
    (∃ x y t, group_Point_Decode 300 p b = some ((x, y, [1, 0, 0, 0, 0], t), 0) ∧ Can x ∧ Can y ∧ Can t ∧ kv t = kv x * kv y ∧ Stands (kv s) (kv x) (kv y)) ∨
    (group_Point_Decode 300 p b = some (([0, 0, 0, 0, 0], [0, 0, 0, 0, 0], [0, 0, 0, 0, 0], [0, 0, 0, 0, 0]), 50) ∧ ∀ x y, ¬ Stands (kv s) x y) := by
  obtain ⟨r1, h1, c1, e1⟩ := sq_k hs.L5
  have one := one_k s
  have x2 := sub_k one.1.L5 c1.L5
  have x3 := add_k one.1.L5 c1.L5
  obtain ⟨r3, h3, c3, e3⟩ := sq_k x2.1.L5
  obtain ⟨r4, h4, c4, e4⟩ := mul_k tab2_can.L5 c3.L5
  obtain ⟨r5, h5, c5, e5⟩ := sq_k x3.1.L5
  have n4 := neg_k c4.L5
  have x5 := sub_k n4.1.L5 c5.L5
  obtain ⟨r7, h7, c7, e7⟩ := mul_k x5.1.L5 c5.L5
  obtain ⟨r8, ok, h8, c8, sr⟩ := sqrt_sr one.1.L5 c7.L5
  obtain ⟨r9, h9, c9, e9⟩ := mul_k c8.L5 x3.1.L5
  have ss := add_k hs.L5 hs.L5
  obtain ⟨r10, h10, c10, e10⟩ := mul_k ss.1.L5 c9.L5
  obtain ⟨r11, h11, c11, e11⟩ := mul_k x2.1.L5 c8.L5
  obtain ⟨r13, h13, c13, e13⟩ := mul_k c11.L5 c9.L5
  obtain ⟨r14, h14, c14, e14⟩ := mul_k c13.L5 x5.1.L5
  obtain ⟨a1, a2, a3⟩ := abs_sr c10.L5
  obtain ⟨r15, h15, c15, e15⟩ := mul_k a1.L5 c14.L5
  have neg0 := neg_ev_f hs hev
  -- the numbers
  have E1 : kv r1 = kv s ^ 2 := by rw [e1]; grind
  have X2 : kv (field_Elem_Sub (field_Elem_One s) r1) = 1 - kv s ^ 2 := by rw [x2.2, one.2, E1]
  have X3 : kv (field_Elem_Add (field_Elem_One s) r1) = 1 + kv s ^ 2 := by rw [x3.2, one.2, E1]
  have X5 : kv (field_Elem_Sub (field_Elem_Neg r4) r5) = -(kD * (1 - kv s ^ 2) ^ 2) - (1 + kv s ^ 2) ^ 2 := by
    rw [x5.2, n4.2, e4, e5, e3, X2, X3, tab2_k]; grind
  have E7 : kv r7 = (-(kD * (1 - kv s ^ 2) ^ 2) - (1 + kv s ^ 2) ^ 2) * (1 + kv s ^ 2) ^ 2 := by rw [e7, X5, e5, X3]; grind
  rw [one.2, E7] at sr
  have E14 : kv r14 = (1 - kv s ^ 2) * kv r8 * (kv r8 * (1 + kv s ^ 2)) * (-(kD * (1 - kv s ^ 2) ^ 2) - (1 + kv s ^ 2) ^ 2) := by rw [e14, X5, e13, e11, e9, X2, X3]
  have E10 : kv r10 = 2 * kv s * (kv r8 * (1 + kv s ^ 2)) := by rw [e10, ss.2, e9, X3]; grind
  have U : group_Point_Decode 300 p b = cond (!ok) (some (([0, 0, 0, 0, 0], [0, 0, 0, 0, 0], [0, 0, 0, 0, 0], [0, 0, 0, 0, 0]), 50))
      (cond (field_Elem_Negative r15) (some (([0, 0, 0, 0, 0], [0, 0, 0, 0, 0], [0, 0, 0, 0, 0], [0, 0, 0, 0, 0]), 50))
        (cond (field_Elem_IsZero r14) (some (([0, 0, 0, 0, 0], [0, 0, 0, 0, 0], [0, 0, 0, 0, 0], [0, 0, 0, 0, 0]), 50))
          (mo (curve_FromAffine (field_Elem_Abs r10) r14) none fun r16 =>
            cond (icmp .neq r16.2 0) (some (([0, 0, 0, 0, 0], [0, 0, 0, 0, 0], [0, 0, 0, 0, 0], [0, 0, 0, 0, 0]), 50))
              (some ((r16.1.1, r16.1.2.1, r16.1.2.2.1, r16.1.2.2.2), 0))))) := by
    unfold group_Point_Decode
    simp only [hd, show icmp .neq 0 0 = false from rfl, cond_false, neg0, h1, const2', h3, h4, h5, h7, h8, h9, h10, h11, h13, h14, h15, mo]
  generalize hS : kv s = S at *
  -- what must be, of any point that s stands for
  by_cases hvw : (-(kD * (1 - S ^ 2) ^ 2) - (1 + S ^ 2) ^ 2) * (1 + S ^ 2) ^ 2 = 0
  · right
    have := sr.z' K.one_ne hvw
    refine ⟨by rw [U, this.1]; rfl, fun x y h => ?_⟩
    exact K.mul_ne h.v0 (K.pow_ne h.w0 2) hvw
  · obtain ⟨v0, w2⟩ := K.ne_mul hvw
    have w0 : 1 + S ^ 2 ≠ 0 := fun e => w2 (by rw [e]; grind)
    obtain ⟨q1, q2, -⟩ := sr.q K.one_ne hvw
    cases ok with
    | false =>
      right
      refine ⟨by rw [U]; rfl, fun x y h => ?_⟩
      obtain ⟨r, hr⟩ := h.root
      have := (sr.found hvw hr).1
      cases this
    | true =>
      have hr := q2 rfl
      have Y : kv r14 * (1 + S ^ 2) = 1 - S ^ 2 := by rw [E14]; exact dec_y hr
      have X : (-(kD * (1 - S ^ 2) ^ 2) - (1 + S ^ 2) ^ 2) * kv (field_Elem_Abs r10) ^ 2 = 4 * S ^ 2 := by rw [a3, E10]; exact dec_x hr
      by_cases hn : (kv r15).ev
      · by_cases hz : kv r14 = 0
        · right
          refine ⟨by rw [U, neg_ev_f c15 hn, (iszero_k c14.L5).2 hz]; rfl, fun x y h => h.y0 ?_⟩
          refine K.cancel w0 ?_
          rw [Lean.Grind.CommRing.mul_comm, h.yw, ← Y, hz]; grind
        · left
          have st : Stands S (kv (field_Elem_Abs r10)) (kv r14) := ⟨hev, a2, by rw [← e15]; exact hn, hz, w0, Y, v0, X⟩
          obtain ⟨t, f1, f2, f3⟩ := from_affine a1 c14 st.on
          refine ⟨_, _, t, ?_, a1, c14, f2, f3, st⟩
          rw [U, neg_ev_f c15 hn, iszero_f c14.L5 hz]
          simp only [Bool.not_true, cond_false, f1, mo, show icmp .neq 0 0 = false from rfl]
      · right
        refine ⟨by rw [U, (neg_ev c15).2 hn]; rfl, fun x y h => hn ?_⟩
        have hy : kv r14 = y := K.cancel w0 (by rw [Lean.Grind.CommRing.mul_comm, Y, ← h.yw, Lean.Grind.CommRing.mul_comm])
        have hx : kv (field_Elem_Abs r10) = x := K.ev_root a2 h.x_ev (K.cancel v0 (by rw [X, h.xv]))
        rw [e15, hx, hy]; exact h.xy_ev

theorem k_one_pow (n : Nat) : (1 : K) ^ n = 1 := by
  rw [show (1 : K) = K.of 1 from rfl, ← K.of_pow, Int.one_pow]

/-- The coordinates of a point that has none below. -/
theorem affine_one {x y t : List Int} (hx : Can x) (hy : Can y) : curve_Point_Affine 300 (x, y, [1, 0, 0, 0, 0], t) = some (x, y) := by
  obtain ⟨r1, h1, p1⟩ := invert_spec (a := [1, 0, 0, 0, 0]) one_can.L5
  have e1 : kv r1 = 1 := by rw [pow_k p1, show kv [1, 0, 0, 0, 0] = 1 from rfl, k_one_pow]
  obtain ⟨r2, h2, c2, e2⟩ := mul_k hx.L5 p1.1.L5
  obtain ⟨r3, h3, c3, e3⟩ := mul_k hy.L5 p1.1.L5
  have f2 : r2 = x := can_k c2 hx (by rw [e2, e1]; grind)
  have f3 : r3 = y := can_k c3 hy (by rw [e3, e1]; grind)
  subst f2
  subst f3
  unfold curve_Point_Affine curve_place_whole
  have hz : decide (([1, 0, 0, 0, 0] : List Int) = [0, 0, 0, 0, 0]) = false := by decide
  simp only [hz, cond_false, h1, h2, h3, mo]

theorem select_true {a b : List Int} (ha : Can a) (hb : L5 b) : field_Select (group_pick true) a b = a := by
  rw [select_spec ha.L5 hb, show group_pick true = 1 from rfl, if_pos (by decide), least_can ha]
theorem neg_ev_t {a : List Int} (h : Can a) (e : ¬ (kv a).ev) : field_Elem_Negative a = true := (neg_ev h).2 e
theorem tab4_k : kv (field_tab 4) = kM := by unfold kv kM; rfl

/-- The root that the program takes. -/
theorem enc_root {x y r q : K} {ok : Bool} (hq : (1 + y) * (1 - y) = q ^ 2) (hn : x * y ≠ 0) (hu : (1 + y) * (1 - y) ≠ 0) (sr : SR 1 (((1 + y) * (1 - y)) * (x * y) ^ 2) r ok) : r ^ 2 * (((1 + y) * (1 - y)) * (x * y) ^ 2) = 1 := by
  have q0 : q ≠ 0 := fun e => hu (by rw [hq, e]; grind)
  obtain ⟨z, hz⟩ := inv_ex (K.mul_ne q0 hn)
  have hv : ((1 + y) * (1 - y)) * (x * y) ^ 2 = (q * (x * y)) ^ 2 := by rw [hq]; grind
  have := (sr.found (r := z) (K.mul_ne hu (K.pow_ne hn 2)) (by rw [hv]; generalize q * (x * y) = w at *; grind)).2
  rw [this, hv]
  generalize q * (x * y) = w at *
  grind

theorem u_ne {x y : K} (on : y ^ 2 - x ^ 2 = 1 + kD * x ^ 2 * y ^ 2) (hn : x * y ≠ 0) : (1 + y) * (1 - y) ≠ 0 := by
  intro h
  have hm := kM_sq
  have hx := (K.ne_mul hn).1
  have h1 : (-1 - kD) * x ^ 2 = 0 := by generalize kD = d at *; grind
  rcases K.mul_zero' h1 with h1 | h1
  · rw [h1] at hm; exact K.one_ne (by rw [← hm]; grind)
  · exact hx (K.sq_zero h1)

theorem k_neg_neg (b : K) : - -b = b := by grind
theorem k_mul_negs (a b : K) : -a * -b = a * b := by grind
theorem k_neg_zero {a : K} (h : -a = 0) : a = 0 := by grind
theorem rel_negs (a b : K) : Rel a b (-a) (-b) := .inr (.inr (.inl ⟨(k_neg_neg a).symm, (k_neg_neg b).symm⟩))
theorem on_neg {a b d : K} (h : b ^ 2 - a ^ 2 = 1 + d * a ^ 2 * b ^ 2) : (-b) ^ 2 - (-a) ^ 2 = 1 + d * (-a) ^ 2 * (-b) ^ 2 := by grind
theorem on_turn {a b d : K} (h : b ^ 2 - a ^ 2 = 1 + d * a ^ 2 * b ^ 2) : (a * kI) ^ 2 - (b * kI) ^ 2 = 1 + d * (b * kI) ^ 2 * (a * kI) ^ 2 := by
  have hi := kI_sq
  grind
theorem rel_turn (a b : K) : Rel a b (b * kI) (a * kI) := by
  have hi := kI_sq
  exact .inr (.inr (.inr ⟨by grind, by grind⟩))
theorem turn_mul (a b : K) : b * kI * (a * kI) = -(a * b) := by
  have hi := kI_sq
  grind
theorem den_turn {u t2 m w r d : K} (tn : t2 ≠ 0) (R : r ^ 2 * (u * t2) = 1) (tt : u * w = (-1 - d) * t2) (hm : (-1 - d) * m ^ 2 = 1) : (r * u * m) ^ 2 * w = 1 := by
  refine K.cancel tn ?_
  have : t2 * ((r * u * m) ^ 2 * w) = (r ^ 2 * (u * t2)) * m ^ 2 * (u * w) := by grind
  rw [this, R, tt]
  grind
theorem fin_neg (b : K) : (1 + -b) * (1 - -b) = (1 + b) * (1 - b) := by grind
theorem fin_one (r x y : K) : (r * (x * y)) ^ 2 * ((1 + y) * (1 - y)) = r ^ 2 * (((1 + y) * (1 - y)) * (x * y) ^ 2) := by
  generalize x * y = t
  generalize (1 + y) * (1 - y) = u
  grind

/-- The program's Encode of any even point. -/
theorem pencode {p1 p2 p3 p4 x y : List Int} {q : K} (h1 : curve_Point_Affine 300 (p1, p2, p3, p4) = some (x, y)) (hx : Can x) (hy : Can y) (on : kv y ^ 2 - kv x ^ 2 = 1 + kD * kv x ^ 2 * kv y ^ 2) (hq : (1 + kv y) * (1 - kv y) = q ^ 2) :
    ∃ s X Y, group_Point_Encode 300 (p1, p2, p3, p4) = some (field_Elem_Encode s) ∧ Can s ∧ Stands (kv s) X Y ∧ Rel (kv x) (kv y) X Y := by
  obtain ⟨r2, h2, c2, e2⟩ := mul_k hx.L5 hy.L5
  have one := one_k x
  have a1 := add_k one.1.L5 hy.L5
  have s1 := sub_k one.1.L5 hy.L5
  obtain ⟨r3, h3, c3, e3⟩ := mul_k a1.1.L5 s1.1.L5
  obtain ⟨r4, h4, c4, e4⟩ := sq_k c2.L5
  obtain ⟨r5, h5, c5, e5⟩ := mul_k c3.L5 c4.L5
  obtain ⟨r6, ok, h6, c6, sr⟩ := sqrt_sr one.1.L5 c5.L5
  obtain ⟨r7, h7, c7, e7⟩ := mul_k c6.L5 c3.L5
  obtain ⟨r8, h8, c8, e8⟩ := mul_k c6.L5 c2.L5
  obtain ⟨r9, h9, c9, e9⟩ := mul_k c7.L5 c8.L5
  obtain ⟨r10, h10, c10, e10⟩ := mul_k c9.L5 c2.L5
  obtain ⟨r11, h11, c11, e11⟩ := mul_k c2.L5 c10.L5
  obtain ⟨r13, h13, c13, e13⟩ := mul_k hx.L5 tab1_can.L5
  obtain ⟨r14, h14, c14, e14⟩ := mul_k hy.L5 tab1_can.L5
  obtain ⟨r16, h16, c16, e16⟩ := mul_k c7.L5 tab4_can'.L5
  rw [tab1_k] at e13 e14
  rw [tab4_k] at e16
  have E3 : kv r3 = (1 + kv y) * (1 - kv y) := by rw [e3, a1.2, s1.2, one.2]
  have E5 : kv r5 = ((1 + kv y) * (1 - kv y)) * (kv x * kv y) ^ 2 := by rw [e5, E3, e4, e2]; generalize kv x * kv y = t; grind
  rw [one.2, E5] at sr
  have E10 : kv r10 = kv r6 ^ 2 * (((1 + kv y) * (1 - kv y)) * (kv x * kv y) ^ 2) := by
    rw [e10, e9, e8, e7, e2, E3]
    generalize (1 + kv y) * (1 - kv y) = u
    generalize kv x * kv y = t
    grind
  -- what is handed back, once the signs are known
  have U : ∀ (b1 b2 : Bool) (x1 y1 dn : List Int), field_Elem_Negative r11 = b1 → field_Select (group_pick b1) r14 x = x1 → field_Select (group_pick b1) r13 y = y1 → field_Select (group_pick b1) r16 r8 = dn → Can x1 → Can y1 → Can dn →
      (∀ r17, field_Elem_Mul x1 r10 = some r17 → field_Elem_Negative r17 = b2) →
      ∃ s, group_Point_Encode 300 (p1, p2, p3, p4) = some (field_Elem_Encode s) ∧ Can s ∧ (kv s).ev ∧ kv s ^ 2 = (kv dn * (1 - (bif b2 then - kv y1 else kv y1))) ^ 2 := by
    intro b1 b2 x1 y1 dn g1 g2 g3 g4 k1 k2 k3 g5
    obtain ⟨r17, h17, c17, e17⟩ := mul_k k1.L5 c10.L5
    have g6 := g5 r17 h17
    have ny := neg_k k2.L5
    have hsel : Can (field_Select (group_pick b2) (field_Elem_Neg y1) y1) ∧ kv (field_Select (group_pick b2) (field_Elem_Neg y1) y1) = (bif b2 then - kv y1 else kv y1) := by
      cases b2
      · rw [select_false ny.1.L5 k2]; exact ⟨k2, rfl⟩
      · rw [select_true ny.1 k2.L5]; exact ⟨ny.1, ny.2⟩
    have s2 := sub_k one.1.L5 hsel.1.L5
    obtain ⟨r18, h18, c18, e18⟩ := mul_k k3.L5 s2.1.L5
    obtain ⟨m1, m2, m3⟩ := abs_sr c18.L5
    refine ⟨_, ?_, m1, m2, by rw [m3, e18, s2.2, hsel.2, one.2]⟩
    unfold group_Point_Encode
    simp only [h1, h2, h3, h4, h5, h6, h7, h8, h9, h10, h11, const1', h13, h14, const4', h16, mo, g1, g2, g3, g4, h17, g6, h18]
  have hi := kI_sq
  by_cases hn : kv x * kv y = 0
  · -- the neutral element
    have z6 : kv r6 = 0 := (sr.z' K.one_ne (by rw [hn]; grind)).2
    have z10 : kv r10 = 0 := by rw [E10, z6]; grind
    have z8 : kv r8 = 0 := by rw [e8, z6]; grind
    have n11 : field_Elem_Negative r11 = false := neg_ev_f c11 (by rw [e11, z10, show kv r2 * 0 = 0 by grind]; exact K.ev_zero)
    obtain ⟨s, k1, k2, k3, k4⟩ := U false false x y r8 n11 (select_false c14.L5 hx) (select_false c13.L5 hy) (select_false c16.L5 c8) hx hy c8 (fun r17 h17 => by
      obtain ⟨r, j1, j2, j3⟩ := mul_k hx.L5 c10.L5
      rw [h17] at j1
      obtain rfl := Option.some.inj j1
      exact neg_ev_f j2 (by rw [j3, z10, show kv x * 0 = 0 by grind]; exact K.ev_zero))
    have s0 : kv s = 0 := K.sq_zero (by rw [k4, z8]; grind)
    exact ⟨s, 0, 1, k1, k2, by rw [s0]; exact stands_zero, rel_zero on hn⟩
  · have hu := u_ne on hn
    have R := enc_root hq hn hu sr
    have Z : kv r10 = 1 := by rw [E10, R]
    obtain ⟨x0, y0⟩ := K.ne_mul hn
    have e11' : kv r11 = kv x * kv y := by rw [e11, e2, Z]; grind
    have neg17 : ∀ x1, Can x1 → ∀ r17, field_Elem_Mul x1 r10 = some r17 → Can r17 ∧ kv r17 = kv x1 := by
      intro x1 k r17 h17
      obtain ⟨r, j1, j2, j3⟩ := mul_k k.L5 c10.L5
      rw [h17] at j1
      obtain rfl := Option.some.inj j1
      exact ⟨j2, by rw [j3, Z]; grind⟩
    -- a point of the four with the product not negative, and its factor
    have fin : ∀ (b1 : Bool) (x1 y1 dn : List Int), field_Elem_Negative r11 = b1 → field_Select (group_pick b1) r14 x = x1 → field_Select (group_pick b1) r13 y = y1 → field_Select (group_pick b1) r16 r8 = dn → Can x1 → Can y1 → Can dn →
        (kv x1 * kv y1).ev → kv x1 ≠ 0 → kv y1 ≠ 0 → kv y1 ^ 2 - kv x1 ^ 2 = 1 + kD * kv x1 ^ 2 * kv y1 ^ 2 → kv dn ^ 2 * ((1 + kv y1) * (1 - kv y1)) = 1 → Rel (kv x) (kv y) (kv x1) (kv y1) →
        ∃ s X Y, group_Point_Encode 300 (p1, p2, p3, p4) = some (field_Elem_Encode s) ∧ Can s ∧ Stands (kv s) X Y ∧ Rel (kv x) (kv y) X Y := by
      intro b1 x1 y1 dn g1 g2 g3 g4 k1 k2 k3 xyev x10 y10 on1 de rel
      by_cases hev : (kv x1).ev
      · obtain ⟨s, j1, j2, j3, j4⟩ := U b1 false x1 y1 dn g1 g2 g3 g4 k1 k2 k3 (fun r17 h17 => by
          obtain ⟨q1, q2⟩ := neg17 x1 k1 r17 h17
          exact neg_ev_f q1 (by rw [q2]; exact hev))
        exact ⟨s, kv x1, kv y1, j1, j2, stands_of (e := kv dn) j3 hev xyev x10 y10 on1 de j4, rel⟩
      · obtain ⟨s, j1, j2, j3, j4⟩ := U b1 true x1 y1 dn g1 g2 g3 g4 k1 k2 k3 (fun r17 h17 => by
          obtain ⟨q1, q2⟩ := neg17 x1 k1 r17 h17
          exact neg_ev_t q1 (by rw [q2]; exact hev))
        refine ⟨s, - kv x1, - kv y1, j1, j2, stands_of (e := kv dn) j3 ((K.ev_neg x10).2 hev) ?_ ?_ ?_ ?_ ?_ j4, rel.trans (rel_negs _ _)⟩
        · rw [k_mul_negs]; exact xyev
        · exact fun h => x10 (k_neg_zero h)
        · exact fun h => y10 (k_neg_zero h)
        · exact on_neg on1
        · rw [fin_neg]; exact de
    by_cases hneg : (kv x * kv y).ev
    · refine fin false x y r8 (neg_ev_f c11 (by rw [e11']; exact hneg)) (select_false c14.L5 hx) (select_false c13.L5 hy) (select_false c16.L5 c8) hx hy c8 hneg x0 y0 on ?_ (Rel.refl _ _)
      rw [e8, e2, fin_one, R]
    · have t11 := neg_ev_t c11 (by rw [e11']; exact hneg)
      refine fin true r14 r13 r16 t11 (select_true c14 hx.L5) (select_true c13 hy.L5) (select_true c16 c8.L5) c14 c13 c16 ?_ ?_ ?_ ?_ ?_ ?_
      · rw [e13, e14, turn_mul]
        exact (K.ev_neg hn).2 hneg
      · rw [e14]; exact K.mul_ne y0 (fun h => by rw [h] at hi; exact K.one_ne (by grind))
      · rw [e13]; exact K.mul_ne x0 (fun h => by rw [h] at hi; exact K.one_ne (by grind))
      · rw [e13, e14]; exact on_turn on
      · rw [e16, e7, E3, e13]
        exact den_turn (K.pow_ne hn 2) R (turn_id on) kM_sq
      · rw [e13, e14]; exact rel_turn _ _

end Go.Vx

/- Numbers, part M4: the group's texts in the field K: what bytes are mapped to, by the program. -/
set_option autoImplicit false
set_option linter.unusedSimpArgs false
namespace Go.Vx
open Go

theorem tab3_can' : Can (field_tab 3) := ⟨_, _, _, _, _, rfl, by decide, by decide, by decide, by decide, by decide, by decide⟩
theorem tab5_can' : Can (field_tab 5) := ⟨_, _, _, _, _, rfl, by decide, by decide, by decide, by decide, by decide, by decide⟩
theorem tab6_can' : Can (field_tab 6) := ⟨_, _, _, _, _, rfl, by decide, by decide, by decide, by decide, by decide, by decide⟩
theorem tab3_k : kv (field_tab 3) = kA := by unfold kv kA; rfl
theorem tab5_k : kv (field_tab 5) = 1 - kD ^ 2 := by
  have h : kv (field_tab 5) = 1 - kD * kD := by
    unfold kv kD
    rw [show (1 : K) = K.of 1 from rfl, ← K.of_mul, ← K.of_sub, K.of_eq]
    decide
  rw [h]; generalize kD = d; grind
theorem tab6_k : kv (field_tab 6) = (kD - 1) ^ 2 := by
  have h : kv (field_tab 6) = (kD - 1) * (kD - 1) := by
    unfold kv kD
    rw [show (1 : K) = K.of 1 from rfl, ← K.of_sub, ← K.of_mul, K.of_eq]
    decide
  rw [h]; generalize kD = d; grind
theorem const3' : field_Const 3 = some (field_tab 3) := rfl
theorem const5' : field_Const 5 = some (field_tab 5) := rfl
theorem const6' : field_Const 6 = some (field_tab 6) := rfl
theorem inv_k {a : List Int} (ha : L5 a) : ∃ r, field_Elem_Invert 300 a = some r ∧ Can r ∧ kv r = kv a ^ eI := by
  obtain ⟨r, h1, p1⟩ := invert_spec ha
  exact ⟨r, h1, p1.1, pow_k p1⟩
theorem k_sq (a : K) : a * a = a ^ 2 := by grind

/-- What the program maps a number to. -/
theorem phalf {a : List Int} (ha : L5 a) : ∃ x y t R V S ok s c, group_MapHalf 300 a = some (x, y, [1, 0, 0, 0, 0], t) ∧ Can x ∧ Can y ∧ Can t ∧ kv t = kv x * kv y ∧ HalfK (kv a) (kv x) (kv y) R V S ok s c := by
  have one := one_k a
  have n1 := neg_k one.1.L5
  obtain ⟨r3, h3, c3, e3⟩ := sq_k ha
  obtain ⟨r4, h4, c4, e4⟩ := mul_k tab1_can.L5 c3.L5
  have a4 := add_k c4.L5 one.1.L5
  obtain ⟨r6, h6, c6, e6⟩ := mul_k a4.1.L5 tab5_can'.L5
  obtain ⟨r7, h7, c7, e7⟩ := mul_k c4.L5 tab2_can.L5
  have s7 := sub_k n1.1.L5 c7.L5
  have a7 := add_k c4.L5 tab2_can.L5
  obtain ⟨r8, h8, c8, e8⟩ := mul_k s7.1.L5 a7.1.L5
  obtain ⟨r9, ok, h9, c9, sr⟩ := sqrt_sr c6.L5 c8.L5
  obtain ⟨r10, h10, c10, e10⟩ := mul_k c9.L5 ha
  obtain ⟨b1, b2, b3⟩ := abs_sr c10.L5
  have nb := neg_k b1.L5
  have s4 := sub_k c4.L5 one.1.L5
  -- the numbers
  have R : kv r4 = kI * kv a ^ 2 := by rw [e4, e3, tab1_k, k_sq]
  have V : kv r8 = (-1 - kv r4 * kD) * (kv r4 + kD) := by rw [e8, s7.2, a7.2, n1.2, one.2, e7, tab2_k]
  have U : kv r6 = (kv r4 + 1) * (1 - kD ^ 2) := by rw [e6, a4.2, one.2, tab5_k]
  rw [U] at sr
  have sel : ∃ s c, field_Select (group_pick ok) r9 (field_Elem_Neg (field_Elem_Abs r10)) = s ∧ Can s ∧ field_Select (group_pick ok) (field_Elem_Neg (field_Elem_One a)) r4 = c ∧ Can c ∧
      (ok = true → kv s = kv r9 ∧ kv c = -1) ∧ (ok = false → (∃ w : K, w.ev ∧ w ^ 2 = (kv r9 * kv a) ^ 2 ∧ kv s = -w) ∧ kv c = kv r4) := by
    cases ok with
    | true =>
      refine ⟨_, _, select_true c9 nb.1.L5, c9, select_true n1.1 c4.L5, n1.1, (fun _ => ⟨rfl, by rw [n1.2, one.2]⟩), (fun h => by cases h)⟩
    | false =>
      exact ⟨_, _, select_false c9.L5 nb.1, nb.1, select_false n1.1.L5 c4, c4, (fun h => by cases h), (fun _ => ⟨⟨_, b2, by rw [b3, e10], nb.2⟩, rfl⟩)⟩
  obtain ⟨s, c, g1, g2, g3, g4, g5, g6⟩ := sel
  obtain ⟨r11, h11, c11, e11⟩ := mul_k g4.L5 s4.1.L5
  obtain ⟨r13, h13, c13, e13⟩ := mul_k c11.L5 tab6_can'.L5
  obtain ⟨r14, h14, c14, e14⟩ := sq_k g2.L5
  have ss := add_k g2.L5 g2.L5
  obtain ⟨r15, h15, c15, e15⟩ := mul_k ss.1.L5 c8.L5
  have s13 := sub_k c13.L5 c8.L5
  obtain ⟨r17, h17, c17, e17⟩ := mul_k s13.1.L5 tab3_can'.L5
  obtain ⟨r18, h18, c18, e18⟩ := inv_k c17.L5
  obtain ⟨r19, h19, c19, e19⟩ := mul_k c15.L5 c18.L5
  have a14 := add_k one.1.L5 c14.L5
  obtain ⟨r20, h20, c20, e20⟩ := inv_k a14.1.L5
  have s14 := sub_k one.1.L5 c14.L5
  obtain ⟨r21, h21, c21, e21⟩ := mul_k s14.1.L5 c20.L5
  have X : kv r19 = 2 * kv s * kv r8 * ((kv c * (kv r4 - 1) * (kD - 1) ^ 2 - kv r8) * kA) ^ eI := by
    rw [e19, e18, e17, tab3_k, s13.2, e13, tab6_k, e11, s4.2, one.2, e15, ss.2]
    generalize ((kv c * (kv r4 - 1) * (kD - 1) ^ 2 - kv r8) * kA) ^ eI = w
    grind
  have Y : kv r21 = (1 - kv s ^ 2) * (1 + kv s ^ 2) ^ eI := by
    rw [e21, e20, a14.2, s14.2, one.2, e14, k_sq]
  have hk : HalfK (kv a) (kv r19) (kv r21) (kv r4) (kv r8) (kv r9) ok (kv s) (kv c) := ⟨R, V, sr, g5, g6, X, Y⟩
  obtain ⟨t, f1, f2, f3⟩ := from_affine c19 c21 hk.on.1
  refine ⟨r19, r21, t, _, _, _, _, _, _, ?_, c19, c21, f2, f3, hk⟩
  unfold group_MapHalf
  simp only [const1', const2', const3', const5', const6', h3, h4, h6, h7, h8, h9, h10, g1, g3, h11, h13, h14, h15, h17, h18, h19, h20, h21, f1, mo]

end Go.Vx

/- Numbers, part M6: the curve's points in the field K: what the program's points stand for; sums. -/
set_option autoImplicit false
set_option linter.unusedSimpArgs false
namespace Go.Vx
open Go

abbrev P4 := List Int × List Int × List Int × List Int
abbrev o5 : List Int := [1, 0, 0, 0, 0]
abbrev z5 : List Int := [0, 0, 0, 0, 0]
theorem z5_can : Can z5 := ⟨_, _, _, _, _, rfl, by decide, by decide, by decide, by decide, by decide, by decide⟩
theorem z5_k : kv z5 = 0 := rfl
theorem o5_k : kv o5 = 1 := rfl
theorem can_zero {a : List Int} (h : Can a) : a = z5 ↔ kv a = 0 := ⟨fun e => by rw [e]; rfl, fun e => can_k h z5_can e⟩

/-- The coordinates (X, Y) are those of x/z, y/z; t is x y / z. -/
structure Rep0 (p : P4) (X Y : K) : Prop where
  cx : Can p.1
  cy : Can p.2.1
  cz : Can p.2.2.1
  ct : Can p.2.2.2
  z : kv p.2.2.1 ≠ 0
  x : kv p.1 = X * kv p.2.2.1
  y : kv p.2.1 = Y * kv p.2.2.1
  t : kv p.2.2.2 = X * Y * kv p.2.2.1
/-- The point p stands for the coordinates (X, Y). -/
def Rep (p : P4) (X Y : K) : Prop := Rep0 p X Y ∨ (p.2.2.1 = z5 ∧ X = 0 ∧ Y = 1)

theorem Rep.whole {p : P4} {X Y : K} (h : Rep p X Y) : Rep0 (curve_place_whole p) X Y := by
  unfold curve_place_whole
  rcases h with h | ⟨h, rfl, rfl⟩
  · have : decide (p.2.2.1 = [0, 0, 0, 0, 0]) = false := decide_eq_false fun e => h.z (by rw [e]; rfl)
    rw [this]
    exact h
  · rw [h]
    exact ⟨z5_can, one_can, one_can, z5_can, K.one_ne, by show (0 : K) = 0 * 1; grind, by show (1 : K) = 1 * 1; grind, by show (0 : K) = 0 * 1 * 1; grind⟩
theorem rep_one {x y t : List Int} (hx : Can x) (hy : Can y) (ht : Can t) (h : kv t = kv x * kv y) : Rep (x, y, o5, t) (kv x) (kv y) :=
  .inl ⟨hx, hy, one_can, ht, K.one_ne, by show _ = _ * (1 : K); grind, by show _ = _ * (1 : K); grind, by show _ = _ * (1 : K); rw [h]; grind⟩
theorem rep_zero : Rep (z5, z5, z5, z5) 0 1 := .inr ⟨rfl, rfl, rfl⟩

theorem Rep.affine {p : P4} {X Y : K} (h : Rep p X Y) : ∃ x y, curve_Point_Affine 300 p = some (x, y) ∧ Can x ∧ Can y ∧ kv x = X ∧ kv y = Y := by
  have w := h.whole
  unfold curve_Point_Affine
  generalize curve_place_whole (p.1, p.2.1, p.2.2.1, p.2.2.2) = q at *
  obtain ⟨r1, h1, c1, e1⟩ := inv_k w.cz.L5
  obtain ⟨r2, h2, c2, e2⟩ := mul_k w.cx.L5 c1.L5
  obtain ⟨r3, h3, c3, e3⟩ := mul_k w.cy.L5 c1.L5
  have hi := k_inv w.z
  have hx := w.x
  have hy := w.y
  refine ⟨r2, r3, by simp only [h1, h2, h3, mo], c2, c3, ?_, ?_⟩
  · rw [e2, e1, hx]; generalize kv q.2.2.1 ^ eI = i at *; grind
  · rw [e3, e1, hy]; generalize kv q.2.2.1 ^ eI = i at *; grind

theorem d2_can : Can [1859910466990425, 932731440258426, 1072319116312658, 1815898335770999, 633789495995903] := ⟨_, _, _, _, _, rfl, by decide, by decide, by decide, by decide, by decide, by decide⟩
theorem d2_k : kv [1859910466990425, 932731440258426, 1072319116312658, 1815898335770999, 633789495995903] = kD + kD := by
  unfold kv kD
  rw [← K.of_add, K.of_eq]
  decide

theorem made_k {a b c d : List Int} (ha : Can a) (hb : Can b) (hc : Can c) (hd : Can d) : ∃ x y z t, curve_made a b c d = some (x, y, z, t) ∧ Can x ∧ Can y ∧ Can z ∧ Can t ∧ kv x = kv a * kv b ∧ kv y = kv c * kv d ∧ kv z = kv b * kv c ∧ kv t = kv a * kv d := by
  obtain ⟨r1, h1, c1, e1⟩ := mul_k ha.L5 hb.L5
  obtain ⟨r2, h2, c2, e2⟩ := mul_k hc.L5 hd.L5
  obtain ⟨r3, h3, c3, e3⟩ := mul_k hb.L5 hc.L5
  obtain ⟨r4, h4, c4, e4⟩ := mul_k ha.L5 hd.L5
  exact ⟨r1, r2, r3, r4, by unfold curve_made; simp only [h1, h2, h3, h4, mo], c1, c2, c3, c4, e1, e2, e3, e4⟩

theorem add_fin {a b x y z w d X Y : K} (hX : X * (1 + d * a * x * b * y) = a * y + b * x) (hY : Y * (1 - d * a * x * b * y) = b * y + a * x) :
    ∃ E F G H : K, E = (b * z + a * z) * (y * w + x * w) - (b * z - a * z) * (y * w - x * w) ∧ H = (b * z + a * z) * (y * w + x * w) + (b * z - a * z) * (y * w - x * w) ∧ F = (z * w + z * w) - (a * b * z) * (d + d) * (x * y * w) ∧ G = (z * w + z * w) + (a * b * z) * (d + d) * (x * y * w) ∧
      F = 2 * (z * w) * (1 - d * a * x * b * y) ∧ G = 2 * (z * w) * (1 + d * a * x * b * y) ∧ E * F = X * (F * G) ∧ G * H = Y * (F * G) ∧ E * H = X * Y * (F * G) := by
  have hE : (b * z + a * z) * (y * w + x * w) - (b * z - a * z) * (y * w - x * w) = X * (2 * (z * w) * (1 + d * a * x * b * y)) := by
    rw [show X * (2 * (z * w) * (1 + d * a * x * b * y)) = 2 * (z * w) * (X * (1 + d * a * x * b * y)) by grind, hX]; grind
  have hH : (b * z + a * z) * (y * w + x * w) + (b * z - a * z) * (y * w - x * w) = Y * (2 * (z * w) * (1 - d * a * x * b * y)) := by
    rw [show Y * (2 * (z * w) * (1 - d * a * x * b * y)) = 2 * (z * w) * (Y * (1 - d * a * x * b * y)) by grind, hY]; grind
  have hF : (z * w + z * w) - (a * b * z) * (d + d) * (x * y * w) = 2 * (z * w) * (1 - d * a * x * b * y) := by clear hX hY hE hH; grind
  have hG : (z * w + z * w) + (a * b * z) * (d + d) * (x * y * w) = 2 * (z * w) * (1 + d * a * x * b * y) := by clear hX hY hE hH; grind
  refine ⟨_, _, _, _, rfl, rfl, rfl, rfl, hF, hG, ?_, ?_, ?_⟩
  · rw [hE, hF, hG]; generalize 1 - d * a * x * b * y = u; generalize 1 + d * a * x * b * y = v; clear hX hY hE hH hF hG; grind
  · rw [hH, hF, hG]; generalize 1 - d * a * x * b * y = u; generalize 1 + d * a * x * b * y = v; clear hX hY hE hH hF hG; grind
  · rw [hE, hH, hF, hG]; generalize 1 - d * a * x * b * y = u; generalize 1 + d * a * x * b * y = v; clear hX hY hE hH hF hG; grind

/-- The program's sum. -/
theorem Rep.add {p q : P4} {a b x y : K} (hp : Rep p a b) (hq : Rep q x y) (h1 : On a b) (h2 : On x y) : ∃ r, curve_Point_Add p q = some r ∧ Rep r (ax a b x y) (ay a b x y) := by
  have u := hp.whole
  have v := hq.whole
  unfold curve_Point_Add
  generalize curve_place_whole (p.1, p.2.1, p.2.2.1, p.2.2.2) = p at *
  generalize curve_place_whole (q.1, q.2.1, q.2.2.1, q.2.2.2) = q at *
  have s1 := sub_k u.cy.L5 u.cx.L5
  have s2 := sub_k v.cy.L5 v.cx.L5
  have a1 := add_k u.cy.L5 u.cx.L5
  have a2 := add_k v.cy.L5 v.cx.L5
  obtain ⟨r1, k1, c1, e1⟩ := mul_k s1.1.L5 s2.1.L5
  obtain ⟨r2, k2, c2, e2⟩ := mul_k a1.1.L5 a2.1.L5
  obtain ⟨r3, k3, c3, e3⟩ := mul_k u.ct.L5 d2_can.L5
  obtain ⟨r4, k4, c4, e4⟩ := mul_k c3.L5 v.ct.L5
  obtain ⟨r5, k5, c5, e5⟩ := mul_k u.cz.L5 v.cz.L5
  have f1 := sub_k c2.L5 c1.L5
  have f2 := add_k c5.L5 c5.L5
  have f3 := sub_k f2.1.L5 c4.L5
  have f4 := add_k f2.1.L5 c4.L5
  have f5 := add_k c2.L5 c1.L5
  obtain ⟨X, Y, Z, T, k6, g1, g2, g3, g4, g5, g6, g7, g8⟩ := made_k f1.1 f3.1 f4.1 f5.1
  refine ⟨(X, Y, Z, T), by simp only [k1, k2, k3, k4, k5, k6, mo], .inl ?_⟩
  obtain ⟨E, F, G, H, m1, m2, m3, m4, m5, m6, m7, m8, m9⟩ := add_fin (z := kv p.2.2.1) (w := kv q.2.2.1) (ax_mul h1 h2) (ay_mul h1 h2)
  have eE : kv (field_Elem_Sub r2 r1) = E := by rw [f1.2, e2, e1, a1.2, a2.2, s1.2, s2.2, u.x, u.y, v.x, v.y, m1]
  have eH : kv (field_Elem_Add r2 r1) = H := by rw [f5.2, e2, e1, a1.2, a2.2, s1.2, s2.2, u.x, u.y, v.x, v.y, m2]
  have eF : kv (field_Elem_Sub (field_Elem_Add r5 r5) r4) = F := by rw [f3.2, f2.2, e5, e4, e3, d2_k, u.t, v.t, m3]
  have eG : kv (field_Elem_Add (field_Elem_Add r5 r5) r4) = G := by rw [f4.2, f2.2, e5, e4, e3, d2_k, u.t, v.t, m4]
  rw [eE, eF] at g5
  rw [eG, eH] at g6
  rw [eF, eG] at g7
  rw [eE, eH] at g8
  obtain ⟨w1, w2⟩ := add_whole h1 h2
  have zz : 2 * (kv p.2.2.1 * kv q.2.2.1) ≠ 0 := K.mul_ne K.two_ne (K.mul_ne u.z v.z)
  refine ⟨g1, g2, g3, g4, ?_, ?_, ?_, ?_⟩
  · show kv Z ≠ 0
    rw [g7, m5, m6]; exact K.mul_ne (K.mul_ne zz w2) (K.mul_ne zz w1)
  · show kv X = _ * kv Z
    rw [g5, g7]; exact m7
  · show kv Y = _ * kv Z
    rw [g6, g7]; exact m8
  · show kv T = _ * kv Z
    rw [g8, g7]; exact m9

end Go.Vx

/- Numbers, part M10: the curve's functions in the field K: opposite, double, same, multiples, 'live'. -/
set_option autoImplicit false
set_option linter.unusedSimpArgs false
namespace Go.Vx
open Go

/-- The point p stands for the pair q. -/
abbrev RepP (p : P4) (q : KP) : Prop := Rep p q.1 q.2

theorem repP_add {p q : P4} {a b : KP} (h1 : RepP p a) (h2 : RepP q b) (o1 : OnP a) (o2 : OnP b) : ∃ r, curve_Point_Add p q = some r ∧ RepP r (kadd a b) := Rep.add h1 h2 o1 o2

theorem repP_neg {p : P4} {a : KP} (h : RepP p a) : RepP (curve_Point_Neg p) (kneg a) := by
  have w := h.whole
  unfold curve_Point_Neg
  generalize curve_place_whole (p.1, p.2.1, p.2.2.1, p.2.2.2) = q at *
  have n1 := neg_k w.cx.L5
  have n2 := neg_k w.ct.L5
  refine .inl ⟨n1.1, w.cy, w.cz, n2.1, w.z, ?_, w.y, ?_⟩
  · show kv (field_Elem_Neg q.1) = -a.1 * _
    rw [n1.2, w.x]; grind
  · show kv (field_Elem_Neg q.2.2.2) = -a.1 * a.2 * _
    rw [n2.2, w.t]; grind
theorem repP_sub {p q : P4} {a b : KP} (h1 : RepP p a) (h2 : RepP q b) (o1 : OnP a) (o2 : OnP b) : ∃ r, curve_Point_Sub p q = some r ∧ RepP r (kadd a (kneg b)) := by
  obtain ⟨r, k1, k2⟩ := repP_add h1 (repP_neg h2) o1 (kneg_on o2)
  refine ⟨r, ?_, k2⟩
  unfold curve_Point_Sub
  have : curve_Point_Add (p.1, p.2.1, p.2.2.1, p.2.2.2) ((curve_Point_Neg (q.1, q.2.1, q.2.2.1, q.2.2.2)).1, (curve_Point_Neg (q.1, q.2.1, q.2.2.1, q.2.2.2)).2.1, (curve_Point_Neg (q.1, q.2.1, q.2.2.1, q.2.2.2)).2.2.1, (curve_Point_Neg (q.1, q.2.1, q.2.2.1, q.2.2.2)).2.2.2) = some r := k1
  simp only [this, mo]

theorem dbl_fin {x y z d X Y : K} (on : y ^ 2 - x ^ 2 = 1 + d * x ^ 2 * y ^ 2) (hX : X * (1 + d * x * x * y * y) = x * y + y * x) (hY : Y * (1 - d * x * x * y * y) = y * y + x * x) :
    ∃ E F G H : K, E = (x * z + y * z) * (x * z + y * z) - x * z * (x * z) - y * z * (y * z) ∧ H = -(x * z * (x * z)) - y * z * (y * z) ∧ F = y * z * (y * z) - x * z * (x * z) - z * z - z * z ∧ G = y * z * (y * z) - x * z * (x * z) ∧
      F = -(z * z) * (1 - d * x * x * y * y) ∧ G = z * z * (1 + d * x * x * y * y) ∧ E * F = X * (F * G) ∧ G * H = Y * (F * G) ∧ E * H = X * Y * (F * G) := by
  have hE : (x * z + y * z) * (x * z + y * z) - x * z * (x * z) - y * z * (y * z) = X * (z * z * (1 + d * x * x * y * y)) := by
    rw [show X * (z * z * (1 + d * x * x * y * y)) = z * z * (X * (1 + d * x * x * y * y)) by grind, hX]; grind
  have hH : -(x * z * (x * z)) - y * z * (y * z) = Y * (-(z * z) * (1 - d * x * x * y * y)) := by
    rw [show Y * (-(z * z) * (1 - d * x * x * y * y)) = -(z * z) * (Y * (1 - d * x * x * y * y)) by grind, hY]; grind
  have hG : y * z * (y * z) - x * z * (x * z) = z * z * (1 + d * x * x * y * y) := by
    rw [show y * z * (y * z) - x * z * (x * z) = z * z * (y ^ 2 - x ^ 2) by grind, on]; grind
  have hF : y * z * (y * z) - x * z * (x * z) - z * z - z * z = -(z * z) * (1 - d * x * x * y * y) := by rw [hG]; grind
  refine ⟨_, _, _, _, rfl, rfl, rfl, rfl, hF, hG, ?_, ?_, ?_⟩
  · rw [hE, hF, hG]; generalize 1 - d * x * x * y * y = u; generalize 1 + d * x * x * y * y = v; clear hX hY hE hH hF hG on; grind
  · rw [hH, hF, hG]; generalize 1 - d * x * x * y * y = u; generalize 1 + d * x * x * y * y = v; clear hX hY hE hH hF hG on; grind
  · rw [hE, hH, hF, hG]; generalize 1 - d * x * x * y * y = u; generalize 1 + d * x * x * y * y = v; clear hX hY hE hH hF hG on; grind

theorem repP_dbl {p : P4} {a : KP} (h : RepP p a) (o : OnP a) : ∃ r, curve_Point_Double p = some r ∧ RepP r (kdbl a) := by
  have w := h.whole
  unfold curve_Point_Double
  generalize curve_place_whole (p.1, p.2.1, p.2.2.1, p.2.2.2) = q at *
  obtain ⟨r1, k1, c1, e1⟩ := sq_k w.cx.L5
  obtain ⟨r2, k2, c2, e2⟩ := sq_k w.cy.L5
  obtain ⟨r3, k3, c3, e3⟩ := sq_k w.cz.L5
  have a1 := add_k w.cx.L5 w.cy.L5
  obtain ⟨r4, k4, c4, e4⟩ := sq_k a1.1.L5
  have s1 := sub_k c4.L5 c1.L5
  have s2 := sub_k s1.1.L5 c2.L5
  have s3 := sub_k c2.L5 c1.L5
  have s4 := sub_k s3.1.L5 c3.L5
  have s5 := sub_k s4.1.L5 c3.L5
  have n1 := neg_k c1.L5
  have s6 := sub_k n1.1.L5 c2.L5
  obtain ⟨X, Y, Z, T, k6, g1, g2, g3, g4, g5, g6, g7, g8⟩ := made_k s2.1 s5.1 s3.1 s6.1
  refine ⟨(X, Y, Z, T), by simp only [k1, k2, k3, k4, k6, mo], .inl ?_⟩
  obtain ⟨E, F, G, H, m1, m2, m3, m4, m5, m6, m7, m8, m9⟩ := dbl_fin (z := kv q.2.2.1) o (ax_mul o o) (ay_mul o o)
  have eE : kv (field_Elem_Sub (field_Elem_Sub r4 r1) r2) = E := by rw [s2.2, s1.2, e4, e1, e2, a1.2, w.x, w.y, m1]
  have eF : kv (field_Elem_Sub (field_Elem_Sub (field_Elem_Sub r2 r1) r3) r3) = F := by rw [s5.2, s4.2, s3.2, e3, e2, e1, w.x, w.y, m3]
  have eG : kv (field_Elem_Sub r2 r1) = G := by rw [s3.2, e2, e1, w.x, w.y, m4]
  have eH : kv (field_Elem_Sub (field_Elem_Neg r1) r2) = H := by rw [s6.2, n1.2, e1, e2, w.x, w.y, m2]
  rw [eE, eF] at g5
  rw [eG, eH] at g6
  rw [eF, eG] at g7
  rw [eE, eH] at g8
  obtain ⟨w1, w2⟩ := add_whole o o
  have zz : kv q.2.2.1 * kv q.2.2.1 ≠ 0 := K.mul_ne w.z w.z
  have zn : -(kv q.2.2.1 * kv q.2.2.1) ≠ 0 := fun h => zz (by rw [show kv q.2.2.1 * kv q.2.2.1 = - -(kv q.2.2.1 * kv q.2.2.1) by grind, h]; grind)
  refine ⟨g1, g2, g3, g4, ?_, ?_, ?_, ?_⟩
  · show kv Z ≠ 0
    rw [g7, m5, m6]; exact K.mul_ne (K.mul_ne zn w2) (K.mul_ne zz w1)
  · show kv X = _ * kv Z
    rw [g5, g7]; exact m7
  · show kv Y = _ * kv Z
    rw [g6, g7]; exact m8
  · show kv T = _ * kv Z
    rw [g8, g7]; exact m9

theorem same_fin {X Y z w : K} (hz : z ≠ 0) (hw : w ≠ 0) : X * z * w = Y * w * z ↔ X = Y := by
  constructor
  · intro h
    refine K.cancel (K.mul_ne hz hw) ?_
    rw [show z * w * X = X * z * w by grind, h]; grind
  · rintro rfl; grind
/-- The program's Same. -/
theorem repP_same {p q : P4} {a b : KP} (h1 : RepP p a) (h2 : RepP q b) : ∃ c, curve_Point_Same p q = some c ∧ (c = true ↔ a = b) := by
  have u := h1.whole
  have v := h2.whole
  unfold curve_Point_Same
  generalize curve_place_whole (p.1, p.2.1, p.2.2.1, p.2.2.2) = p at *
  generalize curve_place_whole (q.1, q.2.1, q.2.2.1, q.2.2.2) = q at *
  obtain ⟨r1, k1, c1, e1⟩ := mul_k u.cx.L5 v.cz.L5
  obtain ⟨r2, k2, c2, e2⟩ := mul_k v.cx.L5 u.cz.L5
  obtain ⟨r3, k3, c3, e3⟩ := mul_k u.cy.L5 v.cz.L5
  obtain ⟨r4, k4, c4, e4⟩ := mul_k v.cy.L5 u.cz.L5
  rw [u.x] at e1
  rw [v.x] at e2
  rw [u.y] at e3
  rw [v.y] at e4
  have x : r1 = r2 ↔ a.1 = b.1 := by
    rw [← same_fin u.z v.z, ← e1, ← e2]
    exact ⟨fun h => by rw [h], fun h => can_k c1 c2 h⟩
  have y : r3 = r4 ↔ a.2 = b.2 := by
    rw [← same_fin u.z v.z, ← e3, ← e4]
    exact ⟨fun h => by rw [h], fun h => can_k c3 c4 h⟩
  by_cases hx : r1 = r2
  · refine ⟨decide (r3 = r4), by simp only [k1, k2, k3, k4, mo, decide_eq_true hx, cond_true], ?_⟩
    rw [decide_eq_true_eq, y]
    exact ⟨fun h => Prod.ext (x.1 hx) h, fun h => by rw [h]⟩
  · refine ⟨false, by simp only [k1, k2, mo, decide_eq_false hx, cond_false], ?_⟩
    constructor
    · intro h; cases h
    · intro h; exact absurd (x.2 (by rw [h])) hx

/- Multiples. -/
def nib (b : List Int) (i : Nat) : Nat := (List.getD b (i / 2) 0).toNat / 16 ^ (i % 2) % 16
/-- The digits below place n, the highest first. -/
def digs (b : List Int) : Nat → List Nat
  | 0 => []
  | n + 1 => nib b n :: digs b n

theorem b_nib {y : Int} (h : 0 ≤ y ∧ y ≤ 255) (r : Nat) (hr : r < 2) : ibin .and .u8 (ibin .shr .u8 y ((4 * r : Nat) : Int)) 15 = ((y.toNat / 16 ^ r % 16 : Nat) : Int) := by
  have hp : (2 : Nat) ^ (4 * r) = 16 ^ r := by rw [Nat.pow_mul]
  have e1 : ibin .shr .u8 y ((4 * r : Nat) : Int) = ((y.toNat / 16 ^ r : Nat) : Int) := by
    show y.fdiv (2 ^ (min ((4 * r : Nat) : Int).toNat 8)) = _
    rw [Int.toNat_natCast, Nat.min_eq_left (by omega), Int.fdiv_eq_ediv_of_nonneg _ (Int.le_of_lt (Int.pow_pos (by decide)))]
    have : y = (y.toNat : Int) := by omega
    conv => lhs; rw [this]
    rw [← hp, Int.natCast_ediv, Int.natCast_pow]; rfl
  rw [e1]
  generalize hz : y.toNat / 16 ^ r = z
  have hz2 : z ≤ 255 := by
    rw [← hz]
    exact Nat.le_trans (Nat.div_le_self _ _) (by omega)
  show IntKind.wrap .u8 ((BitVec.ofInt 8 (z : Int) &&& BitVec.ofInt 8 15).toNat : Int) = _
  have : (BitVec.ofInt 8 (z : Int) &&& BitVec.ofInt 8 15).toNat = z % 16 := by
    rw [BitVec.toNat_and, BitVec.toNat_ofInt, show (BitVec.ofInt 8 15).toNat = 2 ^ 4 - 1 from rfl, Nat.and_two_pow_sub_one_eq_mod]
    omega
  rw [this, wrap8]
  omega

theorem rnd_zero (p : KP) : rnd p kzero 0 = kzero := by
  unfold rnd kdbl nmul
  rw [kadd_zero, kadd_zero, kadd_zero, kadd_zero, kadd_zero]
theorem fold_low (p : KP) (b : List Int) : (n m : Nat) → (∀ j, n ≤ j → j < m → nib b j = 0) → n ≤ m → (digs b m).foldl (rnd p) kzero = (digs b n).foldl (rnd p) kzero
  | n, 0, _, h => by
    obtain rfl : n = 0 := by omega
    rfl
  | n, m + 1, hz, h => by
    rcases Nat.lt_or_ge m n with hm | hm
    · obtain rfl : n = m + 1 := by omega
      rfl
    · rw [← fold_low p b n m (fun j h1 h2 => hz j h1 (by omega)) hm, digs, List.foldl_cons, hz m hm (by omega), rnd_zero]

abbrev T16 (t : Nat → P4) : P4 × P4 × P4 × P4 × P4 × P4 × P4 × P4 × P4 × P4 × P4 × P4 × P4 × P4 × P4 × P4 := (t 0, t 1, t 2, t 3, t 4, t 5, t 6, t 7, t 8, t 9, t 10, t 11, t 12, t 13, t 14, t 15)
theorem sel16 {Q : P4 → Nat → Prop} {t : Nat → P4} (ht : ∀ i, i < 16 → Q (t i) i) (d : Nat) (hd : d < 16) :
    Q (List.getD [(t 0).1, (t 1).1, (t 2).1, (t 3).1, (t 4).1, (t 5).1, (t 6).1, (t 7).1, (t 8).1, (t 9).1, (t 10).1, (t 11).1, (t 12).1, (t 13).1, (t 14).1, (t 15).1] d [],
      List.getD [(t 0).2.1, (t 1).2.1, (t 2).2.1, (t 3).2.1, (t 4).2.1, (t 5).2.1, (t 6).2.1, (t 7).2.1, (t 8).2.1, (t 9).2.1, (t 10).2.1, (t 11).2.1, (t 12).2.1, (t 13).2.1, (t 14).2.1, (t 15).2.1] d [],
      List.getD [(t 0).2.2.1, (t 1).2.2.1, (t 2).2.2.1, (t 3).2.2.1, (t 4).2.2.1, (t 5).2.2.1, (t 6).2.2.1, (t 7).2.2.1, (t 8).2.2.1, (t 9).2.2.1, (t 10).2.2.1, (t 11).2.2.1, (t 12).2.2.1, (t 13).2.2.1, (t 14).2.2.1, (t 15).2.2.1] d [],
      List.getD [(t 0).2.2.2, (t 1).2.2.2, (t 2).2.2.2, (t 3).2.2.2, (t 4).2.2.2, (t 5).2.2.2, (t 6).2.2.2, (t 7).2.2.2, (t 8).2.2.2, (t 9).2.2.2, (t 10).2.2.2, (t 11).2.2.2, (t 12).2.2.2, (t 13).2.2.2, (t 14).2.2.2, (t 15).2.2.2] d []) d := by
  match d, hd with
  | 0, _ => exact ht 0 (by decide)
  | 1, _ => exact ht 1 (by decide)
  | 2, _ => exact ht 2 (by decide)
  | 3, _ => exact ht 3 (by decide)
  | 4, _ => exact ht 4 (by decide)
  | 5, _ => exact ht 5 (by decide)
  | 6, _ => exact ht 6 (by decide)
  | 7, _ => exact ht 7 (by decide)
  | 8, _ => exact ht 8 (by decide)
  | 9, _ => exact ht 9 (by decide)
  | 10, _ => exact ht 10 (by decide)
  | 11, _ => exact ht 11 (by decide)
  | 12, _ => exact ht 12 (by decide)
  | 13, _ => exact ht 13 (by decide)
  | 14, _ => exact ht 14 (by decide)
  | 15, _ => exact ht 15 (by decide)
  | n + 16, h => exact absurd h (by omega)

theorem dec_rng {n : Nat} {i : Nat} (h : i < n) : decide (0 ≤ (i : Int) ∧ (i : Int) < ((n : Nat) : Int)) = true := decide_eq_true ⟨by omega, by omega⟩
theorem dec_nn (i : Nat) : decide (0 ≤ (i : Int)) = true := decide_eq_true (by omega)
theorem geq_zero (i : Nat) : icmp .geq (i : Int) 0 = true := by
  have h : (i : Int) ≥ 0 := by omega
  simp [icmp]
theorem byte_at {b : List Int} (hb : L32 b) (i : Nat) : 0 ≤ List.getD b i 0 ∧ List.getD b i 0 ≤ 255 := by
  rw [List.getD_eq_getElem?_getD]
  rcases Nat.lt_or_ge i b.length with h | h
  · rw [List.getElem?_eq_getElem h]
    exact hb.2 _ (List.getElem_mem h)
  · rw [List.getElem?_eq_none h]; exact ⟨by decide, by decide⟩

theorem l6_step (N : Nat) {t : Nat → P4} {p : KP} (hp : OnP p) (ht : ∀ i, i < 16 → RepP (t i) (nmul p i)) {b : List Int} (hb : L32 b) {acc : P4} {q : KP} (ha : RepP acc q) (hq : OnP q) {i : Nat} (hi : i < 64) :
    ∃ r, curve_Point_TimesBytes_l6 N (((), (), (), (), (i : Int)), (b, (), T16 t, acc)) = some (.inl (((), (), (), (), (i : Int) - 1), (b, (), T16 t, r))) ∧ RepP r (rnd p q (nib b i)) := by
  obtain ⟨r1, k1, h1⟩ := repP_dbl ha hq
  have o1 := kdbl_on hq
  obtain ⟨r2, k2, h2⟩ := repP_dbl h1 o1
  have o2 := kdbl_on o1
  obtain ⟨r3, k3, h3⟩ := repP_dbl h2 o2
  have o3 := kdbl_on o2
  obtain ⟨r4, k4, h4⟩ := repP_dbl h3 o3
  have o4 := kdbl_on o3
  have hlt : nib b i < 16 := Nat.mod_lt _ (by decide)
  obtain ⟨r5, k5, h5⟩ := repP_add h4 (sel16 (Q := fun x d => RepP x (nmul p d)) ht (nib b i) hlt) o4 (nmul_on hp _)
  have e1 : ibin .quo .i64 (i : Int) 2 = ((i / 2 : Nat) : Int) := Ref.i_quo 2 (by omega)
  have e2 : ibin .rem .i64 (i : Int) 2 = ((i % 2 : Nat) : Int) := Ref.i_rem 2
  have e3 : ibin .mul .i64 4 ((i % 2 : Nat) : Int) = ((4 * (i % 2) : Nat) : Int) := by rw [Ref.i_mul (by omega) (by omega)]; omega
  have e4 : ibin .and .u8 (ibin .shr .u8 (List.getD b (i / 2) 0) ((4 * (i % 2) : Nat) : Int)) 15 = ((nib b i : Nat) : Int) := b_nib (byte_at hb _) _ (Nat.mod_lt _ (by decide))
  have e5 : ibin .sub .i64 (i : Int) 1 = (i : Int) - 1 := Ref.i_sub (by omega) (by omega)
  refine ⟨r5, ?_, h5⟩
  obtain ⟨a1, a2, a3, a4⟩ := acc
  obtain ⟨b1, b2, b3, b4⟩ := r1
  obtain ⟨c1, c2, c3, c4⟩ := r2
  obtain ⟨d1, d2, d3, d4⟩ := r3
  obtain ⟨f1, f2, f3, f4⟩ := r4
  unfold curve_Point_TimesBytes_l6
  simp only [geq_zero, cond_true, k1, k2, k3, k4, mo, e1, dec_rng (show i / 2 < 32 by omega), e2, e3, dec_nn, Int.toNat_natCast, e4, dec_rng hlt, k5, e5]

theorem l6_loop (N : Nat) {t : Nat → P4} {p : KP} (hp : OnP p) (ht : ∀ i, i < 16 → RepP (t i) (nmul p i)) {b : List Int} (hb : L32 b) : (k : Nat) → k ≤ 64 → (fuel : Nat) → k < fuel → (acc : P4) → (q : KP) → RepP acc q → OnP q →
    ∃ r, loopF (curve_Point_TimesBytes_l6 N) fuel (((), (), (), (), (k : Int) - 1), (b, (), T16 t, acc)) = some (.inl (((), ()), ((), r))) ∧ RepP r ((digs b k).foldl (rnd p) q)
  | 0, _, fuel + 1, _, acc, q, ha, hq => by
    refine ⟨acc, ?_, ha⟩
    rw [loopF_succ]
    have : icmp .geq (((0 : Nat) : Int) - 1) 0 = false := by decide
    unfold curve_Point_TimesBytes_l6
    simp only [this, cond_false, mo]
  | k + 1, hk, fuel + 1, hf, acc, q, ha, hq => by
    obtain ⟨r, h1, h2⟩ := l6_step N hp ht hb ha hq (show k < 64 by omega)
    obtain ⟨r', g1, g2⟩ := l6_loop N hp ht hb k (by omega) fuel (by omega) r _ h2 (rnd_on hp hq _)
    refine ⟨r', ?_, g2⟩
    rw [loopF_succ, show (((k + 1 : Nat) : Int) - 1) = (k : Int) by omega, h1]
    exact g1

theorem nib_bool (n : Nat) : icmp .neq (n : Int) 0 = !decide (n = 0) := by
  by_cases h : n = 0
  · subst h; rfl
  · have h' : (n : Int) ≠ 0 := by omega
    simp only [icmp, h, h', decide_false]
    simp [h]
theorem l0_loop (N : Nat) {b : List Int} (hb : L32 b) (x y z u : List Int) : (k : Nat) → k ≤ 32 → (fuel : Nat) → k < fuel →
    ∃ n : Nat, n ≤ 2 * k ∧ loopF (curve_Point_TimesBytes_l0 N) fuel (((), (), (), (), (k : Int) - 1), ((x, y, z, u), b, ())) = some (.inl (((), (), (), (n : Int) - 1), ((x, y, z, u), b, ()))) ∧ ∀ j, n ≤ j → j < 2 * k → nib b j = 0
  | 0, _, fuel + 1, _ => by
    refine ⟨0, by omega, ?_, fun j h1 h2 => by omega⟩
    rw [loopF_succ]
    have : icmp .geq (((0 : Nat) : Int) - 1) 0 = false := by decide
    unfold curve_Point_TimesBytes_l0
    simp only [this, cond_false, mo]
    rfl
  | k + 1, hk, fuel + 1, hf => by
    have e0 : (((k + 1 : Nat) : Int) - 1) = (k : Int) := by omega
    have n1 : ibin .and .u8 (ibin .shr .u8 (List.getD b k 0) 4) 15 = ((nib b (2 * k + 1) : Nat) : Int) := by
      have := b_nib (byte_at hb k) 1 (by decide)
      rw [show ((4 * 1 : Nat) : Int) = 4 from rfl] at this
      rw [this]; unfold nib
      rw [show (2 * k + 1) / 2 = k by omega, show (2 * k + 1) % 2 = 1 by omega]
    have n0 : ibin .and .u8 (ibin .shr .u8 (List.getD b k 0) 0) 15 = ((nib b (2 * k) : Nat) : Int) := by
      have := b_nib (byte_at hb k) 0 (by decide)
      rw [show ((4 * 0 : Nat) : Int) = 0 from rfl] at this
      rw [this]; unfold nib
      rw [show (2 * k) / 2 = k by omega, show (2 * k) % 2 = 0 by omega]
    have m2 : ibin .mul .i64 2 (k : Int) = ((2 * k : Nat) : Int) := by rw [Ref.i_mul (by omega) (by omega)]; omega
    have a1 : ibin .add .i64 ((2 * k : Nat) : Int) 1 = ((2 * k + 2 : Nat) : Int) - 1 := by rw [Ref.i_add (by omega) (by omega)]; omega
    have a0 : ibin .add .i64 ((2 * k : Nat) : Int) 0 = ((2 * k + 1 : Nat) : Int) - 1 := by rw [Ref.i_add (by omega) (by omega)]; omega
    have s1 : ibin .sub .i64 (k : Int) 1 = (k : Int) - 1 := Ref.i_sub (by omega) (by omega)
    by_cases h1 : nib b (2 * k + 1) = 0
    · by_cases h0 : nib b (2 * k) = 0
      · obtain ⟨n, g1, g2, g3⟩ := l0_loop N hb x y z u k (by omega) fuel (by omega)
        refine ⟨n, by omega, ?_, fun j j1 j2 => ?_⟩
        · rw [loopF_succ, e0]
          unfold curve_Point_TimesBytes_l0
          simp only [geq_zero, dec_rng (show k < 32 by omega), Int.toNat_natCast, n1, n0, nib_bool, h1, h0, decide_true, Bool.not_true, cond_true, cond_false, s1, mo]
          exact g2
        · rcases Nat.lt_or_ge j (2 * k) with h | h
          · exact g3 j j1 h
          · rcases Nat.lt_or_ge j (2 * k + 1) with h' | h'
            · rw [show j = 2 * k by omega]; exact h0
            · rw [show j = 2 * k + 1 by omega]; exact h1
      · refine ⟨2 * k + 1, by omega, ?_, fun j j1 j2 => by rw [show j = 2 * k + 1 by omega]; exact h1⟩
        rw [loopF_succ, e0]
        unfold curve_Point_TimesBytes_l0
        simp only [geq_zero, dec_rng (show k < 32 by omega), Int.toNat_natCast, n1, n0, nib_bool, h1, decide_eq_false h0, decide_true, Bool.not_true, Bool.not_false, cond_true, cond_false, m2, a0, mo]
    · refine ⟨2 * k + 2, by omega, ?_, fun j j1 j2 => by omega⟩
      rw [loopF_succ, e0]
      unfold curve_Point_TimesBytes_l0
      simp only [geq_zero, dec_rng (show k < 32 by omega), Int.toNat_natCast, n1, nib_bool, decide_eq_false h1, Bool.not_false, cond_true, m2, a1, mo]

/-- The table. -/
theorem table_rep {x : P4} {p : KP} (h : RepP x p) (hp : OnP p) : ∃ t : Nat → P4, t 0 = (z5, z5, z5, z5) ∧ (∀ i, i < 15 → curve_Point_Add (t i) x = some (t (i + 1))) ∧ ∀ i, RepP (t i) (nmul p i) := by
  let step : P4 → P4 := fun a => (curve_Point_Add a x).getD a
  let t : Nat → P4 := fun n => n.rec (z5, z5, z5, z5) fun _ a => step a
  have key : ∀ i, RepP (t i) (nmul p i) ∧ curve_Point_Add (t i) x = some (t (i + 1)) := by
    intro i
    induction i with
    | zero =>
      have h0 : RepP (t 0) (nmul p 0) := rep_zero
      obtain ⟨r, k1, k2⟩ := repP_add h0 h (nmul_on hp 0) hp
      refine ⟨h0, ?_⟩
      show _ = some (step (t 0))
      show _ = some ((curve_Point_Add (t 0) x).getD (t 0))
      rw [k1]; rfl
    | succ i ih =>
      obtain ⟨h1, h2⟩ := ih
      have h3 : RepP (t (i + 1)) (nmul p (i + 1)) := by
        obtain ⟨r, k1, k2⟩ := repP_add h1 h (nmul_on hp i) hp
        rw [h2] at k1
        rw [Option.some.inj k1]; exact k2
      obtain ⟨r, k1, k2⟩ := repP_add h3 h (nmul_on hp (i + 1)) hp
      refine ⟨h3, ?_⟩
      show _ = some ((curve_Point_Add (t (i + 1)) x).getD (t (i + 1)))
      rw [k1]; rfl
  exact ⟨t, rfl, fun i _ => (key i).2, fun i => (key i).1⟩

/-- The program's multiples. -/
theorem repP_times (N : Nat) (hN : 65 ≤ N) {x : P4} {p : KP} (h : RepP x p) (hp : OnP p) {b : List Int} (hb : L32 b) : ∃ r, curve_Point_TimesBytes N x b = some r ∧ RepP r (horn p (digs b 64)) := by
  obtain ⟨x1, x2, x3, x4⟩ := x
  obtain ⟨n, n1, n2, n3⟩ := l0_loop N hb x1 x2 x3 x4 32 (by decide) N (by omega)
  obtain ⟨t, t1, t2, t3⟩ := table_rep h hp
  obtain ⟨r, k1, k2⟩ := l6_loop N hp (fun i _ => t3 i) hb n (by omega) N (by omega) (z5, z5, z5, z5) kzero rep_zero zero_on
  rw [← fold_low p b n 64 (fun j j1 j2 => n3 j j1 (by omega)) (by omega)] at k2
  refine ⟨r, ?_, k2⟩
  have a0 := t2 0 (by decide)
  rw [t1] at a0
  have a1 := t2 1 (by decide)
  have a2 := t2 2 (by decide)
  have a3 := t2 3 (by decide)
  have a4 := t2 4 (by decide)
  have a5 := t2 5 (by decide)
  have a6 := t2 6 (by decide)
  have a7 := t2 7 (by decide)
  have a8 := t2 8 (by decide)
  have a9 := t2 9 (by decide)
  have a10 := t2 10 (by decide)
  have a11 := t2 11 (by decide)
  have a12 := t2 12 (by decide)
  have a13 := t2 13 (by decide)
  have a14 := t2 14 (by decide)
  unfold T16 at k1
  rw [t1] at k1
  have n2' : loopF (curve_Point_TimesBytes_l0 N) N (((), (), (), (), 31), ((x1, x2, x3, x4), b, ())) = some (.inl (((), (), (), (n : Int) - 1), ((x1, x2, x3, x4), b, ()))) := n2
  unfold curve_Point_TimesBytes
  simp only [n2', mo, a0, a1, a2, a3, a4, a5, a6, a7, a8, a9, a10, a11, a12, a13, a14, k1]

end Go.Vx

/- Numbers, part M11: the base, the torsion points, Free, 'live', 'around', 'on'. -/
set_option autoImplicit false
set_option linter.unusedSimpArgs false
namespace Go.Vx
open Go

theorem repP_zero : RepP (z5, z5, z5, z5) kzero := rep_zero
theorem kv_num {l : List Int} {n : Nat} (h : val l % pF = (n : Int) % pF) : kv l = kn n := K.of_eq.2 h
theorem pt_of {x y t : List Int} (hx : Can x) (hy : Can y) (ht : Can t) (h : val t % pF = val x * val y % pF)
    (hon : (val y * val y - val x * val x) % pF = (1 + 37095705934669439343138083508754565189542113879843219016388785533085940283555 * (val x * val x) * (val y * val y)) % pF) : RepP (x, y, o5, t) (kv x, kv y) ∧ OnP (kv x, kv y) := by
  refine ⟨rep_one hx hy ht ?_, ?_⟩
  · show K.of (val t) = K.of (val x) * K.of (val y)
    rw [← K.of_mul, K.of_eq]; exact h
  · have h1 := K.of_eq.2 hon
    rw [K.of_sub, K.of_add, K.of_mul, K.of_mul, K.of_mul, K.of_mul, K.of_mul, K.of_mul] at h1
    show On (K.of (val x)) (K.of (val y))
    unfold On
    have hd : K.of 37095705934669439343138083508754565189542113879843219016388785533085940283555 = kD := rfl
    have h1' : K.of 1 = 1 := rfl
    rw [hd, h1'] at h1
    generalize K.of (val x) = a at *
    generalize K.of (val y) = b at *
    generalize kD = d at *
    grind

theorem base_all : RepP (curve_Base.1, curve_Base.2.1, curve_Base.2.2.1, curve_Base.2.2.2) kB := by
  have h := (pt_of (x := curve_Base.1) (y := curve_Base.2.1) (t := curve_Base.2.2.2) ⟨_, _, _, _, _, rfl, by decide, by decide, by decide, by decide, by decide, by decide⟩ ⟨_, _, _, _, _, rfl, by decide, by decide, by decide, by decide, by decide, by decide⟩ ⟨_, _, _, _, _, rfl, by decide, by decide, by decide, by decide, by decide, by decide⟩ (by decide) (by decide)).1
  have e1 : kv curve_Base.1 = kB.1 := K.of_eq.2 (by decide)
  have e2 : kv curve_Base.2.1 = kB.2 := K.of_eq.2 (by decide)
  rw [e1, e2] at h
  exact h

def torX : Nat → List Int
  | 0 => [0, 0, 0, 0, 0]
  | 1 => [358744748052810, 1691584618240980, 977650209285361, 1429865912637724, 560044844278676]
  | 2 => [1718705420411056, 234908883556509, 2233514472574048, 2117202627021982, 765476049583133]
  | 3 => [358744748052810, 1691584618240980, 977650209285361, 1429865912637724, 560044844278676]
  | 4 => [0, 0, 0, 0, 0]
  | 5 => [1893055065632419, 560215195444267, 1274149604399886, 821933901047523, 1691754969406571]
  | 6 => [533094393274173, 2016890930128738, 18285341111199, 134597186663265, 1486323764102114]
  | _ => [1893055065632419, 560215195444267, 1274149604399886, 821933901047523, 1691754969406571]
def torY : Nat → List Int
  | 0 => [0, 0, 0, 0, 0]
  | 1 => [2166873539340326, 1778179147085316, 1886209374839743, 1223329526802818, 105300633354275]
  | 2 => [0, 0, 0, 0, 0]
  | 3 => [84926274344903, 473620666599931, 365590438845504, 1028470286882429, 2146499180330972]
  | 4 => [2251799813685228, 2251799813685247, 2251799813685247, 2251799813685247, 2251799813685247]
  | 5 => [84926274344903, 473620666599931, 365590438845504, 1028470286882429, 2146499180330972]
  | 6 => [0, 0, 0, 0, 0]
  | _ => [2166873539340326, 1778179147085316, 1886209374839743, 1223329526802818, 105300633354275]
def torT : Nat → List Int
  | 0 => [0, 0, 0, 0, 0]
  | 1 => [803472979097708, 393902981724766, 1158077081819914, 574391322974006, 336294660666841]
  | 2 => [0, 0, 0, 0, 0]
  | 3 => [1448326834587521, 1857896831960481, 1093722731865333, 1677408490711241, 1915505153018406]
  | 4 => [0, 0, 0, 0, 0]
  | 5 => [803472979097708, 393902981724766, 1158077081819914, 574391322974006, 336294660666841]
  | 6 => [0, 0, 0, 0, 0]
  | _ => [1448326834587521, 1857896831960481, 1093722731865333, 1677408490711241, 1915505153018406]
/-- The torsion points as pairs. -/
def torK : Nat → KP
  | 0 => kzero
  | n + 1 => (kv (torX (n + 1)), kv (torY (n + 1)))
theorem and7 {a : Int} (h : -9223372036854775808 ≤ a ∧ a ≤ 9223372036854775807) : ibin .and .i64 a 7 = a % 8 := by
  show IntKind.wrap .i64 ((BitVec.ofInt 64 a &&& BitVec.ofInt 64 7).toNat : Int) = _
  have : (BitVec.ofInt 64 a &&& BitVec.ofInt 64 7).toNat = (a % 18446744073709551616).toNat % 8 := by
    rw [BitVec.toNat_and, BitVec.toNat_ofInt, show (BitVec.ofInt 64 7).toNat = 2 ^ 3 - 1 from rfl, Nat.and_two_pow_sub_one_eq_mod]
    rfl
  rw [this]
  have e := Ref.wrapi (n := (((a % 18446744073709551616).toNat % 8 : Nat) : Int)) (by omega) (by omega)
  rw [e]
  omega
theorem tor_rep (j : Nat) (h : j < 8) : RepP (torX j, torY j, (if j = 0 then z5 else o5), torT j) (torK j) ∧ OnP (torK j) := by
  match j, h with
  | 0, _ => exact ⟨rep_zero, zero_on⟩
  | 1, _ => exact pt_of ⟨_, _, _, _, _, rfl, by decide, by decide, by decide, by decide, by decide, by decide⟩ ⟨_, _, _, _, _, rfl, by decide, by decide, by decide, by decide, by decide, by decide⟩ ⟨_, _, _, _, _, rfl, by decide, by decide, by decide, by decide, by decide, by decide⟩ (by decide) (by decide)
  | 2, _ => exact pt_of ⟨_, _, _, _, _, rfl, by decide, by decide, by decide, by decide, by decide, by decide⟩ ⟨_, _, _, _, _, rfl, by decide, by decide, by decide, by decide, by decide, by decide⟩ ⟨_, _, _, _, _, rfl, by decide, by decide, by decide, by decide, by decide, by decide⟩ (by decide) (by decide)
  | 3, _ => exact pt_of ⟨_, _, _, _, _, rfl, by decide, by decide, by decide, by decide, by decide, by decide⟩ ⟨_, _, _, _, _, rfl, by decide, by decide, by decide, by decide, by decide, by decide⟩ ⟨_, _, _, _, _, rfl, by decide, by decide, by decide, by decide, by decide, by decide⟩ (by decide) (by decide)
  | 4, _ => exact pt_of ⟨_, _, _, _, _, rfl, by decide, by decide, by decide, by decide, by decide, by decide⟩ ⟨_, _, _, _, _, rfl, by decide, by decide, by decide, by decide, by decide, by decide⟩ ⟨_, _, _, _, _, rfl, by decide, by decide, by decide, by decide, by decide, by decide⟩ (by decide) (by decide)
  | 5, _ => exact pt_of ⟨_, _, _, _, _, rfl, by decide, by decide, by decide, by decide, by decide, by decide⟩ ⟨_, _, _, _, _, rfl, by decide, by decide, by decide, by decide, by decide, by decide⟩ ⟨_, _, _, _, _, rfl, by decide, by decide, by decide, by decide, by decide, by decide⟩ (by decide) (by decide)
  | 6, _ => exact pt_of ⟨_, _, _, _, _, rfl, by decide, by decide, by decide, by decide, by decide, by decide⟩ ⟨_, _, _, _, _, rfl, by decide, by decide, by decide, by decide, by decide, by decide⟩ ⟨_, _, _, _, _, rfl, by decide, by decide, by decide, by decide, by decide, by decide⟩ (by decide) (by decide)
  | 7, _ => exact pt_of ⟨_, _, _, _, _, rfl, by decide, by decide, by decide, by decide, by decide, by decide⟩ ⟨_, _, _, _, _, rfl, by decide, by decide, by decide, by decide, by decide, by decide⟩ ⟨_, _, _, _, _, rfl, by decide, by decide, by decide, by decide, by decide, by decide⟩ (by decide) (by decide)
  | n + 8, h => exact absurd h (by omega)
theorem torsion_k {a : Int} (h : -9223372036854775808 ≤ a ∧ a ≤ 9223372036854775807) : ∃ x y z t, curve_Torsion a = some (x, y, z, t) ∧ RepP (x, y, z, t) (torK (a % 8).toNat) ∧ OnP (torK (a % 8).toNat) := by
  have hj : (a % 8).toNat < 8 := by omega
  have hd : decide (0 ≤ a % 8 ∧ a % 8 < ((8 : Nat) : Int)) = true := decide_eq_true ⟨by omega, by omega⟩
  refine ⟨_, _, _, _, ?_, (tor_rep _ hj).1, (tor_rep _ hj).2⟩
  unfold curve_Torsion
  rw [and7 h, hd, cond_true]
  generalize (a % 8).toNat = j at *
  match j, hj with
  | 0, _ => rfl
  | 1, _ => rfl
  | 2, _ => rfl
  | 3, _ => rfl
  | 4, _ => rfl
  | 5, _ => rfl
  | 6, _ => rfl
  | 7, _ => rfl
  | n + 8, h => exact absurd h (by omega)

theorem ordL_32 : L32 [237, 211, 245, 92, 26, 99, 18, 88, 214, 156, 247, 162, 222, 249, 222, 20, 0, 0, 0, 0, 0, 0, 0, 0, 0, 0, 0, 0, 0, 0, 0, 16] := ⟨rfl, by decide⟩
theorem ordL_digs : digs [237, 211, 245, 92, 26, 99, 18, 88, 214, 156, 247, 162, 222, 249, 222, 20, 0, 0, 0, 0, 0, 0, 0, 0, 0, 0, 0, 0, 0, 0, 0, 16] 64 = ordD := by decide
/-- The program's Free. -/
theorem repP_free (N : Nat) (hN : 65 ≤ N) {x : P4} {p : KP} (h : RepP x p) (hp : OnP p) : ∃ c, curve_Point_Free N x = some c ∧ (c = true ↔ horn p ordD = kzero) := by
  obtain ⟨r, k1, k2⟩ := repP_times N hN h hp ordL_32
  rw [ordL_digs] at k2
  obtain ⟨c, g1, g2⟩ := repP_same k2 repP_zero
  refine ⟨c, ?_, g2⟩
  obtain ⟨x1, x2, x3, x4⟩ := x
  obtain ⟨r1, r2, r3, r4⟩ := r
  unfold curve_Point_Free
  simp only [k1, mo, g1]

theorem kB_ne : kB ≠ kzero := fun h => by
  have h1 := congrArg Prod.fst h
  have := K.of_eq.1 (show K.of 15112221349535400772501151409588531511454012693041857206046113283949847762202 = K.of 0 from h1)
  revert this; decide
theorem RepN.same {a b : N4} {p : KP} (ha : RepN a p) (hb : RepN b p) : a.1 * b.2.2.1 % pN = b.1 * a.2.2.1 % pN := by
  have h : kn (a.1 * b.2.2.1) = kn (b.1 * a.2.2.1) := by
    rw [kn_mul, kn_mul]
    have xa : kn a.1 = p.1 * kn a.2.2.1 := ha.x
    have xb : kn b.1 = p.1 * kn b.2.2.1 := hb.x
    rw [xa, xb]; grind
  have := K.of_eq.1 h
  have e : ∀ n : Nat, ((n % pN : Nat) : Int) = (n : Int) % pF := fun n => by rw [Int.natCast_emod]; rfl
  rw [← e, ← e] at this
  exact Int.ofNat.inj this
theorem kB_dbl : kdbl kB ≠ kB := fun h => by
  have h1 := repN_dbl natB_rep kB_on
  rw [h] at h1
  have := h1.same natB_rep
  revert this
  decide
theorem kT_tor : torK 1 = kT := Prod.ext (K.of_eq.2 (by decide)) (K.of_eq.2 (by decide))

end Go.Vx

/- Numbers, part M12: points from outside: FromAffine, Compress, Decompress, 'point', 'on'. -/
set_option autoImplicit false
set_option linter.unusedSimpArgs false
namespace Go.Vx
open Go

theorem numB_W' : (l : List Int) → Bs l → (numB l : Int) = Ref.numW 8 l
  | [], _ => rfl
  | x :: l, h => by
    have h1 := h x (by simp)
    have h2 := numB_W' l (fun y hy => h y (by simp [hy]))
    simp only [numB, Ref.numW]
    rw [← h2]
    show ((x.toNat + 256 * numB l : Nat) : Int) = x + 256 * (numB l : Int)
    omega
theorem numB_32' {l : List Int} (hl : L32 l) : (numB l : Int) < 115792089237316195423570985008687907853269984665640564039457584007913129639936 := by
  have := numB_lt l hl.2
  rw [hl.1] at this
  have e : (256 : Nat) ^ 32 = 115792089237316195423570985008687907853269984665640564039457584007913129639936 := by decide
  rw [e] at this
  omega

/-- The bytes without the sign. -/
abbrev lowB (b : List Int) : List Int := List.set b 31 (ibin .and .u8 (List.getD b 31 0) 127)
theorem lowB_eq {b : List Int} (hb : L32 b) : lowB b = List.set b 31 (List.getD b 31 0 % 128) := by
  unfold lowB
  rw [b_and127 (top_byte hb).1]
theorem set_l32 {b : List Int} (hb : L32 b) {v : Int} (hv : 0 ≤ v ∧ v ≤ 255) : L32 (List.set b 31 v) := by
  refine ⟨by rw [List.length_set]; exact hb.1, fun x hx => ?_⟩
  rcases List.mem_or_eq_of_mem_set hx with h | h
  · exact hb.2 x h
  · rw [h]; exact hv
theorem low_l32 {b : List Int} (hb : L32 b) : L32 (lowB b) := by
  rw [lowB_eq hb]
  exact set_l32 hb (by omega)
theorem get_set {b : List Int} (hb : L32 b) (v : Int) : List.getD (List.set b 31 v) 31 0 = v := by
  rw [List.getD_eq_getElem?_getD, List.getElem?_set_self (by rw [hb.1]; decide)]; rfl
theorem set_get {b : List Int} (hb : L32 b) : List.set b 31 (List.getD b 31 0) = b := by
  have h : 31 < b.length := by rw [hb.1]; decide
  rw [List.getD_eq_getElem?_getD, List.getElem?_eq_getElem h]
  exact List.set_getElem_self h
theorem or128 {y : Int} (h : 0 ≤ y ∧ y < 128) : ibin .or .u8 y 128 = y + 128 := by
  have : ∀ n : Fin 128, ibin .or .u8 (n.1 : Int) 128 = (n.1 : Int) + 128 := by decide +kernel
  have := this ⟨y.toNat, by omega⟩
  simp only at this
  rwa [Int.toNat_of_nonneg h.1] at this
theorem shr7 {y : Int} (h : 0 ≤ y ∧ y ≤ 255) : icmp .eql (ibin .shr .u8 y 7) 1 = decide (127 < y) := by
  have : ∀ n : Fin 256, icmp .eql (ibin .shr .u8 (n.1 : Int) 7) 1 = decide (127 < (n.1 : Int)) := by decide +kernel
  have := this ⟨y.toNat, by omega⟩
  simp only at this
  rwa [Int.toNat_of_nonneg h.1] at this

/-- What encodes an element is read back. -/
theorem dec_enc {y : List Int} (hy : Can y) : L32 (field_Elem_Encode y) ∧ field_Decode (field_Elem_Encode y) = (y, 0) ∧ 0 ≤ List.getD (field_Elem_Encode y) 31 0 ∧ List.getD (field_Elem_Encode y) 31 0 < 128 := by
  obtain ⟨l, e⟩ := encode_spec hy.L5
  have n := hy.nonneg
  rw [Int.emod_eq_of_lt n.1 n.2] at e
  have t := top_byte l
  refine ⟨l, ?_, t.1.1, ?_⟩
  · rcases decode_spec l with ⟨g1, g2, g3, g4⟩ | ⟨g1, g2⟩
    · have : (field_Decode (field_Elem_Encode y)).1 = y := g3.inj hy (by rw [g4, e])
      exact Prod.ext this g2
    · have := n.2
      rw [← e] at this
      exact absurd this (by omega)
  · have : ¬ 127 < List.getD (field_Elem_Encode y) 31 0 := fun h => by
      have := t.2.1 h
      rw [e] at this
      have := n.2
      simp only [pF] at this
      omega
    omega
theorem low_enc {y : List Int} (hy : Can y) : lowB (field_Elem_Encode y) = field_Elem_Encode y := by
  obtain ⟨l, -, h0, h1⟩ := dec_enc hy
  rw [lowB_eq l, Int.emod_eq_of_lt h0 h1, set_get l]

/-- FromAffine of any numbers. -/
theorem faff {x y : List Int} (hx : L5 x) (hy : L5 y) :
    (∃ t, curve_FromAffine x y = some ((field_Elem_Least x, field_Elem_Least y, o5, t), 0) ∧ RepP (field_Elem_Least x, field_Elem_Least y, o5, t) (kv x, kv y) ∧ OnP (kv x, kv y)) ∨
    (curve_FromAffine x y = some ((z5, z5, z5, z5), 40) ∧ ¬ OnP (kv x, kv y)) := by
  have la := least_k hx
  have lb := least_k hy
  obtain ⟨r1, h1, c1, e1⟩ := sq_k la.1.L5
  obtain ⟨r2, h2, c2, e2⟩ := sq_k lb.1.L5
  obtain ⟨r4, h4, c4, e4⟩ := mul_k tab2_can.L5 c1.L5
  obtain ⟨r5, h5, c5, e5⟩ := mul_k c4.L5 c2.L5
  obtain ⟨r6, h6, c6, e6⟩ := mul_k la.1.L5 lb.1.L5
  have k1 := sub_k c2.L5 c1.L5
  have k2 := add_k one_can.L5 c5.L5
  have hiff : field_Elem_Sub r2 r1 = field_Elem_Add [1, 0, 0, 0, 0] r5 ↔ OnP (kv x, kv y) := by
    have : kv (field_Elem_Sub r2 r1) = kv (field_Elem_Add [1, 0, 0, 0, 0] r5) ↔ OnP (kv x, kv y) := by
      rw [k1.2, k2.2, e5, e4, e1, e2, tab2_k, la.2, lb.2, show kv [1, 0, 0, 0, 0] = 1 from rfl]
      show _ ↔ On (kv x) (kv y)
      unfold On
      generalize kv x = a
      generalize kv y = b
      generalize kD = d
      constructor <;> (intro h; grind)
    rw [← this]
    exact ⟨fun h => by rw [h], fun h => can_k k1.1 k2.1 h⟩
  have hr := rep_one la.1 lb.1 c6 e6
  rw [la.2, lb.2] at hr
  by_cases hc : field_Elem_Sub r2 r1 = field_Elem_Add [1, 0, 0, 0, 0] r5
  · left
    refine ⟨r6, ?_, hr, hiff.1 hc⟩
    unfold curve_FromAffine curve_at
    simp only [h1, h2, const2', h4, h5, mo, decide_eq_true hc, Bool.not_true, cond_false, h6]
  · right
    refine ⟨?_, fun h => hc (hiff.2 h)⟩
    unfold curve_FromAffine
    simp only [h1, h2, const2', h4, h5, mo, decide_eq_false hc, Bool.not_false, cond_true]

/-- The denominator of x is not 0. -/
theorem den_ne (y : K) : kD * y ^ 2 + 1 ≠ 0 := fun h => by
  have hi := kI_sq
  have := (d_sq (a := y) (b := kI) (by generalize kD = d at *; grind)).2
  exact kI_ne this

theorem on_x {x y : K} : On x y ↔ (kD * y ^ 2 + 1) * x ^ 2 = y ^ 2 - 1 := by
  unfold On
  generalize kD = d
  constructor <;> (intro h; grind)

/-- Compress of a point. -/
theorem comp_k {x : P4} {xl yl : List Int} (ha : curve_Point_Affine 300 x = some (xl, yl)) (hx : Can xl) (hy : Can yl) : ∃ c, curve_Point_Compress 300 x = some c ∧ L32 c ∧ lowB c = field_Elem_Encode yl ∧ (127 < List.getD c 31 0 ↔ ¬ (kv xl).ev) ∧
    ((kv xl).ev → c = field_Elem_Encode yl) ∧ (¬ (kv xl).ev → c = List.set (field_Elem_Encode yl) 31 (List.getD (field_Elem_Encode yl) 31 0 + 128)) := by
  obtain ⟨l, -, h0, h1⟩ := dec_enc hy
  obtain ⟨x1, x2, x3, x4⟩ := x
  by_cases hn : (kv xl).ev
  · refine ⟨field_Elem_Encode yl, ?_, l, low_enc hy, ?_, fun _ => rfl, fun h => absurd hn h⟩
    · unfold curve_Point_Compress
      simp only [ha, mo, neg_ev_f hx hn, cond_false]
    · constructor
      · intro h; omega
      · intro h; exact absurd hn h
  · have e : ibin .or .u8 (List.getD (field_Elem_Encode yl) 31 0) 128 = List.getD (field_Elem_Encode yl) 31 0 + 128 := or128 ⟨h0, h1⟩
    have l2 := set_l32 l (v := List.getD (field_Elem_Encode yl) 31 0 + 128) (by omega)
    refine ⟨_, ?_, l2, ?_, ?_, fun h => absurd h hn, fun _ => rfl⟩
    · unfold curve_Point_Compress
      simp only [ha, mo, (neg_ev hx).2 hn, cond_true, e]
    · rw [lowB_eq l2, get_set l, List.set_set, show (List.getD (field_Elem_Encode yl) 31 0 + 128) % 128 = List.getD (field_Elem_Encode yl) 31 0 by omega, set_get l]
    · rw [get_set l]
      exact ⟨fun _ => hn, fun _ => by omega⟩

theorem ev_or {x y s : K} (hx : On x y) (sr : SR (y ^ 2 - 1) (kD * y ^ 2 + 1) s true) : s ^ 2 = x ^ 2 := (sr.found (den_ne y) (on_x.1 hx)).2
theorem sr_on {y s : K} (sr : SR (y ^ 2 - 1) (kD * y ^ 2 + 1) s true) : On s y := by
  rw [on_x]
  by_cases hu : y ^ 2 - 1 = 0
  · rw [(sr.z hu).2, hu]; grind
  · exact (sr.q hu (den_ne y)).2.1 rfl
theorem on_negx {x y : K} (h : On x y) : On (-x) y := kneg_on (p := (x, y)) h

end Go.Vx

/- Numbers, part M13: CurveBack. -/
set_option autoImplicit false
set_option linter.unusedSimpArgs false
namespace Go.Vx
open Go

theorem same_of {x y : P4} {p : KP} (h1 : RepP x p) (h2 : RepP y p) : curve_Point_Same x y = some true := by
  obtain ⟨c, k1, k2⟩ := repP_same h1 h2
  rw [k1, k2.2 rfl]
theorem same_zero : curve_Point_Same (z5, z5, z5, z5) (z5, z5, z5, z5) = some true := same_of repP_zero repP_zero

/-- What is read is written as it was. -/
theorem forth_k {b x y t : List Int} (hb : L32 b) (hx : Can x) (hy : Can y) (hd : field_Elem_Encode y = lowB b) (sg : 127 < List.getD b 31 0 ↔ ¬ (kv x).ev) : curve_Point_Compress 300 (x, y, o5, t) = some b := by
  obtain ⟨c, h1, h2, h3, h4, h5, h6⟩ := comp_k (affine_one (t := t) hx hy) hx hy
  rw [h1]
  refine congrArg some ?_
  have tb := (top_byte hb).1
  rw [hd, lowB_eq hb] at h5 h6
  by_cases hs : 127 < List.getD b 31 0
  · rw [h6 (sg.1 hs), get_set hb, List.set_set, show List.getD b 31 0 % 128 + 128 = List.getD b 31 0 by omega, set_get hb]
  · rw [h5 (Classical.byContradiction fun h => hs (sg.2 h)), show List.getD b 31 0 % 128 = List.getD b 31 0 by omega, set_get hb]

theorem enc_low {b y : List Int} (hb : L32 b) (hy : Can y) (h : val y = numB (lowB b)) : field_Elem_Encode y = lowB b := by
  have e := encode_spec hy.L5
  refine e.1.inj (low_l32 hb) ?_
  rw [e.2, Int.emod_eq_of_lt hy.nonneg.1 hy.nonneg.2, h]

end Go.Vx

/- Numbers, part M14: CurveBack, with the arguments' ranges as the row has them. -/
set_option autoImplicit false
namespace Go.Vx
open Go
abbrev StepT : Type := Int × Int × Int × Int × List Int × List Int × List Int × List Int
/-- The ranges of a step's fields. -/
abbrev StepOK (a : StepT) : Prop := (IntKind.i64.min ≤ a.1 ∧ a.1 ≤ IntKind.i64.max) ∧ (IntKind.i64.min ≤ a.2.1 ∧ a.2.1 ≤ IntKind.i64.max) ∧ (IntKind.i64.min ≤ a.2.2.1 ∧ a.2.2.1 ≤ IntKind.i64.max) ∧ (IntKind.i64.min ≤ a.2.2.2.1 ∧ a.2.2.2.1 ≤ IntKind.i64.max) ∧
  (a.2.2.2.2.1.length = 32 ∧ ∀ x ∈ a.2.2.2.2.1, IntKind.u8.min ≤ x ∧ x ≤ IntKind.u8.max) ∧ (a.2.2.2.2.2.1.length = 4 ∧ ∀ x ∈ a.2.2.2.2.2.1, IntKind.u64.min ≤ x ∧ x ≤ IntKind.u64.max) ∧
  (a.2.2.2.2.2.2.1.length = 5 ∧ ∀ x ∈ a.2.2.2.2.2.2.1, IntKind.u64.min ≤ x ∧ x ≤ IntKind.u64.max) ∧ (a.2.2.2.2.2.2.2.length = 5 ∧ ∀ x ∈ a.2.2.2.2.2.2.2, IntKind.u64.min ≤ x ∧ x ≤ IntKind.u64.max) ∧ True
end Go.Vx

/- Numbers, part M15: the program's points as elements of the group; CurveTorsion. -/
set_option autoImplicit false
set_option linter.unusedSimpArgs false
namespace Go.Vx
open Go

abbrev RepE (x : P4) (e : E) : Prop := RepP x e.p
theorem repE_add {p q : P4} {a b : E} (h1 : RepE p a) (h2 : RepE q b) : ∃ r, curve_Point_Add p q = some r ∧ RepE r (a + b) := repP_add h1 h2 a.on b.on
theorem repE_dbl {p : P4} {a : E} (h : RepE p a) : ∃ r, curve_Point_Double p = some r ∧ RepE r (a + a) := repP_dbl h a.on
theorem repE_same {p q : P4} {a b : E} (h1 : RepE p a) (h2 : RepE q b) : ∃ c, curve_Point_Same p q = some c ∧ (c = true ↔ a = b) := by
  obtain ⟨c, k1, k2⟩ := repP_same h1 h2
  exact ⟨c, k1, k2.trans ⟨E.ext, fun h => by rw [h]⟩⟩
theorem repE_zero : RepE (z5, z5, z5, z5) 0 := repP_zero
theorem repE_free (N : Nat) (hN : 65 ≤ N) {x : P4} {a : E} (h : RepE x a) : ∃ c, curve_Point_Free N x = some c ∧ (c = true ↔ ordl • a = 0) := by
  obtain ⟨c, k1, k2⟩ := repP_free N hN h a.on
  refine ⟨c, k1, k2.trans ?_⟩
  rw [horn_ns, ordD_val]
  exact ⟨fun h => E.ext h, fun h => by rw [h]; rfl⟩
theorem yes {c : Bool} {p : Prop} (h : c = true ↔ p) (hp : p) : c = true := h.2 hp
theorem no {c : Bool} {p : Prop} (h : c = true ↔ p) (hp : ¬ p) : c = false := Bool.eq_false_iff.2 fun e => hp (h.1 e)
theorem eight (x : E) : x + x + (x + x) + (x + x + (x + x)) = (8 : Nat) • x := by
  rw [show (8 : Nat) = 1 + 1 + (1 + 1) + (1 + 1 + (1 + 1)) from rfl, E.ns_add, E.ns_add, E.ns_add, E.ns_one]
theorem dbl3 {x : P4} {a : E} (h : RepE x a) : ∃ u v w, curve_Point_Double x = some u ∧ curve_Point_Double u = some v ∧ curve_Point_Double v = some w ∧ RepE w ((8 : Nat) • a) := by
  obtain ⟨u, h1, k1⟩ := repE_dbl h
  obtain ⟨v, h2, k2⟩ := repE_dbl k1
  obtain ⟨w, h3, k3⟩ := repE_dbl k2
  rw [eight] at k3
  exact ⟨u, v, w, h1, h2, h3, k3⟩

theorem tor_eq (k x y : Nat) {a : N4} (ha : mulN natT k = a) (hx : x * a.2.2.1 % pN = a.1 % pN) (hy : y * a.2.2.1 % pN = a.2.1 % pN) : nmul kT k = (kn x, kn y) := by
  have h := repN_mul natT_rep kT_on k
  rw [ha] at h
  have hz : kn a.2.2.1 ≠ 0 := h.z
  have h1 : kn a.1 = (nmul kT k).1 * kn a.2.2.1 := h.x
  have h2 : kn a.2.1 = (nmul kT k).2 * kn a.2.2.1 := h.y
  have e1 := congrArg kn hx
  have e2 := congrArg kn hy
  rw [kn_mod, kn_mod, kn_mul, h1] at e1
  rw [kn_mod, kn_mod, kn_mul, h2] at e2
  refine Prod.ext (K.cancel hz ?_) (K.cancel hz ?_)
  · show kn a.2.2.1 * (nmul kT k).1 = kn a.2.2.1 * kn x
    rw [Lean.Grind.CommRing.mul_comm, ← e1, Lean.Grind.CommRing.mul_comm]
  · show kn a.2.2.1 * (nmul kT k).2 = kn a.2.2.1 * kn y
    rw [Lean.Grind.CommRing.mul_comm, ← e2, Lean.Grind.CommRing.mul_comm]
theorem tor_ns (k : Nat) (h : k < 8) : torK k = (k • eT).p := by
  rw [E.ns_p]
  show torK k = nmul kT k
  rcases (by omega : k = 0 ∨ k = 1 ∨ k = 2 ∨ k = 3 ∨ k = 4 ∨ k = 5 ∨ k = 6 ∨ k = 7) with rfl | rfl | rfl | rfl | rfl | rfl | rfl | rfl
  · rfl
  · rw [tor_eq 1 14399317868200118260347934320527232580618823971194345261214217575416788799818 2707385501144840649318225287225658788936804267575313519463743609750303402022 tabT_1 (by decide) (by decide)]
    exact Prod.ext (kv_num (by decide)) (kv_num (by decide))
  · rw [tor_eq 2 19681161376707505956807079304988542015446066515923890162744021073123829784752 0 tabT_2 (by decide) (by decide)]
    exact Prod.ext (kv_num (by decide)) (kv_num (by decide))
  · rw [tor_eq 3 14399317868200118260347934320527232580618823971194345261214217575416788799818 55188659117513257062467267217118295137698188065244968500265048394206261417927 tabT_3 (by decide) (by decide)]
    exact Prod.ext (kv_num (by decide)) (kv_num (by decide))
  · rw [tor_eq 4 0 57896044618658097711785492504343953926634992332820282019728792003956564819948 tabT_4 (by decide) (by decide)]
    exact Prod.ext (kv_num (by decide)) (kv_num (by decide))
  · rw [tor_eq 5 43496726750457979451437558183816721346016168361625936758514574428539776020131 55188659117513257062467267217118295137698188065244968500265048394206261417927 tabT_5 (by decide) (by decide)]
    exact Prod.ext (kv_num (by decide)) (kv_num (by decide))
  · rw [tor_eq 6 38214883241950591754978413199355411911188925816896391856984770930832735035197 0 tabT_6 (by decide) (by decide)]
    exact Prod.ext (kv_num (by decide)) (kv_num (by decide))
  · rw [tor_eq 7 43496726750457979451437558183816721346016168361625936758514574428539776020131 2707385501144840649318225287225658788936804267575313519463743609750303402022 tabT_7 (by decide) (by decide)]
    exact Prod.ext (kv_num (by decide)) (kv_num (by decide))

theorem tor_E {a : Int} (h : -9223372036854775808 ≤ a ∧ a ≤ 9223372036854775807) : ∃ x y z t, curve_Torsion a = some (x, y, z, t) ∧ RepE (x, y, z, t) ((a % 8).toNat • eT) := by
  obtain ⟨x, y, z, t, h1, h2, -⟩ := torsion_k h
  rw [tor_ns _ (by omega)] at h2
  exact ⟨x, y, z, t, h1, h2⟩
theorem tor_nat {k : Nat} (h : k < 8) : ∃ x y z t, curve_Torsion (k : Int) = some (x, y, z, t) ∧ RepE (x, y, z, t) (k • eT) := by
  obtain ⟨x, y, z, t, h1, h2⟩ := tor_E (a := (k : Int)) (by omega)
  rw [show ((k : Int) % 8).toNat = k by omega] at h2
  exact ⟨x, y, z, t, h1, h2⟩

theorem free_T (k : Nat) (h : k < 8) : ordl • (k • eT) = 0 ↔ k = 0 := by
  rw [← E.ns_mul]
  constructor
  · intro h0
    have := ord_T h0
    rw [Nat.mul_mod, show ordl % 8 = 5 from rfl] at this
    omega
  · intro h0
    rw [h0, Nat.mul_zero, E.ns_zero]
theorem lss8 {k : Nat} (h : k < 8) : icmp .lss (k : Int) 8 = true := decide_eq_true (by omega)
theorem inc8 {k : Nat} (h : k < 8) : ibin .add .i64 (k : Int) 1 = ((k + 1 : Nat) : Int) := by rw [Ref.i_add (by omega) (by omega)]; omega
theorem eql_k (k : Nat) : icmp .eql (k : Int) 0 = decide (k = 0) := by
  by_cases h : k = 0
  · subst h; rfl
  · have h' : (k : Int) ≠ 0 := by omega
    simp only [icmp, h, decide_false]
    simp [h]
theorem gtr_k (k : Nat) : icmp .gtr (k : Int) 0 = decide (0 < k) := by
  show decide ((k : Int) > 0) = decide (0 < k)
  by_cases h : 0 < k
  · rw [decide_eq_true h]; exact decide_eq_true (by omega)
  · rw [decide_eq_false h]; exact decide_eq_false (by omega)

theorem kT_ev : K.ev kT.1 ∧ K.ev kT.2 := ⟨by unfold K.ev; decide, by unfold K.ev; decide⟩
theorem kT_ne : kT.1 ≠ 0 ∧ kT.2 ≠ 0 := ⟨fun h => by
    have := K.of_eq.1 (show K.of (natT.1 : Int) = K.of 0 from h)
    revert this; decide, fun h => by
    have := K.of_eq.1 (show K.of (natT.2.1 : Int) = K.of 0 from h)
    revert this; decide⟩

end Go.Vx

/- Numbers, part M16: CurveTorsion, with the arguments' ranges as the row has them. -/
set_option autoImplicit false
namespace Go.Vx
open Go
end Go.Vx

/- Numbers, part M17: CurveLaws. -/
set_option autoImplicit false
set_option linter.unusedSimpArgs false
namespace Go.Vx
open Go

theorem same_E {x y : P4} {a b : E} (h1 : RepE x a) (h2 : RepE y b) (h : a = b) : curve_Point_Same x y = some true := by
  obtain ⟨c, k1, k2⟩ := repE_same h1 h2
  rw [k1, k2.2 h]
theorem repE_neg {x : P4} {a : E} (h : RepE x a) : RepE (curve_Point_Neg x) (-a) := repP_neg h
theorem repE_sub {x y : P4} {a b : E} (h1 : RepE x a) (h2 : RepE y b) : ∃ r, curve_Point_Sub x y = some r ∧ RepE r (a + -b) := repP_sub h1 h2 a.on b.on
/-- The two fractions. -/
theorem fractions {x1 y1 x2 y2 x3 y3 : List Int} (c1 : Can x1) (d1 : Can y1) (c2 : Can x2) (d2 : Can y2) (c3 : Can x3) (d3 : Can y3) {a b : E} (e1 : kv x1 = a.p.1) (f1 : kv y1 = a.p.2) (e2 : kv x2 = b.p.1) (f2 : kv y2 = b.p.2) (e3 : kv x3 = (a + b).p.1) (f3 : kv y3 = (a + b).p.2) :
    ∃ r32 r33 r34 r35 r36 r37 r38 r39 r40 r41, field_Elem_Mul (field_tab 2) x1 = some r32 ∧ field_Elem_Mul r32 x2 = some r33 ∧ field_Elem_Mul r33 y1 = some r34 ∧ field_Elem_Mul r34 y2 = some r35 ∧ field_Elem_Mul x3 (field_Elem_Add (field_Elem_One x1) r35) = some r36 ∧ field_Elem_Mul x1 y2 = some r37 ∧ field_Elem_Mul y1 x2 = some r38 ∧
      field_Elem_Mul y3 (field_Elem_Sub (field_Elem_One x1) r35) = some r39 ∧ field_Elem_Mul y1 y2 = some r40 ∧ field_Elem_Mul x1 x2 = some r41 ∧ r36 = field_Elem_Add r37 r38 ∧ r39 = field_Elem_Add r40 r41 := by
  obtain ⟨r32, h32, k32, m32⟩ := mul_k tab2_can.L5 c1.L5
  obtain ⟨r33, h33, k33, m33⟩ := mul_k k32.L5 c2.L5
  obtain ⟨r34, h34, k34, m34⟩ := mul_k k33.L5 d1.L5
  obtain ⟨r35, h35, k35, m35⟩ := mul_k k34.L5 d2.L5
  have one := one_k x1
  have ad := add_k one.1.L5 k35.L5
  have sb := sub_k one.1.L5 k35.L5
  obtain ⟨r36, h36, k36, m36⟩ := mul_k c3.L5 ad.1.L5
  obtain ⟨r37, h37, k37, m37⟩ := mul_k c1.L5 d2.L5
  obtain ⟨r38, h38, k38, m38⟩ := mul_k d1.L5 c2.L5
  obtain ⟨r39, h39, k39, m39⟩ := mul_k d3.L5 sb.1.L5
  obtain ⟨r40, h40, k40, m40⟩ := mul_k d1.L5 d2.L5
  obtain ⟨r41, h41, k41, m41⟩ := mul_k c1.L5 c2.L5
  have s1 := add_k k37.L5 k38.L5
  have s2 := add_k k40.L5 k41.L5
  have t35 : kv r35 = kD * a.p.1 * b.p.1 * a.p.2 * b.p.2 := by rw [m35, m34, m33, m32, tab2_k, e1, e2, f1, f2]
  refine ⟨r32, r33, r34, r35, r36, r37, r38, r39, r40, r41, h32, h33, h34, h35, h36, h37, h38, h39, h40, h41, can_k k36 s1.1 ?_, can_k k39 s2.1 ?_⟩
  · rw [m36, ad.2, one.2, t35, s1.2, m37, m38, e3, e1, e2, f1, f2]
    exact ax_mul a.on b.on
  · rw [m39, sb.2, one.2, t35, s2.2, m40, m41, f3, e1, e2, f1, f2]
    exact ay_mul a.on b.on

end Go.Vx

/- Numbers, part M18: multiples by the number of 32 bytes. -/
set_option autoImplicit false
set_option linter.unusedSimpArgs false
namespace Go.Vx
open Go

/-- The number of the lowest n half bytes. -/
def lowV (b : List Int) : Nat → Nat
  | 0 => 0
  | n + 1 => lowV b n + nib b n * 16 ^ n
theorem digs_val (b : List Int) : (n s : Nat) → (digs b n).foldl (fun s d => 16 * s + d) s = s * 16 ^ n + lowV b n
  | 0, s => by simp [digs, lowV]
  | n + 1, s => by
    rw [digs, List.foldl_cons, digs_val b n, lowV, Nat.pow_succ, Nat.add_mul]
    have : 16 * s * 16 ^ n = s * (16 ^ n * 16) := by rw [Nat.mul_comm 16 s, Nat.mul_assoc, Nat.mul_comm 16]
    omega
theorem nib_cons (x : Int) (l : List Int) (i : Nat) : nib (x :: l) (i + 2) = nib l i := by
  unfold nib
  rw [show (i + 2) / 2 = i / 2 + 1 by omega, show (i + 2) % 2 = i % 2 by omega, List.getD_cons_succ]
theorem lowV_cons (x : Int) (l : List Int) : (n : Nat) → lowV (x :: l) (n + 2) = nib (x :: l) 0 + 16 * nib (x :: l) 1 + 256 * lowV l n
  | 0 => by simp only [lowV]; omega
  | n + 1 => by
    have h := lowV_cons x l n
    rw [show n + 1 + 2 = (n + 2) + 1 from rfl, lowV, h, nib_cons, lowV, Nat.pow_add]
    rw [Nat.mul_add]
    have : nib l n * (16 ^ n * 16 ^ 2) = 256 * (nib l n * 16 ^ n) := by
      rw [show (16 : Nat) ^ 2 = 256 from rfl, ← Nat.mul_assoc, Nat.mul_comm _ 256]
    omega
theorem lowV_all : (l : List Int) → (∀ x ∈ l, 0 ≤ x ∧ x ≤ 255) → lowV l (2 * l.length) = numB l
  | [], _ => rfl
  | x :: l, h => by
    have hx := h x (by simp)
    have ih := lowV_all l (fun y hy => h y (by simp [hy]))
    rw [List.length_cons, show 2 * (l.length + 1) = 2 * l.length + 2 by omega, lowV_cons, ih, numB]
    have e0 : nib (x :: l) 0 = x.toNat / 1 % 16 := rfl
    have e1 : nib (x :: l) 1 = x.toNat / 16 % 16 := rfl
    rw [e0, e1]
    omega
theorem digs_num {b : List Int} (hb : L32 b) : (digs b 64).foldl (fun s d => 16 * s + d) 0 = numB b := by
  rw [digs_val, Nat.zero_mul, Nat.zero_add]
  have := lowV_all b hb.2
  rw [hb.1] at this
  exact this
/-- The program's multiple, by the bytes' number. -/
theorem repE_times (N : Nat) (hN : 65 ≤ N) {x : P4} {a : E} (h : RepE x a) {b : List Int} (hb : L32 b) : ∃ r, curve_Point_TimesBytes N x b = some r ∧ RepE r (numB b • a) := by
  obtain ⟨r, k1, k2⟩ := repP_times N hN h a.on hb
  rw [horn_ns, digs_num hb] at k2
  exact ⟨r, k1, k2⟩

end Go.Vx

/- Numbers, part M19: scalars: Least. -/
set_option autoImplicit false
set_option linter.unusedSimpArgs false
namespace Go.Vx
open Go

/-- Four limbs. -/
def U4 (a : List Int) : Prop := ∃ x0 x1 x2 x3, a = [x0, x1, x2, x3] ∧ U x0 ∧ U x1 ∧ U x2 ∧ U x3
def v4 (a : List Int) : Int := List.getD a 0 0 + List.getD a 1 0 * 18446744073709551616 + List.getD a 2 0 * 340282366920938463463374607431768211456 + List.getD a 3 0 * 6277101735386680763835789423207666416102355444464034512896

theorem sub64_spec {x y c : Int} (hx : U x) (hy : U y) (hc : c = 0 ∨ c = 1) : ∃ r d, bits_Sub64 x y c = some (r, d) ∧ U r ∧ (d = 0 ∨ d = 1) ∧ r = x - y - c + d * 18446744073709551616 := by
  have hd : decide (c ≤ 1) = true := decide_eq_true (by omega)
  unfold U at hx hy
  by_cases h : x < y + c
  · refine ⟨_, 1, by unfold bits_Sub64; rw [hd, cond_true, decide_eq_true h, cond_true], ?_, .inr rfl, ?_⟩
    · unfold U; omega
    · omega
  · refine ⟨_, 0, by unfold bits_Sub64; rw [hd, cond_true, decide_eq_false h, cond_false], ?_, .inl rfl, ?_⟩
    · unfold U; omega
    · omega
theorem add64_spec {x y c : Int} (hx : U x) (hy : U y) (hc : c = 0 ∨ c = 1) : ∃ r d, bits_Add64 x y c = some (r, d) ∧ U r ∧ (d = 0 ∨ d = 1) ∧ r + d * 18446744073709551616 = x + y + c := by
  have hd : decide (c ≤ 1) = true := decide_eq_true (by omega)
  unfold U at hx hy
  refine ⟨_, _, by unfold bits_Add64; rw [hd, cond_true], ?_, ?_, ?_⟩
  · unfold U; omega
  · omega
  · omega

theorem v4_mk (x0 x1 x2 x3 : Int) : v4 [x0, x1, x2, x3] = x0 + x1 * 18446744073709551616 + x2 * 340282366920938463463374607431768211456 + x3 * 6277101735386680763835789423207666416102355444464034512896 := rfl
theorem U4.rng {a : List Int} (h : U4 a) : 0 ≤ v4 a ∧ v4 a < 115792089237316195423570985008687907853269984665640564039457584007913129639936 := by
  obtain ⟨x0, x1, x2, x3, rfl, h0, h1, h2, h3⟩ := h
  unfold U at *
  rw [v4_mk]
  omega
theorem minus_k {a b : List Int} (ha : U4 a) (hb : U4 b) : ∃ r c, scalar_minus a b = some (r, c) ∧ U4 r ∧ ((c = 0 ∧ v4 b ≤ v4 a ∧ v4 r = v4 a - v4 b) ∨ (c = 1 ∧ v4 a < v4 b ∧ v4 r = v4 a - v4 b + 115792089237316195423570985008687907853269984665640564039457584007913129639936)) := by
  obtain ⟨x0, x1, x2, x3, rfl, a0, a1, a2, a3⟩ := ha
  obtain ⟨y0, y1, y2, y3, rfl, b0, b1, b2, b3⟩ := hb
  obtain ⟨r0, c0, h0, u0, d0, e0⟩ := sub64_spec a0 b0 (.inl rfl)
  obtain ⟨r1, c1, h1, u1, d1, e1⟩ := sub64_spec a1 b1 d0
  obtain ⟨r2, c2, h2, u2, d2, e2⟩ := sub64_spec a2 b2 d1
  obtain ⟨r3, c3, h3, u3, d3, e3⟩ := sub64_spec a3 b3 d2
  refine ⟨[r0, r1, r2, r3], c3, ?_, ⟨_, _, _, _, rfl, u0, u1, u2, u3⟩, ?_⟩
  · unfold scalar_minus
    simp only [List.getD_cons_zero, List.getD_cons_succ, h0, h1, h2, h3, mo]
  · have hr : U4 [r0, r1, r2, r3] := ⟨_, _, _, _, rfl, u0, u1, u2, u3⟩
    have rr := hr.rng
    rw [v4_mk] at rr ⊢
    rw [v4_mk, v4_mk]
    rcases d3 with rfl | rfl
    · left
      refine ⟨rfl, ?_, ?_⟩ <;> omega
    · right
      refine ⟨rfl, ?_, ?_⟩ <;> omega
theorem plus_k {a b : List Int} (ha : U4 a) (hb : U4 b) : ∃ r c, scalar_plus a b = some (r, c) ∧ U4 r ∧ (c = 0 ∨ c = 1) ∧ v4 r + c * 115792089237316195423570985008687907853269984665640564039457584007913129639936 = v4 a + v4 b := by
  obtain ⟨x0, x1, x2, x3, rfl, a0, a1, a2, a3⟩ := ha
  obtain ⟨y0, y1, y2, y3, rfl, b0, b1, b2, b3⟩ := hb
  obtain ⟨r0, c0, h0, u0, d0, e0⟩ := add64_spec a0 b0 (.inl rfl)
  obtain ⟨r1, c1, h1, u1, d1, e1⟩ := add64_spec a1 b1 d0
  obtain ⟨r2, c2, h2, u2, d2, e2⟩ := add64_spec a2 b2 d1
  obtain ⟨r3, c3, h3, u3, d3, e3⟩ := add64_spec a3 b3 d2
  refine ⟨[r0, r1, r2, r3], c3, ?_, ⟨_, _, _, _, rfl, u0, u1, u2, u3⟩, d3, ?_⟩
  · unfold scalar_plus
    simp only [List.getD_cons_zero, List.getD_cons_succ, h0, h1, h2, h3, mo]
  · rw [v4_mk, v4_mk, v4_mk]
    omega

theorem and_all {x : Int} (h : U x) : ibin .and .u64 x 18446744073709551615 = x := by
  unfold U at h
  rw [u_and h.1 (by omega) (by decide) (by decide), show (18446744073709551615 : Int).toNat = 2 ^ 64 - 1 from rfl, Nat.and_two_pow_sub_one_eq_mod]
  omega
theorem and_no {x : Int} (h : U x) : ibin .and .u64 x 0 = 0 := by
  unfold U at h
  rw [u_and h.1 (by omega) (by decide) (by decide)]
  simp
theorem or_no {x : Int} (h : U x) : ibin .or .u64 x 0 = x := by
  unfold U at h
  show IntKind.wrap .u64 ((BitVec.ofInt 64 x ||| BitVec.ofInt 64 0).toNat : Int) = x
  rw [show BitVec.ofInt 64 0 = 0#64 from rfl, BitVec.or_zero, ofInt64 h.1 (by omega), wrap64]
  omega
theorem no_or {x : Int} (h : U x) : ibin .or .u64 0 x = x := by
  unfold U at h
  show IntKind.wrap .u64 ((BitVec.ofInt 64 0 ||| BitVec.ofInt 64 x).toNat : Int) = x
  rw [show BitVec.ofInt 64 0 = 0#64 from rfl, BitVec.zero_or, ofInt64 h.1 (by omega), wrap64]
  omega
theorem andnot_all (x : Int) : ibin .andNot .u64 x 18446744073709551615 = 0 := by
  show IntKind.wrap .u64 ((BitVec.ofInt 64 x &&& ~~~(BitVec.ofInt 64 18446744073709551615)).toNat : Int) = 0
  rw [show ~~~(BitVec.ofInt 64 18446744073709551615) = 0#64 by decide, BitVec.and_zero]
  rfl
theorem andnot_no {x : Int} (h : U x) : ibin .andNot .u64 x 0 = x := by
  unfold U at h
  show IntKind.wrap .u64 ((BitVec.ofInt 64 x &&& ~~~(BitVec.ofInt 64 0)).toNat : Int) = x
  rw [show ~~~(BitVec.ofInt 64 0) = BitVec.allOnes 64 by decide, BitVec.and_allOnes, ofInt64 h.1 (by omega), wrap64]
  omega
theorem choose_k {a b : List Int} (ha : U4 a) (hb : U4 b) : scalar_choose (ineg .u64 0) a b = b ∧ scalar_choose (ineg .u64 1) a b = a := by
  obtain ⟨x0, x1, x2, x3, rfl, a0, a1, a2, a3⟩ := ha
  obtain ⟨y0, y1, y2, y3, rfl, b0, b1, b2, b3⟩ := hb
  have z : U 0 := ⟨by decide, by decide⟩
  constructor
  · rw [show ineg .u64 0 = 0 from rfl]
    unfold scalar_choose
    simp only [List.getD_cons_zero, List.getD_cons_succ, List.set_cons_zero, List.set_cons_succ, and_no a0, and_no a1, and_no a2, and_no a3, andnot_no b0, andnot_no b1, andnot_no b2, andnot_no b3, no_or b0, no_or b1, no_or b2, no_or b3]
  · rw [show ineg .u64 1 = 18446744073709551615 from rfl]
    unfold scalar_choose
    simp only [List.getD_cons_zero, List.getD_cons_succ, List.set_cons_zero, List.set_cons_succ, and_all a0, and_all a1, and_all a2, and_all a3, andnot_all, or_no a0, or_no a1, or_no a2, or_no a3]

abbrev lL : List Int := [6346243789798364141, 1503914060200516822, 0, 1152921504606846976]
theorem lL_U : U4 lL := ⟨_, _, _, _, rfl, ⟨by decide, by decide⟩, ⟨by decide, by decide⟩, ⟨by decide, by decide⟩, ⟨by decide, by decide⟩⟩
theorem lL_v : v4 lL = 7237005577332262213973186563042994240857116359379907606001950938285454250989 := by decide
theorem lower_k {a : List Int} (ha : U4 a) (h : v4 a < 2 * 7237005577332262213973186563042994240857116359379907606001950938285454250989) : ∃ r, scalar_lower a = some r ∧ U4 r ∧ 0 ≤ v4 r ∧ v4 r < 7237005577332262213973186563042994240857116359379907606001950938285454250989 ∧ (v4 r = v4 a ∨ v4 r = v4 a - 7237005577332262213973186563042994240857116359379907606001950938285454250989) := by
  obtain ⟨r, c, h1, u, hc⟩ := minus_k ha lL_U
  rw [lL_v] at hc
  have ra := ha.rng
  obtain ⟨k0, k1⟩ := choose_k ha u
  unfold scalar_lower
  rcases hc with ⟨rfl, g1, g2⟩ | ⟨rfl, g1, g2⟩
  · exact ⟨r, by simp only [h1, mo, k0], u, by omega, by omega, .inr g2⟩
  · exact ⟨a, by simp only [h1, mo, k1], ha, ra.1, g1, .inl rfl⟩

/-- The least limbs. -/
theorem sleast {a : List Int} (ha : U4 a) : ∃ r, scalar_Scalar_Least a = some r ∧ U4 r ∧ 0 ≤ v4 r ∧ v4 r < 7237005577332262213973186563042994240857116359379907606001950938285454250989 ∧ ∃ k : Int, 0 ≤ k ∧ k < 16 ∧ v4 a = v4 r + k * 7237005577332262213973186563042994240857116359379907606001950938285454250989 := by
  have rng := ha.rng
  obtain ⟨x0, x1, x2, x3, rfl, a0, a1, a2, a3⟩ := ha
  unfold scalar_Scalar_Least
  by_cases hs : x3 < 1152921504606846976
  · have hc : icmp .lss (List.getD [x0, x1, x2, x3] 3 0) 1152921504606846976 = true := decide_eq_true hs
    refine ⟨_, by rw [hc, cond_true], ⟨_, _, _, _, rfl, a0, a1, a2, a3⟩, rng.1, ?_, 0, by decide, by decide, by omega⟩
    rw [v4_mk]
    unfold U at *
    omega
  · have hc : icmp .lss (List.getD [x0, x1, x2, x3] 3 0) 1152921504606846976 = false := decide_eq_false hs
    rw [hc, cond_false]
    have hq : ibin .shr .u64 (List.getD [x0, x1, x2, x3] 3 0) 60 = x3 / 1152921504606846976 := u_shr (a := x3) 60 (by decide)
    have hm : ibin .and .u64 (List.getD [x0, x1, x2, x3] 3 0) 1152921504606846975 = x3 % 1152921504606846976 := by
      unfold U at a3
      show ibin .and .u64 x3 1152921504606846975 = _
      rw [u_and a3.1 (by omega) (by decide) (by decide), show (1152921504606846975 : Int).toNat = 2 ^ 60 - 1 from rfl, Nat.and_two_pow_sub_one_eq_mod]
      omega
    rw [hq, hm]
    generalize hQ : x3 / 1152921504606846976 = q
    generalize hL : x3 % 1152921504606846976 = m
    have q16 : 0 ≤ q ∧ q < 16 := by unfold U at a3; omega
    have hm60 : 0 ≤ m ∧ m < 1152921504606846976 := by omega
    have hx3 : x3 = q * 1152921504606846976 + m := by omega
    have uq : U q := ⟨q16.1, by omega⟩
    have t0 : U 6346243789798364141 := ⟨by decide, by decide⟩
    have t1 : U 1503914060200516822 := ⟨by decide, by decide⟩
    rw [mul64_spec uq t0, mul64_spec uq t1]
    simp only
    have p0 : U (q * 6346243789798364141 % 18446744073709551616) := ⟨by omega, by omega⟩
    have p1 : U (q * 1503914060200516822 % 18446744073709551616) := ⟨by omega, by omega⟩
    have p2 : U (q * 6346243789798364141 / 18446744073709551616) := ⟨by omega, by omega⟩
    obtain ⟨s1, d1, h1, u1, e1, f1⟩ := add64_spec p1 p2 (.inl rfl)
    have hset : List.set [x0, x1, x2, x3] 3 m = [x0, x1, x2, m] := rfl
    rw [hset]
    have um : U m := ⟨hm60.1, by omega⟩
    have hadd : ibin .add .u64 (q * 1503914060200516822 / 18446744073709551616) d1 = q * 1503914060200516822 / 18446744073709551616 + d1 := by
      rw [u_add]
      omega
    have u2 : U (q * 1503914060200516822 / 18446744073709551616 + d1) := ⟨by omega, by omega⟩
    have z : U 0 := ⟨by decide, by decide⟩
    have lowU : U4 [x0, x1, x2, m] := ⟨_, _, _, _, rfl, a0, a1, a2, um⟩
    have cU : U4 [q * 6346243789798364141 % 18446744073709551616, s1, q * 1503914060200516822 / 18446744073709551616 + d1, 0] := ⟨_, _, _, _, rfl, p0, u1, u2, z⟩
    have cv : v4 [q * 6346243789798364141 % 18446744073709551616, s1, q * 1503914060200516822 / 18446744073709551616 + d1, 0] = q * 27742317777372353535851937790883648493 := by
      rw [v4_mk]
      omega
    have lv : v4 [x0, x1, x2, x3] = q * 7237005577332262213973186563042994240829374041602535252466099000494570602496 + v4 [x0, x1, x2, m] := by
      rw [v4_mk, v4_mk, hx3]
      omega
    have lr : 0 ≤ v4 [x0, x1, x2, m] ∧ v4 [x0, x1, x2, m] < 7237005577332262213973186563042994240829374041602535252466099000494570602496 := by
      rw [v4_mk]
      unfold U at a0 a1 a2
      omega
    obtain ⟨r, c, h2, ur, hcr⟩ := minus_k lowU cU
    rw [cv] at hcr
    obtain ⟨e, g, h3, ue, hg, heq⟩ := plus_k ur lL_U
    rw [lL_v] at heq
    obtain ⟨k0, k1⟩ := choose_k ue ur
    have re := ue.rng
    have rr := ur.rng
    rw [lv]
    generalize v4 [x0, x1, x2, m] = low at *
    simp only [h1, hadd, h2, h3, mo]
    rcases hcr with ⟨rfl, g1, g2⟩ | ⟨rfl, g1, g2⟩
    · rw [k0]
      obtain ⟨w, j1, j2, j3, j4, j5⟩ := lower_k ur (by omega)
      refine ⟨w, by rw [j1], j2, j3, j4, q, q16.1, q16.2, ?_⟩
      rcases j5 with j5 | j5 <;> omega
    · rw [k1]
      obtain ⟨w, j1, j2, j3, j4, j5⟩ := lower_k ue (by omega)
      refine ⟨w, by rw [j1], j2, j3, j4, q - 1, by omega, by omega, ?_⟩
      rcases j5 with j5 | j5 <;> omega

end Go.Vx

/- Numbers, part M20: bytes: sums, the order taken away, 'below', bytes of limbs. -/
set_option autoImplicit false
set_option linter.unusedSimpArgs false
namespace Go.Vx
open Go

/-- The number of the lowest i bytes. -/
abbrev tk (l : List Int) (i : Nat) : Int := Ref.numW 8 (l.take i)
theorem tk_succ : (l : List Int) → (i : Nat) → i < l.length → tk l (i + 1) = tk l i + List.getD l i 0 * 2 ^ (8 * i)
  | [], i, h => by simp at h
  | x :: l, 0, _ => by simp [tk, Ref.numW]
  | x :: l, i + 1, h => by
    have ih := tk_succ l i (by simpa using h)
    simp only [tk, List.take_succ_cons, Ref.numW, List.getD_cons_succ] at ih ⊢
    rw [ih, show 8 * (i + 1) = 8 * i + 8 by omega, Int.pow_add, show (2 : Int) ^ 8 = 256 from rfl, Int.mul_add, ← Int.mul_assoc, Int.mul_comm 256 (List.getD l i 0), Int.mul_assoc, Int.mul_comm 256 ((2 : Int) ^ (8 * i))]
    omega
theorem tk_all {l : List Int} (h : L32 l) : tk l 32 = numB l := by
  have : l.take 32 = l := List.take_of_length_le (by rw [h.1]; exact Nat.le_refl _)
  unfold tk
  rw [this, numB_W' l h.2]
theorem and255 {a : Int} : ibin .and .i64 a 255 = a % 256 := by
  show IntKind.wrap .i64 ((BitVec.ofInt 64 a &&& BitVec.ofInt 64 255).toNat : Int) = _
  have : (BitVec.ofInt 64 a &&& BitVec.ofInt 64 255).toNat = (a % 18446744073709551616).toNat % 256 := by
    rw [BitVec.toNat_and, BitVec.toNat_ofInt, show (BitVec.ofInt 64 255).toNat = 2 ^ 8 - 1 from rfl, Nat.and_two_pow_sub_one_eq_mod]
    rfl
  rw [this]
  have e := Ref.wrapi (n := (((a % 18446744073709551616).toNat % 256 : Nat) : Int)) (by omega) (by omega)
  rw [e]
  omega
theorem shr8 (a : Int) : ibin .shr .i64 a 8 = a / 256 := Ref.i_shr (a := a) 8 (by decide)
theorem wrap_b {y : Int} (h : 0 ≤ y ∧ y ≤ 255) : IntKind.wrap .i64 y = y := Ref.wrapi (by omega) (by omega)
theorem lss32 {k : Nat} (h : k < 32) : icmp .lss (k : Int) 32 = true := decide_eq_true (by omega)
theorem inc32 {k : Nat} (h : k < 32) : ibin .add .i64 (k : Int) 1 = ((k + 1 : Nat) : Int) := by rw [Ref.i_add (by omega) (by omega)]; omega
theorem set_other {l : List Int} {i j : Nat} (v : Int) (h : i ≠ j) : List.getD (l.set i v) j 0 = List.getD l j 0 := by
  rw [List.getD_eq_getElem?_getD, List.getD_eq_getElem?_getD, List.getElem?_set_ne h]
theorem set_l32' {b : List Int} (hb : L32 b) (i : Nat) {v : Int} (hv : 0 ≤ v ∧ v ≤ 255) : L32 (List.set b i v) := by
  refine ⟨by rw [List.length_set]; exact hb.1, fun x hx => ?_⟩
  rcases List.mem_or_eq_of_mem_set hx with h | h
  · exact hb.2 x h
  · rw [h]; exact hv
theorem num_set {l : List Int} (hl : L32 l) {i : Nat} (hi : i < 32) (v : Int) : Ref.numW 8 (l.set i v) = Ref.numW 8 l + (v - List.getD l i 0) * 2 ^ (8 * i) := by
  have := Ref.numW_set (w := 8) i l (v - List.getD l i 0) (by rw [hl.1]; exact hi)
  rw [show List.getD l i 0 + (v - List.getD l i 0) = v by omega] at this
  exact this
theorem pow_next (i : Nat) : (2 : Int) ^ (8 * (i + 1)) = 256 * 2 ^ (8 * i) := by
  rw [show 8 * (i + 1) = 8 * i + 8 by omega, Int.pow_add, show (2 : Int) ^ 8 = 256 from rfl, Int.mul_comm]

/-- One step of a sum with a carry: the numbers. -/
theorem carry_step {n c s P t z : Int} (hz : z = 0) (h : n + c * P = t) : n + (s % 256 - z) * P + s / 256 * (256 * P) = t + (s - c) * P := by
  subst hz
  have : s = 256 * (s / 256) + s % 256 := (Int.mul_ediv_add_emod s 256).symm
  generalize s / 256 = q at *
  generalize s % 256 = r at *
  subst this
  rw [← h, Int.sub_zero, Int.sub_mul, Int.add_mul, ← Int.mul_assoc q 256 P, Int.mul_comm q 256]
  omega

theorem z32 : L32 [0, 0, 0, 0, 0, 0, 0, 0, 0, 0, 0, 0, 0, 0, 0, 0, 0, 0, 0, 0, 0, 0, 0, 0, 0, 0, 0, 0, 0, 0, 0, 0] := ⟨rfl, by decide⟩
theorem z32_get (j : Nat) : List.getD [0, 0, 0, 0, 0, 0, 0, 0, 0, 0, 0, 0, 0, 0, 0, 0, 0, 0, 0, 0, 0, 0, 0, 0, 0, 0, 0, 0, 0, 0, 0, 0] j (0 : Int) = 0 := by
  have : ([0, 0, 0, 0, 0, 0, 0, 0, 0, 0, 0, 0, 0, 0, 0, 0, 0, 0, 0, 0, 0, 0, 0, 0, 0, 0, 0, 0, 0, 0, 0, 0] : List Int) = List.replicate 32 0 := rfl
  rw [this, List.getD_eq_getElem?_getD, List.getElem?_replicate]
  split <;> rfl
/- The order's bytes. -/
abbrev oB : List Int := [237, 211, 245, 92, 26, 99, 18, 88, 214, 156, 247, 162, 222, 249, 222, 20, 0, 0, 0, 0, 0, 0, 0, 0, 0, 0, 0, 0, 0, 0, 0, 16]
theorem oB_num : numB oB = ordl := by decide

theorem lt_top {x y o p P : Int} (hx : 0 ≤ x ∧ x < P) (hy : 0 ≤ y ∧ y < P) : (o < p → x + o * P < y + p * P) ∧ (p < o → y + p * P < x + o * P) := by
  have hP : 0 < P := by omega
  constructor
  · intro h
    have : (o + 1) * P ≤ p * P := Int.mul_le_mul_of_nonneg_right (by omega) (by omega)
    rw [Int.add_mul, Int.one_mul] at this
    omega
  · intro h
    have : (p + 1) * P ≤ o * P := Int.mul_le_mul_of_nonneg_right (by omega) (by omega)
    rw [Int.add_mul, Int.one_mul] at this
    omega
theorem tk_rng {l : List Int} (h : L32 l) (i : Nat) (hi : i ≤ 32) : 0 ≤ tk l i ∧ tk l i < 2 ^ (8 * i) := by
  have hd : Ref.Dg 8 (l.take i) := fun x hx => by
    have := h.2 x (List.mem_of_mem_take hx)
    show 0 ≤ x ∧ x < 256
    omega
  refine ⟨hd.nonneg, ?_⟩
  have := Ref.numW_lt (l.take i) hd
  rw [List.length_take, h.1, Nat.min_eq_left hi, ← Int.pow_mul] at this
  exact this

/-- One step of a difference with a borrow: the numbers. -/
theorem borrow_step {n c s P t z o : Int} (h : n = t - c * P) (hs : s = c + z - o) : n + (s % 256 - z) * P = t - o * P - s / 256 * (256 * P) := by
  have : s = 256 * (s / 256) + s % 256 := (Int.mul_ediv_add_emod s 256).symm
  generalize s / 256 = q at *
  generalize s % 256 = r at *
  have hr : r - z = c - o - 256 * q := by omega
  rw [hr, h, Int.sub_mul, Int.sub_mul, ← Int.mul_assoc q 256 P, Int.mul_comm q 256]
  omega

end Go.Vx

/- Numbers, part M21: limbs as bytes; CurveMultiples. -/
set_option autoImplicit false
set_option linter.unusedSimpArgs false
namespace Go.Vx
open Go

abbrev enc4 (x0 x1 x2 x3 : Int) : List Int := [IntKind.wrap .u8 (ibin .shr .u64 x0 0), IntKind.wrap .u8 (ibin .shr .u64 x0 8), IntKind.wrap .u8 (ibin .shr .u64 x0 16), IntKind.wrap .u8 (ibin .shr .u64 x0 24), IntKind.wrap .u8 (ibin .shr .u64 x0 32), IntKind.wrap .u8 (ibin .shr .u64 x0 40), IntKind.wrap .u8 (ibin .shr .u64 x0 48), IntKind.wrap .u8 (ibin .shr .u64 x0 56),
  IntKind.wrap .u8 (ibin .shr .u64 x1 0), IntKind.wrap .u8 (ibin .shr .u64 x1 8), IntKind.wrap .u8 (ibin .shr .u64 x1 16), IntKind.wrap .u8 (ibin .shr .u64 x1 24), IntKind.wrap .u8 (ibin .shr .u64 x1 32), IntKind.wrap .u8 (ibin .shr .u64 x1 40), IntKind.wrap .u8 (ibin .shr .u64 x1 48), IntKind.wrap .u8 (ibin .shr .u64 x1 56),
  IntKind.wrap .u8 (ibin .shr .u64 x2 0), IntKind.wrap .u8 (ibin .shr .u64 x2 8), IntKind.wrap .u8 (ibin .shr .u64 x2 16), IntKind.wrap .u8 (ibin .shr .u64 x2 24), IntKind.wrap .u8 (ibin .shr .u64 x2 32), IntKind.wrap .u8 (ibin .shr .u64 x2 40), IntKind.wrap .u8 (ibin .shr .u64 x2 48), IntKind.wrap .u8 (ibin .shr .u64 x2 56),
  IntKind.wrap .u8 (ibin .shr .u64 x3 0), IntKind.wrap .u8 (ibin .shr .u64 x3 8), IntKind.wrap .u8 (ibin .shr .u64 x3 16), IntKind.wrap .u8 (ibin .shr .u64 x3 24), IntKind.wrap .u8 (ibin .shr .u64 x3 32), IntKind.wrap .u8 (ibin .shr .u64 x3 40), IntKind.wrap .u8 (ibin .shr .u64 x3 48), IntKind.wrap .u8 (ibin .shr .u64 x3 56)]
theorem enc4_ok {x0 x1 x2 x3 : Int} (h0 : U x0) (h1 : U x1) (h2 : U x2) (h3 : U x3) : L32 (enc4 x0 x1 x2 x3) ∧ (numB (enc4 x0 x1 x2 x3) : Int) = v4 [x0, x1, x2, x3] := by
  constructor
  · refine ⟨rfl, fun y hy => ?_⟩
    simp only [enc4, List.mem_cons, List.not_mem_nil, or_false] at hy
    rcases hy with rfl | rfl | rfl | rfl | rfl | rfl | rfl | rfl | rfl | rfl | rfl | rfl | rfl | rfl | rfl | rfl | rfl | rfl | rfl | rfl | rfl | rfl | rfl | rfl | rfl | rfl | rfl | rfl | rfl | rfl | rfl | rfl <;> exact wrap8_byte _
  · rw [bytes8 h0, bytes8 h1, bytes8 h2, bytes8 h3, v4_mk]
    simp only [numB]
    omega
theorem enc_loop (N f : Nat) (x0 x1 x2 x3 : Int) : loopF (scalar_Scalar_Encode_l0 N) (f + 33) (((), (), (), 0), ([x0, x1, x2, x3], (), [0, 0, 0, 0, 0, 0, 0, 0, 0, 0, 0, 0, 0, 0, 0, 0, 0, 0, 0, 0, 0, 0, 0, 0, 0, 0, 0, 0, 0, 0, 0, 0])) = some (.inl (((), ()), ((), enc4 x0 x1 x2 x3))) := by kernel_rfl
theorem mod_uniq {x r q L : Nat} (h : x = r + q * L) (hr : r < L) : r = x % L := by rw [h, Nat.add_mul_mod_self_right, Nat.mod_eq_of_lt hr]
/-- The scalar's number. -/
abbrev sc (a : List Int) : Nat := (v4 a).toNat % ordl
theorem sc_lt (a : List Int) : sc a < ordl := Nat.mod_lt _ (by decide)

theorem encode_k (N : Nat) (hN : 33 ≤ N) {a : List Int} (ha : U4 a) : ∃ b, scalar_Scalar_Encode N a = some b ∧ L32 b ∧ numB b = sc a := by
  obtain ⟨r, h1, hr, h2, h3, k, k0, k16, hk⟩ := sleast ha
  obtain ⟨x0, x1, x2, x3, rfl, u0, u1, u2, u3⟩ := hr
  obtain ⟨f, rfl⟩ : ∃ f, N = f + 33 := ⟨N - 33, by omega⟩
  obtain ⟨e1, e2⟩ := enc4_ok u0 u1 u2 u3
  refine ⟨enc4 x0 x1 x2 x3, ?_, e1, ?_⟩
  · unfold scalar_Scalar_Encode
    simp only [h1, enc_loop, mo]
  · have ra := ha.rng
    refine mod_uniq (q := k.toNat) ?_ ?_
    · unfold ordl
      omega
    · unfold ordl
      omega
/-- The program's multiple by a scalar. -/
theorem repE_scal (N : Nat) (hN : 65 ≤ N) {x : P4} {e : E} (h : RepE x e) {a : List Int} (ha : U4 a) : ∃ r, curve_Point_Times N x a = some r ∧ RepE r (sc a • e) := by
  obtain ⟨b, h1, h2, h3⟩ := encode_k N (by omega) ha
  obtain ⟨⟨r1, r2, r3, r4⟩, h4, h5⟩ := repE_times N hN h h2
  rw [h3] at h5
  refine ⟨(r1, r2, r3, r4), ?_, h5⟩
  obtain ⟨x1, x2, x3, x4⟩ := x
  unfold curve_Point_Times
  simp only [h1, h4, mo]

theorem u4_of {f : List Int} (hf : f.length = 4 ∧ ∀ x ∈ f, IntKind.u64.min ≤ x ∧ x ≤ IntKind.u64.max) : U4 f := by
  obtain ⟨h1, h2⟩ := hf
  match f, h1 with
  | [x0, x1, x2, x3], _ =>
    have g (x : Int) (h : IntKind.u64.min ≤ x ∧ x ≤ IntKind.u64.max) : U x := by
      have h3 : (0 : Int) ≤ x := h.1
      have h4 : x ≤ 18446744073709551615 := h.2
      unfold U; omega
    exact ⟨x0, x1, x2, x3, rfl, g _ (h2 x0 (by simp)), g _ (h2 x1 (by simp)), g _ (h2 x2 (by simp)), g _ (h2 x3 (by simp))⟩
end Go.Vx

/- Numbers, part M22: scalars: sums, opposites, products. -/
set_option autoImplicit false
set_option linter.unusedSimpArgs false
namespace Go.Vx
open Go

/-- r has the least limbs of n. -/
structure Lm (r : List Int) (n : Nat) : Prop where
  u : U4 r
  v : v4 r = n
  lt : n < ordl
theorem Lm.uniq {r s : List Int} {n : Nat} (h : Lm r n) (g : Lm s n) : r = s := by
  obtain ⟨⟨x0, x1, x2, x3, rfl, a0, a1, a2, a3⟩, hv, -⟩ := h
  obtain ⟨⟨y0, y1, y2, y3, rfl, b0, b1, b2, b3⟩, gv, -⟩ := g
  rw [v4_mk] at hv gv
  unfold U at *
  have e0 : x0 = y0 := by omega
  have e1 : x1 = y1 := by omega
  have e2 : x2 = y2 := by omega
  have e3 : x3 = y3 := by omega
  rw [e0, e1, e2, e3]
theorem Lm.iff {r s : List Int} {m n : Nat} (h : Lm r m) (g : Lm s n) : r = s ↔ m = n := by
  constructor
  · intro e
    have h1 := h.v
    rw [e, g.v] at h1
    omega
  · rintro rfl; exact h.uniq g
theorem Lm.sc {r : List Int} {n : Nat} (h : Lm r n) : sc r = n := by
  show (v4 r).toNat % ordl = n
  rw [h.v, Int.toNat_natCast, Nat.mod_eq_of_lt h.lt]
theorem sleast' {a : List Int} (ha : U4 a) : ∃ r, scalar_Scalar_Least a = some r ∧ Lm r (sc a) := by
  obtain ⟨r, h1, hr, h2, h3, k, k0, k16, hk⟩ := sleast ha
  have e : (v4 r).toNat = sc a := by
    have ra := ha.rng
    refine mod_uniq (q := k.toNat) ?_ ?_
    · unfold ordl; omega
    · unfold ordl; omega
  exact ⟨r, h1, hr, by omega, by rw [← e]; unfold ordl; omega⟩
theorem lm_zero : Lm [0, 0, 0, 0] 0 := ⟨⟨_, _, _, _, rfl, ⟨by decide, by decide⟩, ⟨by decide, by decide⟩, ⟨by decide, by decide⟩, ⟨by decide, by decide⟩⟩, rfl, by decide⟩

theorem sadd_k {a b : List Int} (ha : U4 a) (hb : U4 b) : ∃ r, scalar_Scalar_Add a b = some r ∧ Lm r ((sc a + sc b) % ordl) := by
  obtain ⟨x, h1, k1⟩ := sleast' ha
  obtain ⟨y, h2, k2⟩ := sleast' hb
  obtain ⟨s, c, h3, us, hc, hv⟩ := plus_k k1.u k2.u
  have l1 := k1.lt
  have l2 := k2.lt
  have rs := us.rng
  rw [k1.v, k2.v] at hv
  unfold ordl at l1 l2
  have c0 : c = 0 := by omega
  subst c0
  obtain ⟨r, h4, ur, r0, r1, hr⟩ := lower_k us (by omega)
  refine ⟨r, ?_, ur, ?_, Nat.mod_lt _ (by decide)⟩
  · unfold scalar_Scalar_Add
    simp only [h1, h2, h3, h4, mo]
  · have e : (v4 r).toNat = (sc a + sc b) % ordl := by
      rcases hr with hr | hr
      · exact mod_uniq (q := 0) (by omega) (by unfold ordl; omega)
      · exact mod_uniq (q := 1) (by rw [Nat.one_mul]; unfold ordl; omega) (by unfold ordl; omega)
    omega
theorem ssub_k {a b : List Int} (ha : U4 a) (hb : U4 b) : ∃ r, scalar_Scalar_Sub a b = some r ∧ Lm r ((sc a + (ordl - sc b)) % ordl) := by
  obtain ⟨x, h1, k1⟩ := sleast' ha
  obtain ⟨y, h2, k2⟩ := sleast' hb
  obtain ⟨d, c, h3, ud, hd⟩ := minus_k k1.u k2.u
  obtain ⟨e, g, h4, ue, hg, hv⟩ := plus_k ud lL_U
  obtain ⟨c0, c1⟩ := choose_k ue ud
  have l1 := k1.lt
  have l2 := k2.lt
  rw [k1.v, k2.v] at hd
  rw [lL_v] at hv
  have re := ue.rng
  have rd := ud.rng
  unfold scalar_Scalar_Sub
  rcases hd with ⟨rfl, g1, g2⟩ | ⟨rfl, g1, g2⟩
  · refine ⟨d, by simp only [h1, h2, h3, h4, mo, c0], ud, ?_, Nat.mod_lt _ (by decide)⟩
    have e : (v4 d).toNat = (sc a + (ordl - sc b)) % ordl := mod_uniq (q := 1) (by rw [Nat.one_mul]; omega) (by omega)
    omega
  · refine ⟨e, by simp only [h1, h2, h3, h4, mo, c1], ue, ?_, Nat.mod_lt _ (by decide)⟩
    have e1 : (v4 e).toNat = sc a + (ordl - sc b) := by unfold ordl at *; omega
    have e : (v4 e).toNat = (sc a + (ordl - sc b)) % ordl := mod_uniq (q := 0) (by omega) (by omega)
    omega
theorem sneg_k {a : List Int} (ha : U4 a) : ∃ r, scalar_Scalar_Neg a = some r ∧ Lm r ((ordl - sc a) % ordl) := by
  obtain ⟨r, h1, h2⟩ := ssub_k lm_zero.u ha
  rw [lm_zero.sc, Nat.zero_add] at h2
  exact ⟨r, by unfold scalar_Scalar_Neg; simp only [h1, mo], h2⟩

/- Products. -/
theorem into_k {x y z c : Int} (hx : U x) (hy : U y) (hz : U z) (hc : U c) : ∃ lo hi, scalar_into x y z c = some (lo, hi) ∧ U lo ∧ U hi ∧ lo + hi * 18446744073709551616 = x * y + z + c := by
  have hp : 0 ≤ x * y ∧ x * y ≤ 18446744073709551615 * 18446744073709551615 := by
    unfold U at hx hy
    exact ⟨Int.mul_nonneg hx.1 hy.1, Int.le_trans (Int.mul_le_mul_of_nonneg_right (show x ≤ 18446744073709551615 by omega) hy.1) (Int.mul_le_mul_of_nonneg_left (show y ≤ 18446744073709551615 by omega) (by decide))⟩
  unfold scalar_into
  rw [mul64_spec hx hy]
  simp only
  generalize x * y = p at *
  have u0 : U (p % 18446744073709551616) := ⟨by omega, by omega⟩
  obtain ⟨a, k, h1, ua, hk, e1⟩ := add64_spec u0 hz (.inl rfl)
  obtain ⟨b, j, h2, ub, hj, e2⟩ := add64_spec ua hc (.inl rfl)
  refine ⟨b, ibin .add .u64 (ibin .add .u64 (p / 18446744073709551616) k) j, by simp only [h1, h2, mo], ub, ?_, ?_⟩
  · rw [u_add]; exact ⟨by omega, by omega⟩
  · rw [u_add, u_add]
    unfold U at *
    omega

abbrev wB : Int := 18446744073709551616
def v5 (t : List Int) : Int := List.getD t 0 0 + List.getD t 1 0 * 18446744073709551616 + List.getD t 2 0 * 340282366920938463463374607431768211456 + List.getD t 3 0 * 6277101735386680763835789423207666416102355444464034512896 + List.getD t 4 0 * 115792089237316195423570985008687907853269984665640564039457584007913129639936
theorem v5_mk (x0 x1 x2 x3 x4 : Int) : v5 [x0, x1, x2, x3, x4] = x0 + x1 * 18446744073709551616 + x2 * 340282366920938463463374607431768211456 + x3 * 6277101735386680763835789423207666416102355444464034512896 + x4 * 115792089237316195423570985008687907853269984665640564039457584007913129639936 := rfl
def U5 (t : List Int) : Prop := ∃ x0 x1 x2 x3 x4, t = [x0, x1, x2, x3, x4] ∧ U x0 ∧ U x1 ∧ U x2 ∧ U x3 ∧ U x4

/-- The low word goes away. -/
theorem low_gone {u0 m w0 d0 : Int} (hm : m = u0 * 15183074304973897243 % 18446744073709551616) (hw : U w0) (e : w0 + d0 * 18446744073709551616 = m * 6346243789798364141 + u0) : w0 = 0 := by
  unfold U at hw
  omega
theorem mul_top {a l b B : Int} (ha : 0 ≤ a ∧ a < l) (hb : 0 ≤ b ∧ b < B) : 0 ≤ a * b ∧ a * b ≤ (l - 1) * (B - 1) :=
  ⟨Int.mul_nonneg ha.1 hb.1, Int.le_trans (Int.mul_le_mul_of_nonneg_right (show a ≤ l - 1 by omega) hb.1) (Int.mul_le_mul_of_nonneg_left (show b ≤ B - 1 by omega) (by omega))⟩

theorem prod_step (N : Nat) {a b t : List Int} (ha : U4 a) (hl : v4 a < 7237005577332262213973186563042994240857116359379907606001950938285454250989) (i : Nat) (hi : i < 4) (hb : U (List.getD b i 0)) (ht : U5 t) (hv : v5 t < 2 * 7237005577332262213973186563042994240857116359379907606001950938285454250989) :
    ∃ t' m, scalar_product_l0 N (((), (), (), (), (i : Int)), ((), a, b, (), t)) = some (.inl (((), (), (), (), ((i + 1 : Nat) : Int)), ((), a, b, (), t'))) ∧ U5 t' ∧ v5 t' < 2 * 7237005577332262213973186563042994240857116359379907606001950938285454250989 ∧
      v5 t' * 18446744073709551616 = v5 t + v4 a * List.getD b i 0 + m * 7237005577332262213973186563042994240857116359379907606001950938285454250989 := by
  have rng := ha.rng
  have top := mul_top ⟨rng.1, hl⟩ (show 0 ≤ List.getD b i 0 ∧ List.getD b i 0 < 18446744073709551616 from hb)
  obtain ⟨a0, a1, a2, a3, rfl, ua0, ua1, ua2, ua3⟩ := ha
  obtain ⟨t0, t1, t2, t3, t4, rfl, ut0, ut1, ut2, ut3, ut4⟩ := ht
  have z : U 0 := ⟨by decide, by decide⟩
  have c1 : icmp .lss (i : Int) 4 = true := decide_eq_true (by omega)
  have c2 : decide (0 ≤ (i : Int) ∧ (i : Int) < ((4 : Nat) : Int)) = true := decide_eq_true (by omega)
  have c3 : ibin .add .i64 (i : Int) 1 = ((i + 1 : Nat) : Int) := by rw [Ref.i_add (by omega) (by omega)]; omega
  generalize hB : List.getD b i 0 = y at *
  obtain ⟨u0, k0, h0, uu0, uk0, e0⟩ := into_k ua0 hb ut0 z
  obtain ⟨u1, k1, h1, uu1, uk1, e1⟩ := into_k ua1 hb ut1 uk0
  obtain ⟨u2, k2, h2, uu2, uk2, e2⟩ := into_k ua2 hb ut2 uk1
  obtain ⟨u3, k3, h3, uu3, uk3, e3⟩ := into_k ua3 hb ut3 uk2
  obtain ⟨u4, k4, h4, uu4, dk4, e4⟩ := add64_spec ut4 uk3 (.inl rfl)
  have hm : ibin .mul .u64 u0 15183074304973897243 = u0 * 15183074304973897243 % 18446744073709551616 := u_mul _ _
  have um : U (u0 * 15183074304973897243 % 18446744073709551616) := ⟨by omega, by omega⟩
  generalize hM : u0 * 15183074304973897243 % 18446744073709551616 = m at *
  obtain ⟨w0, d0, g0, uw0, ud0, f0⟩ := into_k um (y := 6346243789798364141) ⟨by decide, by decide⟩ uu0 z
  obtain ⟨w1, d1, g1, uw1, ud1, f1⟩ := into_k um (y := 1503914060200516822) ⟨by decide, by decide⟩ uu1 ud0
  obtain ⟨w2, d2, g2, uw2, ud2, f2⟩ := into_k um (y := 0) z uu2 ud1
  obtain ⟨w3, d3, g3, uw3, ud3, f3⟩ := into_k um (y := 1152921504606846976) ⟨by decide, by decide⟩ uu3 ud2
  obtain ⟨w4, d4, g4, uw4, dd4, f4⟩ := add64_spec uu4 ud3 (.inl rfl)
  have w00 : w0 = 0 := low_gone hM.symm uw0 (by rw [f0]; omega)
  subst w00
  have hk : ibin .add .u64 k4 d4 = k4 + d4 := by rw [u_add]; omega
  have uk : U (k4 + d4) := ⟨by omega, by omega⟩
  have key : v5 [w1, w2, w3, w4, k4 + d4] * 18446744073709551616 = v5 [t0, t1, t2, t3, t4] + v4 [a0, a1, a2, a3] * y + m * 7237005577332262213973186563042994240857116359379907606001950938285454250989 := by
    have hmul : (a0 + a1 * 18446744073709551616 + a2 * 340282366920938463463374607431768211456 + a3 * 6277101735386680763835789423207666416102355444464034512896) * y = a0 * y + a1 * y * 18446744073709551616 + a2 * y * 340282366920938463463374607431768211456 + a3 * y * 6277101735386680763835789423207666416102355444464034512896 := by
      rw [Int.add_mul, Int.add_mul, Int.add_mul, Int.mul_right_comm a1, Int.mul_right_comm a2, Int.mul_right_comm a3]
    rw [v5_mk, v5_mk, v4_mk, hmul]
    generalize a0 * y = p0 at *
    generalize a1 * y = p1 at *
    generalize a2 * y = p2 at *
    generalize a3 * y = p3 at *
    clear top rng hv hl hM hm
    omega
  refine ⟨[w1, w2, w3, w4, k4 + d4], m, ?_, ⟨_, _, _, _, _, rfl, uw1, uw2, uw3, uw4, uk⟩, ?_, key⟩
  · unfold scalar_product_l0
    simp only [c1, c2, c3, cond_true, Int.toNat_natCast, hB, List.getD_cons_zero, List.getD_cons_succ, List.set_cons_zero, List.set_cons_succ, h0, h1, h2, h3, h4, hm, g0, g1, g2, g3, g4, hk, mo]
  · generalize v5 [w1, w2, w3, w4, k4 + d4] = V' at *
    generalize v5 [t0, t1, t2, t3, t4] = V at *
    generalize v4 [a0, a1, a2, a3] * y = P at *
    unfold U at um
    clear e0 e1 e2 e3 e4 f0 f1 f2 f3 f4 hM hm
    omega

theorem loop_in {α β γ : Type} {b : α → Option (α ⊕ (β ⊕ γ))} {v w : α} (h : b v = some (.inl w)) (f : Nat) : loopF b (f + 1) v = loopF b f w := by rw [loopF_succ, h]; rfl
theorem loop_out {α β γ : Type} {b : α → Option (α ⊕ (β ⊕ γ))} {v : α} {x : β ⊕ γ} (h : b v = some (.inr x)) (f : Nat) : loopF b (f + 1) v = some x := by rw [loopF_succ, h]; rfl
theorem mont_sum {V1 V2 V3 V4 p0 p1 p2 p3 m1 m2 m3 m4 L : Int} (e1 : V1 * 18446744073709551616 = p0 + m1 * L) (e2 : V2 * 18446744073709551616 = V1 + p1 + m2 * L) (e3 : V3 * 18446744073709551616 = V2 + p2 + m3 * L) (e4 : V4 * 18446744073709551616 = V3 + p3 + m4 * L) :
    V4 * 115792089237316195423570985008687907853269984665640564039457584007913129639936 = p0 + p1 * 18446744073709551616 + p2 * 340282366920938463463374607431768211456 + p3 * 6277101735386680763835789423207666416102355444464034512896 + (m1 + m2 * 18446744073709551616 + m3 * 340282366920938463463374607431768211456 + m4 * 6277101735386680763835789423207666416102355444464034512896) * L := by
  have t4 : V4 * 115792089237316195423570985008687907853269984665640564039457584007913129639936 = V3 * 6277101735386680763835789423207666416102355444464034512896 + p3 * 6277101735386680763835789423207666416102355444464034512896 + m4 * L * 6277101735386680763835789423207666416102355444464034512896 := by
    rw [← Int.add_mul, ← Int.add_mul, ← e4, Int.mul_assoc]; rfl
  have t3 : V3 * 6277101735386680763835789423207666416102355444464034512896 = V2 * 340282366920938463463374607431768211456 + p2 * 340282366920938463463374607431768211456 + m3 * L * 340282366920938463463374607431768211456 := by
    rw [← Int.add_mul, ← Int.add_mul, ← e3, Int.mul_assoc]; rfl
  have t2 : V2 * 340282366920938463463374607431768211456 = V1 * 18446744073709551616 + p1 * 18446744073709551616 + m2 * L * 18446744073709551616 := by
    rw [← Int.add_mul, ← Int.add_mul, ← e2, Int.mul_assoc]; rfl
  rw [t4, t3, t2, e1, Int.add_mul, Int.add_mul, Int.add_mul, Int.mul_right_comm m2, Int.mul_right_comm m3, Int.mul_right_comm m4]
  generalize m1 * L = q1
  generalize m2 * L = q2
  generalize m3 * L = q3
  generalize m4 * L = q4
  clear e1 e2 e3 e4 t2 t3 t4
  omega

theorem product_k (N : Nat) (hN : 5 ≤ N) {a b : List Int} {m n : Nat} (ha : Lm a m) (hb : Lm b n) : ∃ r x, scalar_product N a b = some r ∧ Lm r x ∧ ∃ q : Int, (x : Int) * 115792089237316195423570985008687907853269984665640564039457584007913129639936 = m * n + q * ordl := by
  have hl : v4 a < 7237005577332262213973186563042994240857116359379907606001950938285454250989 := by have := ha.v; have := ha.lt; unfold ordl at *; omega
  have z5 : U5 [0, 0, 0, 0, 0] := ⟨_, _, _, _, _, rfl, ⟨by decide, by decide⟩, ⟨by decide, by decide⟩, ⟨by decide, by decide⟩, ⟨by decide, by decide⟩, ⟨by decide, by decide⟩⟩
  obtain ⟨b0, b1, b2, b3, hB, ub0, ub1, ub2, ub3⟩ := hb.u
  have hbv := hb.v
  rw [hB, v4_mk] at hbv
  obtain ⟨r1, m1, h1, u1, l1, e1⟩ := prod_step N ha.u hl 0 (by decide) (b := b) (by rw [hB]; exact ub0) z5 (by decide)
  obtain ⟨r2, m2, h2, u2, l2, e2⟩ := prod_step N ha.u hl 1 (by decide) (b := b) (by rw [hB]; exact ub1) u1 l1
  obtain ⟨r3, m3, h3, u3, l3, e3⟩ := prod_step N ha.u hl 2 (by decide) (b := b) (by rw [hB]; exact ub2) u2 l2
  obtain ⟨r4, m4, h4, u4, l4, e4⟩ := prod_step N ha.u hl 3 (by decide) (b := b) (by rw [hB]; exact ub3) u3 l3
  have s0 : List.getD b 0 0 = b0 := by rw [hB]; rfl
  have s1 : List.getD b 1 0 = b1 := by rw [hB]; rfl
  have s2 : List.getD b 2 0 = b2 := by rw [hB]; rfl
  have s3 : List.getD b 3 0 = b3 := by rw [hB]; rfl
  rw [s0] at e1
  rw [s1] at e2
  rw [s2] at e3
  rw [s3] at e4
  rw [show v5 [0, 0, 0, 0, 0] = 0 from rfl] at e1
  rw [ha.v] at e1 e2 e3 e4
  obtain ⟨x0, x1, x2, x3, x4, rfl, ux0, ux1, ux2, ux3, ux4⟩ := u4
  have x40 : x4 = 0 := by
    rw [v5_mk] at l4
    unfold U at ux0 ux1 ux2 ux3 ux4
    omega
  subst x40
  have ev : v5 [x0, x1, x2, x3, 0] = v4 [x0, x1, x2, x3] := by rw [v5_mk, v4_mk]; omega
  rw [ev] at e4 l4
  obtain ⟨r, h5, ur, r0, r1', hr⟩ := lower_k (a := [x0, x1, x2, x3]) ⟨_, _, _, _, rfl, ux0, ux1, ux2, ux3⟩ l4
  have c5 : scalar_product_l0 N (((), (), (), (), ((4 : Nat) : Int)), ((), a, b, (), [x0, x1, x2, x3, 0])) = some (.inr (.inl (((), ()), ((), (), [x0, x1, x2, x3, 0])))) := by
    unfold scalar_product_l0
    simp only [show icmp .lss ((4 : Nat) : Int) 4 = false from rfl, cond_false, mo]
  have hloop : loopF (scalar_product_l0 N) N (((), (), (), (), 0), ((), a, b, (), [0, 0, 0, 0, 0])) = some (.inl (((), ()), ((), (), [x0, x1, x2, x3, 0]))) := by
    obtain ⟨f, hf⟩ : ∃ f, N = f + 1 + 1 + 1 + 1 + 1 := ⟨N - 5, by omega⟩
    have : ∀ g, g = f + 1 + 1 + 1 + 1 + 1 → loopF (scalar_product_l0 N) g (((), (), (), (), ((0 : Nat) : Int)), ((), a, b, (), [0, 0, 0, 0, 0])) = some (.inl (((), ()), ((), (), [x0, x1, x2, x3, 0]))) := by
      rintro g rfl
      rw [loop_in h1, loop_in h2, loop_in h3, loop_in h4]
      exact loop_out c5 f
    exact this N hf
  refine ⟨r, (v4 r).toNat, ?_, ⟨ur, by omega, by unfold ordl; omega⟩, ?_⟩
  · unfold scalar_product
    simp only [hloop, mo, List.getD_cons_zero, List.getD_cons_succ, h5]
  · have hx : ((v4 r).toNat : Int) = v4 r := by omega
    rw [hx]
    refine ⟨m1 + m2 * 18446744073709551616 + m3 * 340282366920938463463374607431768211456 + m4 * 6277101735386680763835789423207666416102355444464034512896 - (if v4 r = v4 [x0, x1, x2, x3] then 0 else 115792089237316195423570985008687907853269984665640564039457584007913129639936), ?_⟩
    have hn : (m : Int) * n = m * b0 + (m * b1) * 18446744073709551616 + (m * b2) * 340282366920938463463374607431768211456 + (m * b3) * 6277101735386680763835789423207666416102355444464034512896 := by
      rw [← hbv, Int.mul_add, Int.mul_add, Int.mul_add, Int.mul_assoc, Int.mul_assoc, Int.mul_assoc]
    rw [hn]
    have e1' : v5 r1 * 18446744073709551616 = m * b0 + m1 * 7237005577332262213973186563042994240857116359379907606001950938285454250989 := by rw [e1, Int.zero_add]
    have key := mont_sum e1' e2 e3 e4
    rw [show ((ordl : Nat) : Int) = 7237005577332262213973186563042994240857116359379907606001950938285454250989 from rfl]
    generalize m1 + m2 * 18446744073709551616 + m3 * 340282366920938463463374607431768211456 + m4 * 6277101735386680763835789423207666416102355444464034512896 = q at *
    rw [Int.sub_mul, ← Int.add_sub_assoc, ← key]
    split
    · rename_i hq
      rw [hq]
      omega
    · have hr' := hr.resolve_left (by assumption)
      rw [hr', Int.sub_mul]
      omega

end Go.Vx

/- Numbers, part M23: the group modulo the four points; GroupLaws. -/
set_option autoImplicit false
set_option linter.unusedSimpArgs false
namespace Go.Vx
open Go

theorem mont_fin {P e f R R2 T L Ri c k q1 q2 : Int} (h0 : R * R = R2) (hT : T = R2 - c * L) (hI : Ri * R2 = 1 + k * L) (hE : e * R = P + q1 * L) (hF : f * R = e * T + q2 * L) : ∃ X : Int, f = P + X * L := by
  refine ⟨k * P - Ri * c * P + Ri * q1 * T + Ri * R * q2 - k * f, ?_⟩
  have h1 : R2 * f = (P + q1 * L) * T + R * q2 * L := by
    calc R2 * f = R * (f * R) := by rw [← h0, Int.mul_assoc, Int.mul_comm R f]
      _ = (e * R) * T + R * q2 * L := by rw [hF, Int.mul_add, ← Int.mul_assoc, ← Int.mul_assoc, Int.mul_comm R e]
      _ = _ := by rw [hE]
  have h2 : Ri * R2 * f = Ri * ((P + q1 * L) * T + R * q2 * L) := by rw [Int.mul_assoc, h1]
  rw [hI] at h2
  have h3 : Ri * T = 1 + k * L - Ri * c * L := by rw [hT, Int.mul_sub, hI, Int.mul_assoc]
  have h4 : Ri * ((P + q1 * L) * T + R * q2 * L) = P * (Ri * T) + Ri * q1 * T * L + Ri * R * q2 * L := by grind
  rw [h4, h3] at h2
  generalize Ri * T = y at *
  grind
theorem int_mod {f P L : Int} (h : ∃ X : Int, f = P + X * L) (h0 : 0 ≤ f ∧ f < L) : f = P % L := by
  obtain ⟨X, hX⟩ := h
  rw [← Int.add_mul_emod_self_right (a := P) (b := X) (c := L), ← hX, Int.emod_eq_of_lt h0.1 h0.2]
abbrev tw : List Int := [11819153939886771969, 14991950615390032711, 14910419812499177061, 259310039853996605]
theorem tw_lm : Lm tw 1627715501170711445284395025044413883736156588369414752970002579683115011841 := ⟨⟨_, _, _, _, rfl, ⟨by decide, by decide⟩, ⟨by decide, by decide⟩, ⟨by decide, by decide⟩, ⟨by decide, by decide⟩⟩, by decide, by decide⟩
theorem smul_k (N : Nat) (hN : 5 ≤ N) {a b : List Int} (ha : U4 a) (hb : U4 b) : ∃ r, scalar_Scalar_Mul N a b = some r ∧ Lm r (sc a * sc b % ordl) := by
  obtain ⟨x, h1, k1⟩ := sleast' ha
  obtain ⟨y, h2, k2⟩ := sleast' hb
  obtain ⟨e, m, h3, k3, q1, e1⟩ := product_k N hN k1 k2
  obtain ⟨f, n, h4, k4, q2, e2⟩ := product_k N hN k3 tw_lm
  refine ⟨f, ?_, ?_⟩
  · unfold scalar_Scalar_Mul
    simp only [h1, h2, h3, h4, mo]
  · have hf := mont_fin (P := ((sc a : Nat) : Int) * ((sc b : Nat) : Int)) (e := (m : Int)) (f := (n : Int)) (R := 115792089237316195423570985008687907853269984665640564039457584007913129639936) (R2 := 115792089237316195423570985008687907853269984665640564039457584007913129639936 * 115792089237316195423570985008687907853269984665640564039457584007913129639936)
      (T := ((1627715501170711445284395025044413883736156588369414752970002579683115011841 : Nat) : Int)) (L := ((ordl : Nat) : Int)) (Ri := 6066996205026858523957696384966770032717987752869616155354548954357763152994) (c := 1852673427797059126777135760139006525645217721299241702126143248052143860224795) (k := 11240162655598859305963771333747284242203356945575140266899545546333551095740923663247464138926094861825214333531550564593430236517063536351537907583188507)
      rfl (by decide) (by decide) e1 e2
    have hn : (n : Int) = ((sc a : Nat) : Int) * ((sc b : Nat) : Int) % ((ordl : Nat) : Int) := int_mod hf ⟨by omega, by have := k4.lt; omega⟩
    have : n = sc a * sc b % ordl := by
      rw [← Int.natCast_mul, ← Int.natCast_emod] at hn
      exact Int.ofNat.inj hn
    rw [← this]
    exact k4

/- The group. -/
instance : Std.Associative (α := E) (· + ·) := ⟨E.add_assoc⟩
instance : Std.Commutative (α := E) (· + ·) := ⟨E.add_comm⟩
theorem gadd {x y : P4} {a b : E} (h1 : RepE x a) (h2 : RepE y b) : ∃ u v z t, group_Point_Add x y = some (u, v, z, t) ∧ RepE (u, v, z, t) (a + b) := by
  obtain ⟨⟨u, v, z, t⟩, k1, k2⟩ := repE_add h1 h2
  obtain ⟨x1, x2, x3, x4⟩ := x
  obtain ⟨y1, y2, y3, y4⟩ := y
  exact ⟨u, v, z, t, by unfold group_Point_Add; simp only [k1, mo], k2⟩
theorem gdbl {x : P4} {a : E} (h1 : RepE x a) : ∃ u v z t, group_Point_Double x = some (u, v, z, t) ∧ RepE (u, v, z, t) (a + a) := by
  obtain ⟨⟨u, v, z, t⟩, k1, k2⟩ := repE_dbl h1
  obtain ⟨x1, x2, x3, x4⟩ := x
  exact ⟨u, v, z, t, by unfold group_Point_Double; simp only [k1, mo], k2⟩
theorem gneg {x : P4} {a : E} (h1 : RepE x a) : RepE (group_Point_Neg x) (-a) := repE_neg h1
theorem four (x : E) : x + x + (x + x) = (4 : Nat) • x := by
  rw [show (4 : Nat) = 1 + 1 + (1 + 1) from rfl, E.ns_add, E.ns_add, E.ns_one]
theorem gsame {x y : P4} {a b : E} (h1 : RepE x a) (h2 : RepE y b) : ∃ c, group_Point_Same x y = some c ∧ (c = true ↔ Eqv a b) := by
  obtain ⟨⟨u1, u2, u3, u4⟩, k1, r1⟩ := repE_sub h1 h2
  obtain ⟨⟨v1, v2, v3, v4⟩, k2, r2⟩ := repE_dbl r1
  obtain ⟨⟨w1, w2, w3, w4⟩, k3, r3⟩ := repE_dbl r2
  obtain ⟨c, k4, e4⟩ := repE_same r3 repE_zero
  rw [four] at e4
  obtain ⟨x1, x2, x3, x4⟩ := x
  obtain ⟨y1, y2, y3, y4⟩ := y
  refine ⟨c, ?_, e4⟩
  unfold group_Point_Same
  simp only [k1, k2, k3, k4, mo]
theorem gyes {x y : P4} {a b : E} (h1 : RepE x a) (h2 : RepE y b) (h : Eqv a b) : group_Point_Same x y = some true := by
  obtain ⟨c, k, e⟩ := gsame h1 h2
  rw [k, e.2 h]
theorem eqv_opp {e : E} (he : Ev e) {m k : Nat} (h : (k + m) % ordl = 0) : Eqv (-(m • e)) (k • e) := by
  have h1 : Eqv ((k + m) • e) 0 := by
    have := eqv_mod he (m := k + m) (n := 0) (by rw [h]; rfl)
    rwa [E.ns_zero] at this
  rw [E.ns_add] at h1
  have h2 := h1.symm.add (Eqv.of_eq (rfl : -(m • e) = -(m • e)))
  rw [E.zero_add, E.add_assoc, E.add_neg, E.add_zero] at h2
  exact h2
theorem mod_opp {k l : Nat} (h : k < l) : (k + (l - k) % l) % l = 0 := by
  rw [Nat.add_mod, Nat.mod_mod, ← Nat.add_mod, show k + (l - k) = l by omega, Nat.mod_self]
theorem gtimes (N : Nat) (hN : 65 ≤ N) {x : P4} {e : E} (h : RepE x e) (he : Ev e) {a : List Int} (ha : U4 a) : ∃ u v z t f, group_Point_Times N x a = some (u, v, z, t) ∧ RepE (u, v, z, t) f ∧ Eqv f (sc a • e) ∧ Ev f := by
  obtain ⟨r1, h1, k1⟩ := sleast' ha
  obtain ⟨r2, h2, k2⟩ := sneg_k k1.u
  obtain ⟨⟨u1, u2, u3, u4⟩, h3, k3⟩ := repE_scal N hN h k1.u
  obtain ⟨⟨v1, v2, v3, v4⟩, h4, k4⟩ := repE_scal N hN h k2.u
  rw [k1.sc] at k3
  rw [k1.sc] at k2
  rw [k2.sc] at k4
  obtain ⟨x1, x2, x3, x4⟩ := x
  unfold group_Point_Times
  simp only [h1, h2, mo]
  have main : ∃ u v z t f, some (u1, u2, u3, u4) = some (u, v, z, t) ∧ RepE (u, v, z, t) f ∧ Eqv f (sc a • e) ∧ Ev f := ⟨_, _, _, _, _, rfl, k3, .of_eq rfl, ev_ns he _⟩
  cases group_low r1
  · cases group_low r2
    · simp only [Bool.not_false, cond_true, cond_false, h3, mo]
      exact main
    · simp only [Bool.not_false, cond_true, cond_false, h4, mo]
      refine ⟨_, _, _, _, _, rfl, repE_neg k4, ?_, ev_neg (ev_ns he _)⟩
      refine eqv_opp he ?_
      exact mod_opp k1.lt
  · simp only [Bool.not_true, cond_false, h3, mo]
    exact main

theorem take_l32' {a : List Int} (hl : a.length = 64) (hb : Bs a) : L32 (List.take 32 (List.drop 0 a)) ∧ L32 (List.take 32 (List.drop 32 a)) :=
  ⟨⟨by simp [hl], fun x hx => hb x (List.mem_of_mem_take hx)⟩, ⟨by simp [hl], fun x hx => hb x (List.mem_of_mem_drop (List.mem_of_mem_take hx))⟩⟩
theorem half_E (N : Nat) (hN : N = 300) {a : List Int} (ha : L5 a) : ∃ u v z t e, group_MapHalf N a = some (u, v, z, t) ∧ RepE (u, v, z, t) e ∧ Ev e := by
  subst hN
  obtain ⟨x, y, t, R, V, S, ok, s, c, h1, h2, h3, h4, h5, h6⟩ := phalf ha
  obtain ⟨g1, g2⟩ := h6.on
  exact ⟨x, y, _, t, ⟨(kv x, kv y), g1⟩, h1, rep_one h2 h3 h4 h5, g2⟩
theorem map_E (N : Nat) (hN : N = 300) {a : List Int} (hl : a.length = 64) (hb : Bs a) : ∃ u v z t e, group_Map N a = some (u, v, z, t) ∧ RepE (u, v, z, t) e ∧ Ev e := by
  obtain ⟨l1, l2⟩ := take_l32' hl hb
  obtain ⟨x1, x2, x3, x4, e, h1, r1, v1⟩ := half_E N hN (reduce_spec l1).1.L5
  obtain ⟨y1, y2, y3, y4, f, h2, r2, v2⟩ := half_E N hN (reduce_spec l2).1.L5
  obtain ⟨z1, z2, z3, z4, h3, r3⟩ := gadd r1 r2
  refine ⟨z1, z2, z3, z4, e + f, ?_, r3, ev_add v1 v2⟩
  unfold group_Map
  simp only [h1, h2, h3, mo]

/- The base element. -/
def kS : K := K.of 53453403443306840533278073560698739391446669128918427283046925944918568268514
def kX0 : K := K.of 7413488746097234319268533557746747958297143720389000677696299943083562100178
def kY0 : K := K.of 9771384041963202563870679428059935816164187996444183106833894008023910952347
theorem base_stands : Stands kS kX0 kY0 := by
  have sq : kS ^ 2 = K.of (53453403443306840533278073560698739391446669128918427283046925944918568268514 ^ 2) := by unfold kS; rw [K.of_pow]
  refine ⟨by unfold K.ev; decide, by unfold K.ev; decide, ?_, ?_, ?_, ?_, ?_, ?_⟩
  · unfold kX0 kY0 K.ev
    rw [← K.of_mul]
    decide
  · intro h
    have := K.of_eq.1 (show K.of 9771384041963202563870679428059935816164187996444183106833894008023910952347 = K.of 0 from h)
    revert this; decide
  · rw [sq, show (1 : K) = K.of 1 from rfl, ← K.of_add]
    intro h
    have := K.of_eq.1 (show _ = K.of 0 from h)
    revert this; decide
  · rw [sq]
    unfold kY0
    rw [show (1 : K) = K.of 1 from rfl, ← K.of_add, ← K.of_mul, ← K.of_sub, K.of_eq]
    decide
  · rw [sq]
    unfold kD
    rw [show (1 : K) = K.of 1 from rfl, ← K.of_add, ← K.of_sub, ← K.of_pow, ← K.of_pow, ← K.of_mul, ← K.of_neg, ← K.of_sub]
    intro h
    have := K.of_eq.1 (show _ = K.of 0 from h)
    revert this; decide
  · rw [sq]
    unfold kD kX0
    rw [show (1 : K) = K.of 1 from rfl, show (4 : K) = K.of 4 from rfl, ← K.of_add, ← K.of_sub, ← K.of_pow, ← K.of_pow, ← K.of_pow, ← K.of_mul, ← K.of_neg, ← K.of_sub, ← K.of_mul, ← K.of_mul, K.of_eq]
    decide
theorem base_rel : Rel kB.1 kB.2 kX0 kY0 := by
  refine .inr (.inl ⟨?_, ?_⟩)
  · show K.of _ = _
    unfold kY0 kI
    rw [← K.of_mul, K.of_eq]
    decide
  · show K.of _ = _
    unfold kX0 kI
    rw [← K.of_mul, K.of_eq]
    decide
theorem eB_nz : ¬ Eqv eB 0 := fun h => by
  rw [eqv_iff, E.ns_z] at h
  have := ord_B h
  revert this
  decide
theorem base_E : RepE (curve_Base.1, curve_Base.2.1, curve_Base.2.2.1, curve_Base.2.2.2) eB := base_all
abbrev sL : List Int := [1896013492056802, 189344448319017, 52284272493571, 944785141617333, 2079008414258586]
theorem alive_k (N : Nat) (hN : N = 300) : veillaw05_alive N = some true := by
  subst hN
  obtain ⟨x, y, h1, cx, cy, ex, ey⟩ := base_E.affine
  have ex' : kv x = kB.1 := ex
  have ey' : kv y = kB.2 := ey
  obtain ⟨q, hq⟩ := ev_B
  obtain ⟨s, X, Y, h2, cs, st, rel⟩ := pencode (q := q) h1 cx cy (by rw [ex', ey']; exact kB_on) (by rw [ey']; exact hq)
  rw [ex', ey'] at rel
  have hs : kv s = kS := (st.uniq base_stands (base_rel.back.trans rel)).1
  have cl : Can sL := ⟨_, _, _, _, _, rfl, by decide, by decide, by decide, by decide, by decide, by decide⟩
  have : s = sL := can_k cs cl (by rw [hs]; unfold kS kv; rw [K.of_eq]; decide)
  subst this
  have e : field_Elem_Encode sL = [226, 242, 174, 10, 106, 188, 78, 113, 168, 132, 169, 97, 197, 0, 81, 95, 88, 227, 11, 106, 165, 130, 221, 141, 182, 166, 89, 69, 224, 141, 45, 118] := by kernel_rfl
  rw [e] at h2
  obtain ⟨c, h3, e3⟩ := gsame base_E repE_zero
  have c0 : c = false := no e3 eB_nz
  subst c0
  have h2' : group_Point_Encode 300 (group_Base.1, group_Base.2.1, group_Base.2.2.1, group_Base.2.2.2) = some [226, 242, 174, 10, 106, 188, 78, 113, 168, 132, 169, 97, 197, 0, 81, 95, 88, 227, 11, 106, 165, 130, 221, 141, 182, 166, 89, 69, 224, 141, 45, 118] := h2
  have h3' : group_Point_Same (group_Base.1, group_Base.2.1, group_Base.2.2.1, group_Base.2.2.2) ([0, 0, 0, 0, 0], [0, 0, 0, 0, 0], [0, 0, 0, 0, 0], [0, 0, 0, 0, 0]) = some false := h3
  unfold veillaw05_alive
  simp only [h2', mo, decide_true, cond_true, h3', Bool.not_false]

theorem beq_iff {a b : Bool} {p : Prop} (h : a = true ↔ p) (g : b = true ↔ p) : (a == b) = true := by
  cases a <;> cases b <;> simp_all
theorem iszero_sc {a : List Int} (ha : U4 a) : ∃ c, scalar_Scalar_IsZero a = some c ∧ (c = true ↔ sc a = 0) := by
  obtain ⟨r, h, k⟩ := sleast' ha
  refine ⟨_, by unfold scalar_Scalar_IsZero; simp only [h, mo]; rfl, ?_⟩
  rw [decide_eq_true_eq]
  exact k.iff lm_zero
theorem same_sc {a b : List Int} (ha : U4 a) (hb : U4 b) : ∃ c, scalar_Scalar_Same a b = some c ∧ (c = true ↔ sc a = sc b) := by
  obtain ⟨r, h, k⟩ := sleast' ha
  obtain ⟨s, g, l⟩ := sleast' hb
  refine ⟨_, by unfold scalar_Scalar_Same; simp only [h, g, mo]; rfl, ?_⟩
  rw [decide_eq_true_eq]
  exact k.iff l
theorem lm_one : Lm (scalar_Int 1) 1 := ⟨⟨_, _, _, _, rfl, ⟨by decide, by decide⟩, ⟨by decide, by decide⟩, ⟨by decide, by decide⟩, ⟨by decide, by decide⟩⟩, rfl, by decide⟩

/-- GroupLaws. -/
theorem glaws_N (N : Nat) (hN : N = 300) (a b c d e : List Int) (ha : a.length = 64 ∧ Bs a) (hb : b.length = 64 ∧ Bs b) (hc : c.length = 64 ∧ Bs c) (hd : U4 d) (he : U4 e) : veillaw05_GroupLaws N a b c d e = some true := by
  have h65 : 65 ≤ N := by omega
  have h1 := alive_k N hN
  obtain ⟨p1, p2, p3, p4, p, h2, rp, vp⟩ := map_E N hN ha.1 ha.2
  obtain ⟨q1, q2, q3, q4, q, h3, rq, vq⟩ := map_E N hN hb.1 hb.2
  obtain ⟨r1, r2, r3, r4, r, h4, rr, vr⟩ := map_E N hN hc.1 hc.2
  obtain ⟨a1, a2, a3, a4, h5, r5⟩ := gadd rp rq
  obtain ⟨b1, b2, b3, b4, h6, r6⟩ := gadd rq rp
  have k7 := gyes r5 r6 (.of_eq (E.add_comm p q))
  obtain ⟨c1, c2, c3, c4, h9, r9⟩ := gadd r5 rr
  obtain ⟨d1, d2, d3, d4, h10, r10⟩ := gadd rq rr
  obtain ⟨e1, e2, e3, e4, h11, r11⟩ := gadd rp r10
  have k12 := gyes r9 r11 (.of_eq (E.add_assoc p q r))
  obtain ⟨f1, f2, f3, f4, h13, r13⟩ := gadd rp repE_zero
  have k14 := gyes r13 rp (.of_eq (E.add_zero p))
  obtain ⟨g1, g2, g3, g4, h15, r15⟩ := gadd repE_zero rp
  have k16 := gyes r15 rp (.of_eq (E.zero_add p))
  obtain ⟨i1, i2, i3, i4, h17, r17⟩ := gadd rp (gneg rp)
  have h17' : group_Point_Add (p1, p2, p3, p4) ((group_Point_Neg (p1, p2, p3, p4)).1, (group_Point_Neg (p1, p2, p3, p4)).2.1, (group_Point_Neg (p1, p2, p3, p4)).2.2.1, (group_Point_Neg (p1, p2, p3, p4)).2.2.2) = some (i1, i2, i3, i4) := h17
  have k18 := gyes r17 repE_zero (.of_eq (E.add_neg p))
  obtain ⟨j1, j2, j3, j4, h19, r19⟩ := gdbl rp
  obtain ⟨l1, l2, l3, l4, h20, r20⟩ := gadd rp rp
  have k21 := gyes r19 r20 (.of_eq rfl)
  -- multiples
  obtain ⟨m1, m2, m3, m4, X, h22, r22, q22, v22⟩ := gtimes N h65 rp vp hd
  obtain ⟨n1, n2, n3, n4, Y, h23, r23, q23, v23⟩ := gtimes N h65 rp vp he
  obtain ⟨o1, o2, o3, o4, h24, r24⟩ := gadd r22 r23
  obtain ⟨sm, h25, s25⟩ := sadd_k hd he
  obtain ⟨s1, s2, s3, s4, Z, h26, r26, q26, v26⟩ := gtimes N h65 rp vp s25.u
  rw [s25.sc] at q26
  have k27 := gyes r24 r26 (by
    refine (q22.add q23).trans ?_
    rw [← E.ns_add]
    exact (eqv_mod vp (Nat.mod_mod _ _).symm).trans q26.symm)
  obtain ⟨t1, t2, t3, t4, W, h29, r29, q29, v29⟩ := gtimes N h65 r22 v22 he
  obtain ⟨pm, h30, s30⟩ := smul_k N (by omega) hd he
  obtain ⟨u1, u2, u3, u4, V, h31, r31, q31, v31⟩ := gtimes N h65 rp vp s30.u
  rw [s30.sc] at q31
  have k32 := gyes r29 r31 (by
    refine q29.trans ((q22.ns _).trans ?_)
    rw [← E.ns_mul, Nat.mul_comm]
    exact (eqv_mod vp (Nat.mod_mod _ _).symm).trans q31.symm)
  obtain ⟨v1, v2, v3, v4', P, h34, r34, q34, v34⟩ := gtimes N h65 r5 (ev_add vp vq) hd
  obtain ⟨w1, w2, w3, w4, Q, h36, r36, q36, v36⟩ := gtimes N h65 rq vq hd
  obtain ⟨x1, x2, x3, x4, h37, r37⟩ := gadd r22 r36
  have k38 := gyes r34 r37 (by
    refine q34.trans ?_
    rw [E.ns_sum]
    exact (q22.add q36).symm)
  obtain ⟨y1, y2, y3, y4, O, h39, r39, q39, v39⟩ := gtimes N h65 rp vp lm_one.u
  rw [lm_one.sc, E.ns_one] at q39
  have k40 := gyes r39 rp q39
  obtain ⟨mi, h41, s41⟩ := sneg_k lm_one.u
  rw [lm_one.sc] at s41
  obtain ⟨z1, z2, z3, z4, M, h42, r42, q42, v42⟩ := gtimes N h65 rp vp s41.u
  rw [s41.sc] at q42
  have k43 := gyes r42 (gneg rp) (by
    have := eqv_opp vp (m := 1) (k := (ordl - 1) % ordl) (by decide)
    rw [E.ns_one] at this
    exact q42.trans this.symm)
  have k43' : group_Point_Same (z1, z2, z3, z4) ((group_Point_Neg (p1, p2, p3, p4)).1, (group_Point_Neg (p1, p2, p3, p4)).2.1, (group_Point_Neg (p1, p2, p3, p4)).2.2.1, (group_Point_Neg (p1, p2, p3, p4)).2.2.2) = some true := k43
  -- sums
  obtain ⟨A1, A2, A3, A4, H1, R1⟩ := gadd r15 rq
  obtain ⟨B1, B2, B3, B4, H2, R2⟩ := gadd R1 rr
  obtain ⟨C1, C2, C3, C4, H3, R3⟩ := gadd R2 rp
  have h44 : group_Sum_4 (((p1, p2, p3, p4), (q1, q2, q3, q4), (r1, r2, r3, r4), (p1, p2, p3, p4)), ()) = some (C1, C2, C3, C4) := by
    unfold group_Sum_4
    simp only [h15, H1, H2, H3, mo]
  obtain ⟨D1, D2, D3, D4, h46, r46⟩ := gadd rq r19
  obtain ⟨E1, E2, E3, E4, h47, r47⟩ := gadd r46 rr
  have k48 := gyes R3 r47 (.of_eq (by rw [E.zero_add]; ac_rfl))
  have k49 : group_Point_Same ((group_Sum_nil ()).1, (group_Sum_nil ()).2.1, (group_Sum_nil ()).2.2.1, (group_Sum_nil ()).2.2.2) ([0, 0, 0, 0, 0], [0, 0, 0, 0, 0], [0, 0, 0, 0, 0], [0, 0, 0, 0, 0]) = some true := gyes repE_zero repE_zero (.of_eq rfl)
  obtain ⟨c50, h50, e50⟩ := gsame rp repE_zero
  obtain ⟨c52, h52, e52⟩ := gsame r22 repE_zero
  obtain ⟨c53, h53, e53⟩ := iszero_sc hd
  obtain ⟨c56, h56, e56⟩ := gsame r22 r23
  obtain ⟨c57, h57, e57⟩ := same_sc hd he
  unfold veillaw05_GroupLaws
  simp only [h1, mo, Bool.not_true, cond_false, cond_true, h2, h3, h4, h5, h6, k7, h9, h10, h11, k12, h13, k14, h15, k16, h17', k18, h19, h20, k21, h22, h23, h24, h25, h26, k27, h29, h30, h31, k32, h34, h36, h37, k38, h39, k40, h41, h42, k43', h44, h46, h47, k48, k49, h50]
  cases hc50 : c50 with
  | true => simp only [cond_true]
  | false =>
    have nz : ¬ Eqv p 0 := fun h => by
      have := e50.2 h
      rw [hc50] at this
      cases this
    have e52' : c52 = true ↔ sc d = 0 := by
      rw [e52, ← eqv_zero vp nz (sc_lt d)]
      exact ⟨fun h => q22.symm.trans h, fun h => q22.trans h⟩
    have e56' : c56 = true ↔ sc d = sc e := by
      rw [e56, ← eqv_inj vp nz (sc_lt d) (sc_lt e)]
      exact ⟨fun h => q22.symm.trans (h.trans q23), fun h => q22.trans (h.trans q23.symm)⟩
    simp only [cond_false, h52, h53, mo, beq_iff e52' e53, cond_true, h56, h57, beq_iff e56' e57]
theorem glaws_row (a b c d e : List Int) (ha : a.length = 64 ∧ Bs a) (hb : b.length = 64 ∧ Bs b) (hc : c.length = 64 ∧ Bs c) (hd : d.length = 4 ∧ ∀ x ∈ d, IntKind.u64.min ≤ x ∧ x ≤ IntKind.u64.max) (he : e.length = 4 ∧ ∀ x ∈ e, IntKind.u64.min ≤ x ∧ x ≤ IntKind.u64.max) : veillaw05_GroupLaws 300 a b c d e = some true := glaws_N 300 rfl a b c d e ha hb hc (u4_of hd) (u4_of he)

end Go.Vx

/- Numbers, part M24: encodings, decodings and FromCurve by the curve's points. -/
set_option autoImplicit false
set_option linter.unusedSimpArgs false
namespace Go.Vx
open Go

theorem enc_E {p1 p2 p3 p4 : List Int} {a : E} (h : RepE (p1, p2, p3, p4) a) (ev : Ev a) : ∃ s X Y, group_Point_Encode 300 (p1, p2, p3, p4) = some (field_Elem_Encode s) ∧ Can s ∧ Stands (kv s) X Y ∧ Rel a.p.1 a.p.2 X Y := by
  obtain ⟨x, y, k1, k2, k3, k4, k5⟩ := Rep.affine h
  obtain ⟨q, hq⟩ := ev
  have on : a.p.2 ^ 2 - a.p.1 ^ 2 = 1 + kD * a.p.1 ^ 2 * a.p.2 ^ 2 := a.on
  have := pencode k1 k2 k3 (by rw [k4, k5]; exact on) (by rw [k5]; exact hq)
  rw [k4, k5] at this
  exact this

/-- One encoding for each element. -/
theorem enc_iff {p1 p2 p3 p4 q1 q2 q3 q4 : List Int} {a b : E} (h : RepE (p1, p2, p3, p4) a) (g : RepE (q1, q2, q3, q4) b) (ea : Ev a) (eb : Ev b) :
    ∃ c d, group_Point_Encode 300 (p1, p2, p3, p4) = some c ∧ group_Point_Encode 300 (q1, q2, q3, q4) = some d ∧ L32 c ∧ L32 d ∧ (c = d ↔ Eqv a b) := by
  obtain ⟨s, X, Y, k1, k2, k3, k4⟩ := enc_E h ea
  obtain ⟨t, u, v, g1, g2, g3, g4⟩ := enc_E g eb
  have ds := dec_enc k2
  have dt := dec_enc g2
  refine ⟨_, _, k1, g1, ds.1, dt.1, fun e => ?_, fun e => ?_⟩
  · have est : s = t := by
      have e1 := ds.2.1
      rw [e, dt.2.1] at e1
      exact (Prod.mk.inj e1).1.symm
    subst est
    obtain ⟨e1, e2⟩ := k3.same g3
    rw [e1, e2] at k4
    exact eqv_rel.2 (k4.trans g4.back)
  · have r := eqv_rel.1 e
    have r2 : Rel u v X Y := (g4.back.trans r.back).trans k4
    rw [can_k k2 g2 (k3.uniq g3 r2).1]

/-- The reading of any bytes. -/
theorem dec_E {b : List Int} (hb : L32 b) (p : P4) :
    (∃ x y t a, group_Point_Decode 300 p b = some ((x, y, o5, t), 0) ∧ RepE (x, y, o5, t) a ∧ Ev a ∧ group_Point_Encode 300 (x, y, o5, t) = some b) ∨
    (∃ e, group_Point_Decode 300 p b = some ((z5, z5, z5, z5), e) ∧ (e = 3 ∨ e = 50)) := by
  rcases decode_spec hb with ⟨h1, h2, h3, h4⟩ | ⟨h1, h2⟩
  · have hpair : field_Decode b = ((field_Decode b).1, 0) := by rw [← h2]
    have hs := h3
    generalize (field_Decode b).1 = s at *
    by_cases ev : (kv s).ev
    · rcases pdecode p hpair hs ev with ⟨x, y, t, k1, k2, k3, k4, k5, k6⟩ | ⟨k1, k2⟩
      · left
        have even : Even (kv y) := by
          refine ⟨2 * kv s * K.inv (1 + kv s ^ 2), ?_⟩
          exact ell_even rfl (K.inv_mul k6.w0) k6.yw
        refine ⟨x, y, t, ⟨(kv x, kv y), k6.on⟩, k1, rep_one k2 k3 k4 k5, even, ?_⟩
        obtain ⟨q, hq⟩ := even
        obtain ⟨s', X, Y, f1, f2, f3, f4⟩ := pencode (p1 := x) (p2 := y) (p3 := o5) (p4 := t) (affine_one k2 k3) k2 k3 k6.on hq
        have : s' = s := can_k f2 hs ((f3.uniq k6 f4).1)
        rw [f1, this]
        have e := encode_spec hs.L5
        refine congrArg some (e.1.inj hb ?_)
        rw [e.2, h4, Int.emod_eq_of_lt (by omega) h1]
      · exact .inr ⟨50, k1, .inr rfl⟩
    · right
      refine ⟨3, ?_, .inl rfl⟩
      unfold group_Point_Decode
      simp only [hpair, show icmp .neq 0 0 = false from rfl, cond_false, (neg_ev hs).2 ev, cond_true]
  · right
    refine ⟨3, ?_, .inl rfl⟩
    unfold group_Point_Decode
    simp only [h2, show icmp .neq 3 0 = true from rfl, cond_true]

/-- What is written is read back. -/
theorem enc_dec {p1 p2 p3 p4 : List Int} {a : E} (h : RepE (p1, p2, p3, p4) a) (ev : Ev a) (p : P4) : ∃ c x y t b, group_Point_Encode 300 (p1, p2, p3, p4) = some c ∧ L32 c ∧ group_Point_Decode 300 p c = some ((x, y, o5, t), 0) ∧ RepE (x, y, o5, t) b ∧ Ev b ∧ Eqv b a ∧ group_Point_Encode 300 (x, y, o5, t) = some c := by
  obtain ⟨s, X, Y, k1, k2, k3, k4⟩ := enc_E h ev
  obtain ⟨d1, d2, -⟩ := dec_enc k2
  rcases dec_E d1 p with ⟨x, y, t, b, g1, g2, g3, g4⟩ | ⟨e, g1, g2⟩
  · obtain ⟨c, d, m1, m2, -, -, m3⟩ := enc_iff h g2 ev g3
    rw [k1] at m1
    rw [g4] at m2
    exact ⟨_, x, y, t, b, k1, d1, g1, g2, g3, (m3.1 ((Option.some.inj m1).symm.trans (Option.some.inj m2))).symm, g4⟩
  · exfalso
    rcases pdecode p d2 k2 k3.s_ev with ⟨x, y, t, f1, -⟩ | ⟨-, f2⟩
    · rw [g1] at f1
      have := (Prod.mk.inj (Option.some.inj f1)).2
      omega
    · exact f2 _ _ k3

theorem from_ok (N : Nat) (hN : 65 ≤ N) {x : P4} {a : E} (h : RepE x a) (h4 : (4 * ordl) • a = 0) : group_FromCurve N x = some (x, 0) := by
  obtain ⟨u, k1, k2⟩ := repE_dbl h
  obtain ⟨v, k3, k4⟩ := repE_dbl k2
  obtain ⟨c, k5, k6⟩ := repE_free N hN k4
  obtain ⟨x1, x2, x3, x4⟩ := x
  obtain ⟨u1, u2, u3, u4⟩ := u
  obtain ⟨v1, v2, v3, v4⟩ := v
  have hc : c = true := k6.2 (by rw [four, ← E.ns_mul, Nat.mul_comm]; exact h4)
  unfold group_FromCurve
  simp only [k1, k3, k5, hc, mo, Bool.not_true, cond_false]
theorem from_no (N : Nat) (hN : 65 ≤ N) {x : P4} {a : E} (h : RepE x a) (h4 : (4 * ordl) • a ≠ 0) : group_FromCurve N x = some ((z5, z5, z5, z5), 50) := by
  obtain ⟨u, k1, k2⟩ := repE_dbl h
  obtain ⟨v, k3, k4⟩ := repE_dbl k2
  obtain ⟨c, k5, k6⟩ := repE_free N hN k4
  obtain ⟨x1, x2, x3, x4⟩ := x
  obtain ⟨u1, u2, u3, u4⟩ := u
  obtain ⟨v1, v2, v3, v4⟩ := v
  have hc : c = false := Bool.eq_false_iff.2 fun e => h4 (by rw [Nat.mul_comm, E.ns_mul, ← four]; exact k6.1 e)
  unfold group_FromCurve
  simp only [k1, k3, k5, hc, mo, Bool.not_false, cond_true]

/-- The points of a coset. -/
def cp (a : E) (k : Nat) : E := a + (2 * k) • eT
theorem cp_eqv (a : E) (k : Nat) : Eqv (cp a k) a := by
  show (4 : Nat) • (a + (2 * k) • eT + -a) = 0
  rw [E.add_comm a, E.add_assoc, E.add_neg, E.add_zero, ← E.ns_mul, show 4 * (2 * k) = k * 8 by omega, E.ns_mul, T8, E.ns_z]
theorem eT_4l : (4 * ordl) • eT ≠ 0 := fun h => by
  rw [E.ns_mod T8] at h
  exact T4 (by rw [← h]; rfl)
theorem cp_4l {a : E} (h : (4 * ordl) • a = 0) (k : Nat) : (4 * ordl) • cp a k = 0 := by
  unfold cp
  rw [E.ns_sum, h, E.zero_add, ← E.ns_mul, show 4 * ordl * (2 * k) = ordl * k * 8 by simp only [Nat.mul_assoc, Nat.mul_comm, Nat.mul_left_comm], E.ns_mul, T8, E.ns_z]
theorem cp_odd {a : E} (h : (4 * ordl) • a = 0) (k i : Nat) : (4 * ordl) • (cp a k + (2 * i + 1) • eT) ≠ 0 := fun h0 => by
  rw [E.ns_sum, cp_4l h, E.zero_add, ← E.ns_mul, Nat.mul_add, Nat.mul_one, E.ns_add, show 4 * ordl * (2 * i) = ordl * i * 8 by simp only [Nat.mul_assoc, Nat.mul_comm, Nat.mul_left_comm], E.ns_mul, T8, E.ns_z, E.zero_add] at h0
  exact eT_4l h0
theorem cp_inj {a : E} {j k : Nat} (hj : j < 4) (hk : k < 4) (h : cp a j = cp a k) : j = k := by
  have h1 := E.cancel h
  have key : ∀ j k : Nat, j < 4 → k < 4 → k ≤ j → (2 * j) • eT = (2 * k) • eT → j = k := by
    intro j k hj hk hle h
    have := eq_of_sub h (by omega)
    have := ord_T this
    omega
  rcases Nat.le_total k j with h | h
  · exact key j k hj hk h h1
  · exact (key k j hk hj h h1.symm).symm
theorem ev_cp {a : E} (h : Ev a) (k : Nat) : Ev (cp a k) := by
  refine ev_add h ?_
  rw [Nat.mul_comm, E.ns_mul]
  refine ev_ns ?_ k
  have h2 : ((2 : Nat) • eT).p.2 = 0 := by rw [← tor_ns 2 (by decide)]; rfl
  show Even ((2 : Nat) • eT).p.2
  rw [h2]
  exact ⟨1, by grind⟩

end Go.Vx

/- Numbers, part M25: the points of a coset in the order of their bytes. -/
set_option autoImplicit false
set_option linter.unusedSimpArgs false
namespace Go.Vx
open Go

theorem comp_uniq {x y : P4} {a : E} (h : RepE x a) (g : RepE y a) : ∃ c, curve_Point_Compress 300 x = some c ∧ curve_Point_Compress 300 y = some c := by
  obtain ⟨xl, yl, k1, k2, k3, k4, k5⟩ := Rep.affine h
  obtain ⟨xm, ym, g1, g2, g3, g4, g5⟩ := Rep.affine g
  obtain rfl : xl = xm := can_k k2 g2 (k4.trans g4.symm)
  obtain rfl : yl = ym := can_k k3 g3 (k5.trans g5.symm)
  obtain ⟨c, c1, -, -, -, c2, c3⟩ := comp_k k1 k2 k3
  obtain ⟨d, d1, -, -, -, d2, d3⟩ := comp_k g1 g2 g3
  refine ⟨c, c1, ?_⟩
  rw [d1]
  by_cases ev : (kv xl).ev
  · rw [c2 ev, d2 ev]
  · rw [c3 ev, d3 ev]

open Classical in
/-- A point's bytes. -/
noncomputable def keyE (a : E) : List Int := if h : ∃ x : P4, RepE x a then (curve_Point_Compress 300 h.choose).getD [] else []
theorem keyE_spec {x : P4} {a : E} (h : RepE x a) : curve_Point_Compress 300 x = some (keyE a) := by
  have hx : ∃ x : P4, RepE x a := ⟨x, h⟩
  obtain ⟨c, c1, c2⟩ := comp_uniq h hx.choose_spec
  unfold keyE
  rw [dif_pos hx, c2, c1]
  rfl
theorem keyE_inj {x y : P4} {a b : E} (h : RepE x a) (g : RepE y b) (e : keyE a = keyE b) : a = b := by
  have h1 := keyE_spec h
  have h2 := keyE_spec g
  obtain ⟨xl, yl, k1, k2, k3, k4, k5⟩ := Rep.affine h
  obtain ⟨xm, ym, g1, g2, g3, g4, g5⟩ := Rep.affine g
  obtain ⟨c, c1, -, c2, c3, -⟩ := comp_k k1 k2 k3
  obtain ⟨d, d1, -, d2, d3, -⟩ := comp_k g1 g2 g3
  have hcd : c = d := by
    rw [h1] at c1
    rw [h2] at d1
    rw [← Option.some.inj c1, ← Option.some.inj d1, e]
  subst hcd
  have hy : yl = ym := by
    have e1 := (dec_enc k3).2.1
    rw [← c2, d2, (dec_enc g3).2.1] at e1
    exact (Prod.mk.inj e1).1.symm
  have hev : (kv xl).ev ↔ (kv xm).ev := by
    have hn : ¬ (kv xl).ev ↔ ¬ (kv xm).ev := c3.symm.trans d3
    exact ⟨fun q => Classical.byContradiction fun h => hn.2 h q, fun q => Classical.byContradiction fun h => hn.1 h q⟩
  subst hy
  have ha := on_x.1 (show On a.p.1 a.p.2 from a.on)
  have hb := on_x.1 (show On b.p.1 b.p.2 from b.on)
  have ey : a.p.2 = b.p.2 := k5.symm.trans g5
  rw [← ey] at hb
  have hsq : a.p.1 ^ 2 = b.p.1 ^ 2 := K.cancel (den_ne a.p.2) (ha.trans hb.symm)
  rw [k4, g4] at hev
  refine E.ext (Prod.ext ?_ ey)
  by_cases ev : a.p.1.ev
  · exact K.ev_root ev (hev.1 ev) hsq
  · have na : a.p.1 ≠ 0 := fun h => ev (by rw [h]; exact K.ev_zero)
    have nb : b.p.1 ≠ 0 := fun h => ev (hev.2 (by rw [h]; exact K.ev_zero))
    have := K.ev_root ((K.ev_neg na).2 ev) ((K.ev_neg nb).2 fun h => ev (hev.2 h)) (by
      generalize a.p.1 = u at *
      generalize b.p.1 = v at *
      grind)
    generalize a.p.1 = u at *
    generalize b.p.1 = v at *
    grind

theorem less_k {x y : P4} {a b : E} (h : RepE x a) (g : RepE y b) : group_Point_Coset_1 300 (x.1, x.2.1, x.2.2.1, x.2.2.2) (y.1, y.2.1, y.2.2.1, y.2.2.2) = some (cmpI (keyE a) (keyE b)) := by
  unfold group_Point_Coset_1
  have h1 : curve_Point_Compress 300 (x.1, x.2.1, x.2.2.1, x.2.2.2) = some (keyE a) := keyE_spec h
  have h2 : curve_Point_Compress 300 (y.1, y.2.1, y.2.2.1, y.2.2.2) = some (keyE b) := keyE_spec g
  simp only [h1, h2, mo]
  rfl

/-- The four points, in order. -/
structure Cos (a : E) (q0 q1 q2 q3 : P4) (i j k l : Nat) : Prop where
  perm : [i, j, k, l].Perm [0, 1, 2, 3]
  r0 : RepE q0 (cp a i)
  r1 : RepE q1 (cp a j)
  r2 : RepE q2 (cp a k)
  r3 : RepE q3 (cp a l)
  o : [keyE (cp a i), keyE (cp a j), keyE (cp a k), keyE (cp a l)].Pairwise leI

theorem coset_N (N : Nat) (hN : N = 300) {x : P4} {a : E} (h : RepE x a) : ∃ q0 q1 q2 q3 i j k l, group_Point_Coset N x = some (q0, q1, q2, q3) ∧ Cos a q0 q1 q2 q3 i j k l := by
  have tor : ∀ k : Nat, k < 4 → ∃ r q, curve_Torsion ((2 * k : Nat) : Int) = some r ∧ curve_Point_Add x r = some q ∧ RepE q (cp a k) := by
    intro k hk
    obtain ⟨u, v, z, t, k1, k2⟩ := tor_nat (k := 2 * k) (by omega)
    obtain ⟨q, k3, k4⟩ := repE_add h k2
    exact ⟨_, q, k1, k3, k4⟩
  obtain ⟨u0, f0, t0, s0, p0⟩ := tor 0 (by decide)
  obtain ⟨u1, f1, t1, s1, p1⟩ := tor 1 (by decide)
  obtain ⟨u2, f2, t2, s2, p2⟩ := tor 2 (by decide)
  obtain ⟨u3, f3, t3, s3, p3⟩ := tor 3 (by decide)
  let f : Nat → P4 := fun n => match n with
    | 0 => f0
    | 1 => f1
    | 2 => f2
    | _ => f3
  let B : Nat → Nat → Bool := fun i j => icmp .lss (cmpI (keyE (cp a i)) (keyE (cp a j))) 0
  obtain ⟨i, j, k, l, hp, hs, b1, b2, b3⟩ := sortT_sorts f B fun i j => lss_asym
  have hf : ∀ n, n < 4 → RepE (f n) (cp a n) := by
    intro n hn
    match n, hn with
    | 0, _ => exact p0
    | 1, _ => exact p1
    | 2, _ => exact p2
    | 3, _ => exact p3
  have hm : ∀ n, n ∈ [i, j, k, l] → n < 4 := by
    intro n hn
    have := hp.subset hn
    simp only [List.mem_cons, List.not_mem_nil, or_false] at this
    omega
  refine ⟨f i, f j, f k, f l, i, j, k, l, ?_, hp, hf i (hm i (by simp)), hf j (hm j (by simp)), hf k (hm k (by simp)), hf l (hm l (by simp)), pair4 (leI_of b1) (leI_of b2) (leI_of b3)⟩
  rw [← hs]
  have c10 := less_k p1 p0
  have c20 := less_k p2 p0
  have c21 := less_k p2 p1
  have c30 := less_k p3 p0
  have c31 := less_k p3 p1
  have c32 := less_k p3 p2
  rw [← hN] at c10 c20 c21 c30 c31 c32
  have e0 : curve_Torsion 0 = some u0 := t0
  have e1 : curve_Torsion 2 = some u1 := t1
  have e2 : curve_Torsion 4 = some u2 := t2
  have e3 : curve_Torsion 6 = some u3 := t3
  have g0 : curve_Point_Add (x.1, x.2.1, x.2.2.1, x.2.2.2) (u0.1, u0.2.1, u0.2.2.1, u0.2.2.2) = some f0 := s0
  have g1 : curve_Point_Add (x.1, x.2.1, x.2.2.1, x.2.2.2) (u1.1, u1.2.1, u1.2.2.1, u1.2.2.2) = some f1 := s1
  have g2 : curve_Point_Add (x.1, x.2.1, x.2.2.1, x.2.2.2) (u2.1, u2.2.1, u2.2.2.1, u2.2.2.2) = some f2 := s2
  have g3 : curve_Point_Add (x.1, x.2.1, x.2.2.1, x.2.2.2) (u3.1, u3.2.1, u3.2.2.1, u3.2.2.2) = some f3 := s3
  unfold group_Point_Coset
  simp only [e0, e1, e2, e3, g0, g1, g2, g3, mo, c10, c20, c21, c30, c31, c32]
  rfl

end Go.Vx

/- Numbers, part M26: GroupLimbs. -/
set_option autoImplicit false
set_option linter.unusedSimpArgs false
namespace Go.Vx
open Go

theorem HalfK.turn {T U X Y R V S s c : K} {ok : Bool} (h : HalfK T X Y R V S ok s c) (e : T ^ 2 = U ^ 2) : HalfK U X Y R V S ok s c := by
  refine ⟨by rw [h.r, e], h.v, h.sr, h.yes, fun hk => ?_, h.x, h.y⟩
  obtain ⟨⟨w, w1, w2, w3⟩, hc⟩ := h.no hk
  refine ⟨⟨w, w1, ?_, w3⟩, hc⟩
  rw [w2]
  have : (S * T) ^ 2 = S ^ 2 * T ^ 2 := by grind
  rw [this, e]
  grind
theorem half_same (N : Nat) (hN : N = 300) {a b : List Int} (ha : L5 a) (hb : L5 b) (e : kv a ^ 2 = kv b ^ 2) : ∃ u1 u2 u3 u4 v1 v2 v3 v4 c, group_MapHalf N a = some (u1, u2, u3, u4) ∧ group_MapHalf N b = some (v1, v2, v3, v4) ∧
    group_Point_Encode N (u1, u2, u3, u4) = some c ∧ group_Point_Encode N (v1, v2, v3, v4) = some c := by
  subst hN
  obtain ⟨x, y, t, R, V, S, ok, s, c, h1, h2, h3, h4, h5, h6⟩ := phalf ha
  obtain ⟨x', y', t', R', V', S', ok', s', c', g1, g2, g3, g4, g5, g6⟩ := phalf hb
  obtain ⟨on, ev⟩ := h6.on
  obtain ⟨on', ev'⟩ := g6.on
  obtain ⟨e1, e2⟩ := (h6.turn e).uniq g6
  obtain ⟨c1, c2, k1, k2, -, -, k3⟩ := enc_iff (a := ⟨(kv x, kv y), on⟩) (b := ⟨(kv x', kv y'), on'⟩) (rep_one h2 h3 h4 h5) (rep_one g2 g3 g4 g5) ev ev'
  obtain rfl := k3.2 (.of_eq (E.ext (Prod.ext e1 e2)))
  exact ⟨_, _, _, _, _, _, _, _, _, h1, g1, k1, k2⟩

theorem and3 {a : Int} (h : -9223372036854775808 ≤ a ∧ a ≤ 9223372036854775807) : ibin .and .i64 a 3 = a % 4 := by
  show IntKind.wrap .i64 ((BitVec.ofInt 64 a &&& BitVec.ofInt 64 3).toNat : Int) = _
  have : (BitVec.ofInt 64 a &&& BitVec.ofInt 64 3).toNat = (a % 18446744073709551616).toNat % 4 := by
    rw [BitVec.toNat_and, BitVec.toNat_ofInt, show (BitVec.ofInt 64 3).toNat = 2 ^ 2 - 1 from rfl, Nat.and_two_pow_sub_one_eq_mod]
    rfl
  rw [this]
  have e := Ref.wrapi (n := (((a % 18446744073709551616).toNat % 4 : Nat) : Int)) (by omega) (by omega)
  rw [e]
  omega

theorem sel4 {Q : P4 → Prop} {q0 q1 q2 q3 : P4} (h0 : Q q0) (h1 : Q q1) (h2 : Q q2) (h3 : Q q3) (m : Nat) (hm : m < 4) :
    Q (List.getD [q0.1, q1.1, q2.1, q3.1] m [], List.getD [q0.2.1, q1.2.1, q2.2.1, q3.2.1] m [], List.getD [q0.2.2.1, q1.2.2.1, q2.2.2.1, q3.2.2.1] m [], List.getD [q0.2.2.2, q1.2.2.2, q2.2.2.2, q3.2.2.2] m []) := by
  match m, hm with
  | 0, _ => exact h0
  | 1, _ => exact h1
  | 2, _ => exact h2
  | 3, _ => exact h3

theorem cp_cp (a : E) (m k : Nat) : cp (cp a m) k = cp a ((m + k) % 4) := by
  unfold cp
  rw [E.add_assoc, ← E.ns_add]
  congr 1
  rw [E.ns_mod T8 (2 * m + 2 * k), E.ns_mod T8 (2 * ((m + k) % 4))]
  congr 1
  omega
theorem Cos.lt {a : E} {q0 q1 q2 q3 : P4} {i j k l : Nat} (h : Cos a q0 q1 q2 q3 i j k l) : i < 4 ∧ j < 4 ∧ k < 4 ∧ l < 4 := by
  have hm : ∀ n, n ∈ [i, j, k, l] → n < 4 := by
    intro n hn
    have := h.perm.subset hn
    simp only [List.mem_cons, List.not_mem_nil, or_false] at this
    omega
  exact ⟨hm i (by simp), hm j (by simp), hm k (by simp), hm l (by simp)⟩
theorem perm_rot : (m : Nat) → m < 4 → [(m + 0) % 4, (m + 1) % 4, (m + 2) % 4, (m + 3) % 4].Perm [0, 1, 2, 3]
  | 0, _ => by decide
  | 1, _ => by decide
  | 2, _ => by decide
  | 3, _ => by decide
/-- Two points of one coset have the same four points, in the same order. -/
theorem Cos.same {a : E} {m : Nat} (hm : m < 4) {q0 q1 q2 q3 r0 r1 r2 r3 : P4} {i j k l i' j' k' l' : Nat} (h : Cos a q0 q1 q2 q3 i j k l) (g : Cos (cp a m) r0 r1 r2 r3 i' j' k' l') :
    curve_Point_Same q0 r0 = some true ∧ curve_Point_Same q1 r1 = some true ∧ curve_Point_Same q2 r2 = some true ∧ curve_Point_Same q3 r3 = some true := by
  have p1 := h.perm.map fun n => keyE (cp a n)
  have p2 := g.perm.map fun n => keyE (cp (cp a m) n)
  have p3 : ([0, 1, 2, 3].map fun n => keyE (cp (cp a m) n)).Perm ([0, 1, 2, 3].map fun n => keyE (cp a n)) := by
    have e : ([0, 1, 2, 3].map fun n => keyE (cp (cp a m) n)) = ([(m + 0) % 4, (m + 1) % 4, (m + 2) % 4, (m + 3) % 4].map fun n => keyE (cp a n)) := by
      simp only [List.map_cons, List.map_nil, cp_cp]
    rw [e]
    exact (perm_rot m hm).map fun n => keyE (cp a n)
  have e := keys_eq (p1.trans (p3.symm.trans p2.symm)) h.o g.o
  simp only [List.map_cons, List.map_nil, List.cons.injEq, and_true] at e
  obtain ⟨e0, e1, e2, e3⟩ := e
  exact ⟨same_E h.r0 g.r0 (keyE_inj h.r0 g.r0 e0), same_E h.r1 g.r1 (keyE_inj h.r1 g.r1 e1), same_E h.r2 g.r2 (keyE_inj h.r2 g.r2 e2), same_E h.r3 g.r3 (keyE_inj h.r3 g.r3 e3)⟩

theorem glimbs_N (N : Nat) (hN : N = 300) (a b c : List Int) (d : Int) (ha : L5 a) (hb : U4 b) (hc : c.length = 64 ∧ Bs c) (hd : -9223372036854775808 ≤ d ∧ d ≤ 9223372036854775807) : veillaw05_GroupLimbs N a b c d = some true := by
  have h65 : 65 ≤ N := by omega
  have h1 := alive_k N hN
  obtain ⟨p1, p2, p3, p4, p, h2, rp, vp⟩ := map_E N hN hc.1 hc.2
  obtain ⟨q0, q1, q2, q3, i, j, k, l, h3, C⟩ := coset_N N hN rp
  have hand := and3 hd
  have hd4 : decide (0 ≤ ibin .and .i64 d 3 ∧ ibin .and .i64 d 3 < ((4 : Nat) : Int)) = true := decide_eq_true (by rw [hand]; omega)
  have p4l := ev_4l vp
  obtain ⟨y, m, hm, h4, ry⟩ : ∃ (y : P4) (m : Nat), m < 4 ∧ group_FromCurve N ((List.getD [q0.1, q1.1, q2.1, q3.1] (Int.toNat (ibin .and .i64 d 3)) []), (List.getD [q0.2.1, q1.2.1, q2.2.1, q3.2.1] (Int.toNat (ibin .and .i64 d 3)) []), (List.getD [q0.2.2.1, q1.2.2.1, q2.2.2.1, q3.2.2.1] (Int.toNat (ibin .and .i64 d 3)) []), (List.getD [q0.2.2.2, q1.2.2.2, q2.2.2.2, q3.2.2.2] (Int.toNat (ibin .and .i64 d 3)) [])) = some (y, 0) ∧ RepE y (cp p m) := by
    have L := C.lt
    refine sel4 (Q := fun q => ∃ (y : P4) (m : Nat), m < 4 ∧ group_FromCurve N q = some (y, 0) ∧ RepE y (cp p m)) ?_ ?_ ?_ ?_ _ (by rw [hand]; omega)
    · exact ⟨q0, i, L.1, from_ok N h65 C.r0 (cp_4l p4l i), C.r0⟩
    · exact ⟨q1, j, L.2.1, from_ok N h65 C.r1 (cp_4l p4l j), C.r1⟩
    · exact ⟨q2, k, L.2.2.1, from_ok N h65 C.r2 (cp_4l p4l k), C.r2⟩
    · exact ⟨q3, l, L.2.2.2, from_ok N h65 C.r3 (cp_4l p4l l), C.r3⟩
  obtain ⟨y1, y2, y3, y4⟩ := y
  have vy := ev_cp vp m
  have eqy := cp_eqv p m
  have Le := least_k ha
  obtain ⟨u1, u2, u3, u4, w1, w2, w3, w4, c1, h5, h7, h6, h8⟩ := half_same N hN ha Le.1.L5 (by rw [Le.2])
  have Ne := neg_k ha
  obtain ⟨u1', u2', u3', u4', n1, n2, n3, n4, c2, h9, h11, h10, h12⟩ := half_same N hN ha Ne.1.L5 (by rw [Ne.2]; grind)
  have hu := Option.some.inj (h5.symm.trans h9)
  simp only [Prod.mk.injEq] at hu
  obtain ⟨rfl, rfl, rfl, rfl⟩ := hu
  obtain rfl := Option.some.inj (h6.symm.trans h10)
  obtain ⟨t1, t2, t3, t4, X, h13, r13, e13, v13⟩ := gtimes N h65 rp vp hb
  obtain ⟨lb, h14, s14⟩ := sleast' hb
  obtain ⟨o1, o2, o3, o4, Y, h15, r15, e15, v15⟩ := gtimes N h65 rp vp s14.u
  rw [s14.sc] at e15
  have k16 := gyes r13 r15 (e13.trans e15.symm)
  obtain ⟨m1, m2, m3, m4, Z, h17, r17, e17, v17⟩ := gtimes N h65 ry vy hb
  have k19 := gyes r17 r13 (e17.trans ((eqy.ns _).trans e13.symm))
  obtain ⟨f1, f2, f3, f4, h20, r20⟩ := gadd ry rp
  obtain ⟨g1, g2, g3, g4, h21, r21⟩ := gdbl rp
  have k22 := gyes r20 r21 (eqy.add (.of_eq rfl))
  have k23 : group_Point_Same ((group_Point_Neg (y1, y2, y3, y4)).1, (group_Point_Neg (y1, y2, y3, y4)).2.1, (group_Point_Neg (y1, y2, y3, y4)).2.2.1, (group_Point_Neg (y1, y2, y3, y4)).2.2.2) ((group_Point_Neg (p1, p2, p3, p4)).1, (group_Point_Neg (p1, p2, p3, p4)).2.1, (group_Point_Neg (p1, p2, p3, p4)).2.2.1, (group_Point_Neg (p1, p2, p3, p4)).2.2.2) = some true := gyes (gneg ry) (gneg rp) eqy.neg
  obtain ⟨c3, h24, h25⟩ : ∃ c3, group_Point_Encode N (y1, y2, y3, y4) = some c3 ∧ group_Point_Encode N (p1, p2, p3, p4) = some c3 := by
    subst hN
    obtain ⟨c3, c4, k1, k2, -, -, k3⟩ := enc_iff ry rp vy vp
    exact ⟨c3, k1, by rw [k2, k3.2 eqy]⟩
  obtain ⟨s0, s1, s2, s3, i', j', k', l', h27, D⟩ := coset_N N hN ry
  obtain ⟨k28, k29, k30, k31⟩ := C.same hm D
  unfold veillaw05_GroupLimbs
  simp only [h1, mo, Bool.not_true, cond_false, cond_true, h2, h3, hd4, h4, h5, h6, h7, h8, h9, h10, h11, h12, decide_true, h13, h14, h15, k16, h17, k19, h20, h21, k22, k23, h24, h25, h27, k28, k29, k30, k31]

theorem glimbs_row (a b c : List Int) (d : Int) (ha : a.length = 5 ∧ ∀ x ∈ a, IntKind.u64.min ≤ x ∧ x ≤ IntKind.u64.max) (hb : b.length = 4 ∧ ∀ x ∈ b, IntKind.u64.min ≤ x ∧ x ≤ IntKind.u64.max) (hc : c.length = 64 ∧ ∀ x ∈ c, IntKind.u8.min ≤ x ∧ x ≤ IntKind.u8.max) (hd : IntKind.i64.min ≤ d ∧ d ≤ IntKind.i64.max) : veillaw05_GroupLimbs 300 a b c d = some true :=
  glimbs_N 300 rfl a b c d ha (u4_of hb) hc hd

end Go.Vx

/- Numbers, part M27: GroupOne. -/
set_option autoImplicit false
set_option linter.unusedSimpArgs false
namespace Go.Vx
open Go

abbrev zP : P4 := (z5, z5, z5, z5)
theorem beq_dec {a : Bool} {p : Prop} [Decidable p] (h : a = true ↔ p) : (a == decide p) = true := by
  by_cases hp : p
  · rw [h.2 hp, decide_eq_true hp]; rfl
  · rw [decide_eq_false hp, Bool.eq_false_iff.2 fun e => hp (h.1 e)]; rfl
/-- One of the four points, as the statement asks of it. -/
theorem one_pt (N : Nat) (hN : N = 300) {p q : P4} {a : E} (ev : Ev a) (h : RepE p a) {k : Nat} (g : RepE q (cp a k)) {i : Nat} (hi : i < 4) {c : List Int} (hc : group_Point_Encode N p = some c) :
    group_FromCurve N q = some (q, 0) ∧ group_Point_Same q p = some true ∧ group_Point_Encode N q = some c ∧ ∃ r s, curve_Torsion ((2 * i + 1 : Nat) : Int) = some r ∧ curve_Point_Add q r = some s ∧ group_FromCurve N s = some (zP, 50) := by
  have h65 : 65 ≤ N := by omega
  have h4 := ev_4l ev
  refine ⟨from_ok N h65 g (cp_4l h4 k), gyes g h (cp_eqv a k), ?_, ?_⟩
  · obtain ⟨p1, p2, p3, p4⟩ := p
    obtain ⟨q1, q2, q3, q4⟩ := q
    subst hN
    obtain ⟨c1, c2, k1, k2, -, -, k3⟩ := enc_iff g h (ev_cp ev k) ev
    rw [k1, k3.2 (cp_eqv a k), ← k2, hc]
  · obtain ⟨u, v, z, t, k1, k2⟩ := tor_nat (k := 2 * i + 1) (by omega)
    obtain ⟨s, k3, k4⟩ := repE_add g k2
    exact ⟨_, s, k1, k3, from_no N h65 k4 (cp_odd h4 k i)⟩
/-- Two of the four points. -/
theorem two_pts {q r : P4} {a : E} {j k : Nat} (hj : j < 4) (hk : k < 4) (hne : j ≠ k) (h : RepE q (cp a j)) (g : RepE r (cp a k)) :
    ∃ d e f, curve_Point_Sub q r = some d ∧ curve_Point_Same d zP = some false ∧ curve_Point_Double d = some e ∧ curve_Point_Double e = some f ∧ curve_Point_Same f zP = some true := by
  obtain ⟨d, k1, r1⟩ := repE_sub h g
  obtain ⟨e, k2, r2⟩ := repE_dbl r1
  obtain ⟨f, k3, r3⟩ := repE_dbl r2
  obtain ⟨c, k4, e4⟩ := repE_same r1 repE_zero
  refine ⟨d, e, f, k1, ?_, k2, k3, same_E r3 repE_zero ?_⟩
  · have : c = false := Bool.eq_false_iff.2 fun hc => hne (cp_inj hj hk (by
      have h0 := e4.1 hc
      have := congrArg (· + cp a k) h0
      simp only [E.add_assoc, E.neg_add, E.add_zero, E.zero_add] at this
      exact this))
    rw [k4, this]
  · rw [four]
    exact (cp_eqv a j).trans (cp_eqv a k).symm
theorem enc_k (N : Nat) (hN : N = 300) {p : P4} {a : E} (h : RepE p a) (ev : Ev a) : ∃ c, group_Point_Encode N p = some c ∧ L32 c := by
  subst hN
  obtain ⟨p1, p2, p3, p4⟩ := p
  obtain ⟨c, d, k1, -, k2, -⟩ := enc_iff h h ev ev
  exact ⟨c, k1, k2⟩

theorem gone_N (N : Nat) (hN : N = 300) (a b c d : List Int) (ha : a.length = 64 ∧ Bs a) (hb : b.length = 64 ∧ Bs b) (hc : L32 c) (hd : U4 d) : veillaw05_GroupOne N a b c d = some true := by
  have h65 : 65 ≤ N := by omega
  have h1 := alive_k N hN
  obtain ⟨m1, m2, m3, m4, m, h2, rm, vm⟩ := map_E N hN ha.1 ha.2
  obtain ⟨t1, t2, t3, t4, t, h3, rt, -, vt⟩ := gtimes N h65 (x := (group_Base.1, group_Base.2.1, group_Base.2.2.1, group_Base.2.2.2)) base_E ev_B hd
  obtain ⟨p1, p2, p3, p4, h4, rp⟩ := gadd rm rt
  have vp := ev_add vm vt
  generalize m + t = p at *
  obtain ⟨q1, q2, q3, q4, q, h5, rq, vq⟩ := map_E N hN hb.1 hb.2
  obtain ⟨code, x, y, w, s, h6, l6, h7, rs, vs, es, h9⟩ : ∃ c x y t b, group_Point_Encode N (p1, p2, p3, p4) = some c ∧ L32 c ∧ group_Point_Decode N (q1, q2, q3, q4) c = some ((x, y, o5, t), 0) ∧ RepE (x, y, o5, t) b ∧ Ev b ∧ Eqv b p ∧ group_Point_Encode N (x, y, o5, t) = some c := by
    subst hN
    exact enc_dec rp vp (q1, q2, q3, q4)
  have h8 := gyes rs rp es
  obtain ⟨b10, h10, e10⟩ := gsame rp rq
  obtain ⟨cq, h11, e11⟩ : ∃ cq, group_Point_Encode N (q1, q2, q3, q4) = some cq ∧ (code = cq ↔ Eqv p q) := by
    subst hN
    obtain ⟨c1, c2, k1, k2, -, -, k3⟩ := enc_iff rp rq vp vq
    rw [h6] at k1
    obtain rfl := Option.some.inj k1
    exact ⟨c2, k2, k3⟩
  have h12 : (b10 == decide (code = cq)) = true := beq_dec (e10.trans e11.symm)
  obtain ⟨r0, r1, r2, r3, i, j, k, l, h15, C⟩ := coset_N N hN rp
  have L := C.lt
  have nd : i ≠ j ∧ i ≠ k ∧ i ≠ l ∧ j ≠ k ∧ j ≠ l ∧ k ≠ l := by
    have := (C.perm.nodup_iff).2 (by decide)
    simp only [List.nodup_cons, List.mem_cons, List.not_mem_nil, or_false, not_or, not_false_eq_true, and_true, List.nodup_nil] at this
    omega
  obtain ⟨fA0, sA0, eA0, tA0, uA0, g0, g0', g0''⟩ := one_pt N hN vp rp C.r0 (i := 0) (by decide) h6
  obtain ⟨fA1, sA1, eA1, tA1, uA1, g1, g1', g1''⟩ := one_pt N hN vp rp C.r1 (i := 1) (by decide) h6
  obtain ⟨fA2, sA2, eA2, tA2, uA2, g2, g2', g2''⟩ := one_pt N hN vp rp C.r2 (i := 2) (by decide) h6
  obtain ⟨fA3, sA3, eA3, tA3, uA3, g3, g3', g3''⟩ := one_pt N hN vp rp C.r3 (i := 3) (by decide) h6
  have T1 : curve_Torsion 1 = some tA0 := g0
  have T3 : curve_Torsion 3 = some tA1 := g1
  have T5 : curve_Torsion 5 = some tA2 := g2
  have T7 : curve_Torsion 7 = some tA3 := g3
  have z0 : group_Point_Same zP zP = some true := gyes repE_zero repE_zero (.of_eq rfl)
  obtain ⟨d10, x10, y10, a10, b10', c10, d10', f10⟩ := two_pts L.2.1 L.1 (by omega) C.r1 C.r0
  obtain ⟨d20, x20, y20, a20, b20, c20, d20', f20⟩ := two_pts L.2.2.1 L.1 (by omega) C.r2 C.r0
  obtain ⟨d21, x21, y21, a21, b21, c21, d21', f21⟩ := two_pts L.2.2.1 L.2.1 (by omega) C.r2 C.r1
  obtain ⟨d30, x30, y30, a30, b30, c30, d30', f30⟩ := two_pts L.2.2.2 L.1 (by omega) C.r3 C.r0
  obtain ⟨d31, x31, y31, a31, b31, c31, d31', f31⟩ := two_pts L.2.2.2 L.2.1 (by omega) C.r3 C.r1
  obtain ⟨d32, x32, y32, a32, b32, c32, d32', f32⟩ := two_pts L.2.2.2 L.2.2.1 (by omega) C.r3 C.r2
  have n0 : icmp .neq 0 0 = false := rfl
  have n50 : icmp .neq 50 50 = false := rfl
  have dec : (∃ x y t s, group_Point_Decode N (p1, p2, p3, p4) c = some ((x, y, o5, t), 0) ∧ RepE (x, y, o5, t) s ∧ Ev s ∧ group_Point_Encode N (x, y, o5, t) = some c) ∨
    (∃ e, group_Point_Decode N (p1, p2, p3, p4) c = some ((z5, z5, z5, z5), e) ∧ (e = 3 ∨ e = 50)) := by
    subst hN
    exact dec_E hc (p1, p2, p3, p4)
  unfold veillaw05_GroupOne
  rcases dec with ⟨X, Y, T, S, k1, k2, k3, k4⟩ | ⟨e, k1, he⟩
  · obtain ⟨b14, h14, e14⟩ := gsame k2 rp
    have h14' : (b14 == decide (c = code)) = true := by
      refine beq_dec (e14.trans ?_)
      subst hN
      obtain ⟨c1, c2, m1, m2, -, -, m3⟩ := enc_iff k2 rp k3 vp
      rw [k4] at m1
      rw [h6] at m2
      obtain rfl := Option.some.inj m1
      obtain rfl := Option.some.inj m2
      exact m3.symm
    simp only [h1, mo, Bool.not_true, cond_false, cond_true, h2, h3, h4, h5, h6, h7, n0, h8, h9, decide_true, h10, h11, h12, k1, show icmp .eql 0 0 = true from rfl, k4, h14, h14', h15, fA0, sA0, eA0, T1, g0', g0'', fA1, sA1, eA1, T3, g1', g1'', fA2, sA2, eA2, T5, g2', g2'', fA3, sA3, eA3, T7, g3', g3'', n50, z0,
      a10, b10', c10, d10', f10, a20, b20, c20, d20', f20, a21, b21, c21, d21', f21, a30, b30, c30, d30', f30, a31, b31, c31, d31', f31, a32, b32, c32, d32', f32]
  · rcases he with rfl | rfl
    · simp only [h1, mo, Bool.not_true, cond_false, cond_true, h2, h3, h4, h5, h6, h7, n0, h8, h9, decide_true, h10, h11, h12, k1, show icmp .eql 3 0 = false from rfl, show icmp .neq 3 3 = false from rfl, h15, fA0, sA0, eA0, T1, g0', g0'', fA1, sA1, eA1, T3, g1', g1'', fA2, sA2, eA2, T5, g2', g2'', fA3, sA3, eA3, T7, g3', g3'', n50, z0,
        a10, b10', c10, d10', f10, a20, b20, c20, d20', f20, a21, b21, c21, d21', f21, a30, b30, c30, d30', f30, a31, b31, c31, d31', f31, a32, b32, c32, d32', f32]
    · simp only [h1, mo, Bool.not_true, cond_false, cond_true, h2, h3, h4, h5, h6, h7, n0, h8, h9, decide_true, h10, h11, h12, k1, show icmp .eql 50 0 = false from rfl, show icmp .neq 50 3 = true from rfl, h15, fA0, sA0, eA0, T1, g0', g0'', fA1, sA1, eA1, T3, g1', g1'', fA2, sA2, eA2, T5, g2', g2'', fA3, sA3, eA3, T7, g3', g3'', n50, z0,
        a10, b10', c10, d10', f10, a20, b20, c20, d20', f20, a21, b21, c21, d21', f21, a30, b30, c30, d30', f30, a31, b31, c31, d31', f31, a32, b32, c32, d32', f32]

theorem gone_row (a b c d : List Int) (ha : a.length = 64 ∧ ∀ x ∈ a, IntKind.u8.min ≤ x ∧ x ≤ IntKind.u8.max) (hb : b.length = 64 ∧ ∀ x ∈ b, IntKind.u8.min ≤ x ∧ x ≤ IntKind.u8.max) (hc : c.length = 32 ∧ ∀ x ∈ c, IntKind.u8.min ≤ x ∧ x ≤ IntKind.u8.max) (hd : d.length = 4 ∧ ∀ x ∈ d, IntKind.u64.min ≤ x ∧ x ≤ IntKind.u64.max) : veillaw05_GroupOne 300 a b c d = some true :=
  gone_N 300 rfl a b c d ha hb hc (u4_of hd)

end Go.Vx
