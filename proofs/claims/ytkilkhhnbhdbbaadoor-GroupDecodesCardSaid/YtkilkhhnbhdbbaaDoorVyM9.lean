import Derived.Test.YtkilkhhnbhdbbaaDoorVyL2
import Derived.Test.YtkilkhhnbhdbbaaDoorVyK0
import Derived.Test.YtkilkhhnbhdbbaaDoorVyV4
import Derived.Test.YtkilkhhnbhdbbaaDoorVyL8
import Derived.Test.YtkilkhhnbhdbbaaDoorVyL7
/- Numbers, part M2: the group's texts in the field K: the program's Decode and Encode. -/
set_option autoImplicit false
set_option linter.unusedSimpArgs false
namespace Go.Vx
open Go

theorem can_v {a : List Int} (h : Can a) : (kv a).v = val a := by
  have := h.nonneg
  show val a % pF = val a
  exact Int.emod_eq_of_lt this.1 this.2
theorem can_ev {a : List Int} (h : Can a) : (kv a).ev ↔ val a % 2 = 0 := by
  unfold K.ev; rw [can_v h]
theorem neg_ev {a : List Int} (h : Can a) : field_Elem_Negative a = true ↔ ¬ (kv a).ev := by
  rw [negative_spec h.L5, can_ev h, Int.emod_eq_of_lt h.nonneg.1 h.nonneg.2, decide_eq_true_eq]
  omega
theorem neg_ev_f {a : List Int} (h : Can a) (e : (kv a).ev) : field_Elem_Negative a = false := by
  cases hq : field_Elem_Negative a
  · rfl
  · exact absurd e ((neg_ev h).1 hq)

theorem sqrt_sr {a b : List Int} (ha : L5 a) (hb : L5 b) : ∃ r ok, field_SqrtRatio 300 a b = some (r, ok) ∧ Can r ∧ SR (kv a) (kv b) (kv r) ok := by
  obtain ⟨r, ok, h1, h2, h3, h4, h5, h6⟩ := sqrt_k ha hb
  exact ⟨r, ok, h1, h2, ⟨(can_ev h2).2 h3, h4, h5, h6⟩⟩
theorem abs_sr {a : List Int} (ha : L5 a) : Can (field_Elem_Abs a) ∧ (kv (field_Elem_Abs a)).ev ∧ kv (field_Elem_Abs a) ^ 2 = kv a ^ 2 := by
  obtain ⟨h1, h2, h3⟩ := abs_k ha
  exact ⟨h1, (can_ev h1).2 h2, by rcases h3 with h | h <;> rw [h] <;> grind⟩

theorem tab2_can : Can (field_tab 2) := ⟨_, _, _, _, _, rfl, by decide, by decide, by decide, by decide, by decide, by decide⟩
theorem tab2_k : kv (field_tab 2) = kD := by unfold kv kD; rfl
theorem tab4_can' : Can (field_tab 4) := ⟨_, _, _, _, _, rfl, by decide, by decide, by decide, by decide, by decide, by decide⟩
theorem const2' : field_Const 2 = some (field_tab 2) := rfl
theorem const1' : field_Const 1 = some (field_tab 1) := rfl
theorem const4' : field_Const 4 = some (field_tab 4) := rfl
theorem one_k (a : List Int) : Can (field_Elem_One a) ∧ kv (field_Elem_One a) = 1 := ⟨one_can, rfl⟩
theorem select_false {a b : List Int} (ha : L5 a) (hb : Can b) : field_Select (group_pick false) a b = b := by
  rw [select_spec ha hb.L5, show group_pick false = 0 from rfl, if_neg (by decide), least_can hb]
theorem least_id {a : List Int} (h : Can a) : field_Elem_Least a = a := least_can h

/-- Coordinates that are on the curve make a point. -/
theorem from_affine {a b : List Int} (ha : Can a) (hb : Can b) (hon : kv b ^ 2 - kv a ^ 2 = 1 + kD * kv a ^ 2 * kv b ^ 2) :
    ∃ t, curve_FromAffine a b = some ((a, b, [1, 0, 0, 0, 0], t), 0) ∧ Can t ∧ kv t = kv a * kv b := by
  obtain ⟨r1, h1, c1, e1⟩ := sq_k ha.L5
  obtain ⟨r2, h2, c2, e2⟩ := sq_k hb.L5
  obtain ⟨r4, h4, c4, e4⟩ := mul_k tab2_can.L5 c1.L5
  obtain ⟨r5, h5, c5, e5⟩ := mul_k c4.L5 c2.L5
  obtain ⟨r6, h6, c6, e6⟩ := mul_k ha.L5 hb.L5
  have k1 := sub_k c2.L5 c1.L5
  have k2 := add_k one_can.L5 c5.L5
  have hd : field_Elem_Sub r2 r1 = field_Elem_Add [1, 0, 0, 0, 0] r5 := by
    refine can_k k1.1 k2.1 ?_
    rw [k1.2, k2.2, e5, e4, e1, e2, tab2_k, show kv [1, 0, 0, 0, 0] = 1 from rfl]
    grind
  refine ⟨r6, ?_, c6, e6⟩
  unfold curve_FromAffine
  simp only [least_id ha, least_id hb, h1, h2, const2', h4, h5, mo, hd, decide_true, Bool.not_true, cond_false, curve_at, h6]

/-- The program's Decode of bytes that are a number. -/
theorem pdecode (p : List Int × List Int × List Int × List Int) {b s : List Int} (hd : field_Decode b = (s, 0)) (hs : Can s) (hev : (kv s).ev) :
    (∃ x y t, group_Point_Decode 300 p b = some ((x, y, [1, 0, 0, 0, 0], t), 0) ∧ Can x ∧ Can y ∧ Can t ∧ kv t = kv x * kv y ∧ Stands (kv s) (kv x) (kv y)) ∨
    (group_Point_Decode 300 p b = some (([0, 0, 0, 0, 0], [0, 0, 0, 0, 0], [0, 0, 0, 0, 0], [0, 0, 0, 0, 0]), 50) ∧ ∀ x y, ¬ Stands (kv s) x y) := by
  obtain ⟨r1, h1, c1, e1⟩ := sq_k hs.L5
  have one := one_k s
  have x2 := sub_k one.1.L5 c1.L5
  have x3 := add_k one.1.L5 c1.L5
  obtain ⟨r3, h3, c3, e3⟩ := sq_k x2.1.L5
  obtain ⟨r4, h4, c4, e4⟩ := mul_k tab2_can.L5 c3.L5
  obtain ⟨r5, h5, c5, e5⟩ := sq_k x3.1.L5
  have n4 := neg_k c4.L5
  have x5 := sub_k n4.1.L5 c5.L5
  obtain ⟨r7, h7, c7, e7⟩ := mul_k x5.1.L5 c5.L5
  obtain ⟨r8, ok, h8, c8, sr⟩ := sqrt_sr one.1.L5 c7.L5
  obtain ⟨r9, h9, c9, e9⟩ := mul_k c8.L5 x3.1.L5
  have ss := add_k hs.L5 hs.L5
  obtain ⟨r10, h10, c10, e10⟩ := mul_k ss.1.L5 c9.L5
  obtain ⟨r11, h11, c11, e11⟩ := mul_k x2.1.L5 c8.L5
  obtain ⟨r13, h13, c13, e13⟩ := mul_k c11.L5 c9.L5
  obtain ⟨r14, h14, c14, e14⟩ := mul_k c13.L5 x5.1.L5
  obtain ⟨a1, a2, a3⟩ := abs_sr c10.L5
  obtain ⟨r15, h15, c15, e15⟩ := mul_k a1.L5 c14.L5
  have neg0 := neg_ev_f hs hev
  -- the numbers
  have E1 : kv r1 = kv s ^ 2 := by rw [e1]; grind
  have X2 : kv (field_Elem_Sub (field_Elem_One s) r1) = 1 - kv s ^ 2 := by rw [x2.2, one.2, E1]
  have X3 : kv (field_Elem_Add (field_Elem_One s) r1) = 1 + kv s ^ 2 := by rw [x3.2, one.2, E1]
  have X5 : kv (field_Elem_Sub (field_Elem_Neg r4) r5) = -(kD * (1 - kv s ^ 2) ^ 2) - (1 + kv s ^ 2) ^ 2 := by
    rw [x5.2, n4.2, e4, e5, e3, X2, X3, tab2_k]; grind
  have E7 : kv r7 = (-(kD * (1 - kv s ^ 2) ^ 2) - (1 + kv s ^ 2) ^ 2) * (1 + kv s ^ 2) ^ 2 := by rw [e7, X5, e5, X3]; grind
  rw [one.2, E7] at sr
  have E14 : kv r14 = (1 - kv s ^ 2) * kv r8 * (kv r8 * (1 + kv s ^ 2)) * (-(kD * (1 - kv s ^ 2) ^ 2) - (1 + kv s ^ 2) ^ 2) := by rw [e14, X5, e13, e11, e9, X2, X3]
  have E10 : kv r10 = 2 * kv s * (kv r8 * (1 + kv s ^ 2)) := by rw [e10, ss.2, e9, X3]; grind
  have U : group_Point_Decode 300 p b = cond (!ok) (some (([0, 0, 0, 0, 0], [0, 0, 0, 0, 0], [0, 0, 0, 0, 0], [0, 0, 0, 0, 0]), 50))
      (cond (field_Elem_Negative r15) (some (([0, 0, 0, 0, 0], [0, 0, 0, 0, 0], [0, 0, 0, 0, 0], [0, 0, 0, 0, 0]), 50))
        (cond (field_Elem_IsZero r14) (some (([0, 0, 0, 0, 0], [0, 0, 0, 0, 0], [0, 0, 0, 0, 0], [0, 0, 0, 0, 0]), 50))
          (mo (curve_FromAffine (field_Elem_Abs r10) r14) none fun r16 =>
            cond (icmp .neq r16.2 0) (some (([0, 0, 0, 0, 0], [0, 0, 0, 0, 0], [0, 0, 0, 0, 0], [0, 0, 0, 0, 0]), 50))
              (some ((r16.1.1, r16.1.2.1, r16.1.2.2.1, r16.1.2.2.2), 0))))) := by
    unfold group_Point_Decode
    simp only [hd, show icmp .neq 0 0 = false from rfl, cond_false, neg0, h1, const2', h3, h4, h5, h7, h8, h9, h10, h11, h13, h14, h15, mo]
  generalize hS : kv s = S at *
  -- what must be, of any point that s stands for
  by_cases hvw : (-(kD * (1 - S ^ 2) ^ 2) - (1 + S ^ 2) ^ 2) * (1 + S ^ 2) ^ 2 = 0
  · right
    have := sr.z' K.one_ne hvw
    refine ⟨by rw [U, this.1]; rfl, fun x y h => ?_⟩
    exact K.mul_ne h.v0 (K.pow_ne h.w0 2) hvw
  · obtain ⟨v0, w2⟩ := K.ne_mul hvw
    have w0 : 1 + S ^ 2 ≠ 0 := fun e => w2 (by rw [e]; grind)
    obtain ⟨q1, q2, -⟩ := sr.q K.one_ne hvw
    cases ok with
    | false =>
      right
      refine ⟨by rw [U]; rfl, fun x y h => ?_⟩
      obtain ⟨r, hr⟩ := h.root
      have := (sr.found hvw hr).1
      cases this
    | true =>
      have hr := q2 rfl
      have Y : kv r14 * (1 + S ^ 2) = 1 - S ^ 2 := by rw [E14]; exact dec_y hr
      have X : (-(kD * (1 - S ^ 2) ^ 2) - (1 + S ^ 2) ^ 2) * kv (field_Elem_Abs r10) ^ 2 = 4 * S ^ 2 := by rw [a3, E10]; exact dec_x hr
      by_cases hn : (kv r15).ev
      · by_cases hz : kv r14 = 0
        · right
          refine ⟨by rw [U, neg_ev_f c15 hn, (iszero_k c14.L5).2 hz]; rfl, fun x y h => h.y0 ?_⟩
          refine K.cancel w0 ?_
          rw [Lean.Grind.CommRing.mul_comm, h.yw, ← Y, hz]; grind
        · left
          have st : Stands S (kv (field_Elem_Abs r10)) (kv r14) := ⟨hev, a2, by rw [← e15]; exact hn, hz, w0, Y, v0, X⟩
          obtain ⟨t, f1, f2, f3⟩ := from_affine a1 c14 st.on
          refine ⟨_, _, t, ?_, a1, c14, f2, f3, st⟩
          rw [U, neg_ev_f c15 hn, iszero_f c14.L5 hz]
          simp only [Bool.not_true, cond_false, f1, mo, show icmp .neq 0 0 = false from rfl]
      · right
        refine ⟨by rw [U, (neg_ev c15).2 hn]; rfl, fun x y h => hn ?_⟩
        have hy : kv r14 = y := K.cancel w0 (by rw [Lean.Grind.CommRing.mul_comm, Y, ← h.yw, Lean.Grind.CommRing.mul_comm])
        have hx : kv (field_Elem_Abs r10) = x := K.ev_root a2 h.x_ev (K.cancel v0 (by rw [X, h.xv]))
        rw [e15, hx, hy]; exact h.xy_ev

theorem k_one_pow (n : Nat) : (1 : K) ^ n = 1 := by
  rw [show (1 : K) = K.of 1 from rfl, ← K.of_pow, Int.one_pow]

/-- The coordinates of a point that has none below. -/
theorem affine_one {x y t : List Int} (hx : Can x) (hy : Can y) : curve_Point_Affine 300 (x, y, [1, 0, 0, 0, 0], t) = some (x, y) := by
  obtain ⟨r1, h1, p1⟩ := invert_spec (a := [1, 0, 0, 0, 0]) one_can.L5
  have e1 : kv r1 = 1 := by rw [pow_k p1, show kv [1, 0, 0, 0, 0] = 1 from rfl, k_one_pow]
  obtain ⟨r2, h2, c2, e2⟩ := mul_k hx.L5 p1.1.L5
  obtain ⟨r3, h3, c3, e3⟩ := mul_k hy.L5 p1.1.L5
  have f2 : r2 = x := can_k c2 hx (by rw [e2, e1]; grind)
  have f3 : r3 = y := can_k c3 hy (by rw [e3, e1]; grind)
  subst f2
  subst f3
  unfold curve_Point_Affine curve_place_whole
  have hz : decide (([1, 0, 0, 0, 0] : List Int) = [0, 0, 0, 0, 0]) = false := by decide
  simp only [hz, cond_false, h1, h2, h3, mo]

theorem select_true {a b : List Int} (ha : Can a) (hb : L5 b) : field_Select (group_pick true) a b = a := by
  rw [select_spec ha.L5 hb, show group_pick true = 1 from rfl, if_pos (by decide), least_can ha]
theorem neg_ev_t {a : List Int} (h : Can a) (e : ¬ (kv a).ev) : field_Elem_Negative a = true := (neg_ev h).2 e
theorem tab4_k : kv (field_tab 4) = kM := by unfold kv kM; rfl

/-- The root that the program takes. -/
theorem enc_root {x y r q : K} {ok : Bool} (hq : (1 + y) * (1 - y) = q ^ 2) (hn : x * y ≠ 0) (hu : (1 + y) * (1 - y) ≠ 0) (sr : SR 1 (((1 + y) * (1 - y)) * (x * y) ^ 2) r ok) : r ^ 2 * (((1 + y) * (1 - y)) * (x * y) ^ 2) = 1 := by
  have q0 : q ≠ 0 := fun e => hu (by rw [hq, e]; grind)
  obtain ⟨z, hz⟩ := inv_ex (K.mul_ne q0 hn)
  have hv : ((1 + y) * (1 - y)) * (x * y) ^ 2 = (q * (x * y)) ^ 2 := by rw [hq]; grind
  have := (sr.found (r := z) (K.mul_ne hu (K.pow_ne hn 2)) (by rw [hv]; generalize q * (x * y) = w at *; grind)).2
  rw [this, hv]
  generalize q * (x * y) = w at *
  grind

theorem u_ne {x y : K} (on : y ^ 2 - x ^ 2 = 1 + kD * x ^ 2 * y ^ 2) (hn : x * y ≠ 0) : (1 + y) * (1 - y) ≠ 0 := by
  intro h
  have hm := kM_sq
  have hx := (K.ne_mul hn).1
  have h1 : (-1 - kD) * x ^ 2 = 0 := by generalize kD = d at *; grind
  rcases K.mul_zero' h1 with h1 | h1
  · rw [h1] at hm; exact K.one_ne (by rw [← hm]; grind)
  · exact hx (K.sq_zero h1)

theorem k_neg_neg (b : K) : - -b = b := by grind
theorem k_mul_negs (a b : K) : -a * -b = a * b := by grind
theorem k_neg_zero {a : K} (h : -a = 0) : a = 0 := by grind
theorem rel_negs (a b : K) : Rel a b (-a) (-b) := .inr (.inr (.inl ⟨(k_neg_neg a).symm, (k_neg_neg b).symm⟩))
theorem on_neg {a b d : K} (h : b ^ 2 - a ^ 2 = 1 + d * a ^ 2 * b ^ 2) : (-b) ^ 2 - (-a) ^ 2 = 1 + d * (-a) ^ 2 * (-b) ^ 2 := by grind
theorem on_turn {a b d : K} (h : b ^ 2 - a ^ 2 = 1 + d * a ^ 2 * b ^ 2) : (a * kI) ^ 2 - (b * kI) ^ 2 = 1 + d * (b * kI) ^ 2 * (a * kI) ^ 2 := by
  have hi := kI_sq
  grind
theorem rel_turn (a b : K) : Rel a b (b * kI) (a * kI) := by
  have hi := kI_sq
  exact .inr (.inr (.inr ⟨by grind, by grind⟩))
theorem turn_mul (a b : K) : b * kI * (a * kI) = -(a * b) := by
  have hi := kI_sq
  grind
theorem den_turn {u t2 m w r d : K} (tn : t2 ≠ 0) (R : r ^ 2 * (u * t2) = 1) (tt : u * w = (-1 - d) * t2) (hm : (-1 - d) * m ^ 2 = 1) : (r * u * m) ^ 2 * w = 1 := by
  refine K.cancel tn ?_
  have : t2 * ((r * u * m) ^ 2 * w) = (r ^ 2 * (u * t2)) * m ^ 2 * (u * w) := by grind
  rw [this, R, tt]
  grind
theorem fin_neg (b : K) : (1 + -b) * (1 - -b) = (1 + b) * (1 - b) := by grind
theorem fin_one (r x y : K) : (r * (x * y)) ^ 2 * ((1 + y) * (1 - y)) = r ^ 2 * (((1 + y) * (1 - y)) * (x * y) ^ 2) := by
  generalize x * y = t
  generalize (1 + y) * (1 - y) = u
  grind

/-- The program's Encode of any even point. -/
theorem pencode {p1 p2 p3 p4 x y : List Int} {q : K} (h1 : curve_Point_Affine 300 (p1, p2, p3, p4) = some (x, y)) (hx : Can x) (hy : Can y) (on : kv y ^ 2 - kv x ^ 2 = 1 + kD * kv x ^ 2 * kv y ^ 2) (hq : (1 + kv y) * (1 - kv y) = q ^ 2) :
    ∃ s X Y, group_Point_Encode 300 (p1, p2, p3, p4) = some (field_Elem_Encode s) ∧ Can s ∧ Stands (kv s) X Y ∧ Rel (kv x) (kv y) X Y := by
  obtain ⟨r2, h2, c2, e2⟩ := mul_k hx.L5 hy.L5
  have one := one_k x
  have a1 := add_k one.1.L5 hy.L5
  have s1 := sub_k one.1.L5 hy.L5
  obtain ⟨r3, h3, c3, e3⟩ := mul_k a1.1.L5 s1.1.L5
  obtain ⟨r4, h4, c4, e4⟩ := sq_k c2.L5
  obtain ⟨r5, h5, c5, e5⟩ := mul_k c3.L5 c4.L5
  obtain ⟨r6, ok, h6, c6, sr⟩ := sqrt_sr one.1.L5 c5.L5
  obtain ⟨r7, h7, c7, e7⟩ := mul_k c6.L5 c3.L5
  obtain ⟨r8, h8, c8, e8⟩ := mul_k c6.L5 c2.L5
  obtain ⟨r9, h9, c9, e9⟩ := mul_k c7.L5 c8.L5
  obtain ⟨r10, h10, c10, e10⟩ := mul_k c9.L5 c2.L5
  obtain ⟨r11, h11, c11, e11⟩ := mul_k c2.L5 c10.L5
  obtain ⟨r13, h13, c13, e13⟩ := mul_k hx.L5 tab1_can.L5
  obtain ⟨r14, h14, c14, e14⟩ := mul_k hy.L5 tab1_can.L5
  obtain ⟨r16, h16, c16, e16⟩ := mul_k c7.L5 tab4_can'.L5
  rw [tab1_k] at e13 e14
  rw [tab4_k] at e16
  have E3 : kv r3 = (1 + kv y) * (1 - kv y) := by rw [e3, a1.2, s1.2, one.2]
  have E5 : kv r5 = ((1 + kv y) * (1 - kv y)) * (kv x * kv y) ^ 2 := by rw [e5, E3, e4, e2]; generalize kv x * kv y = t; grind
  rw [one.2, E5] at sr
  have E10 : kv r10 = kv r6 ^ 2 * (((1 + kv y) * (1 - kv y)) * (kv x * kv y) ^ 2) := by
    rw [e10, e9, e8, e7, e2, E3]
    generalize (1 + kv y) * (1 - kv y) = u
    generalize kv x * kv y = t
    grind
  -- what is handed back, once the signs are known
  have U : ∀ (b1 b2 : Bool) (x1 y1 dn : List Int), field_Elem_Negative r11 = b1 → field_Select (group_pick b1) r14 x = x1 → field_Select (group_pick b1) r13 y = y1 → field_Select (group_pick b1) r16 r8 = dn → Can x1 → Can y1 → Can dn →
      (∀ r17, field_Elem_Mul x1 r10 = some r17 → field_Elem_Negative r17 = b2) →
      ∃ s, group_Point_Encode 300 (p1, p2, p3, p4) = some (field_Elem_Encode s) ∧ Can s ∧ (kv s).ev ∧ kv s ^ 2 = (kv dn * (1 - (bif b2 then - kv y1 else kv y1))) ^ 2 := by
    intro b1 b2 x1 y1 dn g1 g2 g3 g4 k1 k2 k3 g5
    obtain ⟨r17, h17, c17, e17⟩ := mul_k k1.L5 c10.L5
    have g6 := g5 r17 h17
    have ny := neg_k k2.L5
    have hsel : Can (field_Select (group_pick b2) (field_Elem_Neg y1) y1) ∧ kv (field_Select (group_pick b2) (field_Elem_Neg y1) y1) = (bif b2 then - kv y1 else kv y1) := by
      cases b2
      · rw [select_false ny.1.L5 k2]; exact ⟨k2, rfl⟩
      · rw [select_true ny.1 k2.L5]; exact ⟨ny.1, ny.2⟩
    have s2 := sub_k one.1.L5 hsel.1.L5
    obtain ⟨r18, h18, c18, e18⟩ := mul_k k3.L5 s2.1.L5
    obtain ⟨m1, m2, m3⟩ := abs_sr c18.L5
    refine ⟨_, ?_, m1, m2, by rw [m3, e18, s2.2, hsel.2, one.2]⟩
    unfold group_Point_Encode
    simp only [h1, h2, h3, h4, h5, h6, h7, h8, h9, h10, h11, const1', h13, h14, const4', h16, mo, g1, g2, g3, g4, h17, g6, h18]
  have hi := kI_sq
  by_cases hn : kv x * kv y = 0
  · -- the neutral element
    have z6 : kv r6 = 0 := (sr.z' K.one_ne (by rw [hn]; grind)).2
    have z10 : kv r10 = 0 := by rw [E10, z6]; grind
    have z8 : kv r8 = 0 := by rw [e8, z6]; grind
    have n11 : field_Elem_Negative r11 = false := neg_ev_f c11 (by rw [e11, z10, show kv r2 * 0 = 0 by grind]; exact K.ev_zero)
    obtain ⟨s, k1, k2, k3, k4⟩ := U false false x y r8 n11 (select_false c14.L5 hx) (select_false c13.L5 hy) (select_false c16.L5 c8) hx hy c8 (fun r17 h17 => by
      obtain ⟨r, j1, j2, j3⟩ := mul_k hx.L5 c10.L5
      rw [h17] at j1
      obtain rfl := Option.some.inj j1
      exact neg_ev_f j2 (by rw [j3, z10, show kv x * 0 = 0 by grind]; exact K.ev_zero))
    have s0 : kv s = 0 := K.sq_zero (by rw [k4, z8]; grind)
    exact ⟨s, 0, 1, k1, k2, by rw [s0]; exact stands_zero, rel_zero on hn⟩
  · have hu := u_ne on hn
    have R := enc_root hq hn hu sr
    have Z : kv r10 = 1 := by rw [E10, R]
    obtain ⟨x0, y0⟩ := K.ne_mul hn
    have e11' : kv r11 = kv x * kv y := by rw [e11, e2, Z]; grind
    have neg17 : ∀ x1, Can x1 → ∀ r17, field_Elem_Mul x1 r10 = some r17 → Can r17 ∧ kv r17 = kv x1 := by
      intro x1 k r17 h17
      obtain ⟨r, j1, j2, j3⟩ := mul_k k.L5 c10.L5
      rw [h17] at j1
      obtain rfl := Option.some.inj j1
      exact ⟨j2, by rw [j3, Z]; grind⟩
    -- a point of the four with the product not negative, and its factor
    have fin : ∀ (b1 : Bool) (x1 y1 dn : List Int), field_Elem_Negative r11 = b1 → field_Select (group_pick b1) r14 x = x1 → field_Select (group_pick b1) r13 y = y1 → field_Select (group_pick b1) r16 r8 = dn → Can x1 → Can y1 → Can dn →
        (kv x1 * kv y1).ev → kv x1 ≠ 0 → kv y1 ≠ 0 → kv y1 ^ 2 - kv x1 ^ 2 = 1 + kD * kv x1 ^ 2 * kv y1 ^ 2 → kv dn ^ 2 * ((1 + kv y1) * (1 - kv y1)) = 1 → Rel (kv x) (kv y) (kv x1) (kv y1) →
        ∃ s X Y, group_Point_Encode 300 (p1, p2, p3, p4) = some (field_Elem_Encode s) ∧ Can s ∧ Stands (kv s) X Y ∧ Rel (kv x) (kv y) X Y := by
      intro b1 x1 y1 dn g1 g2 g3 g4 k1 k2 k3 xyev x10 y10 on1 de rel
      by_cases hev : (kv x1).ev
      · obtain ⟨s, j1, j2, j3, j4⟩ := U b1 false x1 y1 dn g1 g2 g3 g4 k1 k2 k3 (fun r17 h17 => by
          obtain ⟨q1, q2⟩ := neg17 x1 k1 r17 h17
          exact neg_ev_f q1 (by rw [q2]; exact hev))
        exact ⟨s, kv x1, kv y1, j1, j2, stands_of (e := kv dn) j3 hev xyev x10 y10 on1 de j4, rel⟩
      · obtain ⟨s, j1, j2, j3, j4⟩ := U b1 true x1 y1 dn g1 g2 g3 g4 k1 k2 k3 (fun r17 h17 => by
          obtain ⟨q1, q2⟩ := neg17 x1 k1 r17 h17
          exact neg_ev_t q1 (by rw [q2]; exact hev))
        refine ⟨s, - kv x1, - kv y1, j1, j2, stands_of (e := kv dn) j3 ((K.ev_neg x10).2 hev) ?_ ?_ ?_ ?_ ?_ j4, rel.trans (rel_negs _ _)⟩
        · rw [k_mul_negs]; exact xyev
        · exact fun h => x10 (k_neg_zero h)
        · exact fun h => y10 (k_neg_zero h)
        · exact on_neg on1
        · rw [fin_neg]; exact de
    by_cases hneg : (kv x * kv y).ev
    · refine fin false x y r8 (neg_ev_f c11 (by rw [e11']; exact hneg)) (select_false c14.L5 hx) (select_false c13.L5 hy) (select_false c16.L5 c8) hx hy c8 hneg x0 y0 on ?_ (Rel.refl _ _)
      rw [e8, e2, fin_one, R]
    · have t11 := neg_ev_t c11 (by rw [e11']; exact hneg)
      refine fin true r14 r13 r16 t11 (select_true c14 hx.L5) (select_true c13 hy.L5) (select_true c16 c8.L5) c14 c13 c16 ?_ ?_ ?_ ?_ ?_ ?_
      · rw [e13, e14, turn_mul]
        exact (K.ev_neg hn).2 hneg
      · rw [e14]; exact K.mul_ne y0 (fun h => by rw [h] at hi; exact K.one_ne (by grind))
      · rw [e13]; exact K.mul_ne x0 (fun h => by rw [h] at hi; exact K.one_ne (by grind))
      · rw [e13, e14]; exact on_turn on
      · rw [e16, e7, E3, e13]
        exact den_turn (K.pow_ne hn 2) R (turn_id on) kM_sq
      · rw [e13, e14]; exact rel_turn _ _

end Go.Vx

/- Numbers, part M3: the group's texts in the field K: the reference's Decode and Encode. -/
set_option autoImplicit false
set_option linter.unusedSimpArgs false
namespace Go.Vx.Ref
open Go

theorem cf_v {a : List Int} (h : CF a) : (kf a).v = num a := by
  show num a % pF = num a
  exact Int.emod_eq_of_lt h.2.1.nonneg h.2.2
theorem cf_ev {a : List Int} (h : CF a) : (kf a).ev ↔ num a % 2 = 0 := by unfold K.ev; rw [cf_v h]
theorem rneg_ev {a : List Int} (h : CF a) : veilref01_F_Negative a = true ↔ ¬ (kf a).ev := by
  rw [rnegative_spec h, cf_ev h, decide_eq_true_eq]; omega
theorem rneg_ev_f {a : List Int} (h : CF a) (e : (kf a).ev) : veilref01_F_Negative a = false := by
  cases hq : veilref01_F_Negative a
  · rfl
  · exact absurd e ((rneg_ev h).1 hq)
theorem rsqrt_sr {a b : List Int} (ha : CF a) (hb : CF b) : ∃ s ok, veilref01_SqrtRatio 300 a b = some (s, ok) ∧ CF s ∧ SR (kf a) (kf b) (kf s) ok := by
  obtain ⟨s, ok, h1, h2, h3, h4, h5, h6⟩ := rsqrt_k ha hb
  exact ⟨s, ok, h1, h2, ⟨(cf_ev h2).2 h3, h4, h5, h6⟩⟩
theorem radd_k {a b : List Int} (ha : CF a) (hb : CF b) : ∃ r, veilref01_F_Add 300 a b = some r ∧ CF r ∧ kf r = kf a + kf b := by
  obtain ⟨r, h1, h2, h3⟩ := radd_spec ha hb
  exact ⟨r, h1, h2, by rw [kf_of h3, K.of_add]; rfl⟩
theorem D_k : kf veilref01_D = kD := by unfold kf kD; rfl
theorem rinv_k {a : List Int} (ha : CF a) (h : kf a ≠ 0) : ∃ r, veilref01_F_Invert 300 a = some r ∧ CF r ∧ kf r * kf a = 1 := by
  obtain ⟨r, h1, h2, h3⟩ := rinvert_k ha
  refine ⟨r, h1, h2, ?_⟩
  rw [h3]
  have := K.fermat h
  rw [show eP1 = eInv + 1 from rfl, K.pow_add, kpow1] at this
  exact this
theorem cf_zero_f {a : List Int} (ha : CF a) (h : kf a ≠ 0) : decide (a = [0, 0, 0, 0, 0, 0, 0, 0, 0, 0]) = false := decide_eq_false fun e => h ((kf_zero ha).1 e)

abbrev z10 : List Int := [0, 0, 0, 0, 0, 0, 0, 0, 0, 0]

/-- The reference's 'stands'. -/
theorem rstands {s : List Int} (hs : CF s) (hev : (kf s).ev) :
    (∃ x y, veilref05_stands 300 s = some ((x, y), true) ∧ CF x ∧ CF y ∧ Stands (kf s) (kf x) (kf y)) ∨
    (∃ p, veilref05_stands 300 s = some (p, false) ∧ p = (veilref04_Neutral.1, veilref04_Neutral.2) ∧ ∀ x y, ¬ Stands (kf s) x y) := by
  obtain ⟨r1, h1, c1, e1⟩ := rmul_k hs hs
  obtain ⟨r2, h2, c2, e2⟩ := rsub_k rone_cf c1
  obtain ⟨r3, h3, c3, e3⟩ := radd_k rone_cf c1
  obtain ⟨r4, h4, c4, e4⟩ := rmul_k c2 c2
  have nd := rneg_k D_cf
  obtain ⟨r5, h5, c5, e5⟩ := rmul_k nd.1 c4
  obtain ⟨r6, h6, c6, e6⟩ := rmul_k c3 c3
  obtain ⟨r7, h7, c7, e7⟩ := rsub_k c5 c6
  obtain ⟨r8, ok, h8, c8, sr8⟩ := rsqrt_sr c7 rone_cf
  obtain ⟨r11, h11, c11, e11⟩ := radd_k c1 c1
  obtain ⟨r12, h12, c12, e12⟩ := radd_k c11 c1
  obtain ⟨r13, h13, c13, e13⟩ := radd_k c12 c1
  obtain ⟨r14, ok2, h14, c14, sr14⟩ := rsqrt_sr c13 c7
  rw [kf_one] at e2 e3 sr8
  have E1 : kf r1 = kf s ^ 2 := by rw [e1]; grind
  have E7 : kf r7 = -(kD * (1 - kf s ^ 2) ^ 2) - (1 + kf s ^ 2) ^ 2 := by rw [e7, e6, e5, e4, nd.2, D_k, e3, e2, E1]; generalize kf s = a; generalize kD = d; grind
  have E3 : kf r3 = 1 + kf s ^ 2 := by rw [e3, E1]
  have E2 : kf r2 = 1 - kf s ^ 2 := by rw [e2, E1]
  have E13 : kf r13 = 4 * kf s ^ 2 := by rw [e13, e12, e11, E1]; grind
  rw [E7] at sr8 sr14
  rw [E13] at sr14
  by_cases hw : kf r3 = 0
  · right
    refine ⟨_, ?_, rfl, fun x y h => h.w0 (by rw [← E3, hw])⟩
    unfold veilref05_stands
    simp only [h1, h2, h3, h4, h5, h6, h7, mo, decide_eq_true ((kf_zero c3).2 hw), cond_true]
  · by_cases hv : kf r7 = 0
    · right
      refine ⟨_, ?_, rfl, fun x y h => h.v0 (by rw [← E7, hv])⟩
      unfold veilref05_stands
      simp only [h1, h2, h3, h4, h5, h6, h7, mo, cf_zero_f c3 hw, decide_eq_true ((kf_zero c7).2 hv), cond_true, cond_false]
    · obtain ⟨r9, h9, c9, e9⟩ := rinv_k c3 hw
      obtain ⟨r10, h10, c10, e10⟩ := rmul_k c2 c9
      obtain ⟨r15, h15, c15, e15⟩ := rmul_k c14 c10
      have U : veilref05_stands 300 s = cond (!ok) (some ((veilref04_Neutral.1, veilref04_Neutral.2), false)) (cond (decide (r10 = [0, 0, 0, 0, 0, 0, 0, 0, 0, 0])) (some ((veilref04_Neutral.1, veilref04_Neutral.2), false)) (cond (veilref01_F_Negative r15) (some ((veilref04_Neutral.1, veilref04_Neutral.2), false)) (some ((r14, r10), true)))) := by
        unfold veilref05_stands
        simp only [h1, h2, h3, h4, h5, h6, h7, mo, cf_zero_f c3 hw, cf_zero_f c7 hv, cond_false, h8, h9, h10, h11, h12, h13, h14, h15]
      rw [E3] at hw e9
      rw [E7] at hv
      rw [E2] at e10
      have Y : kf r10 * (1 + kf s ^ 2) = 1 - kf s ^ 2 := by rw [e10]; generalize 1 + kf s ^ 2 = w at *; grind
      clear e1 e2 e3 e4 e5 e6 e7 e11 e12 e13 E1 E2 E3 E13 h1 h2 h3 h4 h5 h6 h7 h8 h9 h10 h11 h12 h13 h14 h15
      cases ok with
      | false =>
        right
        refine ⟨_, by rw [U]; rfl, rfl, fun x y h => ?_⟩
        obtain ⟨r, hr⟩ := h.root
        -- v is a square
        obtain ⟨z, hz⟩ := inv_ex (K.mul_ne hw (show r ≠ 0 from fun e => K.one_ne (by rw [← hr, e]; grind)))
        have hz2 : 1 * z ^ 2 = -(kD * (1 - kf s ^ 2) ^ 2) - (1 + kf s ^ 2) ^ 2 := by
          generalize -(kD * (1 - kf s ^ 2) ^ 2) - (1 + kf s ^ 2) ^ 2 = v at *
          generalize 1 + kf s ^ 2 = w at *
          grind
        have := (sr8.found K.one_ne hz2).1
        cases this
      | true =>
        have hsq := (sr8.q hv K.one_ne).2.1 rfl
        have X : (-(kD * (1 - kf s ^ 2) ^ 2) - (1 + kf s ^ 2) ^ 2) * kf r14 ^ 2 = 4 * kf s ^ 2 := by
          obtain ⟨z, hz⟩ := inv_ex (show kf r8 ≠ 0 from fun e => hv (by rw [← hsq, e]; grind))
          have := (sr14.found (r := 2 * kf s * z) hv (by rw [← hsq]; grind)).2
          rw [this, ← hsq]; grind
        by_cases hz : kf r10 = 0
        · right
          refine ⟨_, by rw [U, decide_eq_true ((kf_zero c10).2 hz)]; rfl, rfl, fun x y h => h.y0 ?_⟩
          refine K.cancel hw ?_
          rw [Lean.Grind.CommRing.mul_comm, h.yw, ← Y, hz]; grind
        · by_cases hn : (kf r15).ev
          · left
            refine ⟨r14, r10, by rw [U, cf_zero_f c10 hz, rneg_ev_f c15 hn]; rfl, c14, c10, ⟨hev, sr14.ev, by rw [← e15]; exact hn, hz, hw, Y, hv, X⟩⟩
          · right
            refine ⟨_, by rw [U, cf_zero_f c10 hz, (rneg_ev c15).2 hn]; rfl, rfl, fun x y h => hn ?_⟩
            have hy : kf r10 = y := K.cancel hw (by rw [Lean.Grind.CommRing.mul_comm, Y, ← h.yw, Lean.Grind.CommRing.mul_comm])
            have hx : kf r14 = x := K.ev_root sr14.ev h.x_ev (K.cancel hv (by rw [X, h.xv]))
            rw [e15, hx, hy]; exact h.xy_ev

/-- One of the four candidates. -/
def cnd (N : Nat) (p : List Int × List Int) (y : List Int) (K : Option (List Int)) : Option (List Int) :=
  mo (veilref01_F_Sub N [1, 0, 0, 0, 0, 0, 0, 0, 0, 0] y) none fun r2 =>
  mo (veilref01_F_Add N [1, 0, 0, 0, 0, 0, 0, 0, 0, 0] y) none fun r3 =>
  mo (veilref01_SqrtRatio N r2 r3) none fun r4 =>
  cond r4.2 (
    mo (veilref05_stands N r4.1) none fun r5 =>
    cond r5.2 (
      mo (veilref05_Point_Same N (p.1, p.2) (r5.1.1, r5.1.2)) none fun r6 =>
      cond r6 (mo (veilref01_F_Encode N r4.1) none fun r7 => some r7) K) K) K

theorem encode_form (N : Nat) (p : List Int × List Int) : veilref05_Point_Encode N p = mo (veilref05_coset N ((veilref05_Point_at (p.1, p.2)).1, (veilref05_Point_at (p.1, p.2)).2)) none fun r1 =>
    cnd N p r1.1.2 (cnd N p r1.2.1.2 (cnd N p r1.2.2.1.2 (cnd N p r1.2.2.2.2 (some [0, 0, 0, 0, 0, 0, 0, 0, 0, 0, 0, 0, 0, 0, 0, 0, 0, 0, 0, 0, 0, 0, 0, 0, 0, 0, 0, 0, 0, 0, 0, 0])))) := rfl

theorem coset_k {x y : List Int} (hx : CF x) (hy : CF y) : ∃ a b, veilref05_coset 300 (x, y) = some ((x, y), (a, b), ((veilref01_F_Neg x), (veilref01_F_Neg y)), ((veilref01_F_Neg a), (veilref01_F_Neg b))) ∧ CF a ∧ CF b ∧ kf a = kf y * kI ∧ kf b = kf x * kI := by
  obtain ⟨r1, h1, c1, e1⟩ := rmul_k hy I_cf
  obtain ⟨r2, h2, c2, e2⟩ := rmul_k hx I_cf
  rw [I_k] at e1 e2
  refine ⟨r1, r2, ?_, c1, c2, e1, e2⟩
  unfold veilref05_coset
  simp only [h1, h2, mo]

theorem at_k {x y : List Int} (hx : CF x) (hy : CF y) (h : kf x ≠ 0 ∨ kf y ≠ 0) : veilref05_Point_at (x, y) = (x, y) := by
  unfold veilref05_Point_at
  rcases h with h | h
  · simp only [cf_zero_f hx h, Bool.false_and, cond_false]
  · simp only [cf_zero_f hy h, Bool.false_and, Bool.and_false, cond_false]

theorem dec2 {a b c d : List Int} (ha : CF a) (hb : CF b) (hc : CF c) (hd : CF d) : ((decide (a = c)) && ((decide (b = d)) && true)) = true ↔ (kf c = kf a ∧ kf d = kf b) := by
  rw [Bool.and_true, Bool.and_eq_true, decide_eq_true_eq, decide_eq_true_eq]
  constructor
  · rintro ⟨rfl, rfl⟩; exact ⟨rfl, rfl⟩
  · rintro ⟨h1, h2⟩; exact ⟨cf_k ha hc h1.symm, cf_k hb hd h2.symm⟩

theorem same_k {x y X Y : List Int} (hx : CF x) (hy : CF y) (hX : CF X) (hY : CF Y) (h : kf x ≠ 0 ∨ kf y ≠ 0) (h' : kf X ≠ 0 ∨ kf Y ≠ 0) :
    ∃ b, veilref05_Point_Same 300 (x, y) (X, Y) = some b ∧ (b = true ↔ Rel (kf x) (kf y) (kf X) (kf Y)) := by
  obtain ⟨a, c, h1, ca, cc, ea, ec⟩ := coset_k hX hY
  have nX := rneg_k hX
  have nY := rneg_k hY
  have na := rneg_k ca
  have nc := rneg_k cc
  have d1 := dec2 hX hY hx hy
  have d2 := dec2 ca cc hx hy
  have d3 := dec2 nX.1 nY.1 hx hy
  have d4 := dec2 na.1 nc.1 hx hy
  rw [ea, ec] at d2
  rw [nX.2, nY.2] at d3
  rw [na.2, nc.2, ea, ec] at d4
  unfold veilref05_Point_Same Rel
  simp only [at_k hX hY h', at_k hx hy h, h1, mo]
  rw [← d1, ← d2, ← d3, ← d4]
  generalize ((decide (X = x)) && ((decide (Y = y)) && true)) = b1
  generalize ((decide (a = x)) && ((decide (c = y)) && true)) = b2
  generalize ((decide (veilref01_F_Neg X = x)) && ((decide (veilref01_F_Neg Y = y)) && true)) = b3
  generalize ((decide (veilref01_F_Neg a = x)) && ((decide (veilref01_F_Neg c = y)) && true)) = b4
  cases b1 <;> cases b2 <;> cases b3 <;> cases b4 <;> simp

theorem cnd_k {x y w : List Int} (hx : CF x) (hy : CF y) (hw : CF w) (h : kf x ≠ 0 ∨ kf y ≠ 0) (C : Option (List Int)) :
    (∃ s X Y, cnd 300 (x, y) w C = veilref01_F_Encode 300 s ∧ CF s ∧ Stands (kf s) X Y ∧ Rel (kf x) (kf y) X Y) ∨
    (cnd 300 (x, y) w C = C ∧ ∀ s X, Stands s X (kf w) → ¬ Rel (kf x) (kf y) X (kf w)) := by
  obtain ⟨r2, h2, c2, e2⟩ := rsub_k rone_cf hw
  obtain ⟨r3, h3, c3, e3⟩ := radd_k rone_cf hw
  obtain ⟨r4, ok, h4, c4, sr⟩ := rsqrt_sr c2 c3
  rw [kf_one] at e2 e3
  rw [e2, e3] at sr
  have one : ∀ s X, Stands s X (kf w) → ok = true ∧ kf r4 = s := fun s X st => by
    obtain ⟨f1, f2⟩ := sr.found st.one_plus.2.2 st.s_eq
    exact ⟨f1, K.ev_root sr.ev st.s_ev f2⟩
  cases ok with
  | false =>
    right
    refine ⟨?_, fun s X st => ?_⟩
    · unfold cnd
      simp only [h2, h3, h4, mo, cond_false]
    · have := (one s X st).1
      cases this
  | true =>
    rcases rstands c4 sr.ev with ⟨X, Y, k1, cX, cY, st⟩ | ⟨p, k1, rfl, k2⟩
    · obtain ⟨b, k3, k4⟩ := same_k hx hy cX cY h (.inr st.y0)
      cases b with
      | true =>
        left
        refine ⟨r4, kf X, kf Y, ?_, c4, st, k4.1 rfl⟩
        unfold cnd
        simp only [h2, h3, h4, mo, cond_true, k1, k3]
        cases veilref01_F_Encode 300 r4 <;> rfl
      | false =>
        right
        refine ⟨?_, fun s X' st' rel => ?_⟩
        · unfold cnd
          simp only [h2, h3, h4, mo, cond_true, cond_false, k1, k3]
        · obtain ⟨-, rfl⟩ := one s X' st'
          obtain ⟨rfl, e⟩ := st.same st'
          rw [← e] at rel
          have := k4.2 rel
          cases this
    · right
      refine ⟨?_, fun s X st => ?_⟩
      · unfold cnd
        simp only [h2, h3, h4, mo, cond_true, cond_false, k1]
      · obtain ⟨-, rfl⟩ := one s X st
        exact absurd st (k2 _ _)

/-- The reference's Encode of any even point. -/
theorem rencode {x y s : List Int} (hx : CF x) (hy : CF y) (hs : CF s) (h : kf x ≠ 0 ∨ kf y ≠ 0) {X Y : K} (st : Stands (kf s) X Y) (rel : Rel (kf x) (kf y) X Y) :
    veilref05_Point_Encode 300 (x, y) = veilref01_F_Encode 300 s := by
  obtain ⟨a, c, h1, ca, cc, ea, ec⟩ := coset_k hx hy
  have hi := kI_sq
  have ny := rneg_k hy
  have nc := rneg_k cc
  have good : ∀ {s' : List Int} {X' Y' : K}, CF s' → Stands (kf s') X' Y' → Rel (kf x) (kf y) X' Y' → veilref01_F_Encode 300 s' = veilref01_F_Encode 300 s := fun {s' X' Y'} c' st' rel' => by
    have := (st.uniq st' (rel'.back.trans rel)).1
    rw [cf_k hs c' this]
  rw [encode_form]
  simp only [at_k hx hy h, h1, mo]
  rcases cnd_k hx hy hy h (cnd 300 (x, y) c (cnd 300 (x, y) (veilref01_F_Neg y) (cnd 300 (x, y) (veilref01_F_Neg c) (some [0, 0, 0, 0, 0, 0, 0, 0, 0, 0, 0, 0, 0, 0, 0, 0, 0, 0, 0, 0, 0, 0, 0, 0, 0, 0, 0, 0, 0, 0, 0, 0])))) with ⟨s', X', Y', g1, g2, g3, g4⟩ | ⟨g1, n1⟩
  · rw [g1]; exact good g2 g3 g4
  rw [g1]
  rcases cnd_k hx hy cc h (cnd 300 (x, y) (veilref01_F_Neg y) (cnd 300 (x, y) (veilref01_F_Neg c) (some [0, 0, 0, 0, 0, 0, 0, 0, 0, 0, 0, 0, 0, 0, 0, 0, 0, 0, 0, 0, 0, 0, 0, 0, 0, 0, 0, 0, 0, 0, 0, 0]))) with ⟨s', X', Y', g1, g2, g3, g4⟩ | ⟨g2, n2⟩
  · rw [g1]; exact good g2 g3 g4
  rw [g2]
  rcases cnd_k hx hy ny.1 h (cnd 300 (x, y) (veilref01_F_Neg c) (some [0, 0, 0, 0, 0, 0, 0, 0, 0, 0, 0, 0, 0, 0, 0, 0, 0, 0, 0, 0, 0, 0, 0, 0, 0, 0, 0, 0, 0, 0, 0, 0])) with ⟨s', X', Y', g1, g2, g3, g4⟩ | ⟨g3, n3⟩
  · rw [g1]; exact good g2 g3 g4
  rw [g3]
  rcases cnd_k hx hy nc.1 h (some [0, 0, 0, 0, 0, 0, 0, 0, 0, 0, 0, 0, 0, 0, 0, 0, 0, 0, 0, 0, 0, 0, 0, 0, 0, 0, 0, 0, 0, 0, 0, 0]) with ⟨s', X', Y', g1, g2, g3, g4⟩ | ⟨g4, n4⟩
  · rw [g1]; exact good g2 g3 g4
  -- one of the four it is
  exfalso
  rw [ec] at n2
  rw [ny.2] at n3
  rw [nc.2, ec] at n4
  have mv : ∀ W, Y = W → Stands (kf s) X W ∧ Rel (kf x) (kf y) X W := fun W e => by subst e; exact ⟨st, rel⟩
  rcases rel.back with ⟨r1, r2⟩ | ⟨r1, r2⟩ | ⟨r1, r2⟩ | ⟨r1, r2⟩
  · exact n1 _ X (mv _ r2).1 (mv _ r2).2
  · exact n2 _ X (mv _ r2).1 (mv _ r2).2
  · exact n3 _ X (mv _ r2).1 (mv _ r2).2
  · exact n4 _ X (mv _ r2).1 (mv _ r2).2

/-- A number of the reference for any of the program's. -/
theorem cf_of {a : List Int} (ha : Can a) : ∃ n, CF n ∧ kf n = kv a := by
  obtain ⟨n, -, h2, h3⟩ := of_spec ha.L5
  exact ⟨n, h2, kf_of h3⟩

/-- The program's Encode and the reference's, at points with the same coordinates. -/
theorem enc_same {p1 p2 p3 p4 x y x' y' : List Int} {q : K} (h1 : curve_Point_Affine 300 (p1, p2, p3, p4) = some (x, y)) (hx : Can x) (hy : Can y) (hx' : CF x') (hy' : CF y') (ex : kf x' = kv x) (ey : kf y' = kv y)
    (on : kv y ^ 2 - kv x ^ 2 = 1 + kD * kv x ^ 2 * kv y ^ 2) (hq : (1 + kv y) * (1 - kv y) = q ^ 2) :
    ∃ b, group_Point_Encode 300 (p1, p2, p3, p4) = some b ∧ veilref05_Point_Encode 300 (x', y') = some b ∧ L32 b := by
  obtain ⟨s, X, Y, k1, k2, k3, k4⟩ := pencode h1 hx hy on hq
  obtain ⟨n, n1, n2⟩ := cf_of k2
  have hne : kf x' ≠ 0 ∨ kf y' ≠ 0 := by
    by_cases h0 : kv x = 0
    · right
      intro h2
      rw [ey] at h2
      rw [h0, h2] at on
      exact K.one_ne (by generalize kD = d at *; grind)
    · left; rw [ex]; exact h0
  have r := rencode hx' hy' n1 hne (X := X) (Y := Y) (by rw [n2]; exact k3) (by rw [ex, ey]; exact k4)
  obtain ⟨b, b1, b2, b3⟩ := renc_l32 n1
  have e := encode_spec k2.L5
  refine ⟨_, k1, ?_, e.1⟩
  rw [r, b1]
  refine congrArg some (b2.inj e.1 ?_)
  have v1 : num n = val s := by rw [← cf_v n1, n2, can_v k2]
  rw [b3, e.2, v1, Int.emod_eq_of_lt k2.nonneg.1 k2.nonneg.2]

end Go.Vx.Ref

/- Numbers, part M4: the group's texts in the field K: what bytes are mapped to, by the program. -/
set_option autoImplicit false
set_option linter.unusedSimpArgs false
namespace Go.Vx
open Go

theorem tab3_can' : Can (field_tab 3) := ⟨_, _, _, _, _, rfl, by decide, by decide, by decide, by decide, by decide, by decide⟩
theorem tab5_can' : Can (field_tab 5) := ⟨_, _, _, _, _, rfl, by decide, by decide, by decide, by decide, by decide, by decide⟩
theorem tab6_can' : Can (field_tab 6) := ⟨_, _, _, _, _, rfl, by decide, by decide, by decide, by decide, by decide, by decide⟩
theorem tab3_k : kv (field_tab 3) = kA := by unfold kv kA; rfl
theorem tab5_k : kv (field_tab 5) = 1 - kD ^ 2 := by
  have h : kv (field_tab 5) = 1 - kD * kD := by
    unfold kv kD
    rw [show (1 : K) = K.of 1 from rfl, ← K.of_mul, ← K.of_sub, K.of_eq]
    decide
  rw [h]; generalize kD = d; grind
theorem tab6_k : kv (field_tab 6) = (kD - 1) ^ 2 := by
  have h : kv (field_tab 6) = (kD - 1) * (kD - 1) := by
    unfold kv kD
    rw [show (1 : K) = K.of 1 from rfl, ← K.of_sub, ← K.of_mul, K.of_eq]
    decide
  rw [h]; generalize kD = d; grind
theorem const3' : field_Const 3 = some (field_tab 3) := rfl
theorem const5' : field_Const 5 = some (field_tab 5) := rfl
theorem const6' : field_Const 6 = some (field_tab 6) := rfl
theorem inv_k {a : List Int} (ha : L5 a) : ∃ r, field_Elem_Invert 300 a = some r ∧ Can r ∧ kv r = kv a ^ eI := by
  obtain ⟨r, h1, p1⟩ := invert_spec ha
  exact ⟨r, h1, p1.1, pow_k p1⟩
theorem k_sq (a : K) : a * a = a ^ 2 := by grind

/-- What the program maps a number to. -/
theorem phalf {a : List Int} (ha : L5 a) : ∃ x y t R V S ok s c, group_MapHalf 300 a = some (x, y, [1, 0, 0, 0, 0], t) ∧ Can x ∧ Can y ∧ Can t ∧ kv t = kv x * kv y ∧ HalfK (kv a) (kv x) (kv y) R V S ok s c := by
  have one := one_k a
  have n1 := neg_k one.1.L5
  obtain ⟨r3, h3, c3, e3⟩ := sq_k ha
  obtain ⟨r4, h4, c4, e4⟩ := mul_k tab1_can.L5 c3.L5
  have a4 := add_k c4.L5 one.1.L5
  obtain ⟨r6, h6, c6, e6⟩ := mul_k a4.1.L5 tab5_can'.L5
  obtain ⟨r7, h7, c7, e7⟩ := mul_k c4.L5 tab2_can.L5
  have s7 := sub_k n1.1.L5 c7.L5
  have a7 := add_k c4.L5 tab2_can.L5
  obtain ⟨r8, h8, c8, e8⟩ := mul_k s7.1.L5 a7.1.L5
  obtain ⟨r9, ok, h9, c9, sr⟩ := sqrt_sr c6.L5 c8.L5
  obtain ⟨r10, h10, c10, e10⟩ := mul_k c9.L5 ha
  obtain ⟨b1, b2, b3⟩ := abs_sr c10.L5
  have nb := neg_k b1.L5
  have s4 := sub_k c4.L5 one.1.L5
  -- the numbers
  have R : kv r4 = kI * kv a ^ 2 := by rw [e4, e3, tab1_k, k_sq]
  have V : kv r8 = (-1 - kv r4 * kD) * (kv r4 + kD) := by rw [e8, s7.2, a7.2, n1.2, one.2, e7, tab2_k]
  have U : kv r6 = (kv r4 + 1) * (1 - kD ^ 2) := by rw [e6, a4.2, one.2, tab5_k]
  rw [U] at sr
  have sel : ∃ s c, field_Select (group_pick ok) r9 (field_Elem_Neg (field_Elem_Abs r10)) = s ∧ Can s ∧ field_Select (group_pick ok) (field_Elem_Neg (field_Elem_One a)) r4 = c ∧ Can c ∧
      (ok = true → kv s = kv r9 ∧ kv c = -1) ∧ (ok = false → (∃ w : K, w.ev ∧ w ^ 2 = (kv r9 * kv a) ^ 2 ∧ kv s = -w) ∧ kv c = kv r4) := by
    cases ok with
    | true =>
      refine ⟨_, _, select_true c9 nb.1.L5, c9, select_true n1.1 c4.L5, n1.1, (fun _ => ⟨rfl, by rw [n1.2, one.2]⟩), (fun h => by cases h)⟩
    | false =>
      exact ⟨_, _, select_false c9.L5 nb.1, nb.1, select_false n1.1.L5 c4, c4, (fun h => by cases h), (fun _ => ⟨⟨_, b2, by rw [b3, e10], nb.2⟩, rfl⟩)⟩
  obtain ⟨s, c, g1, g2, g3, g4, g5, g6⟩ := sel
  obtain ⟨r11, h11, c11, e11⟩ := mul_k g4.L5 s4.1.L5
  obtain ⟨r13, h13, c13, e13⟩ := mul_k c11.L5 tab6_can'.L5
  obtain ⟨r14, h14, c14, e14⟩ := sq_k g2.L5
  have ss := add_k g2.L5 g2.L5
  obtain ⟨r15, h15, c15, e15⟩ := mul_k ss.1.L5 c8.L5
  have s13 := sub_k c13.L5 c8.L5
  obtain ⟨r17, h17, c17, e17⟩ := mul_k s13.1.L5 tab3_can'.L5
  obtain ⟨r18, h18, c18, e18⟩ := inv_k c17.L5
  obtain ⟨r19, h19, c19, e19⟩ := mul_k c15.L5 c18.L5
  have a14 := add_k one.1.L5 c14.L5
  obtain ⟨r20, h20, c20, e20⟩ := inv_k a14.1.L5
  have s14 := sub_k one.1.L5 c14.L5
  obtain ⟨r21, h21, c21, e21⟩ := mul_k s14.1.L5 c20.L5
  have X : kv r19 = 2 * kv s * kv r8 * ((kv c * (kv r4 - 1) * (kD - 1) ^ 2 - kv r8) * kA) ^ eI := by
    rw [e19, e18, e17, tab3_k, s13.2, e13, tab6_k, e11, s4.2, one.2, e15, ss.2]
    generalize ((kv c * (kv r4 - 1) * (kD - 1) ^ 2 - kv r8) * kA) ^ eI = w
    grind
  have Y : kv r21 = (1 - kv s ^ 2) * (1 + kv s ^ 2) ^ eI := by
    rw [e21, e20, a14.2, s14.2, one.2, e14, k_sq]
  have hk : HalfK (kv a) (kv r19) (kv r21) (kv r4) (kv r8) (kv r9) ok (kv s) (kv c) := ⟨R, V, sr, g5, g6, X, Y⟩
  obtain ⟨t, f1, f2, f3⟩ := from_affine c19 c21 hk.on.1
  refine ⟨r19, r21, t, _, _, _, _, _, _, ?_, c19, c21, f2, f3, hk⟩
  unfold group_MapHalf
  simp only [const1', const2', const3', const5', const6', h3, h4, h6, h7, h8, h9, h10, g1, g3, h11, h13, h14, h15, h17, h18, h19, h20, h21, f1, mo]

end Go.Vx

/- Numbers, part M5: the group's texts in the field K: what bytes are mapped to, by the reference. -/
set_option autoImplicit false
set_option linter.unusedSimpArgs false
namespace Go.Vx.Ref
open Go

theorem rconst3 (N : Nat) (hN : N = 300) : ∃ n, veilref01_Const N 3 = some n ∧ CF n ∧ kf n = kA := by
  have n := rneg_k D_cf
  obtain ⟨r1, h1, c1, e1⟩ := rsub_k n.1 rone_cf
  rw [n.2, kf_one, ← tab3_sq] at e1
  have t0 : kv (field_tab 3) ≠ 0 := fun h => by
    have := K.of_eq.1 (show K.of (val (field_tab 3)) = K.of 0 from h)
    revert this; decide
  have h0 : kf r1 ≠ 0 := by rw [e1]; exact K.pow_ne t0 2
  obtain ⟨s, h2, c2, p2, q2⟩ := (rroot_k c1 h0).1 (by rw [e1]; exact K.half t0)
  have m := rneg_k c2
  have hs : kf s = - kv (field_tab 3) := by
    have : (kf s - kv (field_tab 3)) * (kf s + kv (field_tab 3)) = 0 := by rw [e1] at q2; grind
    rcases K.mul_zero' this with h | h
    · exfalso
      have h3 : kf s = kv (field_tab 3) := by grind
      have h4 := K.of_eq.1 (show K.of (num s) = K.of (val (field_tab 3)) from h3)
      rw [Int.emod_eq_of_lt c2.2.1.nonneg c2.2.2] at h4
      simp only [num] at p2
      rw [h4] at p2
      revert p2; decide
    · grind
  refine ⟨veilref01_F_Neg s, ?_, m.1, by rw [m.2, hs, tab3_k]; grind⟩
  rw [← hN] at h1 h2
  unfold veilref01_Const
  simp only [show icmp .eql 3 1 = false by decide, show icmp .eql 3 2 = false by decide, show icmp .eql 3 3 = true by decide, cond_false, cond_true, h1, mo, h2]

theorem rinv_e {a : List Int} (ha : CF a) : ∃ r, veilref01_F_Invert 300 a = some r ∧ CF r ∧ kf r = kf a ^ eI := rinvert_k ha
theorem rabs_ev {a : List Int} (ha : CF a) : CF (veilref01_F_Abs a) ∧ (kf (veilref01_F_Abs a)).ev ∧ kf (veilref01_F_Abs a) ^ 2 = kf a ^ 2 := by
  obtain ⟨h1, h2, h3⟩ := rabs_k ha
  exact ⟨h1, (cf_ev h1).2 h2, h3⟩

/-- The last part of the map. -/
def htail (N : Nat) (R V s c : List Int) : Option (List Int × List Int) :=
  mo (veilref01_F_Sub N veilref01_D [1, 0, 0, 0, 0, 0, 0, 0, 0, 0]) none fun r13 =>
  mo (veilref01_F_Sub N R [1, 0, 0, 0, 0, 0, 0, 0, 0, 0]) none fun r14 =>
  mo (veilref01_F_Mul N c r14) none fun r15 =>
  mo (veilref01_F_Mul N r15 r13) none fun r16 =>
  mo (veilref01_F_Mul N r16 r13) none fun r17 =>
  mo (veilref01_F_Sub N r17 V) none fun r18 =>
  mo (veilref01_Const N 3) none fun r19 =>
  mo (veilref01_F_Mul N s s) none fun r20 =>
  mo (veilref01_F_Add N s s) none fun r21 =>
  mo (veilref01_F_Mul N r21 V) none fun r22 =>
  mo (veilref01_F_Mul N r18 r19) none fun r23 =>
  mo (veilref01_F_Invert N r23) none fun r24 =>
  mo (veilref01_F_Mul N r22 r24) none fun r25 =>
  mo (veilref01_F_Sub N [1, 0, 0, 0, 0, 0, 0, 0, 0, 0] r20) none fun r26 =>
  mo (veilref01_F_Add N [1, 0, 0, 0, 0, 0, 0, 0, 0, 0] r20) none fun r27 =>
  mo (veilref01_F_Invert N r27) none fun r28 =>
  mo (veilref01_F_Mul N r26 r28) none fun r29 =>
  some (r25, r29)

theorem htail_k (N : Nat) (hN : N = 300) {R V s c : List Int} (hR : CF R) (hV : CF V) (hs : CF s) (hc : CF c) : ∃ x y, htail N R V s c = some (x, y) ∧ CF x ∧ CF y ∧
    kf x = 2 * kf s * kf V * ((kf c * (kf R - 1) * (kD - 1) ^ 2 - kf V) * kA) ^ eI ∧ kf y = (1 - kf s ^ 2) * (1 + kf s ^ 2) ^ eI := by
  obtain ⟨r13, h13, c13, e13⟩ := rsub_k D_cf rone_cf
  obtain ⟨r14, h14, c14, e14⟩ := rsub_k hR rone_cf
  obtain ⟨r15, h15, c15, e15⟩ := rmul_k hc c14
  obtain ⟨r16, h16, c16, e16⟩ := rmul_k c15 c13
  obtain ⟨r17, h17, c17, e17⟩ := rmul_k c16 c13
  obtain ⟨r18, h18, c18, e18⟩ := rsub_k c17 hV
  obtain ⟨r19, h19, c19, e19⟩ := rconst3 N hN
  obtain ⟨r20, h20, c20, e20⟩ := rmul_k hs hs
  obtain ⟨r21, h21, c21, e21⟩ := radd_k hs hs
  obtain ⟨r22, h22, c22, e22⟩ := rmul_k c21 hV
  obtain ⟨r23, h23, c23, e23⟩ := rmul_k c18 c19
  obtain ⟨r24, h24, c24, e24⟩ := rinv_e c23
  obtain ⟨r25, h25, c25, e25⟩ := rmul_k c22 c24
  obtain ⟨r26, h26, c26, e26⟩ := rsub_k rone_cf c20
  obtain ⟨r27, h27, c27, e27⟩ := radd_k rone_cf c20
  obtain ⟨r28, h28, c28, e28⟩ := rinv_e c27
  obtain ⟨r29, h29, c29, e29⟩ := rmul_k c26 c28
  refine ⟨r25, r29, ?_, c25, c29, ?_, ?_⟩
  · rw [← hN] at h13 h14 h15 h16 h17 h18 h20 h21 h22 h23 h24 h25 h26 h27 h28 h29
    unfold htail
    simp only [h13, h14, h15, h16, h17, h18, h19, h20, h21, h22, h23, h24, h25, h26, h27, h28, h29, mo]
  · have F : kf r18 = kf c * (kf R - 1) * (kD - 1) ^ 2 - kf V := by
      rw [e18, e17, e16, e15, e14, e13, kf_one, D_k]
      generalize kD = d
      grind
    rw [e25, e24, e23, e19, F, e22, e21]
    generalize ((kf c * (kf R - 1) * (kD - 1) ^ 2 - kf V) * kA) ^ eI = w
    grind
  · rw [e29, e28, e27, e26, e20, kf_one, k_sq]

theorem half_form (N : Nat) (a : List Int) : veilref05_MapHalf N a =
  mo (veilref01_F_Mul N veilref01_I a) none fun r1 =>
  mo (veilref01_F_Mul N r1 a) none fun r2 =>
  mo (veilref01_F_Add N r2 [1, 0, 0, 0, 0, 0, 0, 0, 0, 0]) none fun r3 =>
  mo (veilref01_F_Mul N veilref01_D veilref01_D) none fun r4 =>
  mo (veilref01_F_Sub N [1, 0, 0, 0, 0, 0, 0, 0, 0, 0] r4) none fun r5 =>
  mo (veilref01_F_Mul N r3 r5) none fun r6 =>
  mo (veilref01_F_Mul N r2 veilref01_D) none fun r7 =>
  mo (veilref01_F_Sub N (veilref01_F_Neg [1, 0, 0, 0, 0, 0, 0, 0, 0, 0]) r7) none fun r8 =>
  mo (veilref01_F_Add N r2 veilref01_D) none fun r9 =>
  mo (veilref01_F_Mul N r8 r9) none fun r10 =>
  mo (veilref01_SqrtRatio N r6 r10) none fun r11 =>
  cond (!r11.2) (
    mo (veilref01_F_Mul N r11.1 a) none fun r12 => htail N r2 r10 (veilref01_F_Neg (veilref01_F_Abs r12)) r2)
    (htail N r2 r10 r11.1 (veilref01_F_Neg [1, 0, 0, 0, 0, 0, 0, 0, 0, 0])) := rfl

/-- What the reference maps a number to. -/
theorem rhalf (N : Nat) (hN : N = 300) {a : List Int} (ha : CF a) : ∃ x y R V S ok s c, veilref05_MapHalf N a = some (x, y) ∧ CF x ∧ CF y ∧ HalfK (kf a) (kf x) (kf y) R V S ok s c := by
  obtain ⟨r1, h1, c1, e1⟩ := rmul_k I_cf ha
  obtain ⟨r2, h2, c2, e2⟩ := rmul_k c1 ha
  obtain ⟨r3, h3, c3, e3⟩ := radd_k c2 rone_cf
  obtain ⟨r4, h4, c4, e4⟩ := rmul_k D_cf D_cf
  obtain ⟨r5, h5, c5, e5⟩ := rsub_k rone_cf c4
  obtain ⟨r6, h6, c6, e6⟩ := rmul_k c3 c5
  obtain ⟨r7, h7, c7, e7⟩ := rmul_k c2 D_cf
  have n1 := rneg_k rone_cf
  obtain ⟨r8, h8, c8, e8⟩ := rsub_k n1.1 c7
  obtain ⟨r9, h9, c9, e9⟩ := radd_k c2 D_cf
  obtain ⟨r10, h10, c10, e10⟩ := rmul_k c8 c9
  obtain ⟨r11, ok, h11, c11, sr⟩ := rsqrt_sr c6 c10
  have R : kf r2 = kI * kf a ^ 2 := by rw [e2, e1, I_k]; grind
  have V : kf r10 = (-1 - kf r2 * kD) * (kf r2 + kD) := by rw [e10, e8, e9, n1.2, e7, D_k, kf_one]
  have U : kf r6 = (kf r2 + 1) * (1 - kD ^ 2) := by rw [e6, e5, e4, e3, D_k, kf_one, k_sq]
  rw [U] at sr
  rw [← hN] at h1 h2 h3 h4 h5 h6 h7 h8 h9 h10 h11
  rw [half_form]
  simp only [h1, h2, h3, h4, h5, h6, h7, h8, h9, h10, h11, mo]
  cases ok with
  | true =>
    obtain ⟨x, y, k1, k2, k3, k4, k5⟩ := htail_k N hN c2 c10 c11 n1.1
    rw [n1.2, kf_one] at k4
    exact ⟨x, y, _, _, _, _, _, _, k1, k2, k3, ⟨R, V, sr, (fun _ => ⟨rfl, rfl⟩), (fun h => by cases h), k4, k5⟩⟩
  | false =>
    obtain ⟨r12, h12, c12, e12⟩ := rmul_k c11 ha
    obtain ⟨b1, b2, b3⟩ := rabs_ev c12
    have nb := rneg_k b1
    obtain ⟨x, y, k1, k2, k3, k4, k5⟩ := htail_k N hN c2 c10 nb.1 c2
    rw [← hN] at h12
    refine ⟨x, y, _, _, _, _, _, _, ?_, k2, k3, ⟨R, V, sr, fun h => (by cases h), fun _ => ⟨⟨_, b2, by rw [b3, e12], nb.2⟩, rfl⟩, k4, k5⟩⟩
    simp only [Bool.not_false, cond_true, h12, mo]
    exact k1

/-- Both maps are one. -/
theorem half_both {a n : List Int} (ha : L5 a) (hn : CF n) (e : kf n = kv a) : ∃ x y t x' y', group_MapHalf 300 a = some (x, y, [1, 0, 0, 0, 0], t) ∧ veilref05_MapHalf 300 n = some (x', y') ∧ Can x ∧ Can y ∧ Can t ∧ kv t = kv x * kv y ∧ CF x' ∧ CF y' ∧ kf x' = kv x ∧ kf y' = kv y ∧ On (kv x) (kv y) ∧ Even (kv y) := by
  obtain ⟨x, y, t, R, V, S, ok, s, c, h1, h2, h3, h4, h5, h6⟩ := phalf ha
  obtain ⟨x', y', R', V', S', ok', s', c', g1, g2, g3, g4⟩ := rhalf 300 rfl hn
  rw [e] at g4
  obtain ⟨u1, u2⟩ := g4.uniq h6
  exact ⟨x, y, t, x', y', h1, g1, h2, h3, h4, h5, g2, g3, u1, u2, h6.on⟩

end Go.Vx.Ref

/- Numbers, part M6: the curve's points in the field K: what the program's points stand for; sums. -/
set_option autoImplicit false
set_option linter.unusedSimpArgs false
namespace Go.Vx
open Go

abbrev P4 := List Int × List Int × List Int × List Int
abbrev o5 : List Int := [1, 0, 0, 0, 0]
abbrev z5 : List Int := [0, 0, 0, 0, 0]
theorem z5_can : Can z5 := ⟨_, _, _, _, _, rfl, by decide, by decide, by decide, by decide, by decide, by decide⟩
theorem z5_k : kv z5 = 0 := rfl
theorem o5_k : kv o5 = 1 := rfl
theorem can_zero {a : List Int} (h : Can a) : a = z5 ↔ kv a = 0 := ⟨fun e => by rw [e]; rfl, fun e => can_k h z5_can e⟩

/-- The coordinates (X, Y) are those of x/z, y/z; t is x y / z. -/
structure Rep0 (p : P4) (X Y : K) : Prop where
  cx : Can p.1
  cy : Can p.2.1
  cz : Can p.2.2.1
  ct : Can p.2.2.2
  z : kv p.2.2.1 ≠ 0
  x : kv p.1 = X * kv p.2.2.1
  y : kv p.2.1 = Y * kv p.2.2.1
  t : kv p.2.2.2 = X * Y * kv p.2.2.1
/-- The point p stands for the coordinates (X, Y). -/
def Rep (p : P4) (X Y : K) : Prop := Rep0 p X Y ∨ (p.2.2.1 = z5 ∧ X = 0 ∧ Y = 1)

theorem Rep.whole {p : P4} {X Y : K} (h : Rep p X Y) : Rep0 (curve_place_whole p) X Y := by
  unfold curve_place_whole
  rcases h with h | ⟨h, rfl, rfl⟩
  · have : decide (p.2.2.1 = [0, 0, 0, 0, 0]) = false := decide_eq_false fun e => h.z (by rw [e]; rfl)
    rw [this]
    exact h
  · rw [h]
    exact ⟨z5_can, one_can, one_can, z5_can, K.one_ne, by show (0 : K) = 0 * 1; grind, by show (1 : K) = 1 * 1; grind, by show (0 : K) = 0 * 1 * 1; grind⟩
theorem rep_one {x y t : List Int} (hx : Can x) (hy : Can y) (ht : Can t) (h : kv t = kv x * kv y) : Rep (x, y, o5, t) (kv x) (kv y) :=
  .inl ⟨hx, hy, one_can, ht, K.one_ne, by show _ = _ * (1 : K); grind, by show _ = _ * (1 : K); grind, by show _ = _ * (1 : K); rw [h]; grind⟩
theorem rep_zero : Rep (z5, z5, z5, z5) 0 1 := .inr ⟨rfl, rfl, rfl⟩

theorem Rep.affine {p : P4} {X Y : K} (h : Rep p X Y) : ∃ x y, curve_Point_Affine 300 p = some (x, y) ∧ Can x ∧ Can y ∧ kv x = X ∧ kv y = Y := by
  have w := h.whole
  unfold curve_Point_Affine
  generalize curve_place_whole (p.1, p.2.1, p.2.2.1, p.2.2.2) = q at *
  obtain ⟨r1, h1, c1, e1⟩ := inv_k w.cz.L5
  obtain ⟨r2, h2, c2, e2⟩ := mul_k w.cx.L5 c1.L5
  obtain ⟨r3, h3, c3, e3⟩ := mul_k w.cy.L5 c1.L5
  have hi := k_inv w.z
  have hx := w.x
  have hy := w.y
  refine ⟨r2, r3, by simp only [h1, h2, h3, mo], c2, c3, ?_, ?_⟩
  · rw [e2, e1, hx]; generalize kv q.2.2.1 ^ eI = i at *; grind
  · rw [e3, e1, hy]; generalize kv q.2.2.1 ^ eI = i at *; grind

theorem d2_can : Can [1859910466990425, 932731440258426, 1072319116312658, 1815898335770999, 633789495995903] := ⟨_, _, _, _, _, rfl, by decide, by decide, by decide, by decide, by decide, by decide⟩
theorem d2_k : kv [1859910466990425, 932731440258426, 1072319116312658, 1815898335770999, 633789495995903] = kD + kD := by
  unfold kv kD
  rw [← K.of_add, K.of_eq]
  decide

theorem made_k {a b c d : List Int} (ha : Can a) (hb : Can b) (hc : Can c) (hd : Can d) : ∃ x y z t, curve_made a b c d = some (x, y, z, t) ∧ Can x ∧ Can y ∧ Can z ∧ Can t ∧ kv x = kv a * kv b ∧ kv y = kv c * kv d ∧ kv z = kv b * kv c ∧ kv t = kv a * kv d := by
  obtain ⟨r1, h1, c1, e1⟩ := mul_k ha.L5 hb.L5
  obtain ⟨r2, h2, c2, e2⟩ := mul_k hc.L5 hd.L5
  obtain ⟨r3, h3, c3, e3⟩ := mul_k hb.L5 hc.L5
  obtain ⟨r4, h4, c4, e4⟩ := mul_k ha.L5 hd.L5
  exact ⟨r1, r2, r3, r4, by unfold curve_made; simp only [h1, h2, h3, h4, mo], c1, c2, c3, c4, e1, e2, e3, e4⟩

theorem add_fin {a b x y z w d X Y : K} (hX : X * (1 + d * a * x * b * y) = a * y + b * x) (hY : Y * (1 - d * a * x * b * y) = b * y + a * x) :
    ∃ E F G H : K, E = (b * z + a * z) * (y * w + x * w) - (b * z - a * z) * (y * w - x * w) ∧ H = (b * z + a * z) * (y * w + x * w) + (b * z - a * z) * (y * w - x * w) ∧ F = (z * w + z * w) - (a * b * z) * (d + d) * (x * y * w) ∧ G = (z * w + z * w) + (a * b * z) * (d + d) * (x * y * w) ∧
      F = 2 * (z * w) * (1 - d * a * x * b * y) ∧ G = 2 * (z * w) * (1 + d * a * x * b * y) ∧ E * F = X * (F * G) ∧ G * H = Y * (F * G) ∧ E * H = X * Y * (F * G) := by
  have hE : (b * z + a * z) * (y * w + x * w) - (b * z - a * z) * (y * w - x * w) = X * (2 * (z * w) * (1 + d * a * x * b * y)) := by
    rw [show X * (2 * (z * w) * (1 + d * a * x * b * y)) = 2 * (z * w) * (X * (1 + d * a * x * b * y)) by grind, hX]; grind
  have hH : (b * z + a * z) * (y * w + x * w) + (b * z - a * z) * (y * w - x * w) = Y * (2 * (z * w) * (1 - d * a * x * b * y)) := by
    rw [show Y * (2 * (z * w) * (1 - d * a * x * b * y)) = 2 * (z * w) * (Y * (1 - d * a * x * b * y)) by grind, hY]; grind
  have hF : (z * w + z * w) - (a * b * z) * (d + d) * (x * y * w) = 2 * (z * w) * (1 - d * a * x * b * y) := by clear hX hY hE hH; grind
  have hG : (z * w + z * w) + (a * b * z) * (d + d) * (x * y * w) = 2 * (z * w) * (1 + d * a * x * b * y) := by clear hX hY hE hH; grind
  refine ⟨_, _, _, _, rfl, rfl, rfl, rfl, hF, hG, ?_, ?_, ?_⟩
  · rw [hE, hF, hG]; generalize 1 - d * a * x * b * y = u; generalize 1 + d * a * x * b * y = v; clear hX hY hE hH hF hG; grind
  · rw [hH, hF, hG]; generalize 1 - d * a * x * b * y = u; generalize 1 + d * a * x * b * y = v; clear hX hY hE hH hF hG; grind
  · rw [hE, hH, hF, hG]; generalize 1 - d * a * x * b * y = u; generalize 1 + d * a * x * b * y = v; clear hX hY hE hH hF hG; grind

/-- The program's sum. -/
theorem Rep.add {p q : P4} {a b x y : K} (hp : Rep p a b) (hq : Rep q x y) (h1 : On a b) (h2 : On x y) : ∃ r, curve_Point_Add p q = some r ∧ Rep r (ax a b x y) (ay a b x y) := by
  have u := hp.whole
  have v := hq.whole
  unfold curve_Point_Add
  generalize curve_place_whole (p.1, p.2.1, p.2.2.1, p.2.2.2) = p at *
  generalize curve_place_whole (q.1, q.2.1, q.2.2.1, q.2.2.2) = q at *
  have s1 := sub_k u.cy.L5 u.cx.L5
  have s2 := sub_k v.cy.L5 v.cx.L5
  have a1 := add_k u.cy.L5 u.cx.L5
  have a2 := add_k v.cy.L5 v.cx.L5
  obtain ⟨r1, k1, c1, e1⟩ := mul_k s1.1.L5 s2.1.L5
  obtain ⟨r2, k2, c2, e2⟩ := mul_k a1.1.L5 a2.1.L5
  obtain ⟨r3, k3, c3, e3⟩ := mul_k u.ct.L5 d2_can.L5
  obtain ⟨r4, k4, c4, e4⟩ := mul_k c3.L5 v.ct.L5
  obtain ⟨r5, k5, c5, e5⟩ := mul_k u.cz.L5 v.cz.L5
  have f1 := sub_k c2.L5 c1.L5
  have f2 := add_k c5.L5 c5.L5
  have f3 := sub_k f2.1.L5 c4.L5
  have f4 := add_k f2.1.L5 c4.L5
  have f5 := add_k c2.L5 c1.L5
  obtain ⟨X, Y, Z, T, k6, g1, g2, g3, g4, g5, g6, g7, g8⟩ := made_k f1.1 f3.1 f4.1 f5.1
  refine ⟨(X, Y, Z, T), by simp only [k1, k2, k3, k4, k5, k6, mo], .inl ?_⟩
  obtain ⟨E, F, G, H, m1, m2, m3, m4, m5, m6, m7, m8, m9⟩ := add_fin (z := kv p.2.2.1) (w := kv q.2.2.1) (ax_mul h1 h2) (ay_mul h1 h2)
  have eE : kv (field_Elem_Sub r2 r1) = E := by rw [f1.2, e2, e1, a1.2, a2.2, s1.2, s2.2, u.x, u.y, v.x, v.y, m1]
  have eH : kv (field_Elem_Add r2 r1) = H := by rw [f5.2, e2, e1, a1.2, a2.2, s1.2, s2.2, u.x, u.y, v.x, v.y, m2]
  have eF : kv (field_Elem_Sub (field_Elem_Add r5 r5) r4) = F := by rw [f3.2, f2.2, e5, e4, e3, d2_k, u.t, v.t, m3]
  have eG : kv (field_Elem_Add (field_Elem_Add r5 r5) r4) = G := by rw [f4.2, f2.2, e5, e4, e3, d2_k, u.t, v.t, m4]
  rw [eE, eF] at g5
  rw [eG, eH] at g6
  rw [eF, eG] at g7
  rw [eE, eH] at g8
  obtain ⟨w1, w2⟩ := add_whole h1 h2
  have zz : 2 * (kv p.2.2.1 * kv q.2.2.1) ≠ 0 := K.mul_ne K.two_ne (K.mul_ne u.z v.z)
  refine ⟨g1, g2, g3, g4, ?_, ?_, ?_, ?_⟩
  · show kv Z ≠ 0
    rw [g7, m5, m6]; exact K.mul_ne (K.mul_ne zz w2) (K.mul_ne zz w1)
  · show kv X = _ * kv Z
    rw [g5, g7]; exact m7
  · show kv Y = _ * kv Z
    rw [g6, g7]; exact m8
  · show kv T = _ * kv Z
    rw [g8, g7]; exact m9

end Go.Vx

/- Numbers, part M7: the group's texts in the field K: the reference's sums, its map; GroupMaps. -/
set_option autoImplicit false
set_option linter.unusedSimpArgs false
namespace Go.Vx.Ref
open Go

theorem on_ne {x y : K} (h : On x y) : x ≠ 0 ∨ y ≠ 0 := by
  by_cases h0 : x = 0
  · right
    intro h2
    unfold On at h
    rw [h0, h2] at h
    exact K.one_ne (by generalize kD = d at *; grind)
  · exact .inl h0

theorem dv1 {s u v i : K} (h : i * (v * u) = 1) : s * u * i * v = s := by
  rw [show s * u * i * v = s * (i * (v * u)) by grind, h]; grind
theorem dv2 {s u v i : K} (h : i * (v * u) = 1) : s * v * i * u = s := by
  rw [show s * v * i * u = s * (i * (v * u)) by grind, h]; grind

theorem radd4 {a b x y : List Int} (ha : CF a) (hb : CF b) (hx : CF x) (hy : CF y) (h1 : On (kf a) (kf b)) (h2 : On (kf x) (kf y)) :
    ∃ u v, veilref04_Point_Add 300 (a, b) (x, y) = some (u, v) ∧ CF u ∧ CF v ∧ kf u = ax (kf a) (kf b) (kf x) (kf y) ∧ kf v = ay (kf a) (kf b) (kf x) (kf y) := by
  obtain ⟨r1, k1, c1, e1⟩ := rmul_k ha hy
  obtain ⟨r2, k2, c2, e2⟩ := rmul_k hb hx
  obtain ⟨r3, k3, c3, e3⟩ := rmul_k ha hx
  obtain ⟨r4, k4, c4, e4⟩ := rmul_k hb hy
  obtain ⟨r5, k5, c5, e5⟩ := rmul_k D_cf c3
  obtain ⟨r6, k6, c6, e6⟩ := rmul_k c5 c4
  obtain ⟨r7, k7, c7, e7⟩ := radd_k rone_cf c6
  obtain ⟨r8, k8, c8, e8⟩ := rsub_k rone_cf c6
  obtain ⟨r9, k9, c9, e9⟩ := rmul_k c7 c8
  obtain ⟨w1, w2⟩ := add_whole h1 h2
  have E6 : kf r6 = kD * kf a * kf x * kf b * kf y := by rw [e6, e5, e4, e3, D_k]; generalize kD = d; grind
  rw [kf_one, E6] at e7 e8
  have z9 : kf r9 ≠ 0 := by rw [e9, e7, e8]; exact K.mul_ne w1 w2
  obtain ⟨r10, k10, c10, e10⟩ := rinv_k c9 z9
  obtain ⟨r11, k11, c11, e11⟩ := radd_k c1 c2
  obtain ⟨r12, k12, c12, e12⟩ := rmul_k c11 c8
  obtain ⟨r13, k13, c13, e13⟩ := rmul_k c12 c10
  obtain ⟨r14, k14, c14, e14⟩ := radd_k c4 c3
  obtain ⟨r15, k15, c15, e15⟩ := rmul_k c14 c7
  obtain ⟨r16, k16, c16, e16⟩ := rmul_k c15 c10
  refine ⟨r13, r16, ?_, c13, c16, ax_of h1 h2 ?_, ay_of h1 h2 ?_⟩
  · unfold veilref04_Point_Add
    simp only [k1, k2, k3, k4, k5, k6, k7, k8, k9, k10, k11, k12, k13, k14, k15, k16, mo]
  · rw [e9, e7, e8] at e10
    rw [e13, e12, e11, e8, e1, e2]
    exact dv1 e10
  · rw [e9, e7, e8] at e10
    rw [e16, e15, e14, e7, e4, e3]
    exact dv2 e10

theorem radd5 {a b x y : List Int} (ha : CF a) (hb : CF b) (hx : CF x) (hy : CF y) (h1 : On (kf a) (kf b)) (h2 : On (kf x) (kf y)) :
    ∃ u v, veilref05_Point_Add 300 (a, b) (x, y) = some (u, v) ∧ CF u ∧ CF v ∧ kf u = ax (kf a) (kf b) (kf x) (kf y) ∧ kf v = ay (kf a) (kf b) (kf x) (kf y) := by
  obtain ⟨u, v, k, r⟩ := radd4 ha hb hx hy h1 h2
  refine ⟨u, v, ?_, r⟩
  unfold veilref05_Point_Add
  simp only [at_k ha hb (on_ne h1), at_k hx hy (on_ne h2), k, mo]

/-- Encodings of points that stand for the same. -/
theorem enc_rep {p1 p2 p3 p4 x' y' : List Int} {X Y : K} (h : Rep (p1, p2, p3, p4) X Y) (hx : CF x') (hy : CF y') (ex : kf x' = X) (ey : kf y' = Y) (on : On X Y) (ev : Even Y) :
    ∃ b, group_Point_Encode 300 (p1, p2, p3, p4) = some b ∧ veilref05_Point_Encode 300 (x', y') = some b ∧ L32 b := by
  obtain ⟨x, y, k1, k2, k3, k4, k5⟩ := h.affine
  obtain ⟨q, hq⟩ := ev
  exact enc_same k1 k2 k3 hx hy (ex.trans k4.symm) (ey.trans k5.symm) (by rw [k4, k5]; exact on) (by rw [k5]; exact hq)

theorem set_top {b : List Int} (hb : L32 b) : L32 (List.set b 31 (ibin .and .u8 (List.getD b 31 0) 127)) ∧ (numB (List.set b 31 (ibin .and .u8 (List.getD b 31 0) 127)) : Int) = (numB b : Int) % 57896044618658097711785492504343953926634992332820282019728792003956564819968 := by
  obtain ⟨⟨t0, t1⟩, t2⟩ := top_byte hb
  have hand := b_and127 (y := List.getD b 31 0) ⟨t0, t1⟩
  rw [hand]
  have e : List.getD b 31 0 % 128 = List.getD b 31 0 + (List.getD b 31 0 % 128 - List.getD b 31 0) := by omega
  have hB : Bs (List.set b 31 (List.getD b 31 0 % 128)) := fun x hx => by
    have := set_range (lo := 0) (hi := 256) (v := List.getD b 31 0 % 128) (by omega) b (fun x hx => by have := hb.2 x hx; omega) 31 x hx
    omega
  refine ⟨⟨by rw [List.length_set]; exact hb.1, hB⟩, ?_⟩
  have hW := numW_set (w := 8) 31 b (List.getD b 31 0 % 128 - List.getD b 31 0) (by rw [hb.1]; decide)
  rw [← e, ← numB_W b hb.2, ← numB_W _ hB] at hW
  have hlt := numB_32 hb
  rw [hW, show (2 : Int) ^ (8 * 31) = 452312848583266388373324160190187140051835877600158453279131187530910662656 by decide]
  generalize List.getD b 31 0 = y at *
  generalize (numB b : Int) = n at *
  by_cases h : 127 < y
  · have := t2.1 h
    omega
  · have : ¬ 57896044618658097711785492504343953926634992332820282019728792003956564819968 ≤ n := fun g => h (t2.2 g)
    omega

theorem rreduce_k {b : List Int} (hb : L32 b) : ∃ n, veilref01_Reduce 300 b = some n ∧ CF n ∧ kf n = kv (field_Reduce b) := by
  obtain ⟨s1, s2⟩ := set_top hb
  obtain ⟨rc, re⟩ := reduce_spec hb
  obtain ⟨s, k1, k2, k3⟩ := number_spec s1
  refine ⟨s, ?_, k2, ?_⟩
  · unfold veilref01_Reduce
    simp only [k1, mo]
  · show K.of (num s) = K.of (val (field_Reduce b))
    rw [k3, s2, re]

theorem copy_set (a : List Int) (i k : Nat) (h : i < a.length) : List.set (a.take i ++ List.replicate (k + 1) 0) i (List.getD a i 0) = a.take (i + 1) ++ List.replicate k 0 := by
  have hl : (a.take i).length = i := by rw [List.length_take]; omega
  rw [List.set_append_right i _ (by rw [hl]; exact Nat.le_refl i), hl, Nat.sub_self, List.replicate_succ, List.set_cons_zero, List.take_succ_eq_append_getElem h, List.append_assoc]
  have : List.getD a i 0 = a[i] := by rw [List.getD_eq_getElem?_getD, List.getElem?_eq_getElem h]; rfl
  rw [this]; rfl

theorem map_copy (N : Nat) {a : List Int} (ha : a.length = 64) : (k i : Nat) → i + k = 32 → (fuel : Nat) → k < fuel →
    loopF (veilref05_Map_l0 N) fuel (((), (), (), (), (i : Int)), (a, (), a.take i ++ List.replicate k 0, (a.drop 32).take i ++ List.replicate k 0)) = some (.inl (((), (), ()), ((), a.take 32, (a.drop 32).take 32)))
  | 0, i, hi, fuel + 1, _ => by
    obtain rfl : i = 32 := by omega
    rw [loopF_succ]
    simp only [veilref05_Map_l0, show icmp .lss ((32 : Nat) : Int) 32 = false from rfl, cond_false, mo, List.replicate_zero, List.append_nil]
  | k + 1, i, hi, fuel + 1, hf => by
    have h1 : icmp .lss (i : Int) 32 = true := by
      have h : (i : Int) < 32 := by omega
      simpa [icmp] using h
    have h2 : ibin .add .i64 32 (i : Int) = ((32 + i : Nat) : Int) := by rw [i_add (by omega) (by omega)]; omega
    have h3 := i_inc (show i < 1000000 by omega)
    rw [loopF_succ]
    simp only [veilref05_Map_l0, h1, h2, h3, cond_true, dec_range (show i < 64 by omega), dec_range (show i < 32 by omega), dec_range (show 32 + i < 64 by omega), Int.toNat_natCast, mo]
    have e : List.getD a (32 + i) 0 = List.getD (a.drop 32) i 0 := by
      rw [List.getD_eq_getElem?_getD, List.getD_eq_getElem?_getD, List.getElem?_drop]
    rw [e, copy_set a i k (by omega), copy_set (a.drop 32) i k (by rw [List.length_drop]; omega)]
    exact map_copy N ha k (i + 1) (by omega) fuel (by omega)

theorem take_l32 {a : List Int} (hl : a.length = 64) (hb : Bs a) : L32 (List.take 32 (List.drop 0 a)) ∧ L32 (List.take 32 (List.drop 32 a)) :=
  ⟨⟨by rw [List.length_take, List.length_drop]; omega, fun x hx => hb x (List.mem_of_mem_take (by simpa using hx))⟩,
   ⟨by rw [List.length_take, List.length_drop]; omega, fun x hx => hb x (List.mem_of_mem_drop (List.mem_of_mem_take hx))⟩⟩

theorem rmap_form (N : Nat) {a b c x y x' y' u v n m : List Int} (h : loopF (veilref05_Map_l0 N) N (((), (), (), (), 0), (a, (), [0, 0, 0, 0, 0, 0, 0, 0, 0, 0, 0, 0, 0, 0, 0, 0, 0, 0, 0, 0, 0, 0, 0, 0, 0, 0, 0, 0, 0, 0, 0, 0], [0, 0, 0, 0, 0, 0, 0, 0, 0, 0, 0, 0, 0, 0, 0, 0, 0, 0, 0, 0, 0, 0, 0, 0, 0, 0, 0, 0, 0, 0, 0, 0])) = some (.inl (((), (), ()), ((), b, c))))
    (h1 : veilref01_Reduce N b = some n) (h2 : veilref05_MapHalf N n = some (x, y)) (h3 : veilref01_Reduce N c = some m) (h4 : veilref05_MapHalf N m = some (x', y')) (h5 : veilref05_Point_Add N (x, y) (x', y') = some (u, v)) : veilref05_Map N a = some (u, v) := by
  unfold veilref05_Map
  simp only [h, h1, h2, h3, h4, h5, mo]

theorem map_copy0 (N : Nat) (hN : 32 < N) {a : List Int} (ha : a.length = 64) : loopF (veilref05_Map_l0 N) N (((), (), (), (), 0), (a, (), [0, 0, 0, 0, 0, 0, 0, 0, 0, 0, 0, 0, 0, 0, 0, 0, 0, 0, 0, 0, 0, 0, 0, 0, 0, 0, 0, 0, 0, 0, 0, 0], [0, 0, 0, 0, 0, 0, 0, 0, 0, 0, 0, 0, 0, 0, 0, 0, 0, 0, 0, 0, 0, 0, 0, 0, 0, 0, 0, 0, 0, 0, 0, 0])) = some (.inl (((), (), ()), ((), List.take 32 (List.drop 0 a), List.take 32 (List.drop 32 a)))) :=
  map_copy N ha 32 0 rfl N hN

theorem reduce_l5 {b : List Int} (hb : L32 b) : L5 (field_Reduce b) := (reduce_spec hb).1.L5

/-- Both maps of 64 bytes. -/
theorem map_both {a : List Int} (hl : a.length = 64) (hb : Bs a) : ∃ p1 p2 p3 p4 u v, group_Map 300 a = some (p1, p2, p3, p4) ∧ veilref05_Map 300 a = some (u, v) ∧ CF u ∧ CF v ∧ Rep (p1, p2, p3, p4) (kf u) (kf v) ∧ On (kf u) (kf v) ∧ Even (kf v) := by
  obtain ⟨l1, l2⟩ := take_l32 hl hb
  obtain ⟨n1, r1, c1, e1⟩ := rreduce_k l1
  obtain ⟨n2, r2, c2, e2⟩ := rreduce_k l2
  obtain ⟨x, y, t, x', y', k1, k2, k3, k4, k5, k6, k7, k8, k9, k10, k11, k12⟩ := half_both (reduce_l5 l1) c1 e1
  obtain ⟨z, w, s, z', w', m1, m2, m3, m4, m5, m6, m7, m8, m9, m10, m11, m12⟩ := half_both (reduce_l5 l2) c2 e2
  obtain ⟨⟨q1, q2, q3, q4⟩, g1, g2⟩ := (rep_one k3 k4 k5 k6).add (rep_one m3 m4 m5 m6) k11 m11
  obtain ⟨u, v, f1, f2, f3, f4, f5⟩ := radd5 k7 k8 m7 m8 (by rw [k9, k10]; exact k11) (by rw [m9, m10]; exact m11)
  rw [k9, k10, m9, m10] at f4 f5
  refine ⟨q1, q2, q3, q4, u, v, ?_, ?_, f2, f3, by rw [f4, f5]; exact g2, by rw [f4, f5]; exact add_on k11 m11, by rw [f5]; exact add_even k11 m11 k12 m12⟩
  · unfold group_Map group_Point_Add
    simp only [k1, m1, g1, mo]
  · exact rmap_form 300 (map_copy0 300 (by decide) hl) r1 k2 r2 m2 f1

/-- GroupMaps. -/
theorem maps_law (a b : List Int) (hl : a.length = 64) (ha : Bs a) (hb : L5 b) : veillaw05_GroupMaps 300 a b = some true := by
  obtain ⟨p1, p2, p3, p4, u, v, h1, h2, h3, h4, h5, h6, h7⟩ := map_both hl ha
  obtain ⟨c, e1, e2, -⟩ := enc_rep h5 h3 h4 rfl rfl h6 h7
  obtain ⟨n, n1, n2, n3⟩ := of_spec hb
  obtain ⟨x, y, t, x', y', k1, k2, k3, k4, k5, k6, k7, k8, k9, k10, k11, k12⟩ := half_both hb n2 (by show K.of (num n) = K.of (val b); rw [K.of_eq, n3, Int.emod_emod])
  obtain ⟨d, f1, f2, -⟩ := enc_rep (rep_one k3 k4 k5 k6) k7 k8 k9 k10 k11 k12
  unfold veillaw05_GroupMaps
  simp only [h1, e1, h2, e2, mo, decide_true, cond_true, k1, f1, n1, k2, f2]

end Go.Vx.Ref

/- Numbers, part M8: the group's texts in the field K: Decode, the base; GroupDecodes. -/
set_option autoImplicit false
set_option linter.unusedSimpArgs false
namespace Go.Vx.Ref
open Go

theorem Stands.even {s x y : K} (h : Stands s x y) : Even y := by
  obtain ⟨e1, e2, -⟩ := h.one_plus
  obtain ⟨i, hi⟩ := inv_ex h.w0
  refine ⟨2 * s * i, ?_⟩
  have : (1 + y) * (1 - y) = ((1 + y) * (1 + s ^ 2)) * ((1 - y) * (1 + s ^ 2)) * i ^ 2 := by
    generalize 1 + s ^ 2 = w at *
    grind
  rw [this, e1, e2]; grind

theorem rdecode_k {b : List Int} (hb : L32 b) :
    (∃ r, veilref01_Decode 300 b = some (r, 0) ∧ CF r ∧ (field_Decode b).2 = 0 ∧ Can (field_Decode b).1 ∧ kf r = kv (field_Decode b).1 ∧ val (field_Decode b).1 = numB b) ∨
    (veilref01_Decode 300 b = some ([0, 0, 0, 0, 0, 0, 0, 0, 0, 0], 3) ∧ field_Decode b = ([0, 0, 0, 0, 0], 3)) := by
  obtain ⟨r, h1, c1, e1⟩ := number_spec hb
  obtain ⟨z, h2, lz, ez⟩ := renc_l32 c1
  unfold veilref01_Decode
  simp only [h1, h2, mo]
  rcases decode_spec hb with ⟨g1, g2, g3, g4⟩ | ⟨g1, g2⟩
  · left
    have hz : z = b := lz.inj hb (by rw [ez, e1, Int.emod_eq_of_lt (by omega) g1])
    rw [decide_eq_true hz]
    refine ⟨r, rfl, c1, g2, g3, ?_, g4⟩
    show K.of (num r) = K.of (val (field_Decode b).1)
    rw [g4, e1, K.of_eq, Int.emod_emod]
  · right
    have hz : z ≠ b := fun h => by
      have := c1.2.2
      rw [h] at ez
      rw [← ez] at this
      exact absurd this (by omega)
    rw [decide_eq_false hz]
    exact ⟨rfl, g2⟩

/-- Both decodings of 32 bytes. -/
theorem both_decode (N : Nat) (hN : N = 300) {a : List Int} (ha : L32 a) (p : P4) :
    (∃ x y t x' y', group_Point_Decode N p a = some ((x, y, o5, t), 0) ∧ veilref05_Decode N a = some ((x', y'), 0) ∧ CF x' ∧ CF y' ∧ Rep (x, y, o5, t) (kf x') (kf y') ∧ On (kf x') (kf y') ∧ Even (kf y') ∧ group_Point_Encode N (x, y, o5, t) = some a) ∨
    (∃ e, group_Point_Decode N p a = some ((z5, z5, z5, z5), e) ∧ veilref05_Decode N a = some ((veilref05_Neutral.1, veilref05_Neutral.2), e) ∧ (e = 3 ∨ e = 50)) := by
  rcases rdecode_k ha with ⟨r, h1, h2, h3, h4, h5, h6⟩ | ⟨h1, h2⟩
  · rw [← hN] at h1
    have hpair : field_Decode a = ((field_Decode a).1, 0) := by rw [← h3]
    generalize (field_Decode a).1 = s at *
    by_cases ev : (kv s).ev
    · have rev : veilref01_F_Negative r = false := rneg_ev_f h2 (by rw [h5]; exact ev)
      rcases pdecode p hpair h4 ev with ⟨x, y, t, k1, k2, k3, k4, k5, k6⟩ | ⟨k1, k2⟩
      · left
        rw [← hN] at k1
        rcases rstands h2 (by rw [h5]; exact ev) with ⟨x', y', g1, g2, g3, g4⟩ | ⟨q, -, -, g2⟩
        · rw [h5] at g4
          rw [← hN] at g1
          obtain ⟨u1, u2⟩ := g4.same k6
          refine ⟨x, y, t, x', y', k1, ?_, g2, g3, by rw [u1, u2]; exact rep_one k2 k3 k4 k5, g4.on, Stands.even g4, ?_⟩
          · unfold veilref05_Decode
            simp only [h1, mo, show icmp .neq 0 0 = false from rfl, cond_false, rev, g1, Bool.not_true]
          · obtain ⟨q, hq⟩ := Stands.even k6
            obtain ⟨s', X, Y, f1, f2, f3, f4⟩ := pencode (affine_one k2 k3) k2 k3 k6.on hq
            have : s' = s := can_k f2 h4 ((f3.uniq k6 f4).1)
            rw [← hN] at f1
            rw [f1, this]
            have e := encode_spec h4.L5
            refine congrArg some (e.1.inj ha ?_)
            rw [e.2, h6, Int.emod_eq_of_lt]
            · omega
            · rw [← h6]; exact h4.nonneg.2
        · exact absurd k6 (by rw [h5] at g2; exact g2 _ _)
      · right
        rw [← hN] at k1
        refine ⟨50, k1, ?_, .inr rfl⟩
        rcases rstands h2 (by rw [h5]; exact ev) with ⟨x', y', g1, g2, g3, g4⟩ | ⟨q, g1, -, g2⟩
        · rw [h5] at g4
          exact absurd g4 (k2 _ _)
        · rw [← hN] at g1
          unfold veilref05_Decode
          simp only [h1, mo, show icmp .neq 0 0 = false from rfl, cond_false, rev, g1, Bool.not_false, cond_true]
    · right
      refine ⟨3, ?_, ?_, .inl rfl⟩
      · unfold group_Point_Decode
        simp only [hpair, show icmp .neq 0 0 = false from rfl, cond_false, (neg_ev h4).2 ev, cond_true]
      · unfold veilref05_Decode
        simp only [h1, mo, show icmp .neq 0 0 = false from rfl, cond_false, (rneg_ev h2).2 (by rw [h5]; exact ev), cond_true]
  · right
    rw [← hN] at h1
    refine ⟨3, ?_, ?_, .inl rfl⟩
    · unfold group_Point_Decode
      simp only [h2, show icmp .neq 3 0 = true from rfl, cond_true]
    · unfold veilref05_Decode
      simp only [h1, mo, show icmp .neq 3 0 = true from rfl, cond_true]

def kX : K := K.of 15112221349535400772501151409588531511454012693041857206046113283949847762202
def kY : K := K.of 46316835694926478169428394003475163141307993866256225615783033603165251855960
theorem kY_5 : K.of 5 * kY = K.of 4 := by
  unfold kY
  rw [← K.of_mul, K.of_eq]
  decide
theorem base_on : On kX kY := by
  have h : kY * kY - kX * kX = 1 + kD * (kX * kX) * (kY * kY) := by
    unfold kX kY kD
    rw [show (1 : K) = K.of 1 from rfl, ← K.of_mul, ← K.of_mul, ← K.of_mul, ← K.of_mul, ← K.of_sub, ← K.of_add, K.of_eq]
    decide
  unfold On
  generalize kD = d at *
  generalize kX = x at *
  generalize kY = y at *
  grind
theorem base_even : Even kY := by
  refine ⟨K.of 34737626771194858627071295502606372355980995399692169211837275202373938891970, ?_⟩
  unfold kY
  rw [show (1 : K) = K.of 1 from rfl, ← K.of_pow, ← K.of_add, ← K.of_sub, ← K.of_mul, K.of_eq]
  decide
theorem kX_ev : kX.ev := by unfold K.ev; decide
theorem base_d : kD * kY ^ 2 + 1 ≠ 0 := by
  intro h
  have h1 : kD * kY ^ 2 + 1 = K.of (37095705934669439343138083508754565189542113879843219016388785533085940283555 * (46316835694926478169428394003475163141307993866256225615783033603165251855960 * 46316835694926478169428394003475163141307993866256225615783033603165251855960) + 1) := by
    rw [K.of_add, K.of_mul, K.of_mul, ← k_sq]
    rfl
  rw [h1] at h
  have := K.of_eq.1 (show _ = K.of 0 from h)
  revert this
  decide
theorem base_rep : Rep (curve_Base.1, curve_Base.2.1, curve_Base.2.2.1, curve_Base.2.2.2) kX kY := by
  have h1 : Can curve_Base.1 := ⟨_, _, _, _, _, rfl, by decide, by decide, by decide, by decide, by decide, by decide⟩
  have h2 : Can curve_Base.2.1 := ⟨_, _, _, _, _, rfl, by decide, by decide, by decide, by decide, by decide, by decide⟩
  have h3 : Can curve_Base.2.2.2 := ⟨_, _, _, _, _, rfl, by decide, by decide, by decide, by decide, by decide, by decide⟩
  have e1 : kv curve_Base.1 = kX := by unfold kv kX; rw [K.of_eq]; decide
  have e2 : kv curve_Base.2.1 = kY := by unfold kv kY; rw [K.of_eq]; decide
  have := rep_one h1 h2 h3 (by unfold kv; rw [← K.of_mul, K.of_eq]; decide)
  rw [e1, e2] at this
  exact this

theorem rsmall (n : Int) (h : 0 ≤ n ∧ n < 1000) : ∃ r, veilref01_Small 300 n = some r ∧ CF r ∧ kf r = K.of n := by
  obtain ⟨r, h1, h2, h3⟩ := small_spec (n := n) ⟨h.1, by omega⟩
  refine ⟨r, h1, h2, ?_⟩
  show K.of (num r) = K.of n
  rw [h3, K.of_eq, Int.emod_emod]

/-- The reference's base. -/
theorem rbase (N : Nat) (hN : N = 300) : ∃ x y, veilref05_Base N = some (x, y) ∧ veilref04_Base N = some (x, y) ∧ CF x ∧ CF y ∧ kf x = kX ∧ kf y = kY := by
  obtain ⟨r1, h1, c1, e1⟩ := rsmall 4 (by decide)
  obtain ⟨r2, h2, c2, e2⟩ := rsmall 5 (by decide)
  have five : K.of 5 ≠ 0 := fun h => by
    have := K.of_eq.1 (show K.of 5 = K.of 0 from h)
    revert this; decide
  obtain ⟨r3, h3, c3, e3⟩ := rinv_k c2 (by rw [e2]; exact five)
  obtain ⟨r4, h4, c4, e4⟩ := rmul_k c1 c3
  have Y : kf r4 = kY := by
    refine K.cancel five ?_
    rw [kY_5, e4, e1, ← e2]
    rw [show kf r2 * (K.of 4 * kf r3) = (kf r3 * kf r2) * K.of 4 by generalize K.of 4 = k; grind, e3]
    generalize K.of 4 = k; grind
  obtain ⟨s1, k1, d1, f1⟩ := rmul_k c4 c4
  obtain ⟨s2, k2, d2, f2⟩ := rsub_k d1 rone_cf
  obtain ⟨s3, k3, d3, f3⟩ := rmul_k D_cf d1
  obtain ⟨s4, k4, d4, f4⟩ := radd_k d3 rone_cf
  obtain ⟨s5, ok, k5, d5, sr⟩ := rsqrt_sr d2 d4
  rw [kf_one] at f2 f4
  rw [f2, f4, f3, f1, Y, D_k, k_sq] at sr
  have on := base_on
  have := (sr.found (r := kX) base_d (by unfold On at on; generalize kX = x at *; generalize kY = y at *; generalize kD = d at *; grind)).2
  have X : kf s5 = kX := K.ev_root sr.ev kX_ev this
  rw [← hN] at h1 h2 h3 h4 k1 k2 k3 k4 k5
  have hb : veilref04_Base N = some (s5, r4) := by
    unfold veilref04_Base veilref04_XOf
    simp only [h1, h2, h3, h4, k1, k2, k3, k4, k5, mo]
  refine ⟨s5, r4, ?_, hb, d5, c4, X, Y⟩
  unfold veilref05_Base
  simp only [hb, mo]

theorem neutral_enc (N : Nat) (hN : N = 300) : ∃ b, group_Point_Encode N (z5, z5, z5, z5) = some b ∧ veilref05_Point_Encode N (veilref05_Neutral.1, veilref05_Neutral.2) = some b := by
  obtain ⟨b, h1, h2, -⟩ := enc_rep (x' := veilref05_Neutral.1) (y' := veilref05_Neutral.2) rep_zero zero_cf rone_cf rfl kf_one (by unfold On; generalize kD = d; grind) ⟨0, by grind⟩
  rw [← hN] at h1 h2
  exact ⟨b, h1, h2⟩
theorem base_enc (N : Nat) (hN : N = 300) {x y : List Int} (hx : CF x) (hy : CF y) (ex : kf x = kX) (ey : kf y = kY) : ∃ b, group_Point_Encode N (group_Base.1, group_Base.2.1, group_Base.2.2.1, group_Base.2.2.2) = some b ∧ veilref05_Point_Encode N (x, y) = some b := by
  obtain ⟨b, h1, h2, -⟩ := enc_rep base_rep hx hy ex ey base_on base_even
  rw [← hN] at h1 h2
  exact ⟨b, h1, h2⟩

/-- GroupDecodes. -/
theorem decodes_N (N : Nat) (hN : N = 300) (a b : List Int) (ha : L32 a) (hl : b.length = 64) (hb : Bs b) : veillaw05_GroupDecodes N a b = some true := by
  obtain ⟨p1, p2, p3, p4, u, v, h1, -⟩ := map_both hl hb
  obtain ⟨bx, by', k1, -, k2, k3, k4, k5⟩ := rbase N hN
  obtain ⟨c, f1, f2⟩ := base_enc N hN k2 k3 k4 k5
  rw [← hN] at h1
  rcases both_decode N hN ha (p1, p2, p3, p4) with ⟨x, y, t, x', y', g1, g2, g3, g4, g5, g6, g7, g8⟩ | ⟨e, g1, g2, g3⟩
  · obtain ⟨d, m1, m2, -⟩ := enc_rep g5 g3 g4 rfl rfl g6 g7
    rw [← hN] at m1 m2
    rw [g8] at m1
    obtain rfl := Option.some.inj m1
    unfold veillaw05_GroupDecodes
    simp only [h1, g1, g2, mo, show icmp .neq 0 0 = false from rfl, show icmp .eql 0 0 = true from rfl, cond_false, cond_true, g8, decide_true, Bool.not_true, m2, f1, k1, f2]
  · obtain ⟨d, m1, m2⟩ := neutral_enc N hN
    have e1 : icmp .neq e e = false := by rcases g3 with rfl | rfl <;> rfl
    have e2 : icmp .eql e 0 = false := by rcases g3 with rfl | rfl <;> rfl
    unfold veillaw05_GroupDecodes
    simp only [h1, g1, g2, mo, e1, e2, cond_false, cond_true, decide_true, m1, m2, f1, k1, f2]
theorem decodes_law (a b : List Int) (ha : L32 a) (hl : b.length = 64) (hb : Bs b) : veillaw05_GroupDecodes 300 a b = some true := decodes_N 300 rfl a b ha hl hb

end Go.Vx.Ref

/- Numbers, part M9: GroupMaps and GroupDecodes, with the arguments' ranges as the rows have them. -/
set_option autoImplicit false
namespace Go.Vx.Ref
open Go
theorem maps_row (a b : List Int) (ha : a.length = 64 ∧ Bs a) (hb : L5 b) : veillaw05_GroupMaps 300 a b = some true := maps_law a b ha.1 ha.2 hb
theorem decodes_row (a b : List Int) (ha : L32 a) (hb : b.length = 64 ∧ Bs b) : veillaw05_GroupDecodes 300 a b = some true := decodes_law a b ha hb.1 hb.2
end Go.Vx.Ref
