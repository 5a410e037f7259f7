import Derived.Test.YtkilkhhnbhdbbaaDoorVyR
/- Numbers, part T: the field K: even members, squares, ratios of squares; the curve's points out of a number that is not negative. No program in sight. -/
set_option autoImplicit false
namespace Go.Vx
open Go

/-- Not negative: the least number is even. -/
def K.ev (x : K) : Prop := x.v % 2 = 0
theorem K.ev_zero : K.ev 0 := rfl
theorem K.ev_root {a b : K} (ha : a.ev) (hb : b.ev) (h : a ^ 2 = b ^ 2) : a = b := by
  have e : (a - b) * (a + b) = 0 := by grind
  rcases K.mul_zero' e with h1 | h1
  · grind
  · have h2 : a = - b := by grind
    have h3 : a.v = (- b.v) % pF := by rw [h2]; rfl
    have b1 := b.h
    have b2 : 0 ≤ b.v := by rw [← b1]; exact Int.emod_nonneg _ (by decide)
    have b3 : b.v < pF := by rw [← b1]; exact Int.emod_lt_of_pos _ pF_pos
    unfold K.ev at ha hb
    by_cases hz : b.v = 0
    · rw [hz] at h3
      exact K.ext (by rw [h3, hz]; rfl)
    · exfalso
      have h4 : (- b.v) % pF = pF - b.v := by
        rw [show - b.v = (pF - b.v) + pF * (-1) by rw [Int.mul_neg, Int.mul_one]; omega, Int.add_mul_emod_self_left, Int.emod_eq_of_lt (by omega) (by omega)]
      rw [h4] at h3
      simp only [pF] at *
      omega

theorem K.cancel {a b c : K} (h : a ≠ 0) (e : a * b = a * c) : b = c := by
  have : a * (b - c) = 0 := by grind
  rcases K.mul_zero' this with h1 | h1
  · exact absurd h1 h
  · grind
theorem K.sq_zero {a : K} (h : a ^ 2 = 0) : a = 0 := by
  have : a * a = 0 := by grind
  rcases K.mul_zero' this with h1 | h1 <;> exact h1
theorem K.ne_mul {a b : K} (h : a * b ≠ 0) : a ≠ 0 ∧ b ≠ 0 := ⟨fun e => h (by rw [e]; grind), fun e => h (by rw [e]; grind)⟩

/-- A square other than 0. -/
def K.Q (a : K) : Prop := a ^ eQ = 1 ∨ a ^ eQ = -1
theorem K.half' {a : K} (h : a ≠ 0) : (a ^ 2) ^ eQ = 1 ∨ (a ^ 2) ^ eQ = -1 := by
  have e : (a ^ 2) ^ eQ = (a ^ eQ) ^ 2 := by rw [← K.pow_mul, ← K.pow_mul, Nat.mul_comm]
  rw [e]
  have hi := kI_sq
  rcases K.quarter h with h | h | h | h <;> rw [h]
  · left; grind
  · left; grind
  · right; grind
  · right; grind
theorem K.Q_sq {a : K} (h : a ≠ 0) : K.Q (a ^ 2) := K.half' h
theorem K.Q_mul {a w : K} (h : w ≠ 0) : K.Q (a * w ^ 2) ↔ K.Q a := by
  unfold K.Q
  rw [K.mul_pow]
  rcases K.half' h with h | h <;> rw [h]
  · constructor <;> (rintro (h | h)) <;> first | (left; grind) | (right; grind)
  · constructor <;> (rintro (h | h)) <;> first | (left; grind) | (right; grind)

/-- What SqrtRatio answers. -/
structure SR (u v s : K) (ok : Bool) : Prop where
  ev : s.ev
  z : u = 0 → ok = true ∧ s = 0
  z' : u ≠ 0 → v = 0 → ok = false ∧ s = 0
  q : u ≠ 0 → v ≠ 0 → (ok = true ↔ K.Q (u * v ^ 7)) ∧ (ok = true → v * s ^ 2 = u) ∧ (ok = false → v * s ^ 2 = u * kI)

theorem SR.uniq {u v s t : K} {a b : Bool} (h : SR u v s a) (g : SR u v t b) : s = t ∧ a = b := by
  by_cases hu : u = 0
  · exact ⟨by rw [(h.z hu).2, (g.z hu).2], by rw [(h.z hu).1, (g.z hu).1]⟩
  · by_cases hv : v = 0
    · exact ⟨by rw [(h.z' hu hv).2, (g.z' hu hv).2], by rw [(h.z' hu hv).1, (g.z' hu hv).1]⟩
    · obtain ⟨h1, h2, h3⟩ := h.q hu hv
      obtain ⟨g1, g2, g3⟩ := g.q hu hv
      have hab : a = b := by
        cases a <;> cases b
        · rfl
        · exact absurd (h1.2 (g1.1 rfl)) (by simp)
        · exact absurd (g1.2 (h1.1 rfl)) (by simp)
        · rfl
      subst hab
      refine ⟨K.ev_root h.ev g.ev (K.cancel hv ?_), rfl⟩
      cases a
      · rw [h3 rfl, g3 rfl]
      · rw [h2 rfl, g2 rfl]

/-- Where there is a root it is found. -/
theorem SR.found {u v s r : K} {ok : Bool} (h : SR u v s ok) (hv : v ≠ 0) (hr : v * r ^ 2 = u) : ok = true ∧ s ^ 2 = r ^ 2 := by
  by_cases hu : u = 0
  · obtain ⟨h1, h2⟩ := h.z hu
    refine ⟨h1, ?_⟩
    rw [hu] at hr
    rcases K.mul_zero' hr with h3 | h3
    · exact absurd h3 hv
    · rw [h3, h2]; grind
  · obtain ⟨h1, h2, -⟩ := h.q hu hv
    have hr0 : r ≠ 0 := fun e => hu (by rw [← hr, e]; grind)
    have hok : ok = true := by
      rw [h1, ← hr, show v * r ^ 2 * v ^ 7 = (v ^ 4 * r) ^ 2 by grind]
      exact K.Q_sq (K.mul_ne (K.pow_ne hv 4) hr0)
    exact ⟨hok, K.cancel hv (by rw [h2 hok, hr])⟩

/-- The curve's constant. -/
def kD : K := K.of 37095705934669439343138083508754565189542113879843219016388785533085940283555
/-- A root of the inverse of -1 - d. -/
def kM : K := K.of 54469307008909316920995813868745141605393597292927456921205312896311721017578
theorem kM_sq : (-1 - kD) * kM ^ 2 = 1 := by
  rw [show (-1 - kD) = K.of (-1 - 37095705934669439343138083508754565189542113879843219016388785533085940283555) from by rw [K.of_sub]; rfl]
  unfold kM
  rw [← K.of_pow, ← K.of_mul, show (1 : K) = K.of 1 from rfl, K.of_eq]
  decide
theorem dec_y {u w v r : K} (h : v * w ^ 2 * r ^ 2 = 1) : u * r * (r * w) * v * w = u := by grind
theorem dec_x {s w v r : K} (h : v * w ^ 2 * r ^ 2 = 1) : v * (2 * s * (r * w)) ^ 2 = 4 * s ^ 2 := by grind
theorem inv_ex {a : K} (h : a ≠ 0) : ∃ b, a * b = 1 := by
  refine ⟨a ^ 57896044618658097711785492504343953926634992332820282019728792003956564819947, ?_⟩
  have := K.fermat h
  rw [show eP1 = 57896044618658097711785492504343953926634992332820282019728792003956564819947 + 1 from rfl, K.pow_add, show a ^ 1 = a by grind] at this
  rw [Lean.Grind.CommRing.mul_comm]; exact this

/-- A number s that stands for the point (x, y). -/
structure Stands (s x y : K) : Prop where
  s_ev : s.ev
  x_ev : x.ev
  xy_ev : (x * y).ev
  y0 : y ≠ 0
  w0 : 1 + s ^ 2 ≠ 0
  yw : y * (1 + s ^ 2) = 1 - s ^ 2
  v0 : -(kD * (1 - s ^ 2) ^ 2) - (1 + s ^ 2) ^ 2 ≠ 0
  xv : (-(kD * (1 - s ^ 2) ^ 2) - (1 + s ^ 2) ^ 2) * x ^ 2 = 4 * s ^ 2

/-- Such a point is on the curve. -/
theorem Stands.on {s x y : K} (h : Stands s x y) : y ^ 2 - x ^ 2 = 1 + kD * x ^ 2 * y ^ 2 := by
  obtain ⟨-, -, -, -, h1, h2, h3, h4⟩ := h
  generalize kD = d at *
  refine K.cancel h3 (K.cancel h1 (K.cancel h1 ?_))
  have e1 : y ^ 2 * (1 + s ^ 2) ^ 2 = (1 - s ^ 2) ^ 2 := by rw [← h2]; grind
  generalize hv : -(d * (1 - s ^ 2) ^ 2) - (1 + s ^ 2) ^ 2 = v at *
  grind

theorem Stands.one_plus {s x y : K} (h : Stands s x y) : (1 + y) * (1 + s ^ 2) = 2 ∧ (1 - y) * (1 + s ^ 2) = 2 * s ^ 2 ∧ 1 + y ≠ 0 := by
  have h2 := h.yw
  have e1 : (1 + y) * (1 + s ^ 2) = 2 := by grind
  refine ⟨e1, by grind, fun h0 => K.two_ne ?_⟩
  rw [← e1, h0]; grind

/-- Where a number stands for a point a root is found. -/
theorem Stands.root {s x y : K} (h : Stands s x y) : ∃ r, (-(kD * (1 - s ^ 2) ^ 2) - (1 + s ^ 2) ^ 2) * (1 + s ^ 2) ^ 2 * r ^ 2 = 1 := by
  by_cases hs : s = 0
  · refine ⟨kM, ?_⟩
    have := kM_sq
    rw [hs]
    generalize kD = d at *
    generalize kM = m at *
    grind
  · obtain ⟨z, hz⟩ := inv_ex (K.mul_ne (K.mul_ne K.two_ne hs) h.w0)
    refine ⟨x * z, ?_⟩
    have h1 := h.xv
    generalize -(kD * (1 - s ^ 2) ^ 2) - (1 + s ^ 2) ^ 2 = v at *
    generalize 1 + s ^ 2 = w at *
    grind

/-- What the encoding comes to at such a point. -/
theorem Stands.enc {s x y r : K} {ok : Bool} (h : Stands s x y) (hr : SR 1 (((1 + y) * (1 - y)) * (x * y) ^ 2) r ok) :
    (s = 0 ∧ x = 0 ∧ r = 0) ∨ (s ≠ 0 ∧ (r * ((1 + y) * (1 - y))) * (r * (x * y)) * (x * y) = 1 ∧ (r * (x * y) * (1 - y)) ^ 2 = s ^ 2) := by
  obtain ⟨e1, e2, e3⟩ := h.one_plus
  by_cases hs : s = 0
  · left
    have hx : x = 0 := by
      have := h.xv
      rw [hs] at this
      have v0 := h.v0
      rw [hs] at v0
      have : (-(kD * (1 - 0 ^ 2) ^ 2) - (1 + 0 ^ 2) ^ 2) * x ^ 2 = 0 := by rw [this]; grind
      rcases K.mul_zero' this with h1 | h1
      · exact absurd h1 v0
      · exact K.sq_zero h1
    refine ⟨hs, hx, (hr.z' K.one_ne ?_).2⟩
    rw [hx]; grind
  · right
    have hx : x ≠ 0 := by
      intro hx
      have := h.xv
      rw [hx] at this
      have h4 : (2 * s) ^ 2 = 0 := by grind
      rcases K.mul_zero' (show (2 : K) * s = 0 from K.sq_zero h4) with h5 | h5
      · exact K.two_ne h5
      · exact hs h5
    have hy := h.y0
    have ht : x * y ≠ 0 := K.mul_ne hx hy
    have hu : (1 + y) * (1 - y) ≠ 0 := by
      refine K.mul_ne e3 fun h0 => ?_
      rw [h0] at e2
      have h4 : (2 : K) * (s * s) = 0 := by grind
      rcases K.mul_zero' h4 with h5 | h5
      · exact K.two_ne h5
      · rcases K.mul_zero' h5 with h5 | h5 <;> exact hs h5
    -- u t t is a square
    obtain ⟨w, hw⟩ := inv_ex h.w0
    have hw0 : w ≠ 0 := fun e => K.one_ne (by rw [← hw, e]; grind)
    have y1 : 1 + y = 2 * w := K.cancel h.w0 (by grind)
    have y2 : 1 - y = 2 * s ^ 2 * w := K.cancel h.w0 (by grind)
    have hq : 2 * s * w * (x * y) ≠ 0 := K.mul_ne (K.mul_ne (K.mul_ne K.two_ne hs) hw0) ht
    obtain ⟨z, hz⟩ := inv_ex hq
    have hv : ((1 + y) * (1 - y)) * (x * y) ^ 2 = (2 * s * w * (x * y)) ^ 2 := by rw [y1, y2]; grind
    have hr2 := (hr.found (r := z) (K.mul_ne hu (K.pow_ne ht 2)) (by rw [hv]; generalize 2 * s * w * (x * y) = q at *; grind)).2
    have key : r ^ 2 * (((1 + y) * (1 - y)) * (x * y) ^ 2) = 1 := by
      rw [hr2, hv]
      generalize 2 * s * w * (x * y) = q at *
      grind
    refine ⟨hs, ?_, ?_⟩
    · rw [← key]; grind
    · refine K.cancel e3 ?_
      have : (1 + y) * (r * (x * y) * (1 - y)) ^ 2 = (1 - y) * (r ^ 2 * (((1 + y) * (1 - y)) * (x * y) ^ 2)) := by grind
      rw [this, key, y1, y2]; grind

end Go.Vx

/- Numbers, part U: the four points of a coset; every even point has just one number. No program in sight. -/
set_option autoImplicit false
namespace Go.Vx
open Go

theorem K.ev_neg {a : K} (h : a ≠ 0) : K.ev (-a) ↔ ¬ K.ev a := by
  have b1 := a.h
  have b2 : 0 ≤ a.v := by rw [← b1]; exact Int.emod_nonneg _ (by decide)
  have b3 : a.v < pF := by rw [← b1]; exact Int.emod_lt_of_pos _ pF_pos
  have hz : a.v ≠ 0 := fun e => h (K.ext (by rw [e]; rfl))
  have h4 : (-a).v = pF - a.v := by
    show (- a.v) % pF = _
    rw [show - a.v = (pF - a.v) + pF * (-1) by rw [Int.mul_neg, Int.mul_one]; omega, Int.add_mul_emod_self_left, Int.emod_eq_of_lt (by omega) (by omega)]
  unfold K.ev
  rw [h4]
  simp only [pF] at *
  omega

/-- The point (x, y) is one of the four that (X, Y) has. -/
def Rel (x y X Y : K) : Prop := (x = X ∧ y = Y) ∨ (x = Y * kI ∧ y = X * kI) ∨ (x = -X ∧ y = -Y) ∨ (x = -(Y * kI) ∧ y = -(X * kI))
theorem Rel.refl (x y : K) : Rel x y x y := .inl ⟨rfl, rfl⟩
theorem Rel.back {x y X Y : K} (h : Rel x y X Y) : Rel X Y x y := by
  have hi := kI_sq
  rcases h with ⟨rfl, rfl⟩ | ⟨rfl, rfl⟩ | ⟨rfl, rfl⟩ | ⟨rfl, rfl⟩
  · exact .inl ⟨rfl, rfl⟩
  · exact .inr (.inr (.inr ⟨by grind, by grind⟩))
  · exact .inr (.inr (.inl ⟨by grind, by grind⟩))
  · exact .inr (.inl ⟨by grind, by grind⟩)
theorem Rel.trans {x y X Y u v : K} (h : Rel x y X Y) (g : Rel X Y u v) : Rel x y u v := by
  have hi := kI_sq
  rcases g with ⟨rfl, rfl⟩ | ⟨rfl, rfl⟩ | ⟨rfl, rfl⟩ | ⟨rfl, rfl⟩
  · exact h
  · rcases h with ⟨rfl, rfl⟩ | ⟨rfl, rfl⟩ | ⟨rfl, rfl⟩ | ⟨rfl, rfl⟩
    · exact .inr (.inl ⟨rfl, rfl⟩)
    · exact .inr (.inr (.inl ⟨by grind, by grind⟩))
    · exact .inr (.inr (.inr ⟨rfl, rfl⟩))
    · exact .inl ⟨by grind, by grind⟩
  · rcases h with ⟨rfl, rfl⟩ | ⟨rfl, rfl⟩ | ⟨rfl, rfl⟩ | ⟨rfl, rfl⟩
    · exact .inr (.inr (.inl ⟨rfl, rfl⟩))
    · exact .inr (.inr (.inr ⟨by grind, by grind⟩))
    · exact .inl ⟨by grind, by grind⟩
    · exact .inr (.inl ⟨by grind, by grind⟩)
  · rcases h with ⟨rfl, rfl⟩ | ⟨rfl, rfl⟩ | ⟨rfl, rfl⟩ | ⟨rfl, rfl⟩
    · exact .inr (.inr (.inr ⟨rfl, rfl⟩))
    · exact .inl ⟨by grind, by grind⟩
    · exact .inr (.inl ⟨by grind, by grind⟩)
    · exact .inr (.inr (.inl ⟨by grind, by grind⟩))

theorem Stands.s_of {s X Y t : K} (h : Stands s X Y) (ht : t.ev) (e : (1 + Y) * t ^ 2 = 1 - Y) : t = s := by
  obtain ⟨e1, e2, e3⟩ := h.one_plus
  refine K.ev_root ht h.s_ev (K.cancel e3 ?_)
  rw [e]
  refine K.cancel h.w0 ?_
  generalize s ^ 2 = q at *
  grind
theorem Stands.s_eq {s X Y : K} (h : Stands s X Y) : (1 + Y) * s ^ 2 = 1 - Y := by
  have := h.yw
  grind
theorem Stands.same {s X Y x y : K} (h : Stands s X Y) (g : Stands s x y) : X = x ∧ Y = y :=
  ⟨K.ev_root h.x_ev g.x_ev (K.cancel h.v0 (by rw [h.xv, g.xv])), K.cancel h.w0 (by rw [Lean.Grind.CommRing.mul_comm, h.yw, ← g.yw, Lean.Grind.CommRing.mul_comm])⟩

/-- With a zero coordinate: the number is 0. -/
theorem Stands.zero {s X Y : K} (h : Stands s X Y) (hx : X = 0) : s = 0 ∧ Y = 1 := by
  have h1 := h.xv
  rw [hx] at h1
  have h4 : (2 * s) ^ 2 = 0 := by grind
  have hs : s = 0 := by
    rcases K.mul_zero' (show (2 : K) * s = 0 from K.sq_zero h4) with h5 | h5
    · exact absurd h5 K.two_ne
    · exact h5
  refine ⟨hs, ?_⟩
  have := h.yw
  rw [hs] at this
  grind

/-- Of the four points just one is the point of a number, and of one number. -/
theorem Stands.uniq {s t X Y u v : K} (h : Stands s X Y) (g : Stands t u v) (r : Rel u v X Y) : s = t ∧ X = u ∧ Y = v := by
  have hi := kI_sq
  by_cases hx : X = 0
  · obtain ⟨h1, h2⟩ := h.zero hx
    have hu : u = 0 := by
      rcases r with ⟨rfl, rfl⟩ | ⟨rfl, rfl⟩ | ⟨rfl, rfl⟩ | ⟨rfl, rfl⟩
      · exact hx
      · exact absurd (show X * kI = 0 by rw [hx]; grind) g.y0
      · rw [hx]; grind
      · exact absurd (show -(X * kI) = 0 by rw [hx]; grind) g.y0
    obtain ⟨g1, g2⟩ := g.zero hu
    exact ⟨by rw [h1, g1], by rw [hx, hu], by rw [h2, g2]⟩
  · have key : X = u ∧ Y = v := by
      have hxy : X * Y ≠ 0 := K.mul_ne hx h.y0
      have h1 := h.xy_ev
      have h2 := h.x_ev
      have g1 := g.xy_ev
      have g2 := g.x_ev
      rcases r with ⟨rfl, rfl⟩ | ⟨rfl, rfl⟩ | ⟨rfl, rfl⟩ | ⟨rfl, rfl⟩
      · exact ⟨rfl, rfl⟩
      · exfalso
        rw [show Y * kI * (X * kI) = -(X * Y) by grind] at g1
        exact (K.ev_neg hxy).1 g1 h1
      · exact absurd h2 ((K.ev_neg hx).1 g2)
      · exfalso
        rw [show -(Y * kI) * -(X * kI) = -(X * Y) by grind] at g1
        exact (K.ev_neg hxy).1 g1 h1
    obtain ⟨rfl, rfl⟩ := key
    exact ⟨g.s_of h.s_ev h.s_eq, rfl, rfl⟩

/-- The number of a point that is not negative. -/
theorem stands_of {s X Y e : K} (hs : s.ev) (hX : X.ev) (hXY : (X * Y).ev) (x0 : X ≠ 0) (y0 : Y ≠ 0) (on : Y ^ 2 - X ^ 2 = 1 + kD * X ^ 2 * Y ^ 2) (he : e ^ 2 * ((1 + Y) * (1 - Y)) = 1) (hq : s ^ 2 = (e * (1 - Y)) ^ 2) : Stands s X Y := by
  have p1 : 1 + Y ≠ 0 := fun h => K.one_ne (by rw [← he, h]; grind)
  have p2 : 1 - Y ≠ 0 := fun h => K.one_ne (by rw [← he, h]; grind)
  have hsY : (1 + Y) * s ^ 2 = 1 - Y := by rw [hq]; grind
  have hw : (1 + Y) * (1 + s ^ 2) = 2 := by grind
  have w0 : 1 + s ^ 2 ≠ 0 := fun h => K.two_ne (by rw [← hw, h]; grind)
  have yw : Y * (1 + s ^ 2) = 1 - s ^ 2 := K.cancel p1 (by grind)
  have s0 : s ≠ 0 := fun h => p2 (by rw [← hsY, h]; grind)
  have xv : (-(kD * (1 - s ^ 2) ^ 2) - (1 + s ^ 2) ^ 2) * X ^ 2 = 4 * s ^ 2 := by
    refine K.cancel p1 (K.cancel p1 ?_)
    have a1 : (1 + Y) * (1 - s ^ 2) = 2 * Y := by grind
    have a2 : (1 + Y) * ((1 + Y) * (-(kD * (1 - s ^ 2) ^ 2) - (1 + s ^ 2) ^ 2)) = -(kD * ((1 + Y) * (1 - s ^ 2)) ^ 2) - ((1 + Y) * (1 + s ^ 2)) ^ 2 := by
      generalize kD = d; generalize s ^ 2 = q; grind
    have a3 : (1 + Y) * ((1 + Y) * ((-(kD * (1 - s ^ 2) ^ 2) - (1 + s ^ 2) ^ 2) * X ^ 2)) = (1 + Y) * ((1 + Y) * (-(kD * (1 - s ^ 2) ^ 2) - (1 + s ^ 2) ^ 2)) * X ^ 2 := by
      generalize (-(kD * (1 - s ^ 2) ^ 2) - (1 + s ^ 2) ^ 2) = v; grind
    rw [a3, a2, a1, hw]
    have a4 : (1 + Y) * ((1 + Y) * (4 * s ^ 2)) = 4 * ((1 + Y) * ((1 + Y) * s ^ 2)) := by generalize s ^ 2 = q; grind
    rw [a4, hsY]
    clear a1 a2 a3 a4 hsY hw yw hq he
    generalize kD = d at *
    grind
  refine ⟨hs, hX, hXY, y0, w0, yw, fun h => ?_, xv⟩
  rw [h] at xv
  have h4 : (2 * s) ^ 2 = 0 := by grind
  rcases K.mul_zero' (show (2 : K) * s = 0 from K.sq_zero h4) with h5 | h5
  · exact K.two_ne h5
  · exact s0 h5

theorem stands_zero : Stands 0 0 1 := by
  have hm := kM_sq
  have hv : -(kD * (1 - (0 : K) ^ 2) ^ 2) - (1 + (0 : K) ^ 2) ^ 2 = -1 - kD := by generalize kD = d; grind
  exact ⟨K.ev_zero, K.ev_zero, by rw [show (0 : K) * 1 = 0 by grind]; exact K.ev_zero, K.one_ne, by rw [show (1 : K) + 0 ^ 2 = 1 by grind]; exact K.one_ne, by grind, by
    rw [hv]; intro h; rw [h] at hm; exact K.one_ne (by rw [← hm]; grind), by grind⟩

/-- The neutral element's four points. -/
theorem rel_zero {x y : K} (on : y ^ 2 - x ^ 2 = 1 + kD * x ^ 2 * y ^ 2) (h : x * y = 0) : Rel x y 0 1 := by
  have hi := kI_sq
  have e : kD * x ^ 2 * y ^ 2 = 0 := by
    have : kD * x ^ 2 * y ^ 2 = kD * (x * y) ^ 2 := by generalize kD = d; grind
    rw [this, h]; grind
  rw [e] at on
  rcases K.mul_zero' h with h | h
  · have h1 : (y - 1) * (y + 1) = 0 := by rw [h] at on; grind
    rcases K.mul_zero' h1 with h1 | h1
    · exact .inl ⟨h, by grind⟩
    · exact .inr (.inr (.inl ⟨by grind, by grind⟩))
  · have h1 : (x - kI) * (x + kI) = 0 := by rw [h] at on; grind
    rcases K.mul_zero' h1 with h1 | h1
    · exact .inr (.inl ⟨by grind, by grind⟩)
    · exact .inr (.inr (.inr ⟨by grind, by grind⟩))

/-- The last quotient of the four points: by the other one. -/
theorem turn_id {x y : K} (on : y ^ 2 - x ^ 2 = 1 + kD * x ^ 2 * y ^ 2) : ((1 + y) * (1 - y)) * ((1 + x * kI) * (1 - x * kI)) = (-1 - kD) * (x * y) ^ 2 := by
  have hi := kI_sq
  generalize kD = d at *
  grind

end Go.Vx

/- Numbers, part V: d is no square; the map's points; sums of points: whole, on the curve, even. No program in sight. -/
set_option autoImplicit false
namespace Go.Vx
open Go

def kW : K := K.of 57726037407214946216826118689370439883513855613510154556379010025581195643778
theorem kW_sq : kI * kW ^ 2 = kD := by
  unfold kI kW kD
  rw [← K.of_pow, ← K.of_mul, K.of_eq]
  decide
theorem kI_eQ' : kI ^ eQ = -kI := by
  have h4 : kI ^ 4 = 1 := by have := kI_sq; grind
  have e : eQ = 4 * 3618502788666131106986593281521497120414687020801267626233049500247285301246 + 3 := rfl
  rw [e, K.pow_add, K.pow_mul, h4]
  have one : ∀ n : Nat, (1 : K) ^ n = 1 := fun n => by
    rw [show (1 : K) = K.of 1 from rfl, ← K.of_pow, Int.one_pow]
  rw [one]
  have := kI_sq
  grind
theorem kD_ne : kD ≠ 0 := by
  intro h
  have := K.of_eq.1 (show K.of 37095705934669439343138083508754565189542113879843219016388785533085940283555 = K.of 0 from h)
  revert this; decide
theorem kI_ne : kI ≠ 0 := fun h => by have := kI_sq; rw [h] at this; exact K.one_ne (by grind)
/-- d is no square. -/
theorem kD_Q : ¬ K.Q kD := by
  have hw : kW ≠ 0 := fun h => kD_ne (by rw [← kW_sq, h]; grind)
  rw [← kW_sq, K.Q_mul hw]
  unfold K.Q
  rw [kI_eQ']
  have hi := kI_sq
  rintro (h | h)
  · have : kI = -1 := by grind
    rw [this] at hi; exact K.two_ne (by grind)
  · have : kI = 1 := by grind
    rw [this] at hi; exact K.two_ne (by grind)
theorem d_sq {a b : K} (h : kD * a ^ 2 = b ^ 2) : a = 0 ∧ b = 0 := by
  have ha : a = 0 := by
    refine Classical.byContradiction fun ha => ?_
    have hb : b ≠ 0 := fun hb => by
      rw [hb] at h
      rcases K.mul_zero' (show kD * a ^ 2 = 0 by rw [h]; grind) with h1 | h1
      · exact kD_ne h1
      · exact ha (K.sq_zero h1)
    have := K.Q_sq hb
    rw [← h, K.Q_mul ha] at this
    exact kD_Q this
  refine ⟨ha, K.sq_zero ?_⟩
  rw [← h, ha]; grind

/-- A point of the curve. -/
def On (x y : K) : Prop := y ^ 2 - x ^ 2 = 1 + kD * x ^ 2 * y ^ 2
/-- An even point. -/
def Even (y : K) : Prop := ∃ q : K, (1 + y) * (1 - y) = q ^ 2

theorem ell_id {s v d : K} : (1 + d) * (v * s ^ 2) ^ 2 + 2 * (1 - d) * (v * s ^ 2) * v + (1 + d) * v ^ 2 = v ^ 2 * ((1 + s ^ 2) ^ 2 + d * (1 - s ^ 2) ^ 2) := by grind
theorem ell_on {x y s v n m w d : K} (wn : w * (n * m) ≠ 0) (hw : w = 1 + s ^ 2) (hy : y * w = 1 - s ^ 2) (hx : x * (n * m) = 2 * s * v) (hm : m ^ 2 = -d - 1) (hn : n ^ 2 * (d + 1) = v ^ 2 * (w ^ 2 + d * (1 - s ^ 2) ^ 2)) : y ^ 2 - x ^ 2 = 1 + d * x ^ 2 * y ^ 2 := by
  refine K.cancel wn (K.cancel wn ?_)
  have a1 : (w * (n * m)) * ((w * (n * m)) * (y ^ 2 - x ^ 2)) = (n * m) ^ 2 * (y * w) ^ 2 - (x * (n * m)) ^ 2 * w ^ 2 := by grind
  have a2 : (w * (n * m)) * ((w * (n * m)) * (1 + d * x ^ 2 * y ^ 2)) = (w * (n * m)) ^ 2 + d * (x * (n * m)) ^ 2 * (y * w) ^ 2 := by grind
  rw [a1, a2, hy, hx]
  have a3 : (n * m) ^ 2 = n ^ 2 * (-d - 1) := by rw [← hm]; grind
  have a4 : (w * (n * m)) ^ 2 = w ^ 2 * (n ^ 2 * (-d - 1)) := by rw [← a3]; grind
  rw [a3, a4]
  clear a1 a2 a3 a4 hx hy hm wn
  grind
theorem ell_even {y s w i : K} (hw : w = 1 + s ^ 2) (hi : w * i = 1) (hy : y * w = 1 - s ^ 2) : (1 + y) * (1 - y) = (2 * s * i) ^ 2 := by
  have h1 : y = (1 - s ^ 2) * i := by grind
  rw [h1]
  grind

/-- The map's point: on the curve, even. -/
theorem ell {x y s v n m i1 i2 : K} (hm : m ^ 2 = -kD - 1) (hx : x = 2 * s * v * i1) (hy : y = (1 - s ^ 2) * i2) (h1 : n * m ≠ 0 → n * m * i1 = 1) (h2 : 1 + s ^ 2 ≠ 0 → (1 + s ^ 2) * i2 = 1)
    (h : s = 0 ∨ (v ≠ 0 ∧ n ^ 2 * (kD + 1) = v ^ 2 * ((1 + s ^ 2) ^ 2 + kD * (1 - s ^ 2) ^ 2))) : On x y ∧ Even y := by
  by_cases hs : s = 0
  · have e1 : (1 : K) + s ^ 2 = 1 := by rw [hs]; grind
    have hi := h2 (by rw [e1]; exact K.one_ne)
    have x0 : x = 0 := by rw [hx, hs]; grind
    have y1 : y = 1 := by rw [hy, hs]; rw [hs] at hi; grind
    rw [x0, y1]
    exact ⟨by unfold On; generalize kD = d; grind, 0, by grind⟩
  · rcases h with h | ⟨hv, hn⟩
    · exact absurd h hs
    · have hi := kI_sq
      have n0 : n ≠ 0 := fun e => by
        rw [e] at hn
        have h3 : kD * (1 - s ^ 2) ^ 2 = (kI * (1 + s ^ 2)) ^ 2 := by
          have : v ^ 2 * ((1 + s ^ 2) ^ 2 + kD * (1 - s ^ 2) ^ 2) = 0 := by rw [← hn]; grind
          rcases K.mul_zero' this with h4 | h4
          · exact absurd (K.sq_zero h4) hv
          · generalize kD = d at *; grind
        obtain ⟨h4, h5⟩ := d_sq h3
        rcases K.mul_zero' h5 with h6 | h6
        · exact kI_ne h6
        · exact K.two_ne (by grind)
      have w0 : 1 + s ^ 2 ≠ 0 := fun e => by
        have h3 : kD * (2 * v * kM) ^ 2 = (kI * n) ^ 2 := by
          have hM := kM_sq
          have e2 : 1 - s ^ 2 = 2 := by grind
          rw [e, e2] at hn
          generalize kD = d at *
          generalize kM = k at *
          clear hx hy h1 h2 hm e e2
          grind
        have h4 := (d_sq h3).1
        have kM0 : kM ≠ 0 := fun h => by have := kM_sq; rw [h] at this; exact K.one_ne (by rw [← this]; grind)
        exact K.mul_ne (K.mul_ne K.two_ne hv) kM0 h4
      have m0 : m ≠ 0 := fun e => by
        rw [e] at hm
        have hM := kM_sq
        rw [show (-1 - kD) = 0 by generalize kD = d at *; grind] at hM
        exact K.one_ne (by rw [← hM]; grind)
      have nm := K.mul_ne n0 m0
      have k1 := h1 nm
      have k2 := h2 w0
      have hyw : y * (1 + s ^ 2) = 1 - s ^ 2 := by rw [hy]; grind
      have hxn : x * (n * m) = 2 * s * v := by rw [hx]; grind
      exact ⟨ell_on (K.mul_ne w0 nm) rfl hyw hxn hm hn, _, ell_even rfl k2 hyw⟩

theorem ell_a {r d u v n : K} (hu : u = (r + 1) * (1 - d ^ 2)) (hv : v = (-1 - r * d) * (r + d)) (hn : n = -1 * (r - 1) * (d - 1) ^ 2 - v) : n ^ 2 * (d + 1) = (1 + d) * u ^ 2 + 2 * (1 - d) * u * v + (1 + d) * v ^ 2 := by
  subst hu hn hv; grind
theorem ell_b {r d u v n : K} (hu : u = (r + 1) * (1 - d ^ 2)) (hv : v = (-1 - r * d) * (r + d)) (hn : n = r * (r - 1) * (d - 1) ^ 2 - v) : n ^ 2 * (d + 1) = (1 + d) * (u * r) ^ 2 + 2 * (1 - d) * (u * r) * v + (1 + d) * v ^ 2 := by
  subst hu hn hv; grind

/-- Denominators of sums are not 0. -/
theorem whole_id {d a b x y e : K} (h1 : b ^ 2 - a ^ 2 = 1 + d * a ^ 2 * b ^ 2) (h2 : y ^ 2 - x ^ 2 = 1 + d * x ^ 2 * y ^ 2) (he : e = d * a * x * b * y) (hee : e ^ 2 = 1) (hi : kI * kI = -1) :
    d * (a * b * (kI * x + y)) ^ 2 = (kI * a + e * b) ^ 2 ∧ d * (a * b * (kI * x - y)) ^ 2 = (kI * a - e * b) ^ 2 := by
  have k : d * a ^ 2 * b ^ 2 * (y ^ 2 - x ^ 2) = d * a ^ 2 * b ^ 2 + 1 := by
    rw [h2, ← hee, he]; grind
  constructor <;> grind
theorem add_whole {a b x y : K} (h1 : On a b) (h2 : On x y) : 1 + kD * a * x * b * y ≠ 0 ∧ 1 - kD * a * x * b * y ≠ 0 := by
  have hi := kI_sq
  have key : (kD * a * x * b * y) ^ 2 = 1 → False := by
    intro hee
    obtain ⟨k1, k2⟩ := whole_id h1 h2 rfl hee hi
    have hab : a * b ≠ 0 := fun h => K.one_ne (by
      rw [← hee, show kD * a * x * b * y = kD * x * y * (a * b) by grind, h]; grind)
    have z1 := (d_sq k1).1
    have z2 := (d_sq k2).1
    have z3 : kI * x + y = 0 := (K.mul_zero' z1).elim (fun h => absurd h hab) id
    have z4 : kI * x - y = 0 := (K.mul_zero' z2).elim (fun h => absurd h hab) id
    have hy : 2 * y = 0 := by grind
    have hy : y = 0 := (K.mul_zero' hy).elim (fun h => absurd h K.two_ne) id
    exact K.one_ne (by rw [← hee, hy]; grind)
  exact ⟨fun h => key (by grind), fun h => key (by grind)⟩

end Go.Vx

/- Numbers, part V2: sums of points. No program in sight. -/
set_option autoImplicit false
namespace Go.Vx
open Go

theorem even_id1 {d a b x y : K} (h1 : b ^ 2 - a ^ 2 = 1 + d * a ^ 2 * b ^ 2) (h2 : y ^ 2 - x ^ 2 = 1 + d * x ^ 2 * y ^ 2) :
    ((1 - d * a * x * b * y) ^ 2 - (b * y + a * x) ^ 2) * ((1 - b ^ 2) * (1 - y ^ 2)) = (-1 - d) * (a * b * (1 - y ^ 2) + x * y * (1 - b ^ 2)) ^ 2 := by
  grind
theorem add_id {d a b x y : K} (h1 : b ^ 2 - a ^ 2 = 1 + d * a ^ 2 * b ^ 2) (h2 : y ^ 2 - x ^ 2 = 1 + d * x ^ 2 * y ^ 2) :
    (b * y + a * x) ^ 2 * (1 + d * a * x * b * y) ^ 2 - (a * y + b * x) ^ 2 * (1 - d * a * x * b * y) ^ 2 = (1 + d * a * x * b * y) ^ 2 * (1 - d * a * x * b * y) ^ 2 + d * (a * y + b * x) ^ 2 * (b * y + a * x) ^ 2 := by
  grind
/-- A root of -1 - d. -/
def kA : K := K.of 25063068953384623474111414158702152701244531502492656460079210482610430750235
theorem kA_sq : kA ^ 2 = -kD - 1 := by
  rw [show (-kD - 1) = K.of (-37095705934669439343138083508754565189542113879843219016388785533085940283555 - 1) from by rw [K.of_sub, K.of_neg]; rfl]
  unfold kA
  rw [← K.of_pow, K.of_eq]
  decide
theorem d1_ne : (1 : K) + kD ≠ 0 := fun h => by
  have hM := kM_sq
  rw [show (-1 - kD) = -(1 + kD) by generalize kD = d; grind, h] at hM
  exact K.one_ne (by rw [← hM]; grind)

theorem on_one {a b : K} (h : On a b) (hb : 1 - b ^ 2 = 0) : a = 0 := by
  have h1 : (1 + kD) * a ^ 2 = 0 := by
    unfold On at h
    generalize kD = d at *
    grind
  rcases K.mul_zero' h1 with h2 | h2
  · exact absurd h2 d1_ne
  · exact K.sq_zero h2

theorem even_fin {t B u q p m z c : K} (hq : ((1 - t) ^ 2 - B ^ 2) * (q ^ 2 * p ^ 2) = m ^ 2 * c ^ 2) (hz : (1 - t) * (q * p) * z = 1) (hu : u * (1 - t) = B) : (1 + u) * (1 - u) = (m * c * z) ^ 2 := by
  have h1 : (1 + u) * (1 - u) * (1 - t) ^ 2 = (1 - t) ^ 2 - B ^ 2 := by rw [← hu]; grind
  have h2 : (m * c * z) ^ 2 = (m ^ 2 * c ^ 2) * z ^ 2 := by grind
  rw [h2, ← hq, ← h1]
  generalize 1 - t = w at *
  grind

/-- Sums of even points of the curve are such. -/
theorem add_pt {a b x y x3 y3 : K} (h1 : On a b) (h2 : On x y) (e1 : Even b) (e2 : Even y) (hx : x3 * (1 + kD * a * x * b * y) = a * y + b * x) (hy : y3 * (1 - kD * a * x * b * y) = b * y + a * x) : On x3 y3 ∧ Even y3 := by
  obtain ⟨w1, w2⟩ := add_whole h1 h2
  constructor
  · have := add_id h1 h2
    unfold On
    generalize hd : kD = d at *
    generalize ht : d * a * x * b * y = t at *
    refine K.cancel w1 (K.cancel w1 (K.cancel w2 (K.cancel w2 ?_)))
    rw [← hx, ← hy] at this
    clear h1 h2 e1 e2 hx hy ht
    grind
  · obtain ⟨q, hq⟩ := e1
    obtain ⟨p, hp⟩ := e2
    have hq' : 1 - b ^ 2 = q ^ 2 := by rw [← hq]; grind
    have hp' : 1 - y ^ 2 = p ^ 2 := by rw [← hp]; grind
    by_cases q0 : q = 0
    · have a0 := on_one h1 (by rw [hq', q0]; grind)
      refine ⟨p, ?_⟩
      rw [a0] at hy
      have hb : b ^ 2 = 1 := by rw [q0] at hq'; grind
      have hy' : y3 = b * y := by generalize kD = d at *; grind
      rw [hy', ← hp]; grind
    · by_cases p0 : p = 0
      · have x0 := on_one h2 (by rw [hp', p0]; grind)
        refine ⟨q, ?_⟩
        rw [x0] at hy
        have hb : y ^ 2 = 1 := by rw [p0] at hp'; grind
        have hy' : y3 = b * y := by generalize kD = d at *; grind
        rw [hy', ← hq]; grind
      · have k := even_id1 h1 h2
        rw [hq', hp', show (-1 - kD) = kA ^ 2 by rw [kA_sq]; generalize kD = d; grind] at k
        obtain ⟨z, hz⟩ := inv_ex (K.mul_ne w2 (K.mul_ne q0 p0))
        exact ⟨_, even_fin k hz hy⟩

end Go.Vx

/- Numbers, part V3: what a number is mapped to. No program in sight. -/
set_option autoImplicit false
namespace Go.Vx
open Go

def eI : Nat := 57896044618658097711785492504343953926634992332820282019728792003956564819947
theorem k_inv {a : K} (h : a ≠ 0) : a * a ^ eI = 1 := by
  have := K.fermat h
  rw [show eP1 = eI + 1 from rfl, K.pow_add, show a ^ 1 = a by grind] at this
  rw [Lean.Grind.CommRing.mul_comm]; exact this

/-- The number T is mapped to the point (X, Y). -/
structure HalfK (T X Y R V S : K) (ok : Bool) (s c : K) : Prop where
  r : R = kI * T ^ 2
  v : V = (-1 - R * kD) * (R + kD)
  sr : SR ((R + 1) * (1 - kD ^ 2)) V S ok
  yes : ok = true → s = S ∧ c = -1
  no : ok = false → (∃ w : K, w.ev ∧ w ^ 2 = (S * T) ^ 2 ∧ s = -w) ∧ c = R
  x : X = 2 * s * V * ((c * (R - 1) * (kD - 1) ^ 2 - V) * kA) ^ eI
  y : Y = (1 - s ^ 2) * (1 + s ^ 2) ^ eI

theorem HalfK.uniq {T X Y R V S s c X' Y' R' V' S' s' c' : K} {ok ok' : Bool} (h : HalfK T X Y R V S ok s c) (g : HalfK T X' Y' R' V' S' ok' s' c') : X = X' ∧ Y = Y' := by
  obtain ⟨rfl, rfl, h3, h4, h5, rfl, rfl⟩ := h
  obtain ⟨rfl, rfl, g3, g4, g5, rfl, rfl⟩ := g
  obtain ⟨rfl, rfl⟩ := h3.uniq g3
  have : s = s' ∧ c = c' := by
    cases ok with
    | true => exact ⟨by rw [(h4 rfl).1, (g4 rfl).1], by rw [(h4 rfl).2, (g4 rfl).2]⟩
    | false =>
      obtain ⟨⟨w, w1, w2, rfl⟩, rfl⟩ := h5 rfl
      obtain ⟨⟨w', w1', w2', rfl⟩, rfl⟩ := g5 rfl
      exact ⟨by rw [K.ev_root w1 w1' (by rw [w2, w2'])], rfl⟩
  obtain ⟨rfl, rfl⟩ := this
  exact ⟨rfl, rfl⟩

theorem HalfK.on {T X Y R V S s c : K} {ok : Bool} (h : HalfK T X Y R V S ok s c) : On X Y ∧ Even Y := by
  obtain ⟨hr, hv, h3, h4, h5, hx, hy⟩ := h
  refine ell (s := s) (v := V) (n := c * (R - 1) * (kD - 1) ^ 2 - V) (m := kA) kA_sq hx hy (fun h => k_inv h) (fun h => k_inv h) ?_
  by_cases hs : s = 0
  · exact .inl hs
  right
  cases ok with
  | true =>
    obtain ⟨rfl, rfl⟩ := h4 rfl
    have u0 : (R + 1) * (1 - kD ^ 2) ≠ 0 := fun e => hs (h3.z e).2
    have v0 : V ≠ 0 := fun e => by have := (h3.z' u0 e).1; cases this
    have k := (h3.q u0 v0).2.1 rfl
    refine ⟨v0, ?_⟩
    rw [ell_a (r := R) (d := kD) rfl hv rfl, ← ell_id, k]
  | false =>
    obtain ⟨⟨w, -, w2, rfl⟩, rfl⟩ := h5 rfl
    have w0 : w ≠ 0 := fun e => hs (by rw [e]; grind)
    have u0 : (c + 1) * (1 - kD ^ 2) ≠ 0 := fun e => by have := (h3.z e).1; cases this
    have v0 : V ≠ 0 := fun e => w0 (K.sq_zero (by rw [w2, (h3.z' u0 e).2]; grind))
    have k := (h3.q u0 v0).2.2 rfl
    refine ⟨v0, ?_⟩
    have hw : V * (-w) ^ 2 = (c + 1) * (1 - kD ^ 2) * c := by
      have : (-w) ^ 2 = S ^ 2 * T ^ 2 := by
        have : (-w) ^ 2 = w ^ 2 := by grind
        rw [this, w2]; grind
      rw [this, show V * (S ^ 2 * T ^ 2) = (V * S ^ 2) * T ^ 2 by grind, k]
      generalize (c + 1) * (1 - kD ^ 2) = u at *
      rw [hr]; grind
    rw [ell_b (r := c) (d := kD) rfl hv rfl, ← ell_id, hw]

end Go.Vx

/- Numbers, part V4: sums of points as functions. No program in sight. -/
set_option autoImplicit false
namespace Go.Vx
open Go

def K.inv (a : K) : K := a ^ eI
theorem K.inv_mul {a : K} (h : a ≠ 0) : a * K.inv a = 1 := k_inv h
theorem K.inv_uniq {a b : K} (h : a * b = 1) : b = K.inv a := by
  have ha : a ≠ 0 := fun e => K.one_ne (by rw [← h, e]; grind)
  have := K.inv_mul ha
  refine K.cancel ha ?_
  rw [h, this]
def ax (a b x y : K) : K := (a * y + b * x) * K.inv (1 + kD * a * x * b * y)
def ay (a b x y : K) : K := (b * y + a * x) * K.inv (1 - kD * a * x * b * y)
theorem ax_mul {a b x y : K} (h1 : On a b) (h2 : On x y) : ax a b x y * (1 + kD * a * x * b * y) = a * y + b * x := by
  have := K.inv_mul (add_whole h1 h2).1
  unfold ax
  generalize 1 + kD * a * x * b * y = w at *
  grind
theorem ay_mul {a b x y : K} (h1 : On a b) (h2 : On x y) : ay a b x y * (1 - kD * a * x * b * y) = b * y + a * x := by
  have := K.inv_mul (add_whole h1 h2).2
  unfold ay
  generalize 1 - kD * a * x * b * y = w at *
  grind
theorem ax_of {a b x y X : K} (h1 : On a b) (h2 : On x y) (h : X * (1 + kD * a * x * b * y) = a * y + b * x) : X = ax a b x y := by
  refine K.cancel (add_whole h1 h2).1 ?_
  rw [Lean.Grind.CommRing.mul_comm, h, ← ax_mul h1 h2, Lean.Grind.CommRing.mul_comm]
theorem ay_of {a b x y Y : K} (h1 : On a b) (h2 : On x y) (h : Y * (1 - kD * a * x * b * y) = b * y + a * x) : Y = ay a b x y := by
  refine K.cancel (add_whole h1 h2).2 ?_
  rw [Lean.Grind.CommRing.mul_comm, h, ← ay_mul h1 h2, Lean.Grind.CommRing.mul_comm]
theorem add_on {a b x y : K} (h1 : On a b) (h2 : On x y) : On (ax a b x y) (ay a b x y) := by
  have := add_id h1 h2
  obtain ⟨w1, w2⟩ := add_whole h1 h2
  have hx := ax_mul h1 h2
  have hy := ay_mul h1 h2
  generalize ax a b x y = x3 at *
  generalize ay a b x y = y3 at *
  unfold On
  generalize hd : kD = d at *
  generalize ht : d * a * x * b * y = t at *
  refine K.cancel w1 (K.cancel w1 (K.cancel w2 (K.cancel w2 ?_)))
  rw [← hx, ← hy] at this
  clear h1 h2 hx hy ht
  grind
theorem add_even {a b x y : K} (h1 : On a b) (h2 : On x y) (e1 : Even b) (e2 : Even y) : Even (ay a b x y) := (add_pt h1 h2 e1 e2 (ax_mul h1 h2) (ay_mul h1 h2)).2

end Go.Vx
