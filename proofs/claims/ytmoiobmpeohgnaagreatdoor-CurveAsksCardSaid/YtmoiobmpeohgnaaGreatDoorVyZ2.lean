import Derived.Test.YtmoiobmpeohgnaaGreatDoorVyR
import Derived.KernelRfl
set_option autoImplicit false
namespace Go.Vx
open Go
def K.ev (x:K) : Prop := x.v % 2 = 0
theorem K.ev_root {a b:K} (ha:a.ev) (hb:b.ev) (h:a ^ 2 = b ^ 2) : a = b := by
 have e : (a - b) * (a + b) = 0 := by grind
 rcases K.mul_zero' e with h1 | h1
 ·grind
 ·have h2 : a = - b := by grind
  have h3 : a.v = (- b.v) % pF := by rw [h2]; rfl
  have b1 := b.h
  have b2 : 0 ≤ b.v := by rw [← b1]; exact Int.emod_nonneg _ (by decide)
  have b3 : b.v < pF := by rw [← b1]; exact Int.emod_lt_of_pos _ ZxI
  unfold K.ev at ha hb
  by_cases hz : b.v = 0
  ·rw [hz] at h3
   exact K.ext (by rw [h3, hz]; rfl)
  ·exfalso
   have h4 : (- b.v) % pF = pF - b.v := by
    rw [show - b.v = (pF - b.v) + pF * (-1) by rw [Int.mul_neg, Int.mul_one]; omega, Int.add_mul_emod_self_left, Int.emod_eq_of_lt (by omega) (by omega)]
   rw [h4] at h3
   simp only [pF] at *
   omega
theorem K.cancel {a b c:K} (h:a ≠ 0) (e:a * b = a * c) : b = c := by
 have : a * (b - c) = 0 := by grind
 rcases K.mul_zero' this with h1 | h1
 ·exact absurd h1 h
 ·grind
theorem K.sq_zero {a:K} (h:a ^ 2 = 0) : a = 0 := by
 have : a * a = 0 := by grind
 rcases K.mul_zero' this with h1 | h1 <;> exact h1
def K.Q (a:K) : Prop := a ^ eQ = 1 ∨ a ^ eQ = -1
theorem K.half' {a:K} (h:a ≠ 0) : (a ^ 2) ^ eQ = 1 ∨ (a ^ 2) ^ eQ = -1 := by
 have e : (a ^ 2) ^ eQ = (a ^ eQ) ^ 2 := by rw [← K.pow_mul, ← K.pow_mul, Nat.mul_comm]
 rw [e]
 have hi := kI_sq
 rcases K.quarter h with h | h | h | h <;> rw [h]
 ·left; grind
 ·left; grind
 ·right; grind
 ·right; grind
theorem K.Q_sq {a:K} (h:a ≠ 0) : K.Q (a ^ 2) := K.half' h
theorem K.Q_mul {a w:K} (h:w ≠ 0) : K.Q (a * w ^ 2) ↔ K.Q a := by
 unfold K.Q
 rw [K.mul_pow]
 rcases K.half' h with h | h <;> rw [h]
 ·constructor <;> (rintro (h | h)) <;> first | (left; grind) | (right; grind)
 ·constructor <;> (rintro (h | h)) <;> first | (left; grind) | (right; grind)
structure SR (u v s:K) (ok:Bool) : Prop where
 ev : s.ev
 z : u = 0 → ok = true ∧ s = 0
 z' : u ≠ 0 → v = 0 → ok = false ∧ s = 0
 q : u ≠ 0 → v ≠ 0 → (ok = true ↔ K.Q (u * v ^ 7)) ∧ (ok = true → v * s ^ 2 = u) ∧ (ok = false → v * s ^ 2 = u * kI)
theorem SR.uniq {u v s t:K} {a b:Bool} (h:SR u v s a) (g:SR u v t b) : s = t ∧ a = b := by
 by_cases hu : u = 0
 ·exact ⟨by rw [(h.z hu).2, (g.z hu).2], by rw [(h.z hu).1, (g.z hu).1]⟩
 ·by_cases hv : v = 0
  ·exact ⟨by rw [(h.z' hu hv).2, (g.z' hu hv).2], by rw [(h.z' hu hv).1, (g.z' hu hv).1]⟩
  ·obtain ⟨h1, h2, h3⟩ := h.q hu hv
   obtain ⟨g1, g2, g3⟩ := g.q hu hv
   have hab : a = b := by
    cases a <;> cases b
    ·rfl
    ·exact absurd (h1.2 (g1.1 rfl)) (by simp)
    ·exact absurd (g1.2 (h1.1 rfl)) (by simp)
    ·rfl
   subst hab
   refine ⟨K.ev_root h.ev g.ev (K.cancel hv ?_), rfl⟩
   cases a
   ·rw [h3 rfl, g3 rfl]
   ·rw [h2 rfl, g2 rfl]
theorem SR.found {u v s r:K} {ok:Bool} (h:SR u v s ok) (hv:v ≠ 0) (hr:v * r ^ 2 = u) : ok = true ∧ s ^ 2 = r ^ 2 := by
 by_cases hu : u = 0
 ·obtain ⟨h1, h2⟩ := h.z hu
  refine ⟨h1, ?_⟩
  rw [hu] at hr
  rcases K.mul_zero' hr with h3 | h3
  ·exact absurd h3 hv
  ·rw [h3, h2]; grind
 ·obtain ⟨h1, h2, -⟩ := h.q hu hv
  have hr0 : r ≠ 0 := fun e => hu (by rw [← hr, e]; grind)
  have hok : ok = true := by
   rw [h1, ← hr, show v * r ^ 2 * v ^ 7 = (v ^ 4 * r) ^ 2 by grind]
   exact K.Q_sq (K.mul_ne (K.pow_ne hv 4) hr0)
  exact ⟨hok, K.cancel hv (by rw [h2 hok, hr])⟩
def kD : K := K.of 37095705934669439343138083508754565189542113879843219016388785533085940283555
def kM : K := K.of 54469307008909316920995813868745141605393597292927456921205312896311721017578
theorem kM_sq : (-1 - kD) * kM ^ 2 = 1 := by
 rw [show (-1 - kD) = K.of (-1 - 37095705934669439343138083508754565189542113879843219016388785533085940283555) from by rw [K.of_sub]; rfl]
 unfold kM
 rw [← K.of_pow, ← K.of_mul, show (1 : K) = K.of 1 from rfl, K.of_eq]
 decide
theorem ZGp {a:K} (h:a ≠ 0) : ∃ b, a * b = 1 := by
 refine ⟨a ^ 57896044618658097711785492504343953926634992332820282019728792003956564819947, ?_⟩
 have := K.fermat h
 rw [show eP1 = 57896044618658097711785492504343953926634992332820282019728792003956564819947 + 1 from rfl, K.pow_add, show a ^ 1 = a by grind] at this
 rw [Lean.Grind.CommRing.mul_comm]; exact this
structure Stands (s x y:K) : Prop where
 s_ev : s.ev
 x_ev : x.ev
 xy_ev : (x * y).ev
 y0 : y ≠ 0
 w0 : 1 + s ^ 2 ≠ 0
 yw : y * (1 + s ^ 2) = 1 - s ^ 2
 v0 : -(kD * (1 - s ^ 2) ^ 2) - (1 + s ^ 2) ^ 2 ≠ 0
 xv : (-(kD * (1 - s ^ 2) ^ 2) - (1 + s ^ 2) ^ 2) * x ^ 2 = 4 * s ^ 2
theorem Stands.on {s x y:K} (h:Stands s x y) : y ^ 2 - x ^ 2 = 1 + kD * x ^ 2 * y ^ 2 := by
 obtain ⟨-, -, -, -, h1, h2, h3, h4⟩ := h
 generalize kD = d at *
 refine K.cancel h3 (K.cancel h1 (K.cancel h1 ?_))
 have e1 : y ^ 2 * (1 + s ^ 2) ^ 2 = (1 - s ^ 2) ^ 2 := by rw [← h2]; grind
 generalize hv : -(d * (1 - s ^ 2) ^ 2) - (1 + s ^ 2) ^ 2 = v at *
 grind
theorem Stands.one_plus {s x y:K} (h:Stands s x y) : (1 + y) * (1 + s ^ 2) = 2 ∧ (1 - y) * (1 + s ^ 2) = 2 * s ^ 2 ∧ 1 + y ≠ 0 := by
 have h2 := h.yw
 have e1 : (1 + y) * (1 + s ^ 2) = 2 := by grind
 refine ⟨e1, by grind, fun h0 => K.two_ne ?_⟩
 rw [← e1, h0]; grind
theorem Stands.enc {s x y r:K} {ok:Bool} (h:Stands s x y) (hr:SR 1 (((1 + y) * (1 - y)) * (x * y) ^ 2) r ok) :
  (s = 0 ∧ x = 0 ∧ r = 0) ∨ (s ≠ 0 ∧ (r * ((1 + y) * (1 - y))) * (r * (x * y)) * (x * y) = 1 ∧ (r * (x * y) * (1 - y)) ^ 2 = s ^ 2) := by
 obtain ⟨e1, e2, e3⟩ := h.one_plus
 by_cases hs : s = 0
 ·left
  have hx : x = 0 := by
   have := h.xv
   rw [hs] at this
   have v0 := h.v0
   rw [hs] at v0
   have : (-(kD * (1 - 0 ^ 2) ^ 2) - (1 + 0 ^ 2) ^ 2) * x ^ 2 = 0 := by rw [this]; grind
   rcases K.mul_zero' this with h1 | h1
   ·exact absurd h1 v0
   ·exact K.sq_zero h1
  refine ⟨hs, hx, (hr.z' K.one_ne ?_).2⟩
  rw [hx]; grind
 ·right
  have hx : x ≠ 0 := by
   intro hx
   have := h.xv
   rw [hx] at this
   have h4 : (2 * s) ^ 2 = 0 := by grind
   rcases K.mul_zero' (show (2 : K) * s = 0 from K.sq_zero h4) with h5 | h5
   ·exact K.two_ne h5
   ·exact hs h5
  have hy := h.y0
  have ht : x * y ≠ 0 := K.mul_ne hx hy
  have hu : (1 + y) * (1 - y) ≠ 0 := by
   refine K.mul_ne e3 fun h0 => ?_
   rw [h0] at e2
   have h4 : (2 : K) * (s * s) = 0 := by grind
   rcases K.mul_zero' h4 with h5 | h5
   ·exact K.two_ne h5
   ·rcases K.mul_zero' h5 with h5 | h5 <;> exact hs h5
  -- u t t is a square
  obtain ⟨w, hw⟩ := ZGp h.w0
  have hw0 : w ≠ 0 := fun e => K.one_ne (by rw [← hw, e]; grind)
  have y1 : 1 + y = 2 * w := K.cancel h.w0 (by grind)
  have y2 : 1 - y = 2 * s ^ 2 * w := K.cancel h.w0 (by grind)
  have hq : 2 * s * w * (x * y) ≠ 0 := K.mul_ne (K.mul_ne (K.mul_ne K.two_ne hs) hw0) ht
  obtain ⟨z, hz⟩ := ZGp hq
  have hv : ((1 + y) * (1 - y)) * (x * y) ^ 2 = (2 * s * w * (x * y)) ^ 2 := by rw [y1, y2]; grind
  have hr2 := (hr.found (r := z) (K.mul_ne hu (K.pow_ne ht 2)) (by rw [hv]; generalize 2 * s * w * (x * y) = q at *; grind)).2
  have key : r ^ 2 * (((1 + y) * (1 - y)) * (x * y) ^ 2) = 1 := by
   rw [hr2, hv]
   generalize 2 * s * w * (x * y) = q at *
   grind
  refine ⟨hs, ?_, ?_⟩
  ·rw [← key]; grind
  ·refine K.cancel e3 ?_
   have : (1 + y) * (r * (x * y) * (1 - y)) ^ 2 = (1 - y) * (r ^ 2 * (((1 + y) * (1 - y)) * (x * y) ^ 2)) := by grind
   rw [this, key, y1, y2]; grind
end Go.Vx
set_option autoImplicit false
namespace Go.Vx
open Go
theorem K.ev_neg {a:K} (h:a ≠ 0) : K.ev (-a) ↔ ¬ K.ev a := by
 have b1 := a.h
 have b2 : 0 ≤ a.v := by rw [← b1]; exact Int.emod_nonneg _ (by decide)
 have b3 : a.v < pF := by rw [← b1]; exact Int.emod_lt_of_pos _ ZxI
 have hz : a.v ≠ 0 := fun e => h (K.ext (by rw [e]; rfl))
 have h4 : (-a).v = pF - a.v := by
  show (- a.v) % pF = _
  rw [show - a.v = (pF - a.v) + pF * (-1) by rw [Int.mul_neg, Int.mul_one]; omega, Int.add_mul_emod_self_left, Int.emod_eq_of_lt (by omega) (by omega)]
 unfold K.ev
 rw [h4]
 simp only [pF] at *
 omega
def Rel (x y X Y:K) : Prop := (x = X ∧ y = Y) ∨ (x = Y * kI ∧ y = X * kI) ∨ (x = -X ∧ y = -Y) ∨ (x = -(Y * kI) ∧ y = -(X * kI))
theorem Rel.refl (x y:K) : Rel x y x y := .inl ⟨rfl, rfl⟩
theorem Rel.trans {x y X Y u v:K} (h:Rel x y X Y) (g:Rel X Y u v) : Rel x y u v := by
 have hi := kI_sq
 rcases g with ⟨rfl, rfl⟩ | ⟨rfl, rfl⟩ | ⟨rfl, rfl⟩ | ⟨rfl, rfl⟩
 ·exact h
 ·rcases h with ⟨rfl, rfl⟩ | ⟨rfl, rfl⟩ | ⟨rfl, rfl⟩ | ⟨rfl, rfl⟩
  ·exact .inr (.inl ⟨rfl, rfl⟩)
  ·exact .inr (.inr (.inl ⟨by grind, by grind⟩))
  ·exact .inr (.inr (.inr ⟨rfl, rfl⟩))
  ·exact .inl ⟨by grind, by grind⟩
 ·rcases h with ⟨rfl, rfl⟩ | ⟨rfl, rfl⟩ | ⟨rfl, rfl⟩ | ⟨rfl, rfl⟩
  ·exact .inr (.inr (.inl ⟨rfl, rfl⟩))
  ·exact .inr (.inr (.inr ⟨by grind, by grind⟩))
  ·exact .inl ⟨by grind, by grind⟩
  ·exact .inr (.inl ⟨by grind, by grind⟩)
 ·rcases h with ⟨rfl, rfl⟩ | ⟨rfl, rfl⟩ | ⟨rfl, rfl⟩ | ⟨rfl, rfl⟩
  ·exact .inr (.inr (.inr ⟨rfl, rfl⟩))
  ·exact .inl ⟨by grind, by grind⟩
  ·exact .inr (.inl ⟨by grind, by grind⟩)
  ·exact .inr (.inr (.inl ⟨by grind, by grind⟩))
theorem Stands.s_of {s X Y t:K} (h:Stands s X Y) (ht:t.ev) (e:(1 + Y) * t ^ 2 = 1 - Y) : t = s := by
 obtain ⟨e1, e2, e3⟩ := h.one_plus
 refine K.ev_root ht h.s_ev (K.cancel e3 ?_)
 rw [e]
 refine K.cancel h.w0 ?_
 generalize s ^ 2 = q at *
 grind
theorem Stands.s_eq {s X Y:K} (h:Stands s X Y) : (1 + Y) * s ^ 2 = 1 - Y := by
 have := h.yw
 grind
theorem Stands.same {s X Y x y:K} (h:Stands s X Y) (g:Stands s x y) : X = x ∧ Y = y :=
 ⟨K.ev_root h.x_ev g.x_ev (K.cancel h.v0 (by rw [h.xv, g.xv])), K.cancel h.w0 (by rw [Lean.Grind.CommRing.mul_comm, h.yw, ← g.yw, Lean.Grind.CommRing.mul_comm])⟩
theorem Stands.zero {s X Y:K} (h:Stands s X Y) (hx:X = 0) : s = 0 ∧ Y = 1 := by
 have h1 := h.xv
 rw [hx] at h1
 have h4 : (2 * s) ^ 2 = 0 := by grind
 have hs : s = 0 := by
  rcases K.mul_zero' (show (2 : K) * s = 0 from K.sq_zero h4) with h5 | h5
  ·exact absurd h5 K.two_ne
  ·exact h5
 refine ⟨hs, ?_⟩
 have := h.yw
 rw [hs] at this
 grind
theorem Stands.uniq {s t X Y u v:K} (h:Stands s X Y) (g:Stands t u v) (r:Rel u v X Y) : s = t ∧ X = u ∧ Y = v := by
 have hi := kI_sq
 by_cases hx : X = 0
 ·obtain ⟨h1, h2⟩ := h.zero hx
  have hu : u = 0 := by
   rcases r with ⟨rfl, rfl⟩ | ⟨rfl, rfl⟩ | ⟨rfl, rfl⟩ | ⟨rfl, rfl⟩
   ·exact hx
   ·exact absurd (show X * kI = 0 by rw [hx]; grind) g.y0
   ·rw [hx]; grind
   ·exact absurd (show -(X * kI) = 0 by rw [hx]; grind) g.y0
  obtain ⟨g1, g2⟩ := g.zero hu
  exact ⟨by rw [h1, g1], by rw [hx, hu], by rw [h2, g2]⟩
 ·have key : X = u ∧ Y = v := by
   have hxy : X * Y ≠ 0 := K.mul_ne hx h.y0
   have h1 := h.xy_ev
   have h2 := h.x_ev
   have g1 := g.xy_ev
   have g2 := g.x_ev
   rcases r with ⟨rfl, rfl⟩ | ⟨rfl, rfl⟩ | ⟨rfl, rfl⟩ | ⟨rfl, rfl⟩
   ·exact ⟨rfl, rfl⟩
   ·exfalso
    rw [show Y * kI * (X * kI) = -(X * Y) by grind] at g1
    exact (K.ev_neg hxy).1 g1 h1
   ·exact absurd h2 ((K.ev_neg hx).1 g2)
   ·exfalso
    rw [show -(Y * kI) * -(X * kI) = -(X * Y) by grind] at g1
    exact (K.ev_neg hxy).1 g1 h1
  obtain ⟨rfl, rfl⟩ := key
  exact ⟨g.s_of h.s_ev h.s_eq, rfl, rfl⟩
end Go.Vx
set_option autoImplicit false
namespace Go.Vx
open Go
def kW : K := K.of 57726037407214946216826118689370439883513855613510154556379010025581195643778
theorem kW_sq : kI * kW ^ 2 = kD := by
 unfold kI kW kD
 rw [← K.of_pow, ← K.of_mul, K.of_eq]
 decide
theorem kI_eQ' : kI ^ eQ = -kI := by
 have h4 : kI ^ 4 = 1 := by have := kI_sq; grind
 have e : eQ = 4 * 3618502788666131106986593281521497120414687020801267626233049500247285301246 + 3 := rfl
 rw [e, K.pow_add, K.pow_mul, h4]
 have one : ∀ n : Nat, (1 : K) ^ n = 1 := fun n => by
  rw [show (1 : K) = K.of 1 from rfl, ← K.of_pow, Int.one_pow]
 rw [one]
 have := kI_sq
 grind
theorem kD_ne : kD ≠ 0 := by
 intro h
 have := K.of_eq.1 (show K.of 37095705934669439343138083508754565189542113879843219016388785533085940283555 = K.of 0 from h)
 revert this; decide
theorem kI_ne : kI ≠ 0 := fun h => by have := kI_sq; rw [h] at this; exact K.one_ne (by grind)
theorem kD_Q : ¬ K.Q kD := by
 have hw : kW ≠ 0 := fun h => kD_ne (by rw [← kW_sq, h]; grind)
 rw [← kW_sq, K.Q_mul hw]
 unfold K.Q
 rw [kI_eQ']
 have hi := kI_sq
 rintro (h | h)
 ·have : kI = -1 := by grind
  rw [this] at hi; exact K.two_ne (by grind)
 ·have : kI = 1 := by grind
  rw [this] at hi; exact K.two_ne (by grind)
theorem d_sq {a b:K} (h:kD * a ^ 2 = b ^ 2) : a = 0 ∧ b = 0 := by
 have ha : a = 0 := by
  refine Classical.byContradiction fun ha => ?_
  have hb : b ≠ 0 := fun hb => by
   rw [hb] at h
   rcases K.mul_zero' (show kD * a ^ 2 = 0 by rw [h]; grind) with h1 | h1
   ·exact kD_ne h1
   ·exact ha (K.sq_zero h1)
  have := K.Q_sq hb
  rw [← h, K.Q_mul ha] at this
  exact kD_Q this
 refine ⟨ha, K.sq_zero ?_⟩
 rw [← h, ha]; grind
def On (x y:K) : Prop := y ^ 2 - x ^ 2 = 1 + kD * x ^ 2 * y ^ 2
def Even (y:K) : Prop := ∃ q : K, (1 + y) * (1 - y) = q ^ 2
theorem ZGq {s v d:K} : (1 + d) * (v * s ^ 2) ^ 2 + 2 * (1 - d) * (v * s ^ 2) * v + (1 + d) * v ^ 2 = v ^ 2 * ((1 + s ^ 2) ^ 2 + d * (1 - s ^ 2) ^ 2) := by grind
theorem ell_on {x y s v n m w d:K} (wn:w * (n * m) ≠ 0) (hw:w = 1 + s ^ 2) (hy:y * w = 1 - s ^ 2) (hx:x * (n * m) = 2 * s * v) (hm:m ^ 2 = -d - 1) (hn:n ^ 2 * (d + 1) = v ^ 2 * (w ^ 2 + d * (1 - s ^ 2) ^ 2)) : y ^ 2 - x ^ 2 = 1 + d * x ^ 2 * y ^ 2 := by
 refine K.cancel wn (K.cancel wn ?_)
 have a1 : (w * (n * m)) * ((w * (n * m)) * (y ^ 2 - x ^ 2)) = (n * m) ^ 2 * (y * w) ^ 2 - (x * (n * m)) ^ 2 * w ^ 2 := by grind
 have a2 : (w * (n * m)) * ((w * (n * m)) * (1 + d * x ^ 2 * y ^ 2)) = (w * (n * m)) ^ 2 + d * (x * (n * m)) ^ 2 * (y * w) ^ 2 := by grind
 rw [a1, a2, hy, hx]
 have a3 : (n * m) ^ 2 = n ^ 2 * (-d - 1) := by rw [← hm]; grind
 have a4 : (w * (n * m)) ^ 2 = w ^ 2 * (n ^ 2 * (-d - 1)) := by rw [← a3]; grind
 rw [a3, a4]
 clear a1 a2 a3 a4 hx hy hm wn
 grind
theorem ZFM {y s w i:K} (hw:w = 1 + s ^ 2) (hi:w * i = 1) (hy:y * w = 1 - s ^ 2) : (1 + y) * (1 - y) = (2 * s * i) ^ 2 := by
 have h1 : y = (1 - s ^ 2) * i := by grind
 rw [h1]
 grind
theorem ell {x y s v n m i1 i2:K} (hm:m ^ 2 = -kD - 1) (hx:x = 2 * s * v * i1) (hy:y = (1 - s ^ 2) * i2) (h1:n * m ≠ 0 → n * m * i1 = 1) (h2 : 1 + s ^ 2 ≠ 0 → (1 + s ^ 2) * i2 = 1)
  (h:s = 0 ∨ (v ≠ 0 ∧ n ^ 2 * (kD + 1) = v ^ 2 * ((1 + s ^ 2) ^ 2 + kD * (1 - s ^ 2) ^ 2))) : On x y ∧ Even y := by
 by_cases hs : s = 0
 ·have e1 : (1 : K) + s ^ 2 = 1 := by rw [hs]; grind
  have hi := h2 (by rw [e1]; exact K.one_ne)
  have x0 : x = 0 := by rw [hx, hs]; grind
  have y1 : y = 1 := by rw [hy, hs]; rw [hs] at hi; grind
  rw [x0, y1]
  exact ⟨by unfold On; generalize kD = d; grind, 0, by grind⟩
 ·rcases h with h | ⟨hv, hn⟩
  ·exact absurd h hs
  ·have hi := kI_sq
   have n0 : n ≠ 0 := fun e => by
    rw [e] at hn
    have h3 : kD * (1 - s ^ 2) ^ 2 = (kI * (1 + s ^ 2)) ^ 2 := by
     have : v ^ 2 * ((1 + s ^ 2) ^ 2 + kD * (1 - s ^ 2) ^ 2) = 0 := by rw [← hn]; grind
     rcases K.mul_zero' this with h4 | h4
     ·exact absurd (K.sq_zero h4) hv
     ·generalize kD = d at *; grind
    obtain ⟨h4, h5⟩ := d_sq h3
    rcases K.mul_zero' h5 with h6 | h6
    ·exact kI_ne h6
    ·exact K.two_ne (by grind)
   have w0 : 1 + s ^ 2 ≠ 0 := fun e => by
    have h3 : kD * (2 * v * kM) ^ 2 = (kI * n) ^ 2 := by
     have hM := kM_sq
     have e2 : 1 - s ^ 2 = 2 := by grind
     rw [e, e2] at hn
     generalize kD = d at *
     generalize kM = k at *
     clear hx hy h1 h2 hm e e2
     grind
    have h4 := (d_sq h3).1
    have kM0 : kM ≠ 0 := fun h => by have := kM_sq; rw [h] at this; exact K.one_ne (by rw [← this]; grind)
    exact K.mul_ne (K.mul_ne K.two_ne hv) kM0 h4
   have m0 : m ≠ 0 := fun e => by
    rw [e] at hm
    have hM := kM_sq
    rw [show (-1 - kD) = 0 by generalize kD = d at *; grind] at hM
    exact K.one_ne (by rw [← hM]; grind)
   have nm := K.mul_ne n0 m0
   have k1 := h1 nm
   have k2 := h2 w0
   have hyw : y * (1 + s ^ 2) = 1 - s ^ 2 := by rw [hy]; grind
   have hxn : x * (n * m) = 2 * s * v := by rw [hx]; grind
   exact ⟨ell_on (K.mul_ne w0 nm) rfl hyw hxn hm hn, _, ZFM rfl k2 hyw⟩
theorem ell_a {r d u v n:K} (hu:u = (r + 1) * (1 - d ^ 2)) (hv:v = (-1 - r * d) * (r + d)) (hn:n = -1 * (r - 1) * (d - 1) ^ 2 - v) : n ^ 2 * (d + 1) = (1 + d) * u ^ 2 + 2 * (1 - d) * u * v + (1 + d) * v ^ 2 := by
 subst hu hn hv; grind
theorem ell_b {r d u v n:K} (hu:u = (r + 1) * (1 - d ^ 2)) (hv:v = (-1 - r * d) * (r + d)) (hn:n = r * (r - 1) * (d - 1) ^ 2 - v) : n ^ 2 * (d + 1) = (1 + d) * (u * r) ^ 2 + 2 * (1 - d) * (u * r) * v + (1 + d) * v ^ 2 := by
 subst hu hn hv; grind
theorem ZFN {d a b x y e:K} (h1:b ^ 2 - a ^ 2 = 1 + d * a ^ 2 * b ^ 2) (h2:y ^ 2 - x ^ 2 = 1 + d * x ^ 2 * y ^ 2) (he:e = d * a * x * b * y) (hee:e ^ 2 = 1) (hi:kI * kI = -1) :
  d * (a * b * (kI * x + y)) ^ 2 = (kI * a + e * b) ^ 2 ∧ d * (a * b * (kI * x - y)) ^ 2 = (kI * a - e * b) ^ 2 := by
 have k : d * a ^ 2 * b ^ 2 * (y ^ 2 - x ^ 2) = d * a ^ 2 * b ^ 2 + 1 := by
  rw [h2, ← hee, he]; grind
 constructor <;> grind
theorem ZdP {a b x y:K} (h1:On a b) (h2:On x y) : 1 + kD * a * x * b * y ≠ 0 ∧ 1 - kD * a * x * b * y ≠ 0 := by
 have hi := kI_sq
 have key : (kD * a * x * b * y) ^ 2 = 1 → False := by
  intro hee
  obtain ⟨k1, k2⟩ := ZFN h1 h2 rfl hee hi
  have hab : a * b ≠ 0 := fun h => K.one_ne (by
   rw [← hee, show kD * a * x * b * y = kD * x * y * (a * b) by grind, h]; grind)
  have z1 := (d_sq k1).1
  have z2 := (d_sq k2).1
  have z3 : kI * x + y = 0 := (K.mul_zero' z1).elim (fun h => absurd h hab) id
  have z4 : kI * x - y = 0 := (K.mul_zero' z2).elim (fun h => absurd h hab) id
  have hy : 2 * y = 0 := by grind
  have hy : y = 0 := (K.mul_zero' hy).elim (fun h => absurd h K.two_ne) id
  exact K.one_ne (by rw [← hee, hy]; grind)
 exact ⟨fun h => key (by grind), fun h => key (by grind)⟩
end Go.Vx
set_option autoImplicit false
namespace Go.Vx
open Go
theorem add_id {d a b x y:K} (h1:b ^ 2 - a ^ 2 = 1 + d * a ^ 2 * b ^ 2) (h2:y ^ 2 - x ^ 2 = 1 + d * x ^ 2 * y ^ 2) :
  (b * y + a * x) ^ 2 * (1 + d * a * x * b * y) ^ 2 - (a * y + b * x) ^ 2 * (1 - d * a * x * b * y) ^ 2 = (1 + d * a * x * b * y) ^ 2 * (1 - d * a * x * b * y) ^ 2 + d * (a * y + b * x) ^ 2 * (b * y + a * x) ^ 2 := by
 grind
def kA : K := K.of 25063068953384623474111414158702152701244531502492656460079210482610430750235
theorem kA_sq : kA ^ 2 = -kD - 1 := by
 rw [show (-kD - 1) = K.of (-37095705934669439343138083508754565189542113879843219016388785533085940283555 - 1) from by rw [K.of_sub, K.of_neg]; rfl]
 unfold kA
 rw [← K.of_pow, K.of_eq]
 decide
end Go.Vx
set_option autoImplicit false
namespace Go.Vx
open Go
def eI : Nat := 57896044618658097711785492504343953926634992332820282019728792003956564819947
theorem k_inv {a:K} (h:a ≠ 0) : a * a ^ eI = 1 := by
 have := K.fermat h
 rw [show eP1 = eI + 1 from rfl, K.pow_add, show a ^ 1 = a by grind] at this
 rw [Lean.Grind.CommRing.mul_comm]; exact this
structure HalfK (T X Y R V S:K) (ok:Bool) (s c:K) : Prop where
 r : R = kI * T ^ 2
 v : V = (-1 - R * kD) * (R + kD)
 sr : SR ((R + 1) * (1 - kD ^ 2)) V S ok
 yes : ok = true → s = S ∧ c = -1
 no : ok = false → (∃ w : K, w.ev ∧ w ^ 2 = (S * T) ^ 2 ∧ s = -w) ∧ c = R
 x : X = 2 * s * V * ((c * (R - 1) * (kD - 1) ^ 2 - V) * kA) ^ eI
 y : Y = (1 - s ^ 2) * (1 + s ^ 2) ^ eI
theorem HalfK.uniq {T X Y R V S s c X' Y' R' V' S' s' c':K} {ok ok':Bool} (h:HalfK T X Y R V S ok s c) (g:HalfK T X' Y' R' V' S' ok' s' c') : X = X' ∧ Y = Y' := by
 obtain ⟨rfl, rfl, h3, h4, h5, rfl, rfl⟩ := h
 obtain ⟨rfl, rfl, g3, g4, g5, rfl, rfl⟩ := g
 obtain ⟨rfl, rfl⟩ := h3.uniq g3
 have : s = s' ∧ c = c' := by
  cases ok with
  | true => exact ⟨by rw [(h4 rfl).1, (g4 rfl).1], by rw [(h4 rfl).2, (g4 rfl).2]⟩
  | false =>
   obtain ⟨⟨w, w1, w2, rfl⟩, rfl⟩ := h5 rfl
   obtain ⟨⟨w', w1', w2', rfl⟩, rfl⟩ := g5 rfl
   exact ⟨by rw [K.ev_root w1 w1' (by rw [w2, w2'])], rfl⟩
 obtain ⟨rfl, rfl⟩ := this
 exact ⟨rfl, rfl⟩
theorem HalfK.on {T X Y R V S s c:K} {ok:Bool} (h:HalfK T X Y R V S ok s c) : On X Y ∧ Even Y := by
 obtain ⟨hr, hv, h3, h4, h5, hx, hy⟩ := h
 refine ell (s := s) (v := V) (n := c * (R - 1) * (kD - 1) ^ 2 - V) (m := kA) kA_sq hx hy (fun h => k_inv h) (fun h => k_inv h) ?_
 by_cases hs : s = 0
 ·exact .inl hs
 right
 cases ok with
 | true =>
  obtain ⟨rfl, rfl⟩ := h4 rfl
  have u0 : (R + 1) * (1 - kD ^ 2) ≠ 0 := fun e => hs (h3.z e).2
  have v0 : V ≠ 0 := fun e => by have := (h3.z' u0 e).1; cases this
  have k := (h3.q u0 v0).2.1 rfl
  refine ⟨v0, ?_⟩
  rw [ell_a (r := R) (d := kD) rfl hv rfl, ← ZGq, k]
 | false =>
  obtain ⟨⟨w, -, w2, rfl⟩, rfl⟩ := h5 rfl
  have w0 : w ≠ 0 := fun e => hs (by rw [e]; grind)
  have u0 : (c + 1) * (1 - kD ^ 2) ≠ 0 := fun e => by have := (h3.z e).1; cases this
  have v0 : V ≠ 0 := fun e => w0 (K.sq_zero (by rw [w2, (h3.z' u0 e).2]; grind))
  have k := (h3.q u0 v0).2.2 rfl
  refine ⟨v0, ?_⟩
  have hw : V * (-w) ^ 2 = (c + 1) * (1 - kD ^ 2) * c := by
   have : (-w) ^ 2 = S ^ 2 * T ^ 2 := by
    have : (-w) ^ 2 = w ^ 2 := by grind
    rw [this, w2]; grind
   rw [this, show V * (S ^ 2 * T ^ 2) = (V * S ^ 2) * T ^ 2 by grind, k]
   generalize (c + 1) * (1 - kD ^ 2) = u at *
   rw [hr]; grind
  rw [ell_b (r := c) (d := kD) rfl hv rfl, ← ZGq, hw]
end Go.Vx
set_option autoImplicit false
namespace Go.Vx
open Go
def K.inv (a:K) : K := a ^ eI
theorem K.inv_mul {a:K} (h:a ≠ 0) : a * K.inv a = 1 := k_inv h
theorem K.inv_uniq {a b:K} (h:a * b = 1) : b = K.inv a := by
 have ha : a ≠ 0 := fun e => K.one_ne (by rw [← h, e]; grind)
 have := K.inv_mul ha
 refine K.cancel ha ?_
 rw [h, this]
def ax (a b x y:K) : K := (a * y + b * x) * K.inv (1 + kD * a * x * b * y)
def ay (a b x y:K) : K := (b * y + a * x) * K.inv (1 - kD * a * x * b * y)
theorem ZqD {a b x y:K} (h1:On a b) (h2:On x y) : ax a b x y * (1 + kD * a * x * b * y) = a * y + b * x := by
 have := K.inv_mul (ZdP h1 h2).1
 unfold ax
 generalize 1 + kD * a * x * b * y = w at *
 grind
theorem ZqE {a b x y:K} (h1:On a b) (h2:On x y) : ay a b x y * (1 - kD * a * x * b * y) = b * y + a * x := by
 have := K.inv_mul (ZdP h1 h2).2
 unfold ay
 generalize 1 - kD * a * x * b * y = w at *
 grind
theorem ax_of {a b x y X:K} (h1:On a b) (h2:On x y) (h:X * (1 + kD * a * x * b * y) = a * y + b * x) : X = ax a b x y := by
 refine K.cancel (ZdP h1 h2).1 ?_
 rw [Lean.Grind.CommRing.mul_comm, h, ← ZqD h1 h2, Lean.Grind.CommRing.mul_comm]
theorem ay_of {a b x y Y:K} (h1:On a b) (h2:On x y) (h:Y * (1 - kD * a * x * b * y) = b * y + a * x) : Y = ay a b x y := by
 refine K.cancel (ZdP h1 h2).2 ?_
 rw [Lean.Grind.CommRing.mul_comm, h, ← ZqE h1 h2, Lean.Grind.CommRing.mul_comm]
theorem add_on {a b x y:K} (h1:On a b) (h2:On x y) : On (ax a b x y) (ay a b x y) := by
 have := add_id h1 h2
 obtain ⟨w1, w2⟩ := ZdP h1 h2
 have hx := ZqD h1 h2
 have hy := ZqE h1 h2
 generalize ax a b x y = x3 at *
 generalize ay a b x y = y3 at *
 unfold On
 generalize hd : kD = d at *
 generalize ht : d * a * x * b * y = t at *
 refine K.cancel w1 (K.cancel w1 (K.cancel w2 (K.cancel w2 ?_)))
 rw [← hx, ← hy] at this
 clear h1 h2 hx hy ht
 grind
end Go.Vx
set_option autoImplicit false
namespace Go.Vx
open Go
abbrev KP := K × K
def OnP (p:KP) : Prop := On p.1 p.2
def kzero : KP := (0, 1)
def kadd (p q:KP) : KP := (ax p.1 p.2 q.1 q.2, ay p.1 p.2 q.1 q.2)
def kneg (p:KP) : KP := (-p.1, p.2)
def nmul (p:KP) : Nat → KP
 | 0 => kzero
 | n + 1 => kadd (nmul p n) p
def kdbl (p:KP) : KP := kadd p p
def rnd (p acc:KP) (d:Nat) : KP := kadd (kdbl (kdbl (kdbl (kdbl acc)))) (nmul p d)
def horn (p:KP) (ds:List Nat) : KP := ds.foldl (rnd p) kzero
theorem Zv1 : OnP kzero := by unfold OnP kzero On; generalize kD = d; grind
theorem Zt4 {p q:KP} (h1:OnP p) (h2:OnP q) : OnP (kadd p q) := add_on h1 h2
theorem Zx8 {p:KP} (h:OnP p) : OnP (kneg p) := by
 unfold OnP On kneg at *
 generalize kD = d at *
 grind
theorem ZoI {p:KP} (h:OnP p) : (n:Nat) → OnP (nmul p n)
 | 0 => Zv1
 | n + 1 => Zt4 (ZoI h n) h
theorem Zjk {p:KP} (h:OnP p) : OnP (kdbl p) := Zt4 h h
theorem ZF8 {p a:KP} (h:OnP p) (ha:OnP a) (d:Nat) : OnP (rnd p a d) := Zt4 (Zjk (Zjk (Zjk (Zjk ha)))) (ZoI h d)
theorem ZEn {p q:KP} : kadd p q = kadd q p := by
 unfold kadd ax ay
 refine Prod.ext ?_ ?_
 ·show (_:K) * _ = _ * _
  rw [show p.1 * q.2 + p.2 * q.1 = q.1 * p.2 + q.2 * p.1 by grind, show 1 + kD * p.1 * q.1 * p.2 * q.2 = 1 + kD * q.1 * p.1 * q.2 * p.2 by generalize kD = d; grind]
 ·show (_:K) * _ = _ * _
  rw [show p.2 * q.2 + p.1 * q.1 = q.2 * p.2 + q.1 * p.1 by grind, show 1 - kD * p.1 * q.1 * p.2 * q.2 = 1 - kD * q.1 * p.1 * q.2 * p.2 by generalize kD = d; grind]
theorem ZBU : K.inv 1 = 1 := (K.inv_uniq (by grind)).symm
theorem Zl6 (p:KP) : kadd p kzero = p := by
 unfold kadd ax ay kzero
 refine Prod.ext ?_ ?_
 ·show (_:K) * _ = _
  rw [show (1 : K) + kD * p.1 * 0 * p.2 * 1 = 1 by generalize kD = d; grind, ZBU]; grind
 ·show (_:K) * _ = _
  rw [show (1 : K) - kD * p.1 * 0 * p.2 * 1 = 1 by generalize kD = d; grind, ZBU]; grind
theorem ZFO {p:KP} (h:OnP p) : kadd p (kneg p) = kzero := by
 have hn := Zx8 h
 have w := ZdP h hn
 refine Prod.ext ?_ ?_
 ·refine (ax_of h hn ?_).symm
  show (0 : K) * _ = p.1 * p.2 + p.2 * -p.1
  grind
 ·refine (ay_of h hn ?_).symm
  show (1 : K) * _ = p.2 * p.2 + p.1 * -p.1
  unfold OnP On at h
  unfold kneg
  generalize kD = d at *
  generalize p.1 = x at *
  generalize p.2 = y at *
  grind
def pN : Nat := 57896044618658097711785492504343953926634992332820282019728792003956564819949
abbrev N4 := Nat × Nat × Nat × Nat
def madeN (e f g h:Nat) : N4 := (e * f % pN, g * h % pN, f * g % pN, e * h % pN)
def addN (a b:N4) : N4 :=
 let less := (a.2.1 + pN - a.1) * (b.2.1 + pN - b.1) % pN
 let more := (a.2.1 + a.1) * (b.2.1 + b.1) % pN
 let c := a.2.2.2 * 74191411869338878686276167017509130379084227759686438032777571066171880567110 * b.2.2.2 % pN
 let d := 2 * (a.2.2.1 * b.2.2.1) % pN
 madeN (more + pN - less) (d + pN - c) (d + c) (more + less)
def zeroN : N4 := (0, 1, 1, 0)
def mulN (p:N4) : Nat → N4
 | 0 => zeroN
 | n + 1 => addN (mulN p n) p
def dblN (p:N4) : N4 := addN p p
def rndN (p acc:N4) (d:Nat) : N4 := addN (dblN (dblN (dblN (dblN acc)))) (mulN p d)
def hornN (p:N4) (ds:List Nat) : N4 := ds.foldl (rndN p) zeroN
structure RepN (a:N4) (p:KP) : Prop where
 b1 : a.1 < pN
 b2 : a.2.1 < pN
 b3 : a.2.2.1 < pN
 b4 : a.2.2.2 < pN
 z : K.of a.2.2.1 ≠ 0
 x : K.of a.1 = p.1 * K.of a.2.2.1
 y : K.of a.2.1 = p.2 * K.of a.2.2.1
 t : K.of a.2.2.2 = p.1 * p.2 * K.of a.2.2.1
theorem ZFP {a b x y z w d X Y:K} (hX:X * (1 + d * a * x * b * y) = a * y + b * x) (hY:Y * (1 - d * a * x * b * y) = b * y + a * x) :
  ∃ E F G H : K, E = (b * z + a * z) * (y * w + x * w) - (b * z - a * z) * (y * w - x * w) ∧ H = (b * z + a * z) * (y * w + x * w) + (b * z - a * z) * (y * w - x * w) ∧ F = (z * w + z * w) - (a * b * z) * (d + d) * (x * y * w) ∧ G = (z * w + z * w) + (a * b * z) * (d + d) * (x * y * w) ∧
   F = 2 * (z * w) * (1 - d * a * x * b * y) ∧ G = 2 * (z * w) * (1 + d * a * x * b * y) ∧ E * F = X * (F * G) ∧ G * H = Y * (F * G) ∧ E * H = X * Y * (F * G) := by
 have hE : (b * z + a * z) * (y * w + x * w) - (b * z - a * z) * (y * w - x * w) = X * (2 * (z * w) * (1 + d * a * x * b * y)) := by
  rw [show X * (2 * (z * w) * (1 + d * a * x * b * y)) = 2 * (z * w) * (X * (1 + d * a * x * b * y)) by grind, hX]; grind
 have hH : (b * z + a * z) * (y * w + x * w) + (b * z - a * z) * (y * w - x * w) = Y * (2 * (z * w) * (1 - d * a * x * b * y)) := by
  rw [show Y * (2 * (z * w) * (1 - d * a * x * b * y)) = 2 * (z * w) * (Y * (1 - d * a * x * b * y)) by grind, hY]; grind
 have hF : (z * w + z * w) - (a * b * z) * (d + d) * (x * y * w) = 2 * (z * w) * (1 - d * a * x * b * y) := by clear hX hY hE hH; grind
 have hG : (z * w + z * w) + (a * b * z) * (d + d) * (x * y * w) = 2 * (z * w) * (1 + d * a * x * b * y) := by clear hX hY hE hH; grind
 refine ⟨_, _, _, _, rfl, rfl, rfl, rfl, hF, hG, ?_, ?_, ?_⟩
 ·rw [hE, hF, hG]; generalize 1 - d * a * x * b * y = u; generalize 1 + d * a * x * b * y = v; clear hX hY hE hH hF hG; grind
 ·rw [hH, hF, hG]; generalize 1 - d * a * x * b * y = u; generalize 1 + d * a * x * b * y = v; clear hX hY hE hH hF hG; grind
 ·rw [hE, hH, hF, hG]; generalize 1 - d * a * x * b * y = u; generalize 1 + d * a * x * b * y = v; clear hX hY hE hH hF hG; grind
def kn (n:Nat) : K := K.of n
theorem Zj5 (n:Nat) : kn (n % pN) = kn n := by
 unfold kn
 rw [K.of_eq, Int.natCast_emod, show ((pN:Nat) : Int) = pF from rfl, Int.emod_emod]
theorem ZhK (a b:Nat) : kn (a * b) = kn a * kn b := by unfold kn; rw [Int.natCast_mul, K.of_mul]
theorem ZxZ (a b:Nat) : kn (a + b) = kn a + kn b := by unfold kn; rw [Int.natCast_add, K.of_add]
theorem ZBV {a b:Nat} (h:b < pN) : kn (a + pN - b) = kn a - kn b := by
 unfold kn
 rw [← K.of_sub, K.of_eq, show ((a + pN - b : Nat) : Int) = (a:Int) - b + pF by
  have : ((pN:Nat) : Int) = pF := rfl
  omega, Int.add_emod_right]
theorem kn_2d : kn 74191411869338878686276167017509130379084227759686438032777571066171880567110 = kD + kD := by
 unfold kD kn
 rw [← K.of_add, K.of_eq]
 decide
theorem lt_pN (n:Nat) : n % pN < pN := Nat.mod_lt _ (by decide)
theorem RepN.made {e f g h:Nat} {X Y:K} (h1:kn f ≠ 0) (h2:kn g ≠ 0) (hx:kn e * kn f = X * (kn f * kn g)) (hy:kn g * kn h = Y * (kn f * kn g)) (ht:kn e * kn h = X * Y * (kn f * kn g)) : RepN (madeN e f g h) (X, Y) := by
 have k1 := Zj5 (e * f)
 have k2 := Zj5 (g * h)
 have k3 := Zj5 (f * g)
 have k4 := Zj5 (e * h)
 rw [ZhK] at k1 k2 k3 k4
 refine ⟨lt_pN _, lt_pN _, lt_pN _, lt_pN _, ?_, ?_, ?_, ?_⟩
 ·show kn (f * g % pN) ≠ 0
  rw [k3]; exact K.mul_ne h1 h2
 ·show kn (e * f % pN) = X * kn (f * g % pN)
  rw [k1, k3, hx]
 ·show kn (g * h % pN) = Y * kn (f * g % pN)
  rw [k2, k3, hy]
 ·show kn (e * h % pN) = X * Y * kn (f * g % pN)
  rw [k4, k3, ht]
theorem RepN.add {a b:N4} {p q:KP} (ha:RepN a p) (hb:RepN b q) (h1:OnP p) (h2:OnP q) : RepN (addN a b) (kadd p q) := by
 obtain ⟨E, F, G, H, m1, m2, m3, m4, m5, m6, m7, m8, m9⟩ := ZFP (z := kn a.2.2.1) (w := kn b.2.2.1) (ZqD h1 h2) (ZqE h1 h2)
 obtain ⟨w1, w2⟩ := ZdP h1 h2
 have za : kn a.2.2.1 ≠ 0 := ha.z
 have zb : kn b.2.2.1 ≠ 0 := hb.z
 have xa : kn a.1 = p.1 * kn a.2.2.1 := ha.x
 have ya : kn a.2.1 = p.2 * kn a.2.2.1 := ha.y
 have ta : kn a.2.2.2 = p.1 * p.2 * kn a.2.2.1 := ha.t
 have xb : kn b.1 = q.1 * kn b.2.2.1 := hb.x
 have yb : kn b.2.1 = q.2 * kn b.2.2.1 := hb.y
 have tb : kn b.2.2.2 = q.1 * q.2 * kn b.2.2.1 := hb.t
 have zz : 2 * (kn a.2.2.1 * kn b.2.2.1) ≠ 0 := K.mul_ne K.two_ne (K.mul_ne za zb)
 have two : kn 2 = 2 := rfl
 unfold addN
 simp only []
 have eL : kn ((a.2.1 + pN - a.1) * (b.2.1 + pN - b.1) % pN) = (p.2 * kn a.2.2.1 - p.1 * kn a.2.2.1) * (q.2 * kn b.2.2.1 - q.1 * kn b.2.2.1) := by rw [Zj5, ZhK, ZBV ha.b1, ZBV hb.b1, xa, ya, xb, yb]
 have eM : kn ((a.2.1 + a.1) * (b.2.1 + b.1) % pN) = (p.2 * kn a.2.2.1 + p.1 * kn a.2.2.1) * (q.2 * kn b.2.2.1 + q.1 * kn b.2.2.1) := by rw [Zj5, ZhK, ZxZ, ZxZ, xa, ya, xb, yb]
 have eC : kn (a.2.2.2 * 74191411869338878686276167017509130379084227759686438032777571066171880567110 * b.2.2.2 % pN) = (p.1 * p.2 * kn a.2.2.1) * (kD + kD) * (q.1 * q.2 * kn b.2.2.1) := by rw [Zj5, ZhK, ZhK, kn_2d, ta, tb]
 have eD : kn (2 * (a.2.2.1 * b.2.2.1) % pN) = kn a.2.2.1 * kn b.2.2.1 + kn a.2.2.1 * kn b.2.2.1 := by rw [Zj5, ZhK, ZhK, two]; grind
 have fE := ZBV (a := (a.2.1 + a.1) * (b.2.1 + b.1) % pN) (lt_pN ((a.2.1 + pN - a.1) * (b.2.1 + pN - b.1)))
 have fF := ZBV (a := 2 * (a.2.2.1 * b.2.2.1) % pN) (lt_pN (a.2.2.2 * 74191411869338878686276167017509130379084227759686438032777571066171880567110 * b.2.2.2))
 have fG := ZxZ (2 * (a.2.2.1 * b.2.2.1) % pN) (a.2.2.2 * 74191411869338878686276167017509130379084227759686438032777571066171880567110 * b.2.2.2 % pN)
 have fH := ZxZ ((a.2.1 + a.1) * (b.2.1 + b.1) % pN) ((a.2.1 + pN - a.1) * (b.2.1 + pN - b.1) % pN)
 rw [eM, eL, ← m1] at fE
 rw [eD, eC, ← m3] at fF
 rw [eD, eC, ← m4] at fG
 rw [eM, eL, ← m2] at fH
 refine RepN.made ?_ ?_ ?_ ?_ ?_
 ·rw [fF, m5]; exact K.mul_ne zz w2
 ·rw [fG, m6]; exact K.mul_ne zz w1
 ·rw [fE, fF, fG]; exact m7
 ·rw [fF, fG, fH]; exact m8
 ·rw [fE, fF, fG, fH]; exact m9
theorem ZzZ : RepN zeroN kzero := ⟨by decide, by decide, by decide, by decide, K.one_ne, by show (0 : K) = 0 * 1; grind, by show (1 : K) = 1 * 1; grind, by show (0 : K) = 0 * 1 * 1; grind⟩
theorem ZvU {a:N4} {p:KP} (h:RepN a p) (hp:OnP p) : (n:Nat) → RepN (mulN a n) (nmul p n)
 | 0 => ZzZ
 | n + 1 => (ZvU h hp n).add h (ZoI hp n) hp
theorem ZvY {a:N4} {p:KP} (h:RepN a p) (hp:OnP p) : RepN (dblN a) (kdbl p) := h.add h hp hp
theorem ZFQ {a c:N4} {p q:KP} (h:RepN a p) (hp:OnP p) (hc:RepN c q) (hq:OnP q) (d:Nat) : RepN (rndN a c d) (rnd p q d) := by
 have q1 := Zjk hq
 have q2 := Zjk q1
 have q3 := Zjk q2
 exact (ZvY (ZvY (ZvY (ZvY hc hq) q1) q2) q3).add (ZvU h hp d) (Zjk q3) (ZoI hp d)
theorem ZEo {a:N4} {p:KP} (h:RepN a p) (hp:OnP p) (ds:List Nat) : RepN (hornN a ds) (horn p ds) := by
 unfold hornN horn
 have : ∀ (l:List Nat) (c:N4) (q:KP), RepN c q → OnP q → RepN (l.foldl (rndN a) c) (l.foldl (rnd p) q) := by
  intro l
  induction l with
  | nil => intro c q hc _; exact hc
  | cons d l ih => intro c q hc hq; exact ih _ _ (ZFQ h hp hc hq d) (ZF8 hp hq d)
 exact this ds _ _ ZzZ Zv1
theorem RepN.zero {a:N4} {p:KP} (h:RepN a p) (h1:a.1 = 0) (h2:a.2.1 = a.2.2.1) : p = kzero := by
 have hx := h.x
 have hy := h.y
 have hz := h.z
 rw [h1] at hx
 rw [h2] at hy
 refine Prod.ext ?_ ?_
 ·rcases K.mul_zero' (show p.1 * K.of a.2.2.1 = 0 by rw [← hx]; rfl) with h | h
  ·exact h
  ·exact absurd h hz
 ·refine K.cancel hz ?_
  show K.of a.2.2.1 * p.2 = K.of a.2.2.1 * 1
  rw [Lean.Grind.CommRing.mul_comm, ← hy]; grind
def ordD : List Nat := [1, 0, 0, 0, 0, 0, 0, 0, 0, 0, 0, 0, 0, 0, 0, 0, 0, 0, 0, 0, 0, 0, 0, 0, 0, 0, 0, 0, 0, 0, 0, 0, 1, 4, 13, 14, 15, 9, 13, 14, 10, 2, 15, 7, 9, 12, 13, 6, 5, 8, 1, 2, 6, 3, 1, 10, 5, 12, 15, 5, 13, 3, 14, 13]
end Go.Vx
set_option autoImplicit false
set_option linter.unusedSimpArgs false
namespace Go.Vx
open Go
theorem ZdD (p:N4) : mulN p 0 = (0, 1, 1, 0) := rfl
def natB : N4 := (15112221349535400772501151409588531511454012693041857206046113283949847762202, 46316835694926478169428394003475163141307993866256225615783033603165251855960, 1, 46827403850823179245072216630277197565144205554125654976674165829533817101731)
theorem Zz0 : mulN natB 1 = (2552840779483505378219113134010172119181058439347146804455661131842826228859, 11579208923731619542357098500868790785326998466564056403945758400791312963993, 4, 13621481547318423844932389008076928480671845218041773847510287306265573947077) := by
 show addN (mulN natB 0) natB = _
 kernel_rfl
theorem ZEp : mulN natB 2 = (24864018119021058238687779386707358023044532145254053405790285490614051891301, 24809934617221647874351200869554836527981553895407510911199458916648989231186, 13708315162540395599936991268174633249649956576836307260814700747576731787601, 53769667411260511305215652266331133074044372931867653515947714617678091884745) := by
 show addN (mulN natB 1) natB = _
 rw [Zz0]
 kernel_rfl
theorem ZEq : mulN natB 3 = (55064684231588063244584429143656628643972909129824049962952406936748893467240, 48780486663521204179209029050748124211609102010075841540547415338180094503815, 883979222057526766245544744382733494009666327873863673270193753474566389286, 10784278201763840169666122102241847283452565982516024851384497783953380654508) := by
 show addN (mulN natB 2) natB = _
 rw [ZEp]
 kernel_rfl
theorem ZGr : mulN natB 4 = (25010713836243870589971820764224326111528174629014240601004826569101875256534, 34939548190325366976530123692358257925882331198698696228831637675055076625432, 47183486842314553247887712670763479975468090345351491041333274763443332556181, 45722137226311505962509448394244490316393026081818649340608601729662681632192) := by
 show addN (mulN natB 3) natB = _
 rw [ZEq]
 kernel_rfl
theorem ZEr : mulN natB 5 = (40791534229412973972234405862976475690420686814364588387497876622636279437591, 14835945331367333230202090590936382373940692573540875118842750899515880727532, 1469473446234842128534864017552335257241280804686051677944973437145320104696, 12178203208177087201597858301079859859804111902509048424780578572614846967465) := by
 show addN (mulN natB 4) natB = _
 rw [ZGr]
 kernel_rfl
theorem ZEs : mulN natB 6 = (4126304975002004480381209234819370363741605590975854341756299341602771328983, 7696656139924367240377089442801286397337714187165942730364211268114259748667, 31319540541076988431269789914812283051574456489371175949934206799448332630338, 34715614378425217664397413709925701776603200191703417334370087908245599383901) := by
 show addN (mulN natB 5) natB = _
 rw [ZEr]
 kernel_rfl
theorem ZGs : mulN natB 7 = (10123179876194928476487300805535461337650573637679197315650579388485381527445, 17836688548446281752758370918369483112975755489427055670416464337278325524775, 22374405350626561937793226527999027054038953238342586516172295091990711109402, 43445108623545057605580006306581304419009458148834575369795853056172772210569) := by
 show addN (mulN natB 6) natB = _
 rw [ZEs]
 kernel_rfl
theorem ZGt : mulN natB 8 = (27249846242630767534496728161587858678772979207910608060871074537327039031332, 44940102231107464919442373038063147341798541583091224321621774014447256683008, 29945773599567352774752933077488440738010038721668166952244831288642893432017, 56089227072773366558043150845280866978754752092365320689656910222787900423016) := by
 show addN (mulN natB 7) natB = _
 rw [ZGs]
 kernel_rfl
theorem ZEt : mulN natB 9 = (35811768031708742880460675379758280814055090581738100610239883519096845381061, 30809317889586082320066945793753496353565508956840834619879952607041154165267, 37833004234940154779125685601731606682713247796070570879406862750710278024051, 7784321592865584665030676172495885320063669382295389463071035658045700649188) := by
 show addN (mulN natB 8) natB = _
 rw [ZGt]
 kernel_rfl
theorem ZAU : mulN natB 10 = (579830896863656210255908038249058368148003004102712485946638317504258468260, 52552608741570207720538551788112112663989694517776853550078744074601261022831, 33718384406054211910932976488228331666518984722334858960436365552814499399631, 32589037073732085433134120965426752965757420758409249990414831534304163281174) := by
 show addN (mulN natB 9) natB = _
 rw [ZEt]
 kernel_rfl
theorem tabB_11 : mulN natB 11 = (6635083742964200955994818518477645494596608494254425863562503180185961166960, 8706585833741402588639036497489592676817545601868901897434584989112251533133, 40342554303644351430060838062067764600060842610109945147408000625937840009978, 28296874633194227505173248139124612601247723558199532055844550060424873857605) := by
 show addN (mulN natB 10) natB = _
 rw [ZAU]
 kernel_rfl
theorem ZAV : mulN natB 12 = (53566845509909880365742679199695732440473413325031706578081407211975028653985, 46739605971028972745965446163037643977259206364964543441049482431980015203012, 15721485682812693615206420166114484446874951752436379596669643555795263744572, 9841053974298785361523526738449174219803797185452088252426039493442073406240) := by
 show addN (mulN natB 11) natB = _
 rw [tabB_11]
 kernel_rfl
theorem ZwE : mulN natB 13 = (47367083672170903139348120264583945836787044553870507911720035245180248056721, 1673503340010145508015407195126312167453968947806531203698889556081945690955, 44786762720491214886353680061282724852536401703146108724887002721656728966437, 14075776373519841501955558130614874993387385220751056973465163028396250569776) := by
 show addN (mulN natB 12) natB = _
 rw [ZAV]
 kernel_rfl
theorem ZyG : mulN natB 14 = (3429343498096751140213304501266039272859201423737791105283355038045295389738, 13499679815874787045455687267869147722010952847519461474924316955849981206472, 38761973851890857179638225770886380701222195120252654541964841809163494283257, 37145247308090528166050152137550235232285788851173967313408376517444569114819) := by
 show addN (mulN natB 13) natB = _
 rw [ZwE]
 kernel_rfl
theorem ZAW : mulN natB 15 = (41734291061741566585874546119754031206228062759369309662682559993259054994455, 15435648519125253775312412975409777567968833578718326040031913835695845444974, 8500806736871367225064980235757959547634107294634254252410177233764897738765, 42322029939791908968301366813475692133852316069423794045176900004273471124952) := by
 show addN (mulN natB 14) natB = _
 rw [ZyG]
 kernel_rfl
theorem runB_0 : [1, 0, 0, 0].foldl (rndN natB) (0, 1, 1, 0) = (14355140867693127170772413755796481855133169412495723310630992696404240469489, 3291252487539114758968185261559412139630282980658094070971149767599154836749, 16856090453540597801054074586716655295585855616249000260489963328160420859374, 33673448586699109817190310400762371566340783915585712859934634125200952020516) := by
 simp only [List.foldl, rndN, ZdD, Zz0]
 kernel_rfl
theorem runB_1 : [0, 0, 0, 0].foldl (rndN natB) (14355140867693127170772413755796481855133169412495723310630992696404240469489, 3291252487539114758968185261559412139630282980658094070971149767599154836749, 16856090453540597801054074586716655295585855616249000260489963328160420859374, 33673448586699109817190310400762371566340783915585712859934634125200952020516) = (8453958663774341357401124564712998895962298589658815615930120892794717527664, 15665650449345508169889553269178423530910126375477567920664782481277305441278, 47715869969247964919903997509378046004187037597707936429829323643860335989644, 22526124483161908411012949659863684738450720997145077256039111509031816586314) := by
 simp only [List.foldl, rndN, ZdD]
 kernel_rfl
theorem runB_2 : [0, 0, 0, 0].foldl (rndN natB) (8453958663774341357401124564712998895962298589658815615930120892794717527664, 15665650449345508169889553269178423530910126375477567920664782481277305441278, 47715869969247964919903997509378046004187037597707936429829323643860335989644, 22526124483161908411012949659863684738450720997145077256039111509031816586314) = (21490930363099346592312897424455130009537623153950046222768012509933410288458, 44119016560908237635502763356727397041386571453325684617952362318065889409559, 43292109350706659259311657370322893804247599358664060760272660319411869828953, 160058924052034065241575606552525167495254780317043914022843597481210386536) := by
 simp only [List.foldl, rndN, ZdD]
 kernel_rfl
theorem runB_3 : [0, 0, 0, 0].foldl (rndN natB) (21490930363099346592312897424455130009537623153950046222768012509933410288458, 44119016560908237635502763356727397041386571453325684617952362318065889409559, 43292109350706659259311657370322893804247599358664060760272660319411869828953, 160058924052034065241575606552525167495254780317043914022843597481210386536) = (28690395537388057848108478985998479690188538647089060251423584355925169014622, 50506690389684669877295566526950336274047943039409795183273558911587711636306, 4845374260073067584179768580904550193321577974354069927526907983080361375008, 1370310933729567096669441167272846549364852252014863168459263377116202712144) := by
 simp only [List.foldl, rndN, ZdD]
 kernel_rfl
theorem runB_4 : [0, 0, 0, 0].foldl (rndN natB) (28690395537388057848108478985998479690188538647089060251423584355925169014622, 50506690389684669877295566526950336274047943039409795183273558911587711636306, 4845374260073067584179768580904550193321577974354069927526907983080361375008, 1370310933729567096669441167272846549364852252014863168459263377116202712144) = (50957314989318132775508596236464126815418320885829070451825568080291126640649, 1491011223895908635316976064729960219138096409073137281931750040804554184947, 38327932613686349273540569863181172420256404601733157655206267851898259970107, 25199823540846270571177345394541194545682995807124050766462423906479792522613) := by
 simp only [List.foldl, rndN, ZdD]
 kernel_rfl
theorem runB_5 : [0, 0, 0, 0].foldl (rndN natB) (50957314989318132775508596236464126815418320885829070451825568080291126640649, 1491011223895908635316976064729960219138096409073137281931750040804554184947, 38327932613686349273540569863181172420256404601733157655206267851898259970107, 25199823540846270571177345394541194545682995807124050766462423906479792522613) = (21772343679465781160846642010746347529549683657471192538943620191721116189580, 23282994512744353698565371105396867279469132194275483159759510213392348127131, 12887635768858863921932994437758355331757071704737021563394004264633485004739, 30448890549397081485928578171159619611536669436186225907155532630051995191453) := by
 simp only [List.foldl, rndN, ZdD]
 kernel_rfl
theorem runB_6 : [0, 0, 0, 0].foldl (rndN natB) (21772343679465781160846642010746347529549683657471192538943620191721116189580, 23282994512744353698565371105396867279469132194275483159759510213392348127131, 12887635768858863921932994437758355331757071704737021563394004264633485004739, 30448890549397081485928578171159619611536669436186225907155532630051995191453) = (22254725965976970313230529726038697781320787910717018727316141278454951732082, 53010799572877939235186615374985884637247629533476950916881779976036703449977, 23399409436448743042150341522779904161230731721981085550476645270597368304447, 49889666998664805542086388932326809145811739126579384526028873658734627468572) := by
 simp only [List.foldl, rndN, ZdD]
 kernel_rfl
theorem runB_7 : [0, 0, 0, 0].foldl (rndN natB) (22254725965976970313230529726038697781320787910717018727316141278454951732082, 53010799572877939235186615374985884637247629533476950916881779976036703449977, 23399409436448743042150341522779904161230731721981085550476645270597368304447, 49889666998664805542086388932326809145811739126579384526028873658734627468572) = (11677094021370048044678200784321244728108104996639136952713571587239390680248, 2521531736342227035403904715463469820273461165063297005469591614380562510328, 34888758367532125545758750847913557836638379797236558730586437800189271352967, 3901657260480309653647719124378501725690467988013631242212320485990520136062) := by
 simp only [List.foldl, rndN, ZdD]
 kernel_rfl
theorem runB_8 : [1, 4, 13, 14].foldl (rndN natB) (11677094021370048044678200784321244728108104996639136952713571587239390680248, 2521531736342227035403904715463469820273461165063297005469591614380562510328, 34888758367532125545758750847913557836638379797236558730586437800189271352967, 3901657260480309653647719124378501725690467988013631242212320485990520136062) = (50515629261441458563327008303671487538605311560182177534552598816247866069582, 22123251503694358961117640993314820741789984092426418432814616931269365801399, 39139970608143485860764426017246352334496975919985203388268796524519731273611, 24400580354995678616741639047983407807197263058114956036729650970514459241215) := by
 simp only [List.foldl, rndN, ZdD, Zz0, ZGr, ZwE, ZyG]
 kernel_rfl
theorem runB_9 : [15, 9, 13, 14].foldl (rndN natB) (50515629261441458563327008303671487538605311560182177534552598816247866069582, 22123251503694358961117640993314820741789984092426418432814616931269365801399, 39139970608143485860764426017246352334496975919985203388268796524519731273611, 24400580354995678616741639047983407807197263058114956036729650970514459241215) = (7515214544537790039197088930112639932948040460879313840255675736158820411573, 36474299768254206823351341522908678411097809653444998363839762026407594468573, 50552666313659638880345192326482790648586962081749418770048845970868734799425, 7643188191025821194598813606533360381960701702516099423903989504832264457834) := by
 simp only [List.foldl, rndN, ZdD, ZEt, ZwE, ZyG, ZAW]
 kernel_rfl
theorem runB_10 : [10, 2, 15, 7].foldl (rndN natB) (7515214544537790039197088930112639932948040460879313840255675736158820411573, 36474299768254206823351341522908678411097809653444998363839762026407594468573, 50552666313659638880345192326482790648586962081749418770048845970868734799425, 7643188191025821194598813606533360381960701702516099423903989504832264457834) = (4356685050355488430233697593254663531320024643649998124459687757818629402612, 55251633010056866305180781709243026769576422006448626980500350316099650303054, 10148357167289083076370089089452440290357153276237251491718872992789916438980, 12703274235789614981420696970731995443468517324053102762446245317351719042934) := by
 simp only [List.foldl, rndN, ZdD, ZEp, ZGs, ZAU, ZAW]
 kernel_rfl
theorem runB_11 : [9, 12, 13, 6].foldl (rndN natB) (4356685050355488430233697593254663531320024643649998124459687757818629402612, 55251633010056866305180781709243026769576422006448626980500350316099650303054, 10148357167289083076370089089452440290357153276237251491718872992789916438980, 12703274235789614981420696970731995443468517324053102762446245317351719042934) = (42463363910939582708418639084895550198466856410628523491658856497022673749258, 46614020509725897184977526911503113266004799116866871839309273386857540645555, 44193889933537413354861050650981693554707899605165717418728107953381210380158, 15481970347004614259588842461564865666868088139674676888109679442108665020646) := by
 simp only [List.foldl, rndN, ZdD, ZEs, ZEt, ZAV, ZwE]
 kernel_rfl
theorem runB_12 : [5, 8, 1, 2].foldl (rndN natB) (42463363910939582708418639084895550198466856410628523491658856497022673749258, 46614020509725897184977526911503113266004799116866871839309273386857540645555, 44193889933537413354861050650981693554707899605165717418728107953381210380158, 15481970347004614259588842461564865666868088139674676888109679442108665020646) = (47333427855137518802045854061404303470010525559255971716372933251444454798172, 43001109203897717560908614746093485662812555463007001952502706021189239336428, 18726395798691087771356117213531436041083695329075494882961165463363063568739, 53248822381955812907813206264462857141732750019122161810563294029099804573778) := by
 simp only [List.foldl, rndN, ZdD, Zz0, ZEp, ZEr, ZGt]
 kernel_rfl
theorem runB_13 : [6, 3, 1, 10].foldl (rndN natB) (47333427855137518802045854061404303470010525559255971716372933251444454798172, 43001109203897717560908614746093485662812555463007001952502706021189239336428, 18726395798691087771356117213531436041083695329075494882961165463363063568739, 53248822381955812907813206264462857141732750019122161810563294029099804573778) = (53623086403760059073882616644312972650102215598372503730755196247465783197883, 43125835986312933240435991844888357656560732729316388940692628244725385890286, 13369741944152252296728628458026249833210471383761217586130755391198311111110, 33544457160084265700484522544618961307060532237632774180138110131285708509007) := by
 simp only [List.foldl, rndN, ZdD, Zz0, ZEq, ZEs, ZAU]
 kernel_rfl
theorem runB_14 : [5, 12, 15, 5].foldl (rndN natB) (53623086403760059073882616644312972650102215598372503730755196247465783197883, 43125835986312933240435991844888357656560732729316388940692628244725385890286, 13369741944152252296728628458026249833210471383761217586130755391198311111110, 33544457160084265700484522544618961307060532237632774180138110131285708509007) = (18047613385065744577528497454131778117426639961042581744452187397164307838700, 38524252065817039255846708857580662444041508889032351625639170943697134475288, 38803444493730069278972788037032396073982148279167087464142630585094191910824, 15037167602619692018691110859557235059839070438169790826586271515674225857036) := by
 simp only [List.foldl, rndN, ZdD, ZEr, ZAV, ZAW]
 kernel_rfl
theorem runB_15 : [13, 3, 14, 13].foldl (rndN natB) (18047613385065744577528497454131778117426639961042581744452187397164307838700, 38524252065817039255846708857580662444041508889032351625639170943697134475288, 38803444493730069278972788037032396073982148279167087464142630585094191910824, 15037167602619692018691110859557235059839070438169790826586271515674225857036) = (0, 36546890179779087910198657476141749503268901787098142447105161590451006740909, 36546890179779087910198657476141749503268901787098142447105161590451006740909, 0) := by
 simp only [List.foldl, rndN, ZdD, ZEq, ZwE, ZyG]
 kernel_rfl
theorem hornB : hornN natB ordD = (0, 36546890179779087910198657476141749503268901787098142447105161590451006740909, 36546890179779087910198657476141749503268901787098142447105161590451006740909, 0) := by
 show ([1, 0, 0, 0] ++ [0, 0, 0, 0] ++ [0, 0, 0, 0] ++ [0, 0, 0, 0] ++ [0, 0, 0, 0] ++ [0, 0, 0, 0] ++ [0, 0, 0, 0] ++ [0, 0, 0, 0] ++ [1, 4, 13, 14] ++ [15, 9, 13, 14] ++ [10, 2, 15, 7] ++ [9, 12, 13, 6] ++ [5, 8, 1, 2] ++ [6, 3, 1, 10] ++ [5, 12, 15, 5] ++ [13, 3, 14, 13]).foldl (rndN natB) zeroN = _
 simp only [List.foldl_append]
 rw [show zeroN = (0, 1, 1, 0) from rfl, runB_0, runB_1, runB_2, runB_3, runB_4, runB_5, runB_6, runB_7, runB_8, runB_9, runB_10, runB_11, runB_12, runB_13, runB_14, runB_15]
def natT : N4 := (14399317868200118260347934320527232580618823971194345261214217575416788799818, 2707385501144840649318225287225658788936804267575313519463743609750303402022, 1, 8646474948907434702843920070347827283394575680151124875353015136841552197740)
theorem ZF9 : mulN natT 1 = (57597271472800473041391737282108930322475295884777381044856870301667155199272, 10829542004579362597272901148902635155747217070301254077854974439001213608088, 4, 34585899795629738811375680281391309133578302720604499501412060547366208790960) := by
 show addN (mulN natT 0) natT = _
 kernel_rfl
theorem ZGa : mulN natT 2 = (13312158439838519777768496597266940374571803061068710097350574771087991259444, 0, 34078555792793475296029220324030248436723963794633578201102634988456280095977, 0) := by
 show addN (mulN natT 1) natT = _
 rw [ZF9]
 kernel_rfl
theorem ZGb : mulN natT 3 = (31229603385621899405488071171712170515110101177057136110700174489171167849958, 56314158774803726420829261972603135769945755457338855777403862574029621412396, 9956569516209051793234071828796305629913402955488362303411387419025331053069, 12600353498383996813655037163310104750174071444650158795223668751601053441527) := by
 show addN (mulN natT 2) natT = _
 rw [ZGa]
 kernel_rfl
theorem ZGc : mulN natT 4 = (0, 56282327474748986898786893864020127412060393225276983385148015410859152606821, 1613717143909110812998598640323826514574599107543298634580776593097412213128, 0) := by
 show addN (mulN natT 3) natT = _
 rw [ZGb]
 kernel_rfl
theorem ZGd : mulN natT 5 = (33506727260930046299225411753721207548202283892108529899357701275110840154361, 41916829705681408830305770595381678868258726056614151344660522982025273491166, 48375445189111965512561942247162041535094348327177577956021968485327971783346, 47113009331150064598146851467390143418365662884688292107595015425639646412518) := by
 show addN (mulN natT 4) natT = _
 rw [ZGc]
 kernel_rfl
theorem ZGe : mulN natT 6 = (56339586219801509979559636051678394588472649238597118815218013289890208983446, 0, 15734991652021186153336244073485946526227265178658872138048853044648267442608, 0) := by
 show addN (mulN natT 5) natT = _
 rw [ZGd]
 kernel_rfl
theorem ZGf : mulN natT 7 = (47696687086421762567490243041442166350814867250470529196631146150819611063965, 33599806824258530193998131746640652380184403182300959986573220355679624507378, 22704986271192174467132522069699115548671841479949653905581315861310532362397, 4642015619828294579380136441023345059055294419868015773210671537513360980390) := by
 show addN (mulN natT 6) natT = _
 rw [ZGe]
 kernel_rfl
theorem tabT_8 : mulN natT 8 = (0, 50594968604927234144182731465035698763886023278147890932449363974697338924923, 50594968604927234144182731465035698763886023278147890932449363974697338924923, 0) := by
 show addN (mulN natT 7) natT = _
 rw [ZGf]
 kernel_rfl
end Go.Vx
set_option autoImplicit false
namespace Go.Vx
open Go
def kB : KP := (K.of 15112221349535400772501151409588531511454012693041857206046113283949847762202, K.of 46316835694926478169428394003475163141307993866256225615783033603165251855960)
def kT : KP := (kn natT.1, kn natT.2.1)
theorem ZEu (x y:Nat) (hx:x < pN) (hy:y < pN) : RepN (x, y, 1, x * y % pN) (kn x, kn y) :=
 ⟨hx, hy, by show 1 < pN; decide, lt_pN _, K.one_ne, by show kn x = kn x * 1; grind, by show kn y = kn y * 1; grind, by show kn (x * y % pN) = kn x * kn y * 1; rw [Zj5, ZhK]; grind⟩
theorem ZFR : RepN natB kB := ZEu _ _ (by decide) (by decide)
theorem ZBl : RepN natT kT := ZEu _ _ (by decide) (by decide)
theorem on_of (x y:Nat) (h:(y * y + (pN - 1) * (x * x)) % pN = (1 + 37095705934669439343138083508754565189542113879843219016388785533085940283555 * (x * x) * (y * y)) % pN) : OnP (kn x, kn y) := by
 have h1 := congrArg kn h
 rw [Zj5, Zj5, ZxZ, ZhK, ZhK, ZhK, ZxZ, ZhK, ZhK, ZhK, ZhK] at h1
 have e1 : kn (pN - 1) = -1 := by
  unfold kn
  rw [show (-1 : K) = K.of (-1) from by rw [K.of_neg]; rfl, K.of_eq]
  decide
 have e2 : kn 37095705934669439343138083508754565189542113879843219016388785533085940283555 = kD := rfl
 have e3 : kn 1 = 1 := rfl
 rw [e1, e2, e3] at h1
 show On _ _
 unfold On
 generalize kn x = a at *
 generalize kn y = b at *
 generalize kD = d at *
 grind
theorem kB_on : OnP kB := on_of 15112221349535400772501151409588531511454012693041857206046113283949847762202 46316835694926478169428394003475163141307993866256225615783033603165251855960 (by decide)
theorem kT_on : OnP kT := on_of natT.1 natT.2.1 (by decide)
theorem lB : horn kB ordD = kzero := by
 have h := ZEo ZFR kB_on ordD
 rw [hornB] at h
 exact h.zero rfl rfl
end Go.Vx
set_option autoImplicit false
namespace Go.Vx
open Go
set_option maxHeartbeats 4000000 in
theorem asso_x {d x1 y1 x2 y2 x3 y3:K} (h1:y1 ^ 2 - x1 ^ 2 = 1 + d * x1 ^ 2 * y1 ^ 2) (h2:y2 ^ 2 - x2 ^ 2 = 1 + d * x2 ^ 2 * y2 ^ 2) (h3:y3 ^ 2 - x3 ^ 2 = 1 + d * x3 ^ 2 * y3 ^ 2) : ((x1 * y2 + y1 * x2) * (1 - d * x1 * x2 * y1 * y2) * y3 + (y1 * y2 + x1 * x2) * (1 + d * x1 * x2 * y1 * y2) * x3) * ((1 + d * x2 * x3 * y2 * y3) * (1 - d * x2 * x3 * y2 * y3) + d * x1 * y1 * (x2 * y3 + y2 * x3) * (y2 * y3 + x2 * x3)) = (x1 * (y2 * y3 + x2 * x3) * (1 + d * x2 * x3 * y2 * y3) + y1 * (x2 * y3 + y2 * x3) * (1 - d * x2 * x3 * y2 * y3)) * ((1 + d * x1 * x2 * y1 * y2) * (1 - d * x1 * x2 * y1 * y2) + d * (x1 * y2 + y1 * x2) * (y1 * y2 + x1 * x2) * x3 * y3) := by grind
set_option maxHeartbeats 4000000 in
theorem asso_y {d x1 y1 x2 y2 x3 y3:K} (h1:y1 ^ 2 - x1 ^ 2 = 1 + d * x1 ^ 2 * y1 ^ 2) (h2:y2 ^ 2 - x2 ^ 2 = 1 + d * x2 ^ 2 * y2 ^ 2) (h3:y3 ^ 2 - x3 ^ 2 = 1 + d * x3 ^ 2 * y3 ^ 2) : ((y1 * y2 + x1 * x2) * (1 + d * x1 * x2 * y1 * y2) * y3 + (x1 * y2 + y1 * x2) * (1 - d * x1 * x2 * y1 * y2) * x3) * ((1 + d * x2 * x3 * y2 * y3) * (1 - d * x2 * x3 * y2 * y3) - d * x1 * y1 * (x2 * y3 + y2 * x3) * (y2 * y3 + x2 * x3)) = (y1 * (y2 * y3 + x2 * x3) * (1 + d * x2 * x3 * y2 * y3) + x1 * (x2 * y3 + y2 * x3) * (1 - d * x2 * x3 * y2 * y3)) * ((1 + d * x1 * x2 * y1 * y2) * (1 - d * x1 * x2 * y1 * y2) - d * (x1 * y2 + y1 * x2) * (y1 * y2 + x1 * x2) * x3 * y3) := by grind
theorem ZBW {g h a b c e:K} (hg:g ≠ 0) (hh:h ≠ 0) (e1:g * a * (h * b) = h * c * (g * e)) : a * b = c * e := by
 refine K.cancel (K.mul_ne hg hh) ?_
 rw [show g * h * (a * b) = g * a * (h * b) by grind, e1]; grind
theorem cross {a b p q:K} (hp:p ≠ 0) (hq:q ≠ 0) {m n:K} (ha:a * p = m) (hb:b * q = n) (h:m * q = n * p) : a = b := by
 refine K.cancel (K.mul_ne hp hq) ?_
 rw [← ha, ← hb] at h
 rw [show p * q * a = a * p * q by grind, h]; grind
theorem ZCB {p q r:KP} (h1:OnP p) (h2:OnP q) (h3:OnP r) : kadd (kadd p q) r = kadd p (kadd q r) := by
 have o12 := Zt4 h1 h2
 have o23 := Zt4 h2 h3
 obtain ⟨x1, y1⟩ := p
 obtain ⟨x2, y2⟩ := q
 obtain ⟨x3, y3⟩ := r
 have a1 := ZqD h1 h2
 have b1 := ZqE h1 h2
 have a2 := ZqD h2 h3
 have b2 := ZqE h2 h3
 have l1 := ZqD o12 h3
 have l2 := ZqE o12 h3
 have r1 := ZqD h1 o23
 have r2 := ZqE h1 o23
 obtain ⟨u0, v0⟩ := ZdP h1 h2
 obtain ⟨s0, t0⟩ := ZdP h2 h3
 obtain ⟨m0, n0⟩ := ZdP o12 h3
 obtain ⟨i0, j0⟩ := ZdP h1 o23
 have idx := asso_x (d := kD) h1 h2 h3
 have idy := asso_y (d := kD) h1 h2 h3
 simp only [kadd] at *
 generalize hX : ax (ax x1 y1 x2 y2) (ay x1 y1 x2 y2) x3 y3 = X at *
 generalize hY : ay (ax x1 y1 x2 y2) (ay x1 y1 x2 y2) x3 y3 = Y at *
 generalize hX' : ax x1 y1 (ax x2 y2 x3 y3) (ay x2 y2 x3 y3) = X' at *
 generalize hY' : ay x1 y1 (ax x2 y2 x3 y3) (ay x2 y2 x3 y3) = Y' at *
 generalize ax x1 y1 x2 y2 = A at *
 generalize ay x1 y1 x2 y2 = B at *
 generalize ax x2 y2 x3 y3 = C at *
 generalize ay x2 y2 x3 y3 = D at *
 clear h1 h2 h3 o12 o23 hX hY hX' hY'
 generalize kD = d at *
 -- denominators on one line
 have p1 : (1 + d * x1 * x2 * y1 * y2) * (1 - d * x1 * x2 * y1 * y2) + d * (x1 * y2 + y1 * x2) * (y1 * y2 + x1 * x2) * x3 * y3 = (1 + d * x1 * x2 * y1 * y2) * (1 - d * x1 * x2 * y1 * y2) * (1 + d * A * x3 * B * y3) := by
  rw [← a1, ← b1]; clear a1 b1 a2 b2 l1 l2 r1 r2 idx idy; grind
 have p2 : (1 + d * x1 * x2 * y1 * y2) * (1 - d * x1 * x2 * y1 * y2) - d * (x1 * y2 + y1 * x2) * (y1 * y2 + x1 * x2) * x3 * y3 = (1 + d * x1 * x2 * y1 * y2) * (1 - d * x1 * x2 * y1 * y2) * (1 - d * A * x3 * B * y3) := by
  rw [← a1, ← b1]; clear a1 b1 a2 b2 l1 l2 r1 r2 idx idy; grind
 have p3 : (1 + d * x2 * x3 * y2 * y3) * (1 - d * x2 * x3 * y2 * y3) + d * x1 * y1 * (x2 * y3 + y2 * x3) * (y2 * y3 + x2 * x3) = (1 + d * x2 * x3 * y2 * y3) * (1 - d * x2 * x3 * y2 * y3) * (1 + d * x1 * C * y1 * D) := by
  rw [← a2, ← b2]; clear a1 b1 a2 b2 l1 l2 r1 r2 idx idy p1 p2; grind
 have p4 : (1 + d * x2 * x3 * y2 * y3) * (1 - d * x2 * x3 * y2 * y3) - d * x1 * y1 * (x2 * y3 + y2 * x3) * (y2 * y3 + x2 * x3) = (1 + d * x2 * x3 * y2 * y3) * (1 - d * x2 * x3 * y2 * y3) * (1 - d * x1 * C * y1 * D) := by
  rw [← a2, ← b2]; clear a1 b1 a2 b2 l1 l2 r1 r2 idx idy p1 p2 p3; grind
 have n1 : (x1 * y2 + y1 * x2) * (1 - d * x1 * x2 * y1 * y2) * y3 + (y1 * y2 + x1 * x2) * (1 + d * x1 * x2 * y1 * y2) * x3 = (1 + d * x1 * x2 * y1 * y2) * (1 - d * x1 * x2 * y1 * y2) * (A * y3 + B * x3) := by
  rw [← a1, ← b1]; clear a1 b1 a2 b2 l1 l2 r1 r2 idx idy p1 p2 p3 p4; grind
 have n2 : (y1 * y2 + x1 * x2) * (1 + d * x1 * x2 * y1 * y2) * y3 + (x1 * y2 + y1 * x2) * (1 - d * x1 * x2 * y1 * y2) * x3 = (1 + d * x1 * x2 * y1 * y2) * (1 - d * x1 * x2 * y1 * y2) * (B * y3 + A * x3) := by
  rw [← a1, ← b1]; clear a1 b1 a2 b2 l1 l2 r1 r2 idx idy p1 p2 p3 p4 n1; grind
 have n3 : x1 * (y2 * y3 + x2 * x3) * (1 + d * x2 * x3 * y2 * y3) + y1 * (x2 * y3 + y2 * x3) * (1 - d * x2 * x3 * y2 * y3) = (1 + d * x2 * x3 * y2 * y3) * (1 - d * x2 * x3 * y2 * y3) * (x1 * D + y1 * C) := by
  rw [← a2, ← b2]; clear a1 b1 a2 b2 l1 l2 r1 r2 idx idy p1 p2 p3 p4 n1 n2; grind
 have n4 : y1 * (y2 * y3 + x2 * x3) * (1 + d * x2 * x3 * y2 * y3) + x1 * (x2 * y3 + y2 * x3) * (1 - d * x2 * x3 * y2 * y3) = (1 + d * x2 * x3 * y2 * y3) * (1 - d * x2 * x3 * y2 * y3) * (y1 * D + x1 * C) := by
  rw [← a2, ← b2]; clear a1 b1 a2 b2 l1 l2 r1 r2 idx idy p1 p2 p3 p4 n1 n2 n3; grind
 rw [n1, p3, n3, p1] at idx
 rw [n2, p4, n4, p2] at idy
 have z1 : (1 + d * x1 * x2 * y1 * y2) * (1 - d * x1 * x2 * y1 * y2) ≠ 0 := K.mul_ne u0 v0
 have z2 : (1 + d * x2 * x3 * y2 * y3) * (1 - d * x2 * x3 * y2 * y3) ≠ 0 := K.mul_ne s0 t0
 have e1 := ZBW z1 z2 idx
 have e2 := ZBW z1 z2 idy
 exact Prod.ext (cross m0 i0 l1 r1 e1) (cross n0 j0 l2 r2 e2)
end Go.Vx
set_option autoImplicit false
namespace Go.Vx
open Go
structure E where
 p : KP
 on : OnP p
theorem E.ext {a b:E} (h:a.p = b.p) : a = b := by
 cases a; cases b; cases h; rfl
instance : Zero E := ⟨⟨kzero, Zv1⟩⟩
instance : Add E := ⟨fun a b => ⟨kadd a.p b.p, Zt4 a.on b.on⟩⟩
instance : Neg E := ⟨fun a => ⟨kneg a.p, Zx8 a.on⟩⟩
instance : Sub E := ⟨fun a b => a + -b⟩
def E.ns (a:E) : Nat → E
 | 0 => 0
 | n + 1 => E.ns a n + a
instance instSN : SMul Nat E := ⟨fun n a => E.ns a n⟩
theorem E.add_zero (a:E) : a + 0 = a := E.ext (Zl6 _)
theorem E.add_comm (a b:E) : a + b = b + a := E.ext ZEn
theorem E.add_assoc (a b c:E) : a + b + c = a + (b + c) := E.ext (ZCB a.on b.on c.on)
theorem E.zero_add (a:E) : 0 + a = a := by rw [E.add_comm, E.add_zero]
theorem E.add_neg (a:E) : a + -a = 0 := E.ext (ZFO a.on)
theorem E.neg_add (a:E) : -a + a = 0 := by rw [E.add_comm, E.add_neg]
theorem E.cancel {a b c:E} (h:a + b = a + c) : b = c := by
 rw [← E.zero_add b, ← E.zero_add c, ← E.neg_add a, E.add_assoc, E.add_assoc, h]
theorem E.neg_uniq {a b:E} (h:a + b = 0) : b = -a := E.cancel (a := a) (by rw [h, E.add_neg])
theorem E.add_swap (a b c d:E) : a + b + (c + d) = a + c + (b + d) := by
 rw [E.add_assoc, E.add_assoc, ← E.add_assoc b c d, E.add_comm b c, E.add_assoc c b d]
theorem E.neg_sum (a b:E) : -(a + b) = -a + -b := (E.neg_uniq (by rw [E.add_swap, E.add_neg, E.add_neg, E.add_zero])).symm
theorem E.neg_zero : -(0 : E) = 0 := (E.neg_uniq (E.add_zero 0)).symm
theorem E.neg_neg (a:E) : - -a = a := (E.neg_uniq (E.neg_add a)).symm
theorem E.ns_zero (a:E) : (0 : Nat) • a = 0 := rfl
theorem E.ns_succ (n:Nat) (a:E) : (n + 1) • a = n • a + a := rfl
theorem E.ns_add (m n:Nat) (a:E) : (m + n) • a = m • a + n • a := by
 induction n with
 | zero => rw [Nat.add_zero, E.ns_zero, E.add_zero]
 | succ n ih => rw [← Nat.add_assoc, E.ns_succ, ih, E.ns_succ, E.add_assoc]
theorem E.ns_mul (m n:Nat) (a:E) : (m * n) • a = m • (n • a) := by
 induction m with
 | zero => rw [Nat.zero_mul, E.ns_zero, E.ns_zero]
 | succ m ih => rw [Nat.succ_mul, E.ns_add, ih, E.ns_succ]
theorem E.ns_sum (n:Nat) (a b:E) : n • (a + b) = n • a + n • b := by
 induction n with
 | zero => rw [E.ns_zero, E.ns_zero, E.ns_zero, E.add_zero]
 | succ n ih => rw [E.ns_succ, E.ns_succ, E.ns_succ, ih, E.add_swap]
theorem E.ns_neg (n:Nat) (a:E) : n • (-a) = -(n • a) := by
 induction n with
 | zero => rw [E.ns_zero, E.ns_zero, E.neg_zero]
 | succ n ih => rw [E.ns_succ, E.ns_succ, ih, E.neg_sum]
theorem E.ns_p (n:Nat) (a:E) : (n • a).p = nmul a.p n := by
 induction n with
 | zero => rfl
 | succ n ih =>
  show kadd (n • a).p a.p = kadd (nmul a.p n) a.p
  rw [ih]
theorem ZDe (a:E) (ds:List Nat) : horn a.p ds = ((ds.foldl (fun s d => 16 * s + d) 0) • a).p := by
 have key : ∀ (l:List Nat) (s:Nat), l.foldl (rnd a.p) (s • a).p = ((l.foldl (fun s d => 16 * s + d) s) • a).p := by
  intro l
  induction l with
  | nil => intro s; rfl
  | cons d l ih =>
   intro s
   have : rnd a.p (s • a).p d = ((16 * s + d) • a).p := by
    have e : (16 * s + d) • a = s • a + s • a + (s • a + s • a) + (s • a + s • a + (s • a + s • a)) + (s • a + s • a + (s • a + s • a) + (s • a + s • a + (s • a + s • a))) + d • a := by
     rw [← E.ns_add, ← E.ns_add, ← E.ns_add, ← E.ns_add, ← E.ns_add]
     congr 1
     omega
    rw [e]
    show kadd _ (nmul a.p d) = kadd _ ((d • a).p)
    rw [← E.ns_p d a]
    rfl
   simp only [List.foldl_cons]
   rw [this]
   exact ih _
 exact key ds 0
def ordl : Nat := 7237005577332262213973186563042994240857116359379907606001950938285454250989
theorem ZE1 : ordD.foldl (fun s d => 16 * s + d) 0 = ordl := by decide
def eB : E := ⟨kB, kB_on⟩
def eT : E := ⟨kT, kT_on⟩
theorem T8 : (8 : Nat) • eT = 0 := E.ext (by
 rw [E.ns_p]
 have h := ZvU ZBl kT_on 8
 rw [tabT_8] at h
 exact h.zero rfl rfl)
def code (a:E) : Nat := a.p.2.v.toNat * 2 + (a.p.1.v % 2).toNat
end Go.Vx
set_option autoImplicit false
namespace Go.Vx
open Go
structure GenE (B T:E) : Prop where
 lB : ordl • B = 0
 oB : ∀ n, n • B = 0 → n % ordl = 0
 T8 : (8 : Nat) • T = 0
 oT : ∀ n, n • T = 0 → n % 8 = 0
section
variable {B T:E} (G:GenE B T)
include G
end
end Go.Vx
set_option autoImplicit false
namespace Go.Vx
open Go
abbrev Ev (a:E) : Prop := Even a.p.2
theorem ev_neg {a:E} (h:Ev a) : Ev (-a) := h
def Eqv (a b:E) : Prop := (4 : Nat) • (a + -b) = 0
theorem Zt5 {a b:E} : Eqv a b ↔ (4 : Nat) • a = (4 : Nat) • b := by
 unfold Eqv
 rw [E.ns_sum, E.ns_neg]
 constructor
 ·intro h
  exact E.cancel (a := -((4 : Nat) • b)) (by rw [E.neg_add, E.add_comm]; exact h)
 ·intro h
  rw [h, E.add_neg]
theorem Eqv.of_eq {a b:E} (h:a = b) : Eqv a b := by rw [h, Zt5]
theorem Eqv.trans {a b c:E} (h:Eqv a b) (g:Eqv b c) : Eqv a c := by rw [Zt5] at *; rw [h, g]
theorem Eqv.symm {a b:E} (h:Eqv a b) : Eqv b a := by rw [Zt5] at *; rw [h]
theorem Eqv.add {a b c d:E} (h:Eqv a b) (g:Eqv c d) : Eqv (a + c) (b + d) := by
 rw [Zt5] at *
 rw [E.ns_sum, E.ns_sum, h, g]
theorem Eqv.neg {a b:E} (h:Eqv a b) : Eqv (-a) (-b) := by
 rw [Zt5] at *
 rw [E.ns_neg, E.ns_neg, h]
theorem Eqv.ns {a b:E} (h:Eqv a b) (n:Nat) : Eqv (n • a) (n • b) := by
 rw [Zt5] at *
 rw [← E.ns_mul, ← E.ns_mul, Nat.mul_comm, E.ns_mul, E.ns_mul, h]
end Go.Vx
set_option autoImplicit false
namespace Go.Vx
open Go
end Go.Vx
