/- Numbers, part U: the four points of a coset; every even point has just one number. No program in sight. -/
import Derived.Test.YtoionfdfofmplaaDoorVyT
set_option autoImplicit false
namespace Go.Vx
open Go
theorem K.ev_neg {a:K} (h:a ≠ 0) : K.ev (-a) ↔ ¬ K.ev a := by
 have b1 := a.h
 have b2 : 0 ≤ a.v := by rw [← b1]; exact Int.emod_nonneg _ (by decide)
 have b3 : a.v < pF := by rw [← b1]; exact Int.emod_lt_of_pos _ Zrb
 have hz : a.v ≠ 0 := fun e => h (K.ext (by rw [e]; rfl))
 have h4 : (-a).v = pF - a.v := by
  show (- a.v) % pF = _
  rw [show - a.v = (pF - a.v) + pF * (-1) by rw [Int.mul_neg, Int.mul_one]; omega, Int.add_mul_emod_self_left, Int.emod_eq_of_lt (by omega) (by omega)]
 unfold K.ev
 rw [h4]
 simp only [pF] at *
 omega
def Rel (x y X Y:K) : Prop := (x = X ∧ y = Y) ∨ (x = Y * kI ∧ y = X * kI) ∨ (x = -X ∧ y = -Y) ∨ (x = -(Y * kI) ∧ y = -(X * kI))
theorem Rel.refl (x y:K) : Rel x y x y := .inl ⟨rfl, rfl⟩
theorem Rel.trans {x y X Y u v:K} (h:Rel x y X Y) (g:Rel X Y u v) : Rel x y u v := by
 have hi := kI_sq
 rcases g with ⟨rfl, rfl⟩ | ⟨rfl, rfl⟩ | ⟨rfl, rfl⟩ | ⟨rfl, rfl⟩
 ·exact h
 ·rcases h with ⟨rfl, rfl⟩ | ⟨rfl, rfl⟩ | ⟨rfl, rfl⟩ | ⟨rfl, rfl⟩
  ·exact .inr (.inl ⟨rfl, rfl⟩)
  ·exact .inr (.inr (.inl ⟨by grind, by grind⟩))
  ·exact .inr (.inr (.inr ⟨rfl, rfl⟩))
  ·exact .inl ⟨by grind, by grind⟩
 ·rcases h with ⟨rfl, rfl⟩ | ⟨rfl, rfl⟩ | ⟨rfl, rfl⟩ | ⟨rfl, rfl⟩
  ·exact .inr (.inr (.inl ⟨rfl, rfl⟩))
  ·exact .inr (.inr (.inr ⟨by grind, by grind⟩))
  ·exact .inl ⟨by grind, by grind⟩
  ·exact .inr (.inl ⟨by grind, by grind⟩)
 ·rcases h with ⟨rfl, rfl⟩ | ⟨rfl, rfl⟩ | ⟨rfl, rfl⟩ | ⟨rfl, rfl⟩
  ·exact .inr (.inr (.inr ⟨rfl, rfl⟩))
  ·exact .inl ⟨by grind, by grind⟩
  ·exact .inr (.inl ⟨by grind, by grind⟩)
  ·exact .inr (.inr (.inl ⟨by grind, by grind⟩))
theorem Stands.s_of {s X Y t:K} (h:Stands s X Y) (ht:t.ev) (e:(1 + Y) * t ^ 2 = 1 - Y) : t = s := by
 obtain ⟨e1, e2, e3⟩ := h.one_plus
 refine K.ev_root ht h.s_ev (K.cancel e3 ?_)
 rw [e]
 refine K.cancel h.w0 ?_
 generalize s ^ 2 = q at *
 grind
theorem Stands.s_eq {s X Y:K} (h:Stands s X Y) : (1 + Y) * s ^ 2 = 1 - Y := by
 have := h.yw
 grind
theorem Stands.same {s X Y x y:K} (h:Stands s X Y) (g:Stands s x y) : X = x ∧ Y = y :=
 ⟨K.ev_root h.x_ev g.x_ev (K.cancel h.v0 (by rw [h.xv, g.xv])), K.cancel h.w0 (by rw [Lean.Grind.CommRing.mul_comm, h.yw, ← g.yw, Lean.Grind.CommRing.mul_comm])⟩
theorem Stands.zero {s X Y:K} (h:Stands s X Y) (hx:X = 0) : s = 0 ∧ Y = 1 := by
 have h1 := h.xv
 rw [hx] at h1
 have h4 : (2 * s) ^ 2 = 0 := by grind
 have hs : s = 0 := by
  rcases K.mul_zero' (show (2 : K) * s = 0 from K.sq_zero h4) with h5 | h5
  ·exact absurd h5 K.two_ne
  ·exact h5
 refine ⟨hs, ?_⟩
 have := h.yw
 rw [hs] at this
 grind
theorem Stands.uniq {s t X Y u v:K} (h:Stands s X Y) (g:Stands t u v) (r:Rel u v X Y) : s = t ∧ X = u ∧ Y = v := by
 have hi := kI_sq
 by_cases hx : X = 0
 ·obtain ⟨h1, h2⟩ := h.zero hx
  have hu : u = 0 := by
   rcases r with ⟨rfl, rfl⟩ | ⟨rfl, rfl⟩ | ⟨rfl, rfl⟩ | ⟨rfl, rfl⟩
   ·exact hx
   ·exact absurd (show X * kI = 0 by rw [hx]; grind) g.y0
   ·rw [hx]; grind
   ·exact absurd (show -(X * kI) = 0 by rw [hx]; grind) g.y0
  obtain ⟨g1, g2⟩ := g.zero hu
  exact ⟨by rw [h1, g1], by rw [hx, hu], by rw [h2, g2]⟩
 ·have key : X = u ∧ Y = v := by
   have hxy : X * Y ≠ 0 := K.mul_ne hx h.y0
   have h1 := h.xy_ev
   have h2 := h.x_ev
   have g1 := g.xy_ev
   have g2 := g.x_ev
   rcases r with ⟨rfl, rfl⟩ | ⟨rfl, rfl⟩ | ⟨rfl, rfl⟩ | ⟨rfl, rfl⟩
   ·exact ⟨rfl, rfl⟩
   ·exfalso
    rw [show Y * kI * (X * kI) = -(X * Y) by grind] at g1
    exact (K.ev_neg hxy).1 g1 h1
   ·exact absurd h2 ((K.ev_neg hx).1 g2)
   ·exfalso
    rw [show -(Y * kI) * -(X * kI) = -(X * Y) by grind] at g1
    exact (K.ev_neg hxy).1 g1 h1
  obtain ⟨rfl, rfl⟩ := key
  exact ⟨g.s_of h.s_ev h.s_eq, rfl, rfl⟩
end Go.Vx
