/- Numbers, part U: the four points of a coset; every even point has just one number. No program in sight. -/
import Derived.Test.YtoionfdfofmplaaDoorVyT
set_option autoImplicit false
namespace Go.Vx
open Go

/-- The point (x, y) is one of the four that (X, Y) has. -/
def Rel (x y X Y : K) : Prop := (x = X ∧ y = Y) ∨ (x = Y * kI ∧ y = X * kI) ∨ (x = -X ∧ y = -Y) ∨ (x = -(Y * kI) ∧ y = -(X * kI))
theorem Rel.refl (x y : K) : Rel x y x y := .inl ⟨rfl, rfl⟩
theorem Rel.trans {x y X Y u v : K} (h : Rel x y X Y) (g : Rel X Y u v) : Rel x y u v := by
  have hi := kI_sq
  rcases g with ⟨rfl, rfl⟩ | ⟨rfl, rfl⟩ | ⟨rfl, rfl⟩ | ⟨rfl, rfl⟩
  · exact h
  · rcases h with ⟨rfl, rfl⟩ | ⟨rfl, rfl⟩ | ⟨rfl, rfl⟩ | ⟨rfl, rfl⟩
    · exact .inr (.inl ⟨rfl, rfl⟩)
    · exact .inr (.inr (.inl ⟨by grind, by grind⟩))
    · exact .inr (.inr (.inr ⟨rfl, rfl⟩))
    · exact .inl ⟨by grind, by grind⟩
  · rcases h with ⟨rfl, rfl⟩ | ⟨rfl, rfl⟩ | ⟨rfl, rfl⟩ | ⟨rfl, rfl⟩
    · exact .inr (.inr (.inl ⟨rfl, rfl⟩))
    · exact .inr (.inr (.inr ⟨by grind, by grind⟩))
    · exact .inl ⟨by grind, by grind⟩
    · exact .inr (.inl ⟨by grind, by grind⟩)
  · rcases h with ⟨rfl, rfl⟩ | ⟨rfl, rfl⟩ | ⟨rfl, rfl⟩ | ⟨rfl, rfl⟩
    · exact .inr (.inr (.inr ⟨rfl, rfl⟩))
    · exact .inl ⟨by grind, by grind⟩
    · exact .inr (.inl ⟨by grind, by grind⟩)
    · exact .inr (.inr (.inl ⟨by grind, by grind⟩))

theorem Stands.s_eq {s X Y : K} (h : Stands s X Y) : (1 + Y) * s ^ 2 = 1 - Y := by
  have := h.yw
  grind
theorem Stands.same {s X Y x y : K} (h : Stands s X Y) (g : Stands s x y) : X = x ∧ Y = y :=
  ⟨K.ev_root h.x_ev g.x_ev (K.cancel h.v0 (by rw [h.xv, g.xv])), K.cancel h.w0 (by rw [Lean.Grind.CommRing.mul_comm, h.yw, ← g.yw, Lean.Grind.CommRing.mul_comm])⟩

/-- With a zero coordinate: the number is 0. -/
theorem Stands.zero {s X Y : K} (h : Stands s X Y) (hx : X = 0) : s = 0 ∧ Y = 1 := by
  have h1 := h.xv
  rw [hx] at h1
  have h4 : (2 * s) ^ 2 = 0 := by grind
  have hs : s = 0 := by
    rcases K.mul_zero' (show (2 : K) * s = 0 from K.sq_zero h4) with h5 | h5
    · exact absurd h5 K.two_ne
    · exact h5
  refine ⟨hs, ?_⟩
  have := h.yw
  rw [hs] at this
  grind

end Go.Vx
