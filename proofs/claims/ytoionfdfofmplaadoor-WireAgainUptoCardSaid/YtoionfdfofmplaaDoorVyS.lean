/- Numbers, part S: digits to a base that is a power of two; signed operations that stay in range; carries. -/
import Derived.Test.YtoionfdfofmplaaDoorVyR
import Derived.Test.YtoionfdfofmplaaDoorVyA
set_option autoImplicit false
set_option linter.unusedSimpArgs false
namespace Go.Vx.Ref
open Go
theorem wrapi {n:Int} (h0 : -9223372036854775808 ≤ n) (h1:n ≤ 9223372036854775807) : IntKind.wrap .i64 n = n := by
 have e : IntKind.wrap .i64 n = if n % 18446744073709551616 ≥ 9223372036854775808 then n % 18446744073709551616 - 18446744073709551616 else n % 18446744073709551616 := by
  simp [IntKind.wrap, IntKind.signed, IntKind.bits]
 rw [e]
 split <;> omega
theorem i_add {a b:Int} (h0 : -9223372036854775808 ≤ a + b) (h1:a + b ≤ 9223372036854775807) : ibin .add .i64 a b = a + b := wrapi h0 h1
def numW (w:Nat) : LI → Int
 | [] => 0
 | x :: l => x + 2 ^ w * numW w l
abbrev num (l:LI) : Int := numW 26 l
def Dg (w:Nat) (l:LI) : Prop := ∀ x ∈ l, 0 ≤ x ∧ x < 2 ^ w
theorem Dg.tail {w:Nat} {x:Int} {l:LI} (h:Dg w (x :: l)) : Dg w l := fun y hy => h y (by simp [hy])
theorem Dg.head {w:Nat} {x:Int} {l:LI} (h:Dg w (x :: l)) : 0 ≤ x ∧ x < 2 ^ w := h x (by simp)
theorem Zre {w:Nat} : (a b:LI) → a.length = b.length → Dg w a → Dg w b → numW w a = numW w b → a = b
 | [], [], _, _, _, _ => rfl
 | [], _ :: _, h, _, _, _ => by simp at h
 | _ :: _, [], h, _, _, _ => by simp at h
 | x :: a, y :: b, hl, ha, hb, h => by
  simp only [numW] at h
  have hx := ha.head; have hy := hb.head
  have e1 : (x + 2 ^ w * numW w a) % 2 ^ w = x := by rw [Int.add_mul_emod_self_left, Int.emod_eq_of_lt hx.1 hx.2]
  have e2 : (y + 2 ^ w * numW w b) % 2 ^ w = y := by rw [Int.add_mul_emod_self_left, Int.emod_eq_of_lt hy.1 hy.2]
  have hxy : x = y := by rw [← e1, ← e2, h]
  subst hxy
  have h5 : (2 : Int) ^ w * numW w a = 2 ^ w * numW w b := by omega
  have h6 := Int.eq_of_mul_eq_mul_left (Int.ne_of_gt (Int.pow_pos (by decide))) h5
  rw [Zre a b (by simpa using hl) ha.tail hb.tail h6]
def CF (a:LI) : Prop := a.length = 10 ∧ Dg 26 a ∧ num a < pF
theorem CF.inj {a b:LI} (ha:CF a) (hb:CF b) (h:num a = num b) : a = b := Zre a b (by rw [ha.1, hb.1]) ha.2.1 hb.2.1 h
end Go.Vx.Ref
