import Derived.Test.YtoionfdfofmplaaDoorVyM22
import Derived.Test.YtoionfdfofmplaaDoorVyM8
import Derived.Test.YtoionfdfofmplaaDoorVyZ
import Derived.Test.YtoionfdfofmplaaDoorVyZ2
/- Numbers, part M23: the group modulo the four points; GroupLaws. -/
set_option autoImplicit false
set_option linter.unusedVariables false
set_option linter.unusedSimpArgs false
namespace Go.Vx
open Go

/- The group. -/
instance : Std.Associative (α := E) (· + ·) := ⟨E.add_assoc⟩
instance : Std.Commutative (α := E) (· + ·) := ⟨E.add_comm⟩
/- The base element. -/
end Go.Vx

/- Numbers, part M24: encodings, decodings and FromCurve by the curve's points. -/
set_option autoImplicit false
set_option linter.unusedVariables false
set_option linter.unusedSimpArgs false
namespace Go.Vx
open Go

end Go.Vx

/- Numbers, part M30a: the reference's point. -/
set_option autoImplicit false
set_option linter.unusedVariables false
namespace Go.Vx
open Go Ref

end Go.Vx

/- Numbers, part M32: the reference's curve in E: sums, multiples by fractions, torsion, what is free. -/
set_option autoImplicit false
set_option linter.unusedVariables false
set_option linter.unusedSimpArgs false
namespace Go.Vx
open Go Ref

end Go.Vx

/- Numbers, part M33: the reference's torsion points; the reference's least scalars. -/
set_option autoImplicit false
set_option linter.unusedVariables false
set_option linter.unusedSimpArgs false
namespace Go.Vx
open Go Ref

theorem shl_or {x w : Int} (k : Nat) (hk : k ≤ 64) (hx : U x) (hw : 0 ≤ w ∧ w < 2 ^ k) (hw' : w < 18446744073709551616) : ibin .or .u64 (ibin .shl .u64 x (k : Int)) w = x * 2 ^ k % 18446744073709551616 + w := by
  rw [u_shl k hk]
  unfold U at hx
  obtain ⟨n, rfl⟩ : ∃ n : Nat, x = n := ⟨x.toNat, by omega⟩
  obtain ⟨m, rfl⟩ : ∃ m : Nat, w = m := ⟨w.toNat, by omega⟩
  have hm : m < 2 ^ k := by
    have := hw.2
    have e : ((2 : Int) ^ k) = ((2 ^ k : Nat) : Int) := by simp
    rw [e] at this
    exact Int.ofNat_lt.1 this
  have e : ((n : Int) * 2 ^ k % 18446744073709551616) = ((n * 2 ^ k % 2 ^ 64 : Nat) : Int) := by simp
  have hdvd : n * 2 ^ k % 2 ^ 64 = 2 ^ k * (n % 2 ^ (64 - k)) := by
    have : (2 : Nat) ^ 64 = 2 ^ k * 2 ^ (64 - k) := by rw [← Nat.pow_add]; congr 1; omega
    rw [this, Nat.mul_comm n, Nat.mul_mod_mul_left]
  have hlt : n * 2 ^ k % 2 ^ 64 < 2 ^ 64 := Nat.mod_lt _ (by decide)
  rw [e, u_or (by omega) (by omega) (by omega) hw', Int.toNat_natCast, Int.toNat_natCast, hdvd, ← Nat.two_pow_add_eq_or_of_lt hm, Int.natCast_add]

end Go.Vx

/- Numbers, part M34: the reference's least scalars and their bytes. -/
set_option autoImplicit false
set_option linter.unusedVariables false
set_option linter.unusedSimpArgs false
namespace Go.Vx
open Go Ref

end Go.Vx
