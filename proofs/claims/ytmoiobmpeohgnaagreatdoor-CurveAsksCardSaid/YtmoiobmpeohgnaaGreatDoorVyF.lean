/- Numbers, part F: products: Mul64, double, carried, Mul, Square. -/
import Derived.Test.YtmoiobmpeohgnaaGreatDoorVyD
set_option autoImplicit false
namespace Go.Vx
open Go
theorem ZAS {a:Int} (h:U a) : ibin .and .u64 a 4294967295 = a % 4294967296 := by
 rw [u_and h.1 h.2 (by decide) (by decide)]
 have : a.toNat &&& (2 ^ 32 - 1) = a.toNat % 2 ^ 32 := Nat.and_two_pow_sub_one_eq_mod _ _
 rw [show (4294967295 : Int).toNat = 2 ^ 32 - 1 from rfl, this]
 simp only [U] at h
 omega
theorem ZzX {a b A B:Int} (a0 : 0 ≤ a) (a1:a ≤ A) (b0 : 0 ≤ b) (b1:b ≤ B) : 0 ≤ a * b ∧ a * b ≤ A * B :=
 ⟨Int.mul_nonneg a0 b0, Int.mul_le_mul a1 b1 b0 (Int.le_trans a0 a1)⟩
theorem ZtK {a b:Int} (ha:U a) (hb:U b) : ZfF a b = (a * b / 18446744073709551616, a * b % 18446744073709551616) := by
 unfold ZfF
 have s32 : ∀ y : Int, ibin .shr .u64 y 32 = y / 4294967296 := fun y => u_shr 32 (by decide)
 simp only [ZAS ha, ZAS hb, s32, u_mul, u_add]
 have ea : a = 4294967296 * (a / 4294967296) + a % 4294967296 := by omega
 have eb : b = 4294967296 * (b / 4294967296) + b % 4294967296 := by omega
 have p : a * b = 18446744073709551616 * (a / 4294967296 * (b / 4294967296)) + 4294967296 * (a / 4294967296 * (b % 4294967296)) + 4294967296 * (a % 4294967296 * (b / 4294967296)) + a % 4294967296 * (b % 4294967296) := by
  conv => lhs; rw [ea, eb]
  generalize a / 4294967296 = a1
  generalize a % 4294967296 = a0
  generalize b / 4294967296 = b1
  generalize b % 4294967296 = b0
  grind
 have ha1 : 0 ≤ a / 4294967296 ∧ a / 4294967296 ≤ 4294967295 := by simp only [U] at ha; omega
 have ha0 : 0 ≤ a % 4294967296 ∧ a % 4294967296 ≤ 4294967295 := by omega
 have hb1 : 0 ≤ b / 4294967296 ∧ b / 4294967296 ≤ 4294967295 := by simp only [U] at hb; omega
 have hb0 : 0 ≤ b % 4294967296 ∧ b % 4294967296 ≤ 4294967295 := by omega
 have q11 := ZzX ha1.1 ha1.2 hb1.1 hb1.2
 have q10 := ZzX ha1.1 ha1.2 hb0.1 hb0.2
 have q01 := ZzX ha0.1 ha0.2 hb1.1 hb1.2
 have q00 := ZzX ha0.1 ha0.2 hb0.1 hb0.2
 rw [p]
 generalize a / 4294967296 * (b / 4294967296) = h at *
 generalize a / 4294967296 * (b % 4294967296) = m at *
 generalize a % 4294967296 * (b / 4294967296) = n at *
 generalize a % 4294967296 * (b % 4294967296) = l at *
 clear p ea eb ha hb ha1 ha0 hb1 hb0
 have e1 : (m % 18446744073709551616 + l % 18446744073709551616 / 4294967296) % 18446744073709551616 = m + l / 4294967296 := by omega
 rw [e1]
 have u1 : U (m + l / 4294967296) := by simp only [U]; omega
 rw [ZAS u1]
 refine Prod.ext ?_ rfl
 simp only
 omega
def dv (d:Int × Int) : Int := d.1 * 18446744073709551616 + d.2
def U2 (d:Int × Int) : Prop := U d.1 ∧ U d.2
theorem Zmd {d:Int × Int} {a b:Int} (hd:U2 d) (ha:U a) (hb:U b) (h:dv d + a * b < 340282366920938463463374607431768211456) :
  ∃ r, Zac (d.1, d.2) a b = some r ∧ U2 r ∧ dv r = dv d + a * b := by
 unfold Zac
 rw [ZtK ha hb]
 have hp : 0 ≤ a * b := Int.mul_nonneg ha.1 hb.1
 generalize a * b = q at *
 obtain ⟨hi, lo⟩ := d
 obtain ⟨h1, h2⟩ := hd
 simp only [dv, U] at *
 unfold ZdL
 simp only [Int.add_zero]
 have c0 : decide ((0 : Int) ≤ 1) = true := by decide
 have c1 : decide ((lo + q % 18446744073709551616) / 18446744073709551616 ≤ 1) = true := by simp only [decide_eq_true_eq]; omega
 simp only [c0, cond_true, mo, c1]
 refine ⟨_, rfl, ?_, ?_⟩
 ·simp only [U2, U]; omega
 ·simp only [dv]; omega
theorem Zme {d:Int × Int} (hd:U2 d) (h:dv d < 41538374868278621028243970633760768) : ZbX (d.1, d.2) = dv d / 2251799813685248 := by
 unfold ZbX
 obtain ⟨hi, lo⟩ := d
 obtain ⟨h1, h2⟩ := hd
 simp only [dv, U] at *
 have e1 : ibin .shl .u64 hi 13 = hi * 8192 := by
  have := u_shl (a := hi) 13 (by decide)
  rw [show ((13 : Nat) : Int) = 13 from rfl] at this
  rw [this]; omega
 rw [e1, Ze5, u_or (by omega) (by omega) (by omega) (by omega)]
 have e2 : (hi * 8192).toNat ||| (lo / 2251799813685248).toNat = (hi * 8192).toNat + (lo / 2251799813685248).toNat := by
  have := Nat.shiftLeft_add_eq_or_of_lt (a := hi.toNat) (b := (lo / 2251799813685248).toNat) (i := 13) (by omega)
  rw [Nat.shiftLeft_eq] at this
  rw [show (hi * 8192).toNat = hi.toNat * 2 ^ 13 by omega]
  exact this.symm
 rw [e2]
 omega
theorem ZpZ {d:Int × Int} (hd:U2 d) : ibin .and .u64 d.2 2251799813685247 = dv d % 2251799813685248 := by
 rw [ZhL hd.2.1 hd.2.2]
 simp only [dv]
 omega
theorem U2.nonneg {d:Int × Int} (hd:U2 d) : 0 ≤ dv d := by
 obtain ⟨h1, h2⟩ := hd
 simp only [dv, U] at *
 omega
theorem mod51 (x:Int) : 0 ≤ x % 2251799813685248 ∧ x % 2251799813685248 < 2251799813685248 := by omega
theorem Zvd {a b c d e:Int × Int} (ha:U2 a) (hb:U2 b) (hc:U2 c) (hd:U2 d) (he:U2 e) (a1:dv a < 5192296858534827628530496329220096) (b1:dv b < 5192296858534827628530496329220096) (c1:dv c < 5192296858534827628530496329220096)
  (d1:dv d < 5192296858534827628530496329220096) (e1:dv e < 5192296858534827628530496329220096) :
  ∃ r, ZcU (a.1, a.2) (b.1, b.2) (c.1, c.2) (d.1, d.2) (e.1, e.2) = some r ∧ Can r ∧ val r = val [dv a, dv b, dv c, dv d, dv e] % pF := by
 unfold ZcU
 have a0 := ha.nonneg
 have b0 := hb.nonneg
 have c0 := hc.nonneg
 have d0 := hd.nonneg
 have e0 := he.nonneg
 have uone : U 1 := by decide
 have o1 := Zme ha (by omega)
 simp only [o1]
 obtain ⟨r1, h1, u1, v1⟩ := Zmd (a := dv a / 2251799813685248) (b := 1) hb (by simp only [U]; omega) uone (by omega)
 simp only [h1, mo]
 have o2 := Zme u1 (by omega)
 simp only [o2]
 obtain ⟨r2, h2, u2, v2⟩ := Zmd (a := dv r1 / 2251799813685248) (b := 1) hc (by simp only [U]; omega) uone (by omega)
 simp only [h2, mo]
 have o3 := Zme u2 (by omega)
 simp only [o3]
 obtain ⟨r3, h3, u3, v3⟩ := Zmd (a := dv r2 / 2251799813685248) (b := 1) hd (by simp only [U]; omega) uone (by omega)
 simp only [h3, mo]
 have o4 := Zme u3 (by omega)
 simp only [o4]
 obtain ⟨r4, h4, u4, v4⟩ := Zmd (a := dv r3 / 2251799813685248) (b := 1) he (by simp only [U]; omega) uone (by omega)
 simp only [h4, mo]
 have o5 := Zme u4 (by omega)
 have lowa := ZpZ ha
 simp only [o5, lowa]
 have ua : U2 (0, dv a % 2251799813685248) := by simp only [U2, U]; omega
 have va : dv (0, dv a % 2251799813685248) = dv a % 2251799813685248 := by simp only [dv]; omega
 obtain ⟨r5, h5, u5, v5⟩ := Zmd (d := (0, dv a % 2251799813685248)) (a := dv r4 / 2251799813685248) (b := 19) ua (by simp only [U]; omega) (by decide) (by rw [va]; omega)
 rw [va] at v5
 simp only at h5
 simp only [h5, mo]
 have o6 := Zme u5 (by omega)
 simp only [o6, ZpZ u1, ZpZ u2, ZpZ u3, ZpZ u4, ZpZ u5]
 have e6 : ibin .add .u64 (dv r1 % 2251799813685248) (dv r5 / 2251799813685248) = dv r1 % 2251799813685248 + dv r5 / 2251799813685248 := by
  rw [u_add]
  omega
 rw [e6]
 have w : ∀ x : Int, W54 (x % 2251799813685248) := fun x => by simp only [W54]; omega
 obtain ⟨k1, k2⟩ := Zq9 (w (dv r5)) (b := dv r1 % 2251799813685248 + dv r5 / 2251799813685248) (by simp only [W54]; omega) (w (dv r2)) (w (dv r3)) (w (dv r4))
 refine ⟨_, rfl, k1, ?_⟩
 rw [k2]
 have : val [dv a, dv b, dv c, dv d, dv e] = val [dv r5 % 2251799813685248, dv r1 % 2251799813685248 + dv r5 / 2251799813685248, dv r2 % 2251799813685248, dv r3 % 2251799813685248, dv r4 % 2251799813685248] + pF * (dv r4 / 2251799813685248) := by
  clear h1 h2 h3 h4 h5 o1 o2 o3 o4 o5 o6 k1 k2 e6 w lowa
  simp only [val, pF]
  omega
 rw [this, Int.add_mul_emod_self_left]
end Go.Vx
