/- Numbers, part C: closed, slim, Add, Sub, Neg, Encode's digits. -/
import Derived.Test.YtmoiobmpeohgnaaGreatDoorVyB
set_option autoImplicit false
namespace Go.Vx
open Go
theorem ZEg {a b c d e:Int} (p0 : 0 ≤ a ∧ a ≤ M51 + 200) (p1 : 0 ≤ b ∧ b < M51) (p2 : 0 ≤ c ∧ c < M51) (p3 : 0 ≤ d ∧ d < M51) (p4 : 0 ≤ e ∧ e < M51) :
  Can (ZfE a b c d e) ∧ val (ZfE a b c d e) = val [a, b, c, d, e] % pF := by
 have hlt : val [a, b, c, d, e] < 2 * pF := by simp only [val, pF, M51] at *; omega
 obtain ⟨t1, t2, t3⟩ := ZEh (q := (e + (d + (c + (b + (a + 19) / M51) / M51) / M51) / M51) / M51) p0.1 p1.1 p2.1 p3.1 p4.1 hlt rfl
 clear hlt
 have hq' : ibin .shr .u64 (ibin .add .u64 e (ibin .shr .u64 (ibin .add .u64 d (ibin .shr .u64 (ibin .add .u64 c (ibin .shr .u64 (ibin .add .u64 b (ibin .shr .u64 (ibin .add .u64 a 19) 51)) 51)) 51)) 51)) 51 = (e + (d + (c + (b + (a + 19) / M51) / M51) / M51) / M51) / M51 := by
  clear t1 t2 t3
  simp only [u_add, Ze5]
  simp only [M51] at *
  omega
 generalize (e + (d + (c + (b + (a + 19) / M51) / M51) / M51) / M51) / M51 = q at *
 have key : ZfE a b c d e = [(a + 19 * q) % M51, (b + (a + 19 * q) / M51) % M51, (c + (b + (a + 19 * q) / M51) / M51) % M51, (d + (c + (b + (a + 19 * q) / M51) / M51) / M51) % M51, (e + (d + (c + (b + (a + 19 * q) / M51) / M51) / M51) / M51) % M51] := by
  clear t1 t2
  unfold ZfE
  rw [hq']
  clear hq'
  have b1 : 0 ≤ a + 19 * q ∧ a + 19 * q ≤ M51 + 300 := by simp only [M51] at *; omega
  have e1 : ibin .add .u64 a (ibin .mul .u64 19 q) = a + 19 * q := by simp only [u_add, u_mul, M51] at *; omega
  simp only [e1]
  clear e1
  generalize a + 19 * q = y1 at *
  have b2 : 0 ≤ b + y1 / M51 ∧ b + y1 / M51 ≤ M51 + 1 := by simp only [M51] at *; omega
  have e2 : ibin .add .u64 b (ibin .shr .u64 y1 51) = b + y1 / M51 := by simp only [u_add, Ze5, M51] at *; omega
  simp only [e2]
  clear e2
  generalize b + y1 / M51 = y2 at *
  have b3 : 0 ≤ c + y2 / M51 ∧ c + y2 / M51 ≤ M51 + 1 := by simp only [M51] at *; omega
  have e3 : ibin .add .u64 c (ibin .shr .u64 y2 51) = c + y2 / M51 := by simp only [u_add, Ze5, M51] at *; omega
  simp only [e3]
  clear e3
  generalize c + y2 / M51 = y3 at *
  have b4 : 0 ≤ d + y3 / M51 ∧ d + y3 / M51 ≤ M51 + 1 := by simp only [M51] at *; omega
  have e4 : ibin .add .u64 d (ibin .shr .u64 y3 51) = d + y3 / M51 := by simp only [u_add, Ze5, M51] at *; omega
  simp only [e4]
  clear e4
  generalize d + y3 / M51 = y4 at *
  have b5 : 0 ≤ e + y4 / M51 ∧ e + y4 / M51 ≤ M51 + 1 := by simp only [M51] at *; omega
  have e5 : ibin .add .u64 e (ibin .shr .u64 y4 51) = e + y4 / M51 := by simp only [u_add, Ze5, M51] at *; omega
  simp only [e5]
  clear e5
  generalize e + y4 / M51 = y5 at *
  have f : ∀ y : Int, 0 ≤ y → y ≤ M51 + 300 → ibin .and .u64 y 2251799813685247 = y % M51 := fun y h0 h1 => ZhL h0 (by simp only [M51] at *; omega)
  rw [f y1 b1.1 b1.2, f y2 b2.1 (by have := b2.2; simp only [M51] at *; omega), f y3 b3.1 (by have := b3.2; simp only [M51] at *; omega), f y4 b4.1 (by have := b4.2; simp only [M51] at *; omega), f y5 b5.1 (by have := b5.2; simp only [M51] at *; omega)]
 rw [key]
 exact ⟨t1, t2⟩
abbrev W54 (x:Int) : Prop := 0 ≤ x ∧ x < 18014398509481984
theorem Zq9 {a b c d e:Int} (ha:W54 a) (hb:W54 b) (hc:W54 c) (hd:W54 d) (he:W54 e) :
  Can (Zbg a b c d e) ∧ val (Zbg a b c d e) = val [a, b, c, d, e] % pF := by
 unfold Zbg
 have b2 : 0 ≤ b + a / M51 ∧ b + a / M51 ≤ 18014398509481984 + 8 := by simp only [W54, M51] at *; omega
 have e2 : ibin .add .u64 b (ibin .shr .u64 a 51) = b + a / M51 := by simp only [u_add, Ze5, M51, W54] at *; omega
 have hv1 : b + a / M51 = b + a / M51 := rfl
 simp only [e2]
 clear e2
 generalize hx1 : b + a / M51 = x1 at b2 ⊢
 have b3 : 0 ≤ c + x1 / M51 ∧ c + x1 / M51 ≤ 18014398509481984 + 8 := by simp only [W54, M51] at *; omega
 have e3 : ibin .add .u64 c (ibin .shr .u64 x1 51) = c + x1 / M51 := by simp only [u_add, Ze5, M51, W54] at *; omega
 simp only [e3]
 clear e3
 generalize hx2 : c + x1 / M51 = x2 at b3 ⊢
 have b4 : 0 ≤ d + x2 / M51 ∧ d + x2 / M51 ≤ 18014398509481984 + 8 := by simp only [W54, M51] at *; omega
 have e4 : ibin .add .u64 d (ibin .shr .u64 x2 51) = d + x2 / M51 := by simp only [u_add, Ze5, M51, W54] at *; omega
 simp only [e4]
 clear e4
 generalize hx3 : d + x2 / M51 = x3 at b4 ⊢
 have b5 : 0 ≤ e + x3 / M51 ∧ e + x3 / M51 ≤ 18014398509481984 + 8 := by simp only [W54, M51] at *; omega
 have e5 : ibin .add .u64 e (ibin .shr .u64 x3 51) = e + x3 / M51 := by simp only [u_add, Ze5, M51, W54] at *; omega
 simp only [e5]
 clear e5
 generalize hx4 : e + x3 / M51 = x4 at b5 ⊢
 have f : ∀ y : Int, 0 ≤ y → y ≤ 18014398509481984 + 8 → ibin .and .u64 y 2251799813685247 = y % M51 := fun y h0 h1 => ZhL h0 (by omega)
 rw [f a ha.1 (by have := ha.2; omega), f x1 b2.1 b2.2, f x2 b3.1 b3.2, f x3 b4.1 b4.2, f x4 b5.1 b5.2]
 have b6 : 0 ≤ a % M51 + 19 * (x4 / M51) ∧ a % M51 + 19 * (x4 / M51) ≤ M51 + 200 := by simp only [W54, M51] at *; omega
 have e6 : ibin .add .u64 (a % M51) (ibin .mul .u64 19 (ibin .shr .u64 x4 51)) = a % M51 + 19 * (x4 / M51) := by
  clear hx1 hx2 hx3 hx4
  simp only [u_add, u_mul, Ze5, M51, W54] at *; omega
 simp only [e6]
 clear e6 f hv1
 have hval : val [a, b, c, d, e] = val [a % M51 + 19 * (x4 / M51), x1 % M51, x2 % M51, x3 % M51, x4 % M51] + pF * (x4 / M51) := by
  clear b2 b3 b4 b5 b6 ha hb hc hd he
  simp only [val, pF, M51] at *
  omega
 have m : ∀ y : Int, 0 ≤ y % M51 ∧ y % M51 < M51 := fun y => by simp only [M51]; omega
 rw [hval, Int.add_mul_emod_self_left]
 have hl := ZEg b6 (m x1) (m x2) (m x3) (m x4)
 clear hval hx1 hx2 hx3 hx4
 generalize a % M51 + 19 * (x4 / M51) = x5 at *
 by_cases h1 : x5 ≤ 2251799813685247
 ·by_cases h2 : x4 % M51 = 2251799813685247
  ·have c1 : icmp .leq x5 2251799813685247 = true := by simp [icmp, h1]
   have c2 : icmp .neq (x4 % M51) 2251799813685247 = false := by simp [icmp, h2]
   rw [c1, c2]
   exact hl
  ·have c1 : icmp .leq x5 2251799813685247 = true := by simp [icmp, h1]
   have c2 : icmp .neq (x4 % M51) 2251799813685247 = true := by simp [icmp, h2]
   rw [c1, c2]
   simp only [cond_true]
   have m1 := m x1
   have m2 := m x2
   have m3 := m x3
   have m4 := m x4
   have hlt : val [x5, x1 % M51, x2 % M51, x3 % M51, x4 % M51] < pF := by
    clear hl b2 b3 b4 b5 ha hb hc hd he m
    generalize x1 % M51 = z1 at *
    generalize x2 % M51 = z2 at *
    generalize x3 % M51 = z3 at *
    generalize x4 % M51 = z4 at *
    simp only [val, pF, M51] at *
    omega
   have h0 : 0 ≤ val [x5, x1 % M51, x2 % M51, x3 % M51, x4 % M51] := by
    clear hl hlt b2 b3 b4 b5 ha hb hc hd he m
    generalize x1 % M51 = z1 at *
    generalize x2 % M51 = z2 at *
    generalize x3 % M51 = z3 at *
    generalize x4 % M51 = z4 at *
    simp only [val, M51] at *
    omega
   exact ⟨⟨_, _, _, _, _, rfl, ⟨b6.1, by simp only [M51]; omega⟩, m1, m2, m3, m4, hlt⟩, (Int.emod_eq_of_lt h0 hlt).symm⟩
 ·have c1 : icmp .leq x5 2251799813685247 = false := by simp [icmp, h1]
  rw [c1]
  exact hl
theorem ZBP {x y:Nat} : (x ||| y) / 2 ^ 51 = 0 ↔ x / 2 ^ 51 = 0 ∧ y / 2 ^ 51 = 0 := by
 rw [← Nat.shiftRight_eq_div_pow, ← Nat.shiftRight_eq_div_pow, ← Nat.shiftRight_eq_div_pow, Nat.shiftRight_or_distrib, Nat.or_eq_zero_iff]
theorem ZEf {a b c d e:Int} (ha:U a) (hb:U b) (hc:U c) (hd:U d) (he:U e) : ZaJ [a, b, c, d, e] = decide (a < M51 ∧ b < M51 ∧ c < M51 ∧ d < M51 ∧ e < M51) := by
 unfold ZaJ
 simp only [List.getD_cons_zero, List.getD_cons_succ]
 have lt : ∀ x y : Nat, x < 18446744073709551616 → y < 18446744073709551616 → x ||| y < 18446744073709551616 := fun x y hx hy => Nat.or_lt_two_pow (n := 64) hx hy
 simp only [U] at *
 have n1 := lt a.toNat b.toNat (by omega) (by omega)
 have n2 := lt _ c.toNat n1 (by omega)
 have n3 := lt _ d.toNat n2 (by omega)
 have n4 := lt _ e.toNat n3 (by omega)
 rw [u_or ha.1 ha.2 hb.1 hb.2, u_or (Int.natCast_nonneg _) (by omega) hc.1 hc.2, Int.toNat_natCast, u_or (Int.natCast_nonneg _) (by omega) hd.1 hd.2, Int.toNat_natCast, u_or (Int.natCast_nonneg _) (by omega) he.1 he.2, Int.toNat_natCast, Ze5]
 have h : (((a.toNat ||| b.toNat ||| c.toNat ||| d.toNat ||| e.toNat : Nat) : Int) / 2251799813685248 = 0) ↔ (a < M51 ∧ b < M51 ∧ c < M51 ∧ d < M51 ∧ e < M51) := by
  have h1 : (((a.toNat ||| b.toNat ||| c.toNat ||| d.toNat ||| e.toNat : Nat) : Int) / 2251799813685248 = 0) ↔ (a.toNat ||| b.toNat ||| c.toNat ||| d.toNat ||| e.toNat) / 2 ^ 51 = 0 := by
   generalize (a.toNat ||| b.toNat ||| c.toNat ||| d.toNat ||| e.toNat) = z
   omega
  rw [h1, ZBP, ZBP, ZBP, ZBP]
  simp only [M51]
  clear n1 n2 n3 n4 lt h1
  omega
 show ((((a.toNat ||| b.toNat ||| c.toNat ||| d.toNat ||| e.toNat : Nat) : Int) / 2251799813685248) == 0) = _
 rw [Bool.eq_iff_iff]
 simp [h]
end Go.Vx
