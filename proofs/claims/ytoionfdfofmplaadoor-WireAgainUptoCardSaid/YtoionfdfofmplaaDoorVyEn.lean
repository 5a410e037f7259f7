import Derived.Test.YtoionfdfofmplaaDoorVyM22
import Derived.Test.YtoionfdfofmplaaDoorVyM8
import Derived.Test.YtoionfdfofmplaaDoorVyZ
import Derived.Test.YtoionfdfofmplaaDoorVyZ2
import Derived.KernelRfl
set_option autoImplicit false
set_option linter.unusedVariables false
set_option linter.unusedSimpArgs false
namespace Go.Vx
open Go
instance : Std.Associative (α := E) (· + ·) := ⟨E.add_assoc⟩
instance : Std.Commutative (α := E) (· + ·) := ⟨E.add_comm⟩
end Go.Vx
set_option autoImplicit false
set_option linter.unusedVariables false
set_option linter.unusedSimpArgs false
namespace Go.Vx
open Go
def cp (a:E) (k:Nat) : E := a + (2 * k) • eT
end Go.Vx
set_option autoImplicit false
set_option linter.unusedVariables false
namespace Go.Vx
open Go Ref
end Go.Vx
set_option autoImplicit false
set_option linter.unusedVariables false
set_option linter.unusedSimpArgs false
namespace Go.Vx
open Go Ref
theorem i_dec {j:Nat} (h:j < 1000) : ibin .sub .i64 (j:Int) 1 = (j:Int) - 1 := by
 have : ibin .sub .i64 (j:Int) 1 = IntKind.wrap .i64 ((j:Int) - 1) := rfl
 rw [this]
 exact wrapi (by omega) (by omega)
end Go.Vx
set_option autoImplicit false
set_option linter.unusedVariables false
set_option linter.unusedSimpArgs false
namespace Go.Vx
open Go Ref
theorem Zjx (N:Nat) {a b out:LI} {c:Int} {i:Nat} (hi:i < 4) (ha:U (List.getD a i 0)) (hb:U (List.getD b i 0)) (hc:c = 0 ∨ c = 1) : ∃ t d, U t ∧ (d = 0 ∨ d = 1) ∧ t = List.getD a i 0 - List.getD b i 0 - c + d * 18446744073709551616 ∧
  Zbu N (((), (), (), (), (), c, (i:Int)), (a, b, (), out)) = some (.inl (((), (), (), (), (), d, ((i + 1 : Nat) : Int)), (a, b, (), List.set out i t))) := by
 have h1 : icmp .lss (i:Int) 4 = true := decide_eq_true (by omega)
 have h2 : decide (0 ≤ (i:Int) ∧ (i:Int) < ((4 : Nat) : Int)) = true := decide_eq_true (by omega)
 have inc := inc32 (k := i) (by omega)
 unfold Zbu
 simp only [h1, h2, cond_true, Int.toNat_natCast, u_sub, inc]
 generalize List.getD a i 0 = x at *
 generalize List.getD b i 0 = y at *
 unfold U at *
 by_cases hxy : x < y
 ·have e1 : icmp .lss x y = true := decide_eq_true hxy
  have e2 : (x - y) % 18446744073709551616 = x - y + 18446744073709551616 := by omega
  rw [e1, e2, cond_true]
  refine ⟨x - y - c + 18446744073709551616, 1, by omega, .inr rfl, by omega, ?_⟩
  have e3 : (x - y + 18446744073709551616 - c) % 18446744073709551616 = x - y - c + 18446744073709551616 := by omega
  rw [e3]
  cases icmp .lss (x - y + 18446744073709551616) c <;> rfl
 ·have e1 : icmp .lss x y = false := decide_eq_false hxy
  have e2 : (x - y) % 18446744073709551616 = x - y := by omega
  rw [e1, e2, cond_false]
  by_cases hc2 : x - y < c
  ·have e4 : icmp .lss (x - y) c = true := decide_eq_true hc2
   have e3 : (x - y - c) % 18446744073709551616 = x - y - c + 18446744073709551616 := by omega
   rw [e3, e4]
   exact ⟨x - y - c + 18446744073709551616, 1, by omega, .inr rfl, by omega, rfl⟩
  ·have e4 : icmp .lss (x - y) c = false := decide_eq_false hc2
   have e3 : (x - y - c) % 18446744073709551616 = x - y - c := by omega
   rw [e3, e4]
   exact ⟨x - y - c, 0, by omega, .inl rfl, by omega, rfl⟩
theorem ZtS (N:Nat) (hN : 5 ≤ N) {a b:LI} (ha:U4 a) (hb:U4 b) : ∃ r c, ZcP N a b = some (r, c) ∧ U4 r ∧ (c = 0 ∨ c = 1) ∧ v4 r = v4 a - v4 b + c * 115792089237316195423570985008687907853269984665640564039457584007913129639936 := by
 obtain ⟨x0, x1, x2, x3, rfl, a0, a1, a2, a3⟩ := ha
 obtain ⟨y0, y1, y2, y3, rfl, b0, b1, b2, b3⟩ := hb
 obtain ⟨f, rfl⟩ : ∃ f, N = f + 5 := ⟨N - 5, by omega⟩
 obtain ⟨r0, c0, u0, d0, e0, h0⟩ := Zjx (f + 5) (a := [x0, x1, x2, x3]) (b := [y0, y1, y2, y3]) (out := [0, 0, 0, 0]) (i := 0) (by decide) a0 b0 (.inl rfl)
 obtain ⟨r1, c1, u1, d1, e1, h1⟩ := Zjx (f + 5) (a := [x0, x1, x2, x3]) (b := [y0, y1, y2, y3]) (out := [r0, 0, 0, 0]) (i := 1) (by decide) a1 b1 d0
 obtain ⟨r2, c2, u2, d2, e2, h2⟩ := Zjx (f + 5) (a := [x0, x1, x2, x3]) (b := [y0, y1, y2, y3]) (out := [r0, r1, 0, 0]) (i := 2) (by decide) a2 b2 d1
 obtain ⟨r3, c3, u3, d3, e3, h3⟩ := Zjx (f + 5) (a := [x0, x1, x2, x3]) (b := [y0, y1, y2, y3]) (out := [r0, r1, r2, 0]) (i := 3) (by decide) a3 b3 d2
 have h4 : Zbu (f + 5) (((), (), (), (), (), c3, 4), ([x0, x1, x2, x3], [y0, y1, y2, y3], (), [r0, r1, r2, r3])) = some (.inr (.inl (((), (), c3), ((), [r0, r1, r2, r3])))) := rfl
 have hl : loopF (Zbu (f + 5)) (f + 5) (((), (), (), (), (), 0, 0), ([x0, x1, x2, x3], [y0, y1, y2, y3], (), [0, 0, 0, 0])) = some (.inl (((), (), c3), ((), [r0, r1, r2, r3]))) :=
  (ZfF h0 _).trans ((ZfF h1 _).trans ((ZfF h2 _).trans ((ZfF h3 _).trans (Zhu h4 _))))
 refine ⟨[r0, r1, r2, r3], c3, ?_, ⟨_, _, _, _, rfl, u0, u1, u2, u3⟩, d3, ?_⟩
 ·unfold ZcP
  simp only [hl, mo]
 ·simp only [List.getD_cons_zero, List.getD_cons_succ] at e0 e1 e2 e3
  rw [v4_mk, v4_mk, v4_mk]
  omega
theorem ZkB (N:Nat) {a b out:LI} {c:Int} {i:Nat} (hi:i < 4) (ha:U (List.getD a i 0)) (hb:U (List.getD b i 0)) (hc:c = 0 ∨ c = 1) : ∃ t d, U t ∧ (d = 0 ∨ d = 1) ∧ t + d * 18446744073709551616 = List.getD a i 0 + List.getD b i 0 + c ∧
  ZbB N (((), (), (), (), (), c, (i:Int)), (a, b, (), out)) = some (.inl (((), (), (), (), (), d, ((i + 1 : Nat) : Int)), (a, b, (), List.set out i t))) := by
 have h1 : icmp .lss (i:Int) 4 = true := decide_eq_true (by omega)
 have h2 : decide (0 ≤ (i:Int) ∧ (i:Int) < ((4 : Nat) : Int)) = true := decide_eq_true (by omega)
 have inc := inc32 (k := i) (by omega)
 unfold ZbB
 simp only [h1, h2, cond_true, Int.toNat_natCast, u_add, inc]
 generalize List.getD a i 0 = x at *
 generalize List.getD b i 0 = y at *
 unfold U at *
 by_cases hxy : x + y < 18446744073709551616
 ·have e2 : (x + y) % 18446744073709551616 = x + y := by omega
  have e1 : icmp .lss (x + y) x = false := decide_eq_false (by omega)
  rw [e2, e1, cond_false]
  by_cases hc2 : x + y + c < 18446744073709551616
  ·have e3 : (x + y + c) % 18446744073709551616 = x + y + c := by omega
   have e4 : icmp .lss (x + y + c) (x + y) = false := decide_eq_false (by omega)
   rw [e3, e4]
   exact ⟨x + y + c, 0, by omega, .inl rfl, by omega, rfl⟩
  ·have e3 : (x + y + c) % 18446744073709551616 = x + y + c - 18446744073709551616 := by omega
   have e4 : icmp .lss (x + y + c - 18446744073709551616) (x + y) = true := decide_eq_true (by omega)
   rw [e3, e4]
   exact ⟨x + y + c - 18446744073709551616, 1, by omega, .inr rfl, by omega, rfl⟩
 ·have e2 : (x + y) % 18446744073709551616 = x + y - 18446744073709551616 := by omega
  have e1 : icmp .lss (x + y - 18446744073709551616) x = true := decide_eq_true (by omega)
  rw [e2, e1, cond_true]
  have e3 : (x + y - 18446744073709551616 + c) % 18446744073709551616 = x + y + c - 18446744073709551616 := by omega
  rw [e3]
  refine ⟨x + y + c - 18446744073709551616, 1, by omega, .inr rfl, by omega, ?_⟩
  cases icmp .lss (x + y + c - 18446744073709551616) (x + y - 18446744073709551616) <;> rfl
theorem plus2_k (N:Nat) (hN : 5 ≤ N) {a b:LI} (ha:U4 a) (hb:U4 b) : ∃ r c, Zfc N a b = some (r, c) ∧ U4 r ∧ (c = 0 ∨ c = 1) ∧ v4 r + c * 115792089237316195423570985008687907853269984665640564039457584007913129639936 = v4 a + v4 b := by
 obtain ⟨x0, x1, x2, x3, rfl, a0, a1, a2, a3⟩ := ha
 obtain ⟨y0, y1, y2, y3, rfl, b0, b1, b2, b3⟩ := hb
 obtain ⟨f, rfl⟩ : ∃ f, N = f + 5 := ⟨N - 5, by omega⟩
 obtain ⟨r0, c0, u0, d0, e0, h0⟩ := ZkB (f + 5) (a := [x0, x1, x2, x3]) (b := [y0, y1, y2, y3]) (out := [0, 0, 0, 0]) (i := 0) (by decide) a0 b0 (.inl rfl)
 obtain ⟨r1, c1, u1, d1, e1, h1⟩ := ZkB (f + 5) (a := [x0, x1, x2, x3]) (b := [y0, y1, y2, y3]) (out := [r0, 0, 0, 0]) (i := 1) (by decide) a1 b1 d0
 obtain ⟨r2, c2, u2, d2, e2, h2⟩ := ZkB (f + 5) (a := [x0, x1, x2, x3]) (b := [y0, y1, y2, y3]) (out := [r0, r1, 0, 0]) (i := 2) (by decide) a2 b2 d1
 obtain ⟨r3, c3, u3, d3, e3, h3⟩ := ZkB (f + 5) (a := [x0, x1, x2, x3]) (b := [y0, y1, y2, y3]) (out := [r0, r1, r2, 0]) (i := 3) (by decide) a3 b3 d2
 have h4 : ZbB (f + 5) (((), (), (), (), (), c3, 4), ([x0, x1, x2, x3], [y0, y1, y2, y3], (), [r0, r1, r2, r3])) = some (.inr (.inl (((), (), c3), ((), [r0, r1, r2, r3])))) := rfl
 have hl : loopF (ZbB (f + 5)) (f + 5) (((), (), (), (), (), 0, 0), ([x0, x1, x2, x3], [y0, y1, y2, y3], (), [0, 0, 0, 0])) = some (.inl (((), (), c3), ((), [r0, r1, r2, r3]))) :=
  (ZfF h0 _).trans ((ZfF h1 _).trans ((ZfF h2 _).trans ((ZfF h3 _).trans (Zhu h4 _))))
 refine ⟨[r0, r1, r2, r3], c3, ?_, ⟨_, _, _, _, rfl, u0, u1, u2, u3⟩, d3, ?_⟩
 ·unfold Zfc
  simp only [hl, mo]
 ·simp only [List.getD_cons_zero, List.getD_cons_succ] at e0 e1 e2 e3
  rw [v4_mk, v4_mk, v4_mk]
  omega
theorem Zq5 {a b:LI} (ha:U4 a) (hb:U4 b) : ZbQ a b = true ↔ v4 a < v4 b := by
 obtain ⟨x0, x1, x2, x3, rfl, a0, a1, a2, a3⟩ := ha
 obtain ⟨y0, y1, y2, y3, rfl, b0, b1, b2, b3⟩ := hb
 rw [v4_mk, v4_mk]
 have ne : ∀ x y : Int, icmp .neq x y = !decide (x = y) := fun x y => rfl
 have ls : ∀ x y : Int, icmp .lss x y = decide (x < y) := fun x y => rfl
 unfold ZbQ
 simp only [List.getD_cons_zero, List.getD_cons_succ, ne, ls]
 unfold U at *
 by_cases h3 : x3 = y3
 ·by_cases h2 : x2 = y2
  ·by_cases h1 : x1 = y1
   ·by_cases h0 : x0 = y0
    ·simp only [h3, h2, h1, h0, decide_true, Bool.not_true, cond_false]
     constructor
     ·intro h; cases h
     ·intro h; omega
    ·simp only [h3, h2, h1, h0, decide_true, decide_false, Bool.not_true, Bool.not_false, cond_false, cond_true, decide_eq_true_eq]
     omega
   ·simp only [h3, h2, h1, decide_true, decide_false, Bool.not_true, Bool.not_false, cond_false, cond_true, decide_eq_true_eq]
    omega
  ·simp only [h3, h2, decide_true, decide_false, Bool.not_true, Bool.not_false, cond_false, cond_true, decide_eq_true_eq]
   omega
 ·simp only [h3, decide_false, Bool.not_false, cond_true, decide_eq_true_eq]
  omega
theorem ZsK {x w:Int} (k:Nat) (hk:k ≤ 64) (hx:U x) (hw : 0 ≤ w ∧ w < 2 ^ k) (hw':w < 18446744073709551616) : ibin .or .u64 (ibin .shl .u64 x (k:Int)) w = x * 2 ^ k % 18446744073709551616 + w := by
 rw [u_shl k hk]
 unfold U at hx
 obtain ⟨n, rfl⟩ : ∃ n : Nat, x = n := ⟨x.toNat, by omega⟩
 obtain ⟨m, rfl⟩ : ∃ m : Nat, w = m := ⟨w.toNat, by omega⟩
 have hm : m < 2 ^ k := by
  have := hw.2
  have e : ((2 : Int) ^ k) = ((2 ^ k : Nat) : Int) := by simp
  rw [e] at this
  exact Int.ofNat_lt.1 this
 have e : ((n:Int) * 2 ^ k % 18446744073709551616) = ((n * 2 ^ k % 2 ^ 64 : Nat) : Int) := by simp
 have hdvd : n * 2 ^ k % 2 ^ 64 = 2 ^ k * (n % 2 ^ (64 - k)) := by
  have : (2 : Nat) ^ 64 = 2 ^ k * 2 ^ (64 - k) := by rw [← Nat.pow_add]; congr 1; omega
  rw [this, Nat.mul_comm n, Nat.mul_mod_mul_left]
 have hlt : n * 2 ^ k % 2 ^ 64 < 2 ^ 64 := Nat.mod_lt _ (by decide)
 rw [e, u_or (by omega) (by omega) (by omega) hw', Int.toNat_natCast, Int.toNat_natCast, hdvd, ← Nat.two_pow_add_eq_or_of_lt hm, Int.natCast_add]
theorem Zq6 {y:Int} (k:Nat) (hk:k ≤ 63) (h:U y) : ibin .and .u64 y (((2 ^ k - 1 : Nat) : Nat) : Int) = y % 2 ^ k := by
 unfold U at h
 obtain ⟨n, rfl⟩ : ∃ n : Nat, y = n := ⟨y.toNat, by omega⟩
 have hp : 2 ^ k - 1 < 18446744073709551616 := by
  have : (2 : Nat) ^ k ≤ 2 ^ 63 := Nat.pow_le_pow_right (by decide) hk
  have e : (2 : Nat) ^ 63 = 9223372036854775808 := by decide
  omega
 rw [u_and (by omega) (by omega) (by omega) (by omega), Int.toNat_natCast, Int.toNat_natCast, Nat.and_two_pow_sub_one_eq_mod]
 simp
end Go.Vx
set_option autoImplicit false
set_option linter.unusedVariables false
set_option linter.unusedSimpArgs false
namespace Go.Vx
open Go Ref
abbrev LL : Int := 7237005577332262213973186563042994240857116359379907606001950938285454250989
theorem l2_U : U4 Zbn := ⟨_, _, _, _, rfl, ⟨by decide, by decide⟩, ⟨by decide, by decide⟩, ⟨by decide, by decide⟩, ⟨by decide, by decide⟩⟩
theorem l2_v : v4 Zbn = LL := by decide
theorem pieces {q:Int} (hq : 0 ≤ q ∧ q ≤ 65536) : ∃ y0 y1 y2,
  (ibin .or .u64 (ibin .and .u64 (ibin .add .u64 (ibin .mul .u64 (ibin .and .u64 6346243789798364141 4294967295) q) 0) 4294967295) (ibin .shl .u64 (ibin .and .u64 (ibin .add .u64 (ibin .mul .u64 (ibin .shr .u64 6346243789798364141 32) q) (ibin .shr .u64 (ibin .add .u64 (ibin .mul .u64 (ibin .and .u64 6346243789798364141 4294967295) q) 0) 32)) 4294967295) 32)) = y0 ∧
  (ibin .or .u64 (ibin .and .u64 (ibin .add .u64 (ibin .mul .u64 (ibin .and .u64 1503914060200516822 4294967295) q) (ibin .shr .u64 (ibin .add .u64 (ibin .mul .u64 (ibin .shr .u64 6346243789798364141 32) q) (ibin .shr .u64 (ibin .add .u64 (ibin .mul .u64 (ibin .and .u64 6346243789798364141 4294967295) q) 0) 32)) 32)) 4294967295)
   (ibin .shl .u64 (ibin .and .u64 (ibin .add .u64 (ibin .mul .u64 (ibin .shr .u64 1503914060200516822 32) q) (ibin .shr .u64 (ibin .add .u64 (ibin .mul .u64 (ibin .and .u64 1503914060200516822 4294967295) q) (ibin .shr .u64 (ibin .add .u64 (ibin .mul .u64 (ibin .shr .u64 6346243789798364141 32) q) (ibin .shr .u64 (ibin .add .u64 (ibin .mul .u64 (ibin .and .u64 6346243789798364141 4294967295) q) 0) 32)) 32)) 32)) 4294967295) 32)) = y1 ∧
  (ibin .shr .u64 (ibin .add .u64 (ibin .mul .u64 (ibin .shr .u64 1503914060200516822 32) q) (ibin .shr .u64 (ibin .add .u64 (ibin .mul .u64 (ibin .and .u64 1503914060200516822 4294967295) q) (ibin .shr .u64 (ibin .add .u64 (ibin .mul .u64 (ibin .shr .u64 6346243789798364141 32) q) (ibin .shr .u64 (ibin .add .u64 (ibin .mul .u64 (ibin .and .u64 6346243789798364141 4294967295) q) 0) 32)) 32)) 32)) 32) = y2 ∧
  U y0 ∧ U y1 ∧ U y2 ∧ v4 [y0, y1, y2, 0] = q * 27742317777372353535851937790883648493 := by
 have c0 : ibin .and .u64 6346243789798364141 4294967295 = 1559614445 := by decide +kernel
 have c1 : ibin .shr .u64 6346243789798364141 32 = 1477600026 := by decide +kernel
 have c2 : ibin .and .u64 1503914060200516822 4294967295 = 2734136534 := by decide +kernel
 have c3 : ibin .shr .u64 1503914060200516822 32 = 350157278 := by decide +kernel
 have sh : ∀ y : Int, ibin .shr .u64 y 32 = y / 4294967296 := fun y => u_shr 32 (by decide)
 rw [c0, c1, c2, c3]
 simp only [u_mul, u_add, sh]
 have p0 : (1559614445 * q % 18446744073709551616 + 0) % 18446744073709551616 = 1559614445 * q := by omega
 rw [p0]
 have p1 : (1477600026 * q % 18446744073709551616 + 1559614445 * q / 4294967296) % 18446744073709551616 = 1477600026 * q + 1559614445 * q / 4294967296 := by omega
 rw [p1]
 generalize hx0 : 1559614445 * q = x0 at *
 generalize hx1 : 1477600026 * q + x0 / 4294967296 = x1 at *
 have p2 : (2734136534 * q % 18446744073709551616 + x1 / 4294967296) % 18446744073709551616 = 2734136534 * q + x1 / 4294967296 := by omega
 rw [p2]
 generalize hx2 : 2734136534 * q + x1 / 4294967296 = x2 at *
 have p3 : (350157278 * q % 18446744073709551616 + x2 / 4294967296) % 18446744073709551616 = 350157278 * q + x2 / 4294967296 := by omega
 rw [p3]
 generalize hx3 : 350157278 * q + x2 / 4294967296 = x3 at *
 have r0 : 0 ≤ x0 ∧ x0 < 281474976710656 := by omega
 have r1 : 0 ≤ x1 ∧ x1 < 281474976710656 := by omega
 have r2 : 0 ≤ x2 ∧ x2 < 281474976710656 := by omega
 have r3 : 0 ≤ x3 ∧ x3 < 281474976710656 := by omega
 have a : ∀ y : Int, 0 ≤ y ∧ y < 281474976710656 → ibin .and .u64 y 4294967295 = y % 4294967296 := fun y h => ZoW ⟨h.1, by omega⟩
 have o : ∀ y z : Int, 0 ≤ y ∧ y < 4294967296 → 0 ≤ z ∧ z < 4294967296 → ibin .or .u64 y (ibin .shl .u64 z 32) = z * 4294967296 + y := by
  intro y z hy hz
  have hs : ibin .shl .u64 z 32 = z * 4294967296 := by
   rw [show ibin .shl .u64 z 32 = (z * 2 ^ 32) % 18446744073709551616 from u_shl 32 (by decide), show (2 : Int) ^ 32 = 4294967296 from by decide]
   omega
  have hc : ibin .or .u64 y (ibin .shl .u64 z 32) = ibin .or .u64 (ibin .shl .u64 z 32) y := by
   rw [hs, u_or hy.1 (by omega) (by omega) (by omega), u_or (by omega) (by omega) hy.1 (by omega), Nat.or_comm]
  rw [hc, show ibin .or .u64 (ibin .shl .u64 z 32) y = _ from ZsK 32 (by decide) ⟨hz.1, by omega⟩ (by rw [show (2 : Int) ^ 32 = 4294967296 from by decide]; exact hy) (by omega), show (2 : Int) ^ 32 = 4294967296 from by decide]
  omega
 refine ⟨_, _, _, rfl, rfl, rfl, ?_⟩
 rw [a x0 r0, a x1 r1, a x2 r2, a x3 r3, o _ _ (by omega) (by omega), o _ _ (by omega) (by omega), v4_mk]
 unfold U
 refine ⟨by omega, by omega, by omega, by omega⟩
theorem lowpart {x0 x1 x2 x3 w:Int} (h0:U x0) (h1:U x1) (h2:U x2) (h3 : 0 ≤ x3 ∧ x3 ≤ 1152921504606846976) (hw : 0 ≤ w ∧ w < 65536) : ∃ q y0 y1 y2 y3,
  ibin .shr .u64 x3 44 = q ∧ ibin .or .u64 (ibin .shl .u64 x0 16) w = y0 ∧ ibin .or .u64 (ibin .shl .u64 x1 16) (ibin .shr .u64 x0 48) = y1 ∧ ibin .or .u64 (ibin .shl .u64 x2 16) (ibin .shr .u64 x1 48) = y2 ∧ ibin .and .u64 (ibin .or .u64 (ibin .shl .u64 x3 16) (ibin .shr .u64 x2 48)) 1152921504606846975 = y3 ∧
  0 ≤ q ∧ q ≤ 65536 ∧ U y0 ∧ U y1 ∧ U y2 ∧ U y3 ∧ v4 [y0, y1, y2, y3] + q * 7237005577332262213973186563042994240829374041602535252466099000494570602496 = v4 [x0, x1, x2, x3] * 65536 + w ∧ v4 [y0, y1, y2, y3] < 7237005577332262213973186563042994240829374041602535252466099000494570602496 := by
 have sh44 : ∀ y : Int, ibin .shr .u64 y 44 = y / 17592186044416 := fun y => u_shr 44 (by decide)
 have sh48 : ∀ y : Int, ibin .shr .u64 y 48 = y / 281474976710656 := fun y => u_shr 48 (by decide)
 have o : ∀ x w : Int, U x → 0 ≤ w ∧ w < 65536 → ibin .or .u64 (ibin .shl .u64 x 16) w = x * 65536 % 18446744073709551616 + w := by
  intro x w hx hw
  have := ZsK (x := x) (w := w) 16 (by decide) hx (by rw [show (2 : Int) ^ 16 = 65536 from by decide]; exact hw) (by omega)
  rw [show (2 : Int) ^ 16 = 65536 from by decide] at this
  exact this
 have m : ∀ y : Int, U y → ibin .and .u64 y 1152921504606846975 = y % 1152921504606846976 := by
  intro y hy
  have := Zq6 (y := y) 60 (by decide) hy
  rw [show (2 : Int) ^ 60 = 1152921504606846976 from by decide] at this
  exact this
 unfold U at h0 h1 h2
 refine ⟨_, _, _, _, _, rfl, rfl, rfl, rfl, rfl, ?_⟩
 rw [sh44, sh48, sh48, sh48, o x0 w h0 hw, o x1 _ h1 (by omega), o x2 _ h2 (by omega), o x3 _ (by unfold U; omega) (by omega), m _ (by unfold U; omega), v4_mk, v4_mk]
 unfold U
 refine ⟨by omega, by omega, by omega, by omega, by omega, by omega, by omega, by omega⟩
theorem step2_k (N:Nat) (hN : 5 ≤ N) {r:LI} {w:Int} (hr:U4 r) (hl:v4 r < LL) (hw : 0 ≤ w ∧ w < 65536) : ∃ d, Zfd N r w = some d ∧ U4 d ∧ v4 d = (v4 r * 65536 + w) % LL := by
 obtain ⟨x0, x1, x2, x3, rfl, a0, a1, a2, a3⟩ := hr
 have h3 : 0 ≤ x3 ∧ x3 ≤ 1152921504606846976 := by
  rw [v4_mk] at hl
  unfold U at *
  unfold LL at hl
  omega
 obtain ⟨q, y0, y1, y2, y3, e0, e1, e2, e3, e4, q0, q1, u0, u1, u2, u3, hv, hlt⟩ := lowpart a0 a1 a2 h3 hw
 obtain ⟨z0, z1, z2, f0, f1, f2, v0, v1, v2, hz⟩ := pieces ⟨q0, q1⟩
 have hy : U4 [y0, y1, y2, y3] := ⟨_, _, _, _, rfl, u0, u1, u2, u3⟩
 have hzU : U4 [z0, z1, z2, 0] := ⟨_, _, _, _, rfl, v0, v1, v2, ⟨by decide, by decide⟩⟩
 obtain ⟨d, c, k1, k2, k3, k4⟩ := ZtS N hN hy hzU
 have ry := hy.rng
 have rz := hzU.rng
 have rd := k2.rng
 have g0 : List.getD Zbn 0 0 = 6346243789798364141 := rfl
 have g1 : List.getD Zbn 1 0 = 1503914060200516822 := rfl
 have fin : ∀ s, U4 s → 0 ≤ v4 s → v4 s < LL → v4 s = v4 [x0, x1, x2, x3] * 65536 + w - q * LL → v4 s = (v4 [x0, x1, x2, x3] * 65536 + w) % LL := by
  intro s _ s0 s1 hs
  rw [show v4 [x0, x1, x2, x3] * 65536 + w = v4 s + q * LL by omega, Int.add_mul_emod_self_right, Int.emod_eq_of_lt s0 s1]
 unfold Zfd
 simp only [List.getD_cons_zero, List.getD_cons_succ, g0, g1, e0, e1, e2, e3, e4, f0, f1, f2, k1, mo]
 rcases k3 with rfl | rfl
 ·have hb : ZbQ d Zbn = true := (Zq5 k2 l2_U).2 (by rw [l2_v]; unfold LL; omega)
  simp only [show icmp .eql 0 1 = false from rfl, cond_false, hb, Bool.not_true]
  refine ⟨d, rfl, k2, fin d k2 rd.1 ?_ ?_⟩
  ·unfold LL; omega
  ·unfold LL; omega
 ·obtain ⟨s, c', j1, j2, j3, j4⟩ := plus2_k N hN k2 l2_U
  rw [l2_v] at j4
  have rs := j2.rng
  have hs : v4 s = v4 [y0, y1, y2, y3] - v4 [z0, z1, z2, 0] + LL := by
   unfold LL at *
   omega
  have hb : ZbQ s Zbn = true := (Zq5 j2 l2_U).2 (by rw [l2_v, hs]; unfold LL at *; omega)
  simp only [show icmp .eql 1 1 = true from rfl, cond_true, j1, hb, Bool.not_true, cond_false]
  have e : v4 s = v4 s := rfl
  refine ⟨s, rfl, j2, ?_⟩
  have hlt' : v4 s < LL := by rw [hs]; unfold LL at *; omega
  rw [show v4 [x0, x1, x2, x3] * 65536 + w = v4 s + (q - 1) * LL by rw [hs]; unfold LL at *; omega, Int.add_mul_emod_self_right, Int.emod_eq_of_lt rs.1 hlt']
def wsum : LI → Int
 | [] => 0
 | w :: l => w + 65536 * wsum l
theorem Zp0 : (l:LI) → (j:Nat) → j < l.length → wsum (l.drop j) = List.getD l j 0 + 65536 * wsum (l.drop (j + 1))
 | [], j, h => by simp at h
 | x :: l, 0, _ => by simp [wsum]
 | x :: l, j + 1, h => by
  have := Zp0 l j (by simpa using h)
  simpa using this
theorem Zoe (N:Nat) (hN : 5 ≤ N) {ws:LI} (hw:∀ x ∈ ws, 0 ≤ x ∧ x < 65536) (hl:ws.length ≤ 900) : (j:Nat) → j ≤ ws.length → (fuel:Nat) → j < fuel → (r:LI) → U4 r → v4 r < LL → v4 r = wsum (ws.drop j) % LL →
  ∃ s, loopF (ZaV N) fuel ((ws.length, (), (), (j:Int) - 1), ((ws.length, ws), (), r)) = some (.inl (((), ()), ((), s))) ∧ U4 s ∧ v4 s < LL ∧ v4 s = wsum ws % LL
 | 0, hj, fuel, hf, r, hr, h1, h2 => by
  obtain ⟨f, rfl⟩ : ∃ f, fuel = f + 1 := ⟨fuel - 1, by omega⟩
  have hs : ZaV N ((ws.length, (), (), ((0 : Nat) : Int) - 1), ((ws.length, ws), (), r)) = some (.inr (.inl (((), ()), ((), r)))) := by
   unfold ZaV
   have hge : icmp .geq (((0 : Nat) : Int) - 1) 0 = false := by decide
   simp only [hge, cond_false]
  exact ⟨r, Zhu hs f, hr, h1, h2⟩
 | j + 1, hj, fuel, hf, r, hr, h1, h2 => by
  obtain ⟨f, rfl⟩ : ∃ f, fuel = f + 1 := ⟨fuel - 1, by omega⟩
  have h0 : ((j + 1 : Nat) : Int) - 1 = (j:Int) := by omega
  rw [h0]
  have hge : icmp .geq (j:Int) 0 = true := decide_eq_true (by omega:(j:Int) ≥ 0)
  have hlt : j < ws.length := by omega
  have hd : decide (0 ≤ (j:Int) ∧ (j:Int) < ((ws.length : Nat) : Int)) = true := decide_eq_true (by omega)
  have hwj : 0 ≤ List.getD ws j 0 ∧ List.getD ws j 0 < 65536 := by
   rw [List.getD_eq_getElem?_getD, List.getElem?_eq_getElem hlt]
   exact hw _ (List.getElem_mem hlt)
  obtain ⟨d, k1, k2, k3⟩ := step2_k N hN hr h1 hwj
  have hs : ZaV N ((ws.length, (), (), (j:Int)), ((ws.length, ws), (), r)) = some (.inl ((ws.length, (), (), (j:Int) - 1), ((ws.length, ws), (), d))) := by
   unfold ZaV
   simp only [hge, hd, cond_true, Int.toNat_natCast, k1, mo, i_dec (j := j) (by omega)]
  have hd1 : v4 d < LL := by rw [k3]; exact Int.emod_lt_of_pos _ (by decide)
  have hd2 : v4 d = wsum (ws.drop j) % LL := by
   rw [k3, h2, Zp0 ws j hlt, Int.add_comm (List.getD ws j 0), Int.mul_comm 65536, Int.add_emod, Int.mul_emod, Int.emod_emod, ← Int.mul_emod, ← Int.add_emod]
  obtain ⟨s, l1, l2⟩ := Zoe N hN hw hl j (by omega) f (by omega) d k2 hd1 hd2
  exact ⟨s, (ZfF hs f).trans l1, l2⟩
theorem split16 {x:Int} (h:U x) : 0 ≤ ibin .and .u64 x 65535 ∧ ibin .and .u64 x 65535 < 65536 ∧ 0 ≤ ibin .and .u64 (ibin .shr .u64 x 16) 65535 ∧ ibin .and .u64 (ibin .shr .u64 x 16) 65535 < 65536 ∧ 0 ≤ ibin .and .u64 (ibin .shr .u64 x 32) 65535 ∧ ibin .and .u64 (ibin .shr .u64 x 32) 65535 < 65536 ∧ 0 ≤ ibin .shr .u64 x 48 ∧ ibin .shr .u64 x 48 < 65536 ∧
  x = ibin .and .u64 x 65535 + 65536 * (ibin .and .u64 (ibin .shr .u64 x 16) 65535 + 65536 * (ibin .and .u64 (ibin .shr .u64 x 32) 65535 + 65536 * ibin .shr .u64 x 48)) := by
 have s16 : ibin .shr .u64 x 16 = x / 65536 := u_shr 16 (by decide)
 have s32 : ibin .shr .u64 x 32 = x / 4294967296 := u_shr 32 (by decide)
 have s48 : ibin .shr .u64 x 48 = x / 281474976710656 := u_shr 48 (by decide)
 have m : ∀ y : Int, U y → ibin .and .u64 y 65535 = y % 65536 := by
  intro y hy
  have := Zq6 (y := y) 16 (by decide) hy
  rw [show (2 : Int) ^ 16 = 65536 from by decide] at this
  exact this
 unfold U at h
 rw [s16, s32, s48, m x h, m (x / 65536) (by unfold U; omega), m (x / 4294967296) (by unfold U; omega)]
 omega
theorem ZtT (N:Nat) (hN : 17 ≤ N) {a:LI} (ha:U4 a) : ∃ r, ZaI N a = some r ∧ Lm r (sc a) := by
 have rng := ha.rng
 obtain ⟨x0, x1, x2, x3, rfl, u0, u1, u2, u3⟩ := ha
 have s0 := split16 u0
 have s1 := split16 u1
 have s2 := split16 u2
 have s3 := split16 u3
 unfold ZaI
 simp only [show decide ((0 + 4) * 8 ≤ 140737488355328 ∧ (0 + 4) ≤ 9223372036854775807) = true from rfl, show decide (((0 + 4) + 4) * 8 ≤ 140737488355328 ∧ ((0 + 4) + 4) ≤ 9223372036854775807) = true from rfl, show decide ((((0 + 4) + 4) + 4) * 8 ≤ 140737488355328 ∧ (((0 + 4) + 4) + 4) ≤ 9223372036854775807) = true from rfl, show decide (((((0 + 4) + 4) + 4) + 4) * 8 ≤ 140737488355328 ∧ ((((0 + 4) + 4) + 4) + 4) ≤ 9223372036854775807) = true from rfl, cond_true, List.getD_cons_zero, List.getD_cons_succ, List.cons_append, List.nil_append]
 generalize ibin .and .u64 x0 65535 = a0 at *
 generalize ibin .and .u64 (ibin .shr .u64 x0 16) 65535 = a1 at *
 generalize ibin .and .u64 (ibin .shr .u64 x0 32) 65535 = a2 at *
 generalize ibin .shr .u64 x0 48 = a3 at *
 generalize ibin .and .u64 x1 65535 = b0 at *
 generalize ibin .and .u64 (ibin .shr .u64 x1 16) 65535 = b1 at *
 generalize ibin .and .u64 (ibin .shr .u64 x1 32) 65535 = b2 at *
 generalize ibin .shr .u64 x1 48 = b3 at *
 generalize ibin .and .u64 x2 65535 = c0 at *
 generalize ibin .and .u64 (ibin .shr .u64 x2 16) 65535 = c1 at *
 generalize ibin .and .u64 (ibin .shr .u64 x2 32) 65535 = c2 at *
 generalize ibin .shr .u64 x2 48 = c3 at *
 generalize ibin .and .u64 x3 65535 = d0 at *
 generalize ibin .and .u64 (ibin .shr .u64 x3 16) 65535 = d1 at *
 generalize ibin .and .u64 (ibin .shr .u64 x3 32) 65535 = d2 at *
 generalize ibin .shr .u64 x3 48 = d3 at *
 obtain ⟨s, l1, l2, l3, l4⟩ := Zoe N (by omega) (ws := [a0, a1, a2, a3, b0, b1, b2, b3, c0, c1, c2, c3, d0, d1, d2, d3]) (by
  intro x hx
  simp only [List.mem_cons, List.not_mem_nil, or_false] at hx
  rcases hx with rfl | rfl | rfl | rfl | rfl | rfl | rfl | rfl | rfl | rfl | rfl | rfl | rfl | rfl | rfl | rfl <;> omega) (by simp) 16 (Nat.le_refl _) N (by omega) [0, 0, 0, 0] lm_zero.u (by decide) (by rfl)
 have hv : wsum [a0, a1, a2, a3, b0, b1, b2, b3, c0, c1, c2, c3, d0, d1, d2, d3] = v4 [x0, x1, x2, x3] := by
  rw [v4_mk]
  simp only [wsum]
  omega
 rw [hv] at l4
 have l1' : loopF (ZaV N) N ((16, (), (), ibin .sub .i64 ((16 : Nat) : Int) 1), ((16, [a0, a1, a2, a3, b0, b1, b2, b3, c0, c1, c2, c3, d0, d1, d2, d3]), (), [0, 0, 0, 0])) = some (.inl (((), ()), ((), s))) := l1
 refine ⟨s, ?_, l2, ?_, sc_lt _⟩
 ·unfold ZfZ
  show mo (mo (loopF (ZaV N) N ((16, (), (), ibin .sub .i64 ((16 : Nat) : Int) 1), ((16, [a0, a1, a2, a3, b0, b1, b2, b3, c0, c1, c2, c3, d0, d1, d2, d3]), (), [0, 0, 0, 0]))) none _) none _ = _
  rw [l1']
  rfl
 ·rw [l4]
  show _ = (((v4 [x0, x1, x2, x3]).toNat % ordl : Nat) : Int)
  rw [Int.natCast_emod, Int.toNat_of_nonneg rng.1]
  rfl
theorem ZsP (N f:Nat) (x0 x1 x2 x3:Int) : loopF (Zbs N) (f + 33) (((), (), (), 0), ([x0, x1, x2, x3], (), [0, 0, 0, 0, 0, 0, 0, 0, 0, 0, 0, 0, 0, 0, 0, 0, 0, 0, 0, 0, 0, 0, 0, 0, 0, 0, 0, 0, 0, 0, 0, 0])) = some (.inl (((), ()), ((), enc4 x0 x1 x2 x3))) := by kernel_rfl
theorem ZsQ (N:Nat) (hN : 33 ≤ N) {a:LI} {n:Nat} (ha:Lm a n) : ∃ b, Zai N a = some b ∧ L32 b ∧ numB b = n := by
 obtain ⟨⟨x0, x1, x2, x3, rfl, u0, u1, u2, u3⟩, hv, hlt⟩ := ha
 obtain ⟨f, rfl⟩ : ∃ f, N = f + 33 := ⟨N - 33, by omega⟩
 obtain ⟨e1, e2⟩ := ZsR u0 u1 u2 u3
 refine ⟨enc4 x0 x1 x2 x3, ?_, e1, ?_⟩
 ·unfold Zai
  simp only [ZsP, mo]
 ·omega
end Go.Vx
set_option autoImplicit false
set_option linter.unusedVariables false
set_option linter.unusedSimpArgs false
namespace Go.Vx
open Go
namespace En
theorem beqS (a:ByteArray) : (a == a) = true := by
 show (a.data == a.data) = true
 exact beq_self_eq_true _
def eB (N:Nat) (x:LI) : LI := (Zam N x).getD []
def lS (N:Nat) (x:LI) : LI := (ZaI N x).getD []
theorem enc {N:Nat} (hN : 33 ≤ N) {x:LI} (hx:U4 x) : Zam N x = some (eB N x) ∧ ZaI N x = some (lS N x) ∧ Zai N (lS N x) = some (eB N x) ∧ (eB N x).length = 32 := by
 obtain ⟨b, h1, h2, h3⟩ := Zq0 N hN hx
 obtain ⟨r, g1, g2⟩ := ZtT N (by omega) hx
 obtain ⟨c, k1, k2, k3⟩ := ZsQ N hN g2
 have e1 : eB N x = b := by unfold eB; rw [h1]; rfl
 have e2 : lS N x = r := by unfold lS; rw [g1]; rfl
 have e3 : c = b := k2.inj h2 (by rw [k3, h3])
 rw [e1, e2, k1, e3]
 exact ⟨h1, g1, rfl, h2.1⟩
theorem tk {r:LI} (h:r.length = 32) : List.take 32 (List.drop 0 r) = r := by
 rw [List.drop_zero, List.take_of_length_le (by omega)]
theorem okk {k m:Nat} (h:k ≤ 100000000) (hm:m ≤ 1000) : decide (k * m ≤ 140737488355328 ∧ k ≤ 9223372036854775807) = true := by
 have : k * m ≤ 100000000 * 1000 := Nat.mul_le_mul h hm
 exact decide_eq_true (by omega)
theorem ok1 {k:Nat} (h:k ≤ 100000000) : decide (k * 1 ≤ 140737488355328 ∧ k ≤ 9223372036854775807) = true := okk h (by decide)
theorem inc {i:Nat} (h:i < 100000000) : ibin .add .i64 (i:Int) 1 = ((i + 1 : Nat) : Int) := by rw [Ref.i_add (by omega) (by omega)]; omega
theorem lt_t {i n:Nat} (h:i < n) : icmp .lss ((i:Nat) : Int) ((n:Nat) : Int) = true := decide_eq_true (by omega)
theorem lt_f {n:Nat} : icmp .lss ((n:Nat) : Int) ((n:Nat) : Int) = false := decide_eq_false (by omega)
theorem ix {i n:Nat} (h:i < n) : decide ((0 : Int) ≤ ((i:Nat) : Int) ∧ ((i:Nat) : Int) < ((n:Nat) : Int)) = true := decide_eq_true (by omega)
theorem Zds {α:Type} {l:List α} {i:Nat} (h:i < l.length) (d : α) : List.getD l i d = l[i] := by
 rw [List.getD_eq_getElem?_getD, List.getElem?_eq_getElem h]; rfl
theorem ZsS {α:Type} {l:List α} {i:Nat} (h:i < l.length) : l.take (i + 1) = l.take i ++ [l[i]] := by
 rw [List.take_add_one, List.getElem?_eq_getElem h]; rfl
theorem Zof (N:Nat) (L:List (LI)) (hL:L.length ≤ 2000000) : (k i:Nat) → i + k = L.length → (f:Nat) → k < f →
  loopF (ZbU N) f ((L.length, (), i, (i:Int)), (L, L.take i)) = some (.inl (L.length, L))
 | 0, i, hi, f, hf => by
  obtain ⟨f, rfl⟩ : ∃ g, f = g + 1 := ⟨f - 1, by omega⟩
  obtain rfl : i = L.length := by omega
  refine Zhu ?_ f
  unfold ZbU
  simp only [lt_f, cond_false, List.take_length]
 | k + 1, i, hi, f, hf => by
  obtain ⟨f, rfl⟩ : ∃ g, f = g + 1 := ⟨f - 1, by omega⟩
  have hlt : i < L.length := by omega
  refine (ZfF (w := ((L.length, (), i + 1, ((i + 1 : Nat) : Int)), (L, L.take (i + 1)))) ?_ f).trans (Zof N L hL k (i + 1) (by omega) f (by omega))
  have hl : (L.take i ++ [List.getD L i [0, 0, 0, 0]]).length = i + 1 := by simp; omega
  unfold ZbU
  simp only [lt_t hlt, ix hlt, cond_true, Int.toNat_natCast, hl, okk (k := i + 1) (m := 32) (by omega) (by decide), inc (i := i) (by omega)]
  rw [Zds hlt, ← ZsS hlt]
theorem lines_k (N:Nat) (L:List (LI)) (hL:L.length ≤ 2000000) (hN:L.length < N) : ZdC N (L, ()) = some (L, ()) := by
 unfold ZdC
 have := Zof N L hL L.length 0 (by omega) N hN
 rw [List.take_zero] at this
 simp only
 rw [show ((0 : Int)) = ((0 : Nat) : Int) from rfl, this]
 rfl
def acc (N:Nat) (L R:List (LI)) : Nat → LI
 | 0 => []
 | i + 1 => acc N L R i ++ (eB N (List.getD L i [0, 0, 0, 0]) ++ eB N (List.getD R i [0, 0, 0, 0]))
theorem ZsN {N:Nat} (hN : 33 ≤ N) {L R:List (LI)} (hL:∀ x ∈ L, U4 x) (hR:∀ x ∈ R, U4 x) : (i:Nat) → i ≤ L.length → i ≤ R.length → (acc N L R i).length = 64 * i
 | 0, _, _ => rfl
 | i + 1, h1, h2 => by
  have hl := (enc hN (hL _ (List.getElem_mem (show i < L.length by omega)))).2.2.2
  have hr := (enc hN (hR _ (List.getElem_mem (show i < R.length by omega)))).2.2.2
  simp only [acc, List.length_append, ZsN hN hL hR i (by omega) (by omega), Zds (show i < L.length by omega), Zds (show i < R.length by omega), hl, hr]
  omega
abbrev PF : Type := LI × LI × LI × LI × LI × LI × LI × Nat × Nat × LI × LI
theorem Zp1 (N:Nat) (hN : 33 ≤ N) (L R:List (LI)) (hL:∀ x ∈ L, U4 x) (hR:∀ x ∈ R, U4 x) (hLR:L.length = R.length) (h10:L.length ≤ 10) (p:PF) (hp:p.2.2.2.2.2.2.2.2.1 = R.length) (out:LI) (ho:out.length = 224) : (k i:Nat) → i + k = L.length → (f:Nat) → k < f →
  loopF (ZaF N) f (((), (), (), (), (), L.length, ((L.length : Nat) : Int), (i:Int)), (L, R, p, 224 + 64 * i, (224 + 64 * i, out ++ acc N L R i))) = some (.inl (((), (), ()), (L, R, p, 224 + 64 * L.length, (224 + 64 * L.length, out ++ acc N L R L.length))))
 | 0, i, hi, f, hf => by
  obtain ⟨f, rfl⟩ : ∃ g, f = g + 1 := ⟨f - 1, by omega⟩
  obtain rfl : i = L.length := by omega
  refine Zhu ?_ f
  unfold ZaF
  simp only [lt_f, cond_false]
 | k + 1, i, hi, f, hf => by
  obtain ⟨f, rfl⟩ : ∃ g, f = g + 1 := ⟨f - 1, by omega⟩
  have hlt : i < L.length := by omega
  have hlr : i < R.length := by omega
  refine (ZfF (w := (((), (), (), (), (), L.length, ((L.length : Nat) : Int), ((i + 1 : Nat) : Int)), (L, R, p, 224 + 64 * (i + 1), (224 + 64 * (i + 1), out ++ acc N L R (i + 1))))) ?_ f).trans (Zp1 N hN L R hL hR hLR h10 p hp out ho k (i + 1) (by omega) f (by omega))
  obtain ⟨hl, -, -, ll⟩ := enc hN (hL _ (List.getElem_mem hlt))
  obtain ⟨hr, -, -, lr⟩ := enc hN (hR _ (List.getElem_mem hlr))
  obtain ⟨p1, p2, p3, p4, p5, p6, p7, p8, p9, p10, p11⟩ := p
  simp only at hp
  subst hp
  unfold ZaF
  simp only [lt_t hlt, ix hlt, cond_true, Int.toNat_natCast, Zds hlt, Zds hlr, hl, hr, mo, ix hlr, tk ll, tk lr, ok1 (k := 224 + 64 * i + 32) (by omega), ok1 (k := 224 + 64 * i + 32 + 32) (by omega), inc (i := i) (by omega), acc, List.append_assoc]
  rfl
def bytesOf (N:Nat) (s0 s1 s2 s3 t0 t1 t2 a b:LI) (L R:List (LI)) : LI :=
 ((((((((eB N s0 ++ eB N s1) ++ eB N s2) ++ eB N s3) ++ eB N t0) ++ eB N t1) ++ eB N t2) ++ acc N L R L.length) ++ eB N a) ++ eB N b
theorem encode_p (N:Nat) (hN : 33 ≤ N) {s0 s1 s2 s3 t0 t1 t2 a b:LI} {L R:List (LI)} (h0:U4 s0) (h1:U4 s1) (h2:U4 s2) (h3:U4 s3) (g0:U4 t0) (g1:U4 t1) (g2:U4 t2) (ha:U4 a) (hb:U4 b) (hL:∀ x ∈ L, U4 x) (hR:∀ x ∈ R, U4 x) :
  Zah N (s0, s1, s2, s3, t0, t1, t2, L.length, R.length, a, b) (L, R) () =
   if L.length = R.length ∧ L.length ≤ 10 then some ((288 + 64 * L.length, 0), (288 + 64 * L.length, bytesOf N s0 s1 s2 s3 t0 t1 t2 a b L R)) else some ((0, 2), (0, [])) := by
 unfold Zah
 by_cases hLR : L.length = R.length
 ·have e1 : icmp .neq ((L.length : Nat) : Int) ((R.length : Nat) : Int) = false := by simp [icmp, hLR]
  simp only [e1, cond_false]
  by_cases h10 : L.length ≤ 10
  ·have e2 : icmp .gtr ((L.length : Nat) : Int) 10 = false := decide_eq_false (by omega)
   obtain ⟨f0, -, -, l0⟩ := enc hN h0
   obtain ⟨f1, -, -, l1⟩ := enc hN h1
   obtain ⟨f2, -, -, l2⟩ := enc hN h2
   obtain ⟨f3, -, -, l3⟩ := enc hN h3
   obtain ⟨f4, -, -, l4⟩ := enc hN g0
   obtain ⟨f5, -, -, l5⟩ := enc hN g1
   obtain ⟨f6, -, -, l6⟩ := enc hN g2
   obtain ⟨f7, -, -, l7⟩ := enc hN ha
   obtain ⟨f8, -, -, l8⟩ := enc hN hb
   have lp := Zp1 N hN L R hL hR hLR h10 (s0, s1, s2, s3, t0, t1, t2, L.length, R.length, a, b) rfl ((((((eB N s0 ++ eB N s1) ++ eB N s2) ++ eB N s3) ++ eB N t0) ++ eB N t1) ++ eB N t2) (by simp only [List.length_append, l0, l1, l2, l3, l4, l5, l6]) L.length 0 (by omega) N (by omega)
   simp only [acc, List.append_nil, Nat.mul_zero, Nat.add_zero] at lp
   rw [if_pos ⟨hLR, h10⟩]
   simp only [e2, cond_false, f0, f1, f2, f3, f4, f5, f6, f7, f8, mo, tk l0, tk l1, tk l2, tk l3, tk l4, tk l5, tk l6, tk l7, tk l8, ok1 (k := 0 + 32) (by decide), ok1 (k := 0 + 32 + 32) (by decide), ok1 (k := 0 + 32 + 32 + 32) (by decide), ok1 (k := 0 + 32 + 32 + 32 + 32) (by decide), ok1 (k := 0 + 32 + 32 + 32 + 32 + 32) (by decide), ok1 (k := 0 + 32 + 32 + 32 + 32 + 32 + 32) (by decide), ok1 (k := 0 + 32 + 32 + 32 + 32 + 32 + 32 + 32) (by decide), cond_true]
   rw [show (0 + 32 + 32 + 32 + 32 + 32 + 32 + 32) = 224 from rfl, show ((0 : Int)) = ((0 : Nat) : Int) from rfl, lp]
   simp only [f7, f8, mo, tk l7, tk l8, ok1 (k := 224 + 64 * L.length + 32) (by omega), ok1 (k := 224 + 64 * L.length + 32 + 32) (by omega), cond_true]
   rw [show 224 + 64 * L.length + 32 + 32 = 288 + 64 * L.length by omega]
   rfl
  ·have e2 : icmp .gtr ((L.length : Nat) : Int) 10 = true := decide_eq_true (by omega)
   rw [if_neg (fun h => h10 h.2)]
   simp only [e2, cond_true]
 ·have e1 : icmp .neq ((L.length : Nat) : Int) ((R.length : Nat) : Int) = true := by
   simp only [icmp, bne_iff_ne, ne_eq, Int.natCast_inj]; exact hLR
  rw [if_neg (fun h => hLR h.1)]
  simp only [e1, cond_true]
abbrev LT : Type := Int × (LI × LI) × LI × List (LI)
abbrev z10 : LI := [0, 0, 0, 0, 0, 0, 0, 0, 0, 0]
def ln (r:LI) : LT := (2, (z10, z10), r, [])
def lr (N:Nat) (L R:List (LI)) : Nat → List LT
 | 0 => []
 | i + 1 => lr N L R i ++ [ln (lS N (List.getD L i [0, 0, 0, 0])), ln (lS N (List.getD R i [0, 0, 0, 0]))]
theorem ZsT (N:Nat) (L R:List (LI)) : (i:Nat) → (lr N L R i).length = 2 * i
 | 0 => rfl
 | i + 1 => by simp only [lr, List.length_append, ZsT N L R i, List.length_cons, List.length_nil]; omega
def encs (N:Nat) : List LT → LI
 | [] => []
 | x :: l => (Zai N x.2.2.1).getD [] ++ encs N l
theorem Zq7 (N:Nat) : (a b:List LT) → encs N (a ++ b) = encs N a ++ encs N b
 | [], b => rfl
 | x :: a, b => by simp only [List.cons_append, encs, Zq7 N a b, List.append_assoc]
theorem ZsU {N:Nat} (hN : 33 ≤ N) {L R:List (LI)} (hL:∀ x ∈ L, U4 x) (hR:∀ x ∈ R, U4 x) : (i:Nat) → i ≤ L.length → i ≤ R.length → encs N (lr N L R i) = acc N L R i
 | 0, _, _ => rfl
 | i + 1, h1, h2 => by
  obtain ⟨-, -, hl, -⟩ := enc hN (hL _ (List.getElem_mem (show i < L.length by omega)))
  obtain ⟨-, -, hr, -⟩ := enc hN (hR _ (List.getElem_mem (show i < R.length by omega)))
  simp only [lr, Zq7, ZsU hN hL hR i (by omega) (by omega), acc, encs, ln, Zds (show i < L.length by omega), Zds (show i < R.length by omega), hl, hr, Option.getD_some, List.append_nil]
def Good (N:Nat) (x:LT) : Prop := x.1 = 2 ∧ ∃ b, Zai N x.2.2.1 = some b ∧ b.length = 32
theorem ZsV {N:Nat} (hN : 33 ≤ N) {L R:List (LI)} (hL:∀ x ∈ L, U4 x) (hR:∀ x ∈ R, U4 x) : (i:Nat) → i ≤ L.length → i ≤ R.length → ∀ x ∈ lr N L R i, Good N x
 | 0, _, _, x, hx => by simp [lr] at hx
 | i + 1, h1, h2, x, hx => by
  obtain ⟨-, -, hl, el⟩ := enc hN (hL _ (List.getElem_mem (show i < L.length by omega)))
  obtain ⟨-, -, hr, er⟩ := enc hN (hR _ (List.getElem_mem (show i < R.length by omega)))
  simp only [lr, List.mem_append, List.mem_cons, List.not_mem_nil, or_false, Zds (show i < L.length by omega), Zds (show i < R.length by omega)] at hx
  rcases hx with h | rfl | rfl
  ·exact ZsV hN hL hR i (by omega) (by omega) x h
  ·exact ⟨rfl, _, hl, el⟩
  ·exact ⟨rfl, _, hr, er⟩
abbrev PR : Type := (LT × LT × LT × LT) × (LI × LI × LI) × List LT × (LI × LI)
theorem Zp2 (N:Nat) (T:List LT) (hT:∀ x ∈ T, Good N x) (h20:T.length ≤ 20) (p:PR) (hp:p.2.2.1 = T) : (k i:Nat) → i + k = T.length → (f:Nat) → k < f → (n:Nat) → n ≤ 10000 - 32 * k → (out:LI) →
  loopF (Za2 N) f (((), (), n, (i:Int)), ((n, out), p)) = some (.inl (((), n + 32 * k), ((n + 32 * k, out ++ encs N (T.drop i)), p)))
 | 0, i, hi, f, hf, n, hn, out => by
  obtain ⟨f, rfl⟩ : ∃ g, f = g + 1 := ⟨f - 1, by omega⟩
  obtain rfl : i = T.length := by omega
  obtain ⟨⟨⟨q1, ⟨q2, q3⟩, q4, q5⟩, ⟨r1, ⟨r2, r3⟩, r4, r5⟩, ⟨s1, ⟨s2, s3⟩, s4, s5⟩, ⟨t1, ⟨t2, t3⟩, t4, t5⟩⟩, ⟨u1, u2, u3⟩, v, ⟨w1, w2⟩⟩ := p
  simp only at hp
  subst hp
  refine Zhu ?_ f
  unfold Za2
  simp only [lt_f, cond_false, List.drop_length, encs, List.append_nil, Nat.mul_zero, Nat.add_zero]
 | k + 1, i, hi, f, hf, n, hn, out => by
  obtain ⟨f, rfl⟩ : ∃ g, f = g + 1 := ⟨f - 1, by omega⟩
  have hlt : i < T.length := by omega
  obtain ⟨g1, b, g2, g3⟩ := hT _ (List.getElem_mem hlt)
  have hd : T.drop i = T[i] :: T.drop (i + 1) := List.drop_eq_getElem_cons hlt
  have go := Zp2 N T hT h20 p hp k (i + 1) (by omega) f (by omega) (n + 32) (by omega) (out ++ b)
  rw [hd]
  simp only [encs, g2, Option.getD_some]
  rw [← List.append_assoc, show n + 32 * (k + 1) = n + 32 + 32 * k by omega, ← go]
  refine ZfF ?_ f
  obtain ⟨⟨⟨q1, ⟨q2, q3⟩, q4, q5⟩, ⟨r1, ⟨r2, r3⟩, r4, r5⟩, ⟨s1, ⟨s2, s3⟩, s4, s5⟩, ⟨t1, ⟨t2, t3⟩, t4, t5⟩⟩, ⟨u1, u2, u3⟩, v, ⟨w1, w2⟩⟩ := p
  simp only at hp
  subst hp
  unfold Za2
  simp only [lt_t hlt, ix hlt, cond_true, Int.toNat_natCast, Zds hlt, g1, show icmp .eql 2 1 = false from rfl, show icmp .eql 2 2 = true from rfl, cond_false, g2, mo, tk g3, ok1 (k := n + 32) (by omega), inc (i := i) (by omega)]
theorem ZtU (N:Nat) (hN : 33 ≤ N) {s0 s1 s2 s3 t0 t1 t2 a b:LI} {L R:List (LI)} (h0:U4 s0) (h1:U4 s1) (h2:U4 s2) (h3:U4 s3) (g0:U4 t0) (g1:U4 t1) (g2:U4 t2) (ha:U4 a) (hb:U4 b) (hL:∀ x ∈ L, U4 x) (hR:∀ x ∈ R, U4 x) (hLR:L.length = R.length) (h10:L.length ≤ 10) :
  ZbI N ((ln (lS N s0), ln (lS N s1), ln (lS N s2), ln (lS N s3)), (lS N t0, lS N t1, lS N t2), lr N L R L.length, (lS N a, lS N b)) () () = some (288 + 64 * L.length, (288 + 64 * L.length, bytesOf N s0 s1 s2 s3 t0 t1 t2 a b L R)) := by
 obtain ⟨-, -, f0, l0⟩ := enc hN h0
 obtain ⟨-, -, f1, l1⟩ := enc hN h1
 obtain ⟨-, -, f2, l2⟩ := enc hN h2
 obtain ⟨-, -, f3, l3⟩ := enc hN h3
 obtain ⟨-, -, f4, l4⟩ := enc hN g0
 obtain ⟨-, -, f5, l5⟩ := enc hN g1
 obtain ⟨-, -, f6, l6⟩ := enc hN g2
 obtain ⟨-, -, f7, l7⟩ := enc hN ha
 obtain ⟨-, -, f8, l8⟩ := enc hN hb
 have hlen := ZsT N L R L.length
 have lp := Zp2 N (lr N L R L.length) (ZsV hN hL hR _ (Nat.le_refl _) (by omega)) (by omega) ((ln (lS N s0), ln (lS N s1), ln (lS N s2), ln (lS N s3)), (lS N t0, lS N t1, lS N t2), lr N L R L.length, (lS N a, lS N b)) rfl (2 * L.length) 0 (by omega) N (by omega) 224 (by omega)
  ((((((eB N s0 ++ eB N s1) ++ eB N s2) ++ eB N s3) ++ eB N t0) ++ eB N t1) ++ eB N t2)
 rw [List.drop_zero, ZsU hN hL hR _ (Nat.le_refl _) (by omega)] at lp
 unfold ZbI
 simp only [ln] at lp ⊢
 simp only [show icmp .eql 2 1 = false from rfl, show icmp .eql 2 2 = true from rfl, cond_false, cond_true, f0, f1, f2, f3, f4, f5, f6, mo, tk l0, tk l1, tk l2, tk l3, tk l4, tk l5, tk l6, ok1 (k := 0 + 32) (by decide), ok1 (k := 0 + 32 + 32) (by decide), ok1 (k := 0 + 32 + 32 + 32) (by decide), ok1 (k := 0 + 32 + 32 + 32 + 32) (by decide), ok1 (k := 0 + 32 + 32 + 32 + 32 + 32) (by decide), ok1 (k := 0 + 32 + 32 + 32 + 32 + 32 + 32) (by decide), ok1 (k := 0 + 32 + 32 + 32 + 32 + 32 + 32 + 32) (by decide)]
 rw [show (0 + 32 + 32 + 32 + 32 + 32 + 32 + 32) = 224 from rfl, show ((0 : Int)) = ((0 : Nat) : Int) from rfl, lp]
 simp only [f7, f8, mo, tk l7, tk l8, ok1 (k := 224 + 32 * (2 * L.length) + 32) (by omega), ok1 (k := 224 + 32 * (2 * L.length) + 32 + 32) (by omega), cond_true]
 rw [show 224 + 32 * (2 * L.length) + 32 + 32 = 288 + 64 * L.length by omega]
 rfl
abbrev WP : Type := (LI × LI × LI × LI) × LI × LI × LI × List (LI) × List (LI) × LI × LI
abbrev LU : Type := Int × (LI × LI) × LI × Unit
abbrev QR : Type := (LU × LU × LU × LU) × (LI × LI × LI) × (LI × LI)
theorem Zog (N:Nat) (hN : 33 ≤ N) (w:WP) (hL:∀ x ∈ w.2.2.2.2.1, U4 x) (hR:∀ x ∈ w.2.2.2.2.2.1, U4 x) (hLR:w.2.2.2.2.1.length = w.2.2.2.2.2.1.length) (h10:w.2.2.2.2.1.length ≤ 10) (q:QR) : (k i:Nat) → i + k = w.2.2.2.2.1.length → (f:Nat) → k < f →
  loopF (ZaQ N) f (((), (), (), (i:Int)), ((), w, (q.1, q.2.1, lr N w.2.2.2.2.1 w.2.2.2.2.2.1 i, q.2.2))) = some (.inl (((), ()), ((), w, (q.1, q.2.1, lr N w.2.2.2.2.1 w.2.2.2.2.2.1 w.2.2.2.2.1.length, q.2.2))))
 | 0, i, hi, f, hf => by
  obtain ⟨f, rfl⟩ : ∃ g, f = g + 1 := ⟨f - 1, by omega⟩
  obtain rfl : i = w.2.2.2.2.1.length := by omega
  obtain ⟨⟨s0, s1, s2, s3⟩, t0, t1, t2, L, R, a, b⟩ := w
  obtain ⟨⟨⟨q1, ⟨q2, q3⟩, q4, ⟨⟩⟩, ⟨r1, ⟨r2, r3⟩, r4, ⟨⟩⟩, ⟨s1', ⟨s2', s3'⟩, s4', ⟨⟩⟩, ⟨t1', ⟨t2', t3'⟩, t4', ⟨⟩⟩⟩, ⟨u1, u2, u3⟩, ⟨w1, w2⟩⟩ := q
  refine Zhu ?_ f
  unfold ZaQ
  simp only [lt_f, cond_false]
 | k + 1, i, hi, f, hf => by
  obtain ⟨f, rfl⟩ : ∃ g, f = g + 1 := ⟨f - 1, by omega⟩
  refine (ZfF (w := (((), (), (), ((i + 1 : Nat) : Int)), ((), w, (q.1, q.2.1, lr N w.2.2.2.2.1 w.2.2.2.2.2.1 (i + 1), q.2.2)))) ?_ f).trans (Zog N hN w hL hR hLR h10 q k (i + 1) (by omega) f (by omega))
  obtain ⟨⟨s0, s1, s2, s3⟩, t0, t1, t2, L, R, a, b⟩ := w
  obtain ⟨⟨⟨q1, ⟨q2, q3⟩, q4, ⟨⟩⟩, ⟨r1, ⟨r2, r3⟩, r4, ⟨⟩⟩, ⟨s1', ⟨s2', s3'⟩, s4', ⟨⟩⟩, ⟨t1', ⟨t2', t3'⟩, t4', ⟨⟩⟩⟩, ⟨u1, u2, u3⟩, ⟨w1, w2⟩⟩ := q
  simp only at hL hR hLR h10 hi
  have hlt : i < L.length := by omega
  have hlr : i < R.length := by omega
  obtain ⟨-, hl, -, -⟩ := enc hN (hL _ (List.getElem_mem hlt))
  obtain ⟨-, hr, -, -⟩ := enc hN (hR _ (List.getElem_mem hlr))
  have hlen : (lr N L R i ++ [ln (lS N L[i]), ln (lS N R[i])]).length = 2 * i + 2 := by simp [ZsT]
  simp only [ln] at hlen
  unfold ZaQ
  simp only [lt_t hlt, lt_t hlr, ix hlt, ix hlr, cond_true, Int.toNat_natCast, Zds hlt, Zds hlr, hl, hr, mo, Zag, hlen, okk (k := 2 * i + 2) (m := 224) (by omega) (by decide), inc (i := i) (by omega), lr, ln]
theorem bytes_k (N:Nat) (hN : 33 ≤ N) {s0 s1 s2 s3 t0 t1 t2 a b:LI} {L R:List (LI)} (h0:U4 s0) (h1:U4 s1) (h2:U4 s2) (h3:U4 s3) (g0:U4 t0) (g1:U4 t1) (g2:U4 t2) (ha:U4 a) (hb:U4 b) (hL:∀ x ∈ L, U4 x) (hR:∀ x ∈ R, U4 x) (hLR:L.length = R.length) (h10:L.length ≤ 10) :
  ZaR N ((s0, s1, s2, s3), t0, t1, t2, L, R, a, b) () () = some (288 + 64 * L.length, (288 + 64 * L.length, bytesOf N s0 s1 s2 s3 t0 t1 t2 a b L R)) := by
 obtain ⟨-, f0, -, -⟩ := enc hN h0
 obtain ⟨-, f1, -, -⟩ := enc hN h1
 obtain ⟨-, f2, -, -⟩ := enc hN h2
 obtain ⟨-, f3, -, -⟩ := enc hN h3
 obtain ⟨-, f4, -, -⟩ := enc hN g0
 obtain ⟨-, f5, -, -⟩ := enc hN g1
 obtain ⟨-, f6, -, -⟩ := enc hN g2
 obtain ⟨-, f7, -, -⟩ := enc hN ha
 obtain ⟨-, f8, -, -⟩ := enc hN hb
 have er := ZtU N hN h0 h1 h2 h3 g0 g1 g2 ha hb hL hR hLR h10
 have lp := Zog N hN ((s0, s1, s2, s3), t0, t1, t2, L, R, a, b) hL hR hLR h10 (((2, (z10, z10), lS N s0, ()), (2, (z10, z10), lS N s1, ()), (2, (z10, z10), lS N s2, ()), (2, (z10, z10), lS N s3, ())), (lS N t0, lS N t1, lS N t2), ([0, 0, 0, 0], [0, 0, 0, 0])) L.length 0 (by simp) N (by omega)
 simp only [lr, Int.natCast_zero] at lp
 unfold ZaR
 simp only [f0, f1, f2, f3, f4, f5, f6, mo, Zag]
 rw [lp]
 simp only [f7, f8, mo]
 simp only [ln] at er
 rw [er]
def grow {γ:Type} : Nat → Nat → Option γ → Option γ
 | 0, _, k => k
 | j + 1, n, k => cond (decide ((n + 1) * 1 ≤ 140737488355328 ∧ (n + 1) ≤ 9223372036854775807)) (grow j (n + 1) k) none
end En
end Go.Vx
