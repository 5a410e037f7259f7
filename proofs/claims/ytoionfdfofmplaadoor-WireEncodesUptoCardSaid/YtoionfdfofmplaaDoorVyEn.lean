import Derived.Test.YtoionfdfofmplaaDoorVyM22
import Derived.Test.YtoionfdfofmplaaDoorVyM8
import Derived.Test.YtoionfdfofmplaaDoorVyZ
import Derived.Test.YtoionfdfofmplaaDoorVyZ2
import Derived.KernelRfl
/- Numbers, part M23: the group modulo the four points; GroupLaws. -/
set_option autoImplicit false
set_option linter.unusedSimpArgs false
namespace Go.Vx
open Go

/- The group. -/
instance : Std.Associative (α := E) (· + ·) := ⟨E.add_assoc⟩
instance : Std.Commutative (α := E) (· + ·) := ⟨E.add_comm⟩
/- The base element. -/
end Go.Vx

/- Numbers, part M24: encodings, decodings and FromCurve by the curve's points. -/
set_option autoImplicit false
set_option linter.unusedSimpArgs false
namespace Go.Vx
open Go

end Go.Vx

/- Numbers, part M30a: the reference's point. -/
set_option autoImplicit false
namespace Go.Vx
open Go Ref

end Go.Vx

/- Numbers, part M32: the reference's curve in E: sums, multiples by fractions, torsion, what is free. -/
set_option autoImplicit false
set_option linter.unusedSimpArgs false
namespace Go.Vx
open Go Ref

theorem i_dec {j : Nat} (h : j < 1000) : ibin .sub .i64 (j : Int) 1 = (j : Int) - 1 := by
  have : ibin .sub .i64 (j : Int) 1 = IntKind.wrap .i64 ((j : Int) - 1) := rfl
  rw [this]
  exact wrapi (by omega) (by omega)

end Go.Vx

/- Numbers, part M33: the reference's torsion points; the reference's least scalars. -/
set_option autoImplicit false
set_option linter.unusedSimpArgs false
namespace Go.Vx
open Go Ref

/- The reference's scalars. -/
theorem minus2_step (N : Nat) {a b out : List Int} {c : Int} {i : Nat} (hi : i < 4) (ha : U (List.getD a i 0)) (hb : U (List.getD b i 0)) (hc : c = 0 ∨ c = 1) : ∃ t d, U t ∧ (d = 0 ∨ d = 1) ∧ t = List.getD a i 0 - List.getD b i 0 - c + d * 18446744073709551616 ∧
    veilref02_minus_l0 N (((), (), (), (), (), c, (i : Int)), (a, b, (), out)) = some (.inl (((), (), (), (), (), d, ((i + 1 : Nat) : Int)), (a, b, (), List.set out i t))) := by
  have h1 : icmp .lss (i : Int) 4 = true := decide_eq_true (by omega)
  have h2 : decide (0 ≤ (i : Int) ∧ (i : Int) < ((4 : Nat) : Int)) = true := decide_eq_true (by omega)
  have inc := inc32 (k := i) (by omega)
  unfold veilref02_minus_l0
  simp only [h1, h2, cond_true, Int.toNat_natCast, u_sub, inc]
  generalize List.getD a i 0 = x at *
  generalize List.getD b i 0 = y at *
  unfold U at *
  by_cases hxy : x < y
  · have e1 : icmp .lss x y = true := decide_eq_true hxy
    have e2 : (x - y) % 18446744073709551616 = x - y + 18446744073709551616 := by omega
    rw [e1, e2, cond_true]
    refine ⟨x - y - c + 18446744073709551616, 1, by omega, .inr rfl, by omega, ?_⟩
    have e3 : (x - y + 18446744073709551616 - c) % 18446744073709551616 = x - y - c + 18446744073709551616 := by omega
    rw [e3]
    cases icmp .lss (x - y + 18446744073709551616) c <;> rfl
  · have e1 : icmp .lss x y = false := decide_eq_false hxy
    have e2 : (x - y) % 18446744073709551616 = x - y := by omega
    rw [e1, e2, cond_false]
    by_cases hc2 : x - y < c
    · have e4 : icmp .lss (x - y) c = true := decide_eq_true hc2
      have e3 : (x - y - c) % 18446744073709551616 = x - y - c + 18446744073709551616 := by omega
      rw [e3, e4]
      exact ⟨x - y - c + 18446744073709551616, 1, by omega, .inr rfl, by omega, rfl⟩
    · have e4 : icmp .lss (x - y) c = false := decide_eq_false hc2
      have e3 : (x - y - c) % 18446744073709551616 = x - y - c := by omega
      rw [e3, e4]
      exact ⟨x - y - c, 0, by omega, .inl rfl, by omega, rfl⟩
theorem minus2_k (N : Nat) (hN : 5 ≤ N) {a b : List Int} (ha : U4 a) (hb : U4 b) : ∃ r c, veilref02_minus N a b = some (r, c) ∧ U4 r ∧ (c = 0 ∨ c = 1) ∧ v4 r = v4 a - v4 b + c * 115792089237316195423570985008687907853269984665640564039457584007913129639936 := by
  obtain ⟨x0, x1, x2, x3, rfl, a0, a1, a2, a3⟩ := ha
  obtain ⟨y0, y1, y2, y3, rfl, b0, b1, b2, b3⟩ := hb
  obtain ⟨f, rfl⟩ : ∃ f, N = f + 5 := ⟨N - 5, by omega⟩
  obtain ⟨r0, c0, u0, d0, e0, h0⟩ := minus2_step (f + 5) (a := [x0, x1, x2, x3]) (b := [y0, y1, y2, y3]) (out := [0, 0, 0, 0]) (i := 0) (by decide) a0 b0 (.inl rfl)
  obtain ⟨r1, c1, u1, d1, e1, h1⟩ := minus2_step (f + 5) (a := [x0, x1, x2, x3]) (b := [y0, y1, y2, y3]) (out := [r0, 0, 0, 0]) (i := 1) (by decide) a1 b1 d0
  obtain ⟨r2, c2, u2, d2, e2, h2⟩ := minus2_step (f + 5) (a := [x0, x1, x2, x3]) (b := [y0, y1, y2, y3]) (out := [r0, r1, 0, 0]) (i := 2) (by decide) a2 b2 d1
  obtain ⟨r3, c3, u3, d3, e3, h3⟩ := minus2_step (f + 5) (a := [x0, x1, x2, x3]) (b := [y0, y1, y2, y3]) (out := [r0, r1, r2, 0]) (i := 3) (by decide) a3 b3 d2
  have h4 : veilref02_minus_l0 (f + 5) (((), (), (), (), (), c3, 4), ([x0, x1, x2, x3], [y0, y1, y2, y3], (), [r0, r1, r2, r3])) = some (.inr (.inl (((), (), c3), ((), [r0, r1, r2, r3])))) := rfl
  have hl : loopF (veilref02_minus_l0 (f + 5)) (f + 5) (((), (), (), (), (), 0, 0), ([x0, x1, x2, x3], [y0, y1, y2, y3], (), [0, 0, 0, 0])) = some (.inl (((), (), c3), ((), [r0, r1, r2, r3]))) :=
    (loop_in h0 _).trans ((loop_in h1 _).trans ((loop_in h2 _).trans ((loop_in h3 _).trans (loop_out h4 _))))
  refine ⟨[r0, r1, r2, r3], c3, ?_, ⟨_, _, _, _, rfl, u0, u1, u2, u3⟩, d3, ?_⟩
  · unfold veilref02_minus
    simp only [hl, mo]
  · simp only [List.getD_cons_zero, List.getD_cons_succ] at e0 e1 e2 e3
    rw [v4_mk, v4_mk, v4_mk]
    omega
theorem plus2_step (N : Nat) {a b out : List Int} {c : Int} {i : Nat} (hi : i < 4) (ha : U (List.getD a i 0)) (hb : U (List.getD b i 0)) (hc : c = 0 ∨ c = 1) : ∃ t d, U t ∧ (d = 0 ∨ d = 1) ∧ t + d * 18446744073709551616 = List.getD a i 0 + List.getD b i 0 + c ∧
    veilref02_plus_l0 N (((), (), (), (), (), c, (i : Int)), (a, b, (), out)) = some (.inl (((), (), (), (), (), d, ((i + 1 : Nat) : Int)), (a, b, (), List.set out i t))) := by
  have h1 : icmp .lss (i : Int) 4 = true := decide_eq_true (by omega)
  have h2 : decide (0 ≤ (i : Int) ∧ (i : Int) < ((4 : Nat) : Int)) = true := decide_eq_true (by omega)
  have inc := inc32 (k := i) (by omega)
  unfold veilref02_plus_l0
  simp only [h1, h2, cond_true, Int.toNat_natCast, u_add, inc]
  generalize List.getD a i 0 = x at *
  generalize List.getD b i 0 = y at *
  unfold U at *
  by_cases hxy : x + y < 18446744073709551616
  · have e2 : (x + y) % 18446744073709551616 = x + y := by omega
    have e1 : icmp .lss (x + y) x = false := decide_eq_false (by omega)
    rw [e2, e1, cond_false]
    by_cases hc2 : x + y + c < 18446744073709551616
    · have e3 : (x + y + c) % 18446744073709551616 = x + y + c := by omega
      have e4 : icmp .lss (x + y + c) (x + y) = false := decide_eq_false (by omega)
      rw [e3, e4]
      exact ⟨x + y + c, 0, by omega, .inl rfl, by omega, rfl⟩
    · have e3 : (x + y + c) % 18446744073709551616 = x + y + c - 18446744073709551616 := by omega
      have e4 : icmp .lss (x + y + c - 18446744073709551616) (x + y) = true := decide_eq_true (by omega)
      rw [e3, e4]
      exact ⟨x + y + c - 18446744073709551616, 1, by omega, .inr rfl, by omega, rfl⟩
  · have e2 : (x + y) % 18446744073709551616 = x + y - 18446744073709551616 := by omega
    have e1 : icmp .lss (x + y - 18446744073709551616) x = true := decide_eq_true (by omega)
    rw [e2, e1, cond_true]
    have e3 : (x + y - 18446744073709551616 + c) % 18446744073709551616 = x + y + c - 18446744073709551616 := by omega
    rw [e3]
    refine ⟨x + y + c - 18446744073709551616, 1, by omega, .inr rfl, by omega, ?_⟩
    cases icmp .lss (x + y + c - 18446744073709551616) (x + y - 18446744073709551616) <;> rfl
theorem plus2_k (N : Nat) (hN : 5 ≤ N) {a b : List Int} (ha : U4 a) (hb : U4 b) : ∃ r c, veilref02_plus N a b = some (r, c) ∧ U4 r ∧ (c = 0 ∨ c = 1) ∧ v4 r + c * 115792089237316195423570985008687907853269984665640564039457584007913129639936 = v4 a + v4 b := by
  obtain ⟨x0, x1, x2, x3, rfl, a0, a1, a2, a3⟩ := ha
  obtain ⟨y0, y1, y2, y3, rfl, b0, b1, b2, b3⟩ := hb
  obtain ⟨f, rfl⟩ : ∃ f, N = f + 5 := ⟨N - 5, by omega⟩
  obtain ⟨r0, c0, u0, d0, e0, h0⟩ := plus2_step (f + 5) (a := [x0, x1, x2, x3]) (b := [y0, y1, y2, y3]) (out := [0, 0, 0, 0]) (i := 0) (by decide) a0 b0 (.inl rfl)
  obtain ⟨r1, c1, u1, d1, e1, h1⟩ := plus2_step (f + 5) (a := [x0, x1, x2, x3]) (b := [y0, y1, y2, y3]) (out := [r0, 0, 0, 0]) (i := 1) (by decide) a1 b1 d0
  obtain ⟨r2, c2, u2, d2, e2, h2⟩ := plus2_step (f + 5) (a := [x0, x1, x2, x3]) (b := [y0, y1, y2, y3]) (out := [r0, r1, 0, 0]) (i := 2) (by decide) a2 b2 d1
  obtain ⟨r3, c3, u3, d3, e3, h3⟩ := plus2_step (f + 5) (a := [x0, x1, x2, x3]) (b := [y0, y1, y2, y3]) (out := [r0, r1, r2, 0]) (i := 3) (by decide) a3 b3 d2
  have h4 : veilref02_plus_l0 (f + 5) (((), (), (), (), (), c3, 4), ([x0, x1, x2, x3], [y0, y1, y2, y3], (), [r0, r1, r2, r3])) = some (.inr (.inl (((), (), c3), ((), [r0, r1, r2, r3])))) := rfl
  have hl : loopF (veilref02_plus_l0 (f + 5)) (f + 5) (((), (), (), (), (), 0, 0), ([x0, x1, x2, x3], [y0, y1, y2, y3], (), [0, 0, 0, 0])) = some (.inl (((), (), c3), ((), [r0, r1, r2, r3]))) :=
    (loop_in h0 _).trans ((loop_in h1 _).trans ((loop_in h2 _).trans ((loop_in h3 _).trans (loop_out h4 _))))
  refine ⟨[r0, r1, r2, r3], c3, ?_, ⟨_, _, _, _, rfl, u0, u1, u2, u3⟩, d3, ?_⟩
  · unfold veilref02_plus
    simp only [hl, mo]
  · simp only [List.getD_cons_zero, List.getD_cons_succ] at e0 e1 e2 e3
    rw [v4_mk, v4_mk, v4_mk]
    omega
theorem below2_k {a b : List Int} (ha : U4 a) (hb : U4 b) : veilref02_below a b = true ↔ v4 a < v4 b := by
  obtain ⟨x0, x1, x2, x3, rfl, a0, a1, a2, a3⟩ := ha
  obtain ⟨y0, y1, y2, y3, rfl, b0, b1, b2, b3⟩ := hb
  rw [v4_mk, v4_mk]
  have ne : ∀ x y : Int, icmp .neq x y = !decide (x = y) := fun x y => rfl
  have ls : ∀ x y : Int, icmp .lss x y = decide (x < y) := fun x y => rfl
  unfold veilref02_below
  simp only [List.getD_cons_zero, List.getD_cons_succ, ne, ls]
  unfold U at *
  by_cases h3 : x3 = y3
  · by_cases h2 : x2 = y2
    · by_cases h1 : x1 = y1
      · by_cases h0 : x0 = y0
        · simp only [h3, h2, h1, h0, decide_true, Bool.not_true, cond_false]
          constructor
          · intro h; cases h
          · intro h; omega
        · simp only [h3, h2, h1, h0, decide_true, decide_false, Bool.not_true, Bool.not_false, cond_false, cond_true, decide_eq_true_eq]
          omega
      · simp only [h3, h2, h1, decide_true, decide_false, Bool.not_true, Bool.not_false, cond_false, cond_true, decide_eq_true_eq]
        omega
    · simp only [h3, h2, decide_true, decide_false, Bool.not_true, Bool.not_false, cond_false, cond_true, decide_eq_true_eq]
      omega
  · simp only [h3, decide_false, Bool.not_false, cond_true, decide_eq_true_eq]
    omega

theorem shl_or {x w : Int} (k : Nat) (hk : k ≤ 64) (hx : U x) (hw : 0 ≤ w ∧ w < 2 ^ k) (hw' : w < 18446744073709551616) : ibin .or .u64 (ibin .shl .u64 x (k : Int)) w = x * 2 ^ k % 18446744073709551616 + w := by
  rw [u_shl k hk]
  unfold U at hx
  obtain ⟨n, rfl⟩ : ∃ n : Nat, x = n := ⟨x.toNat, by omega⟩
  obtain ⟨m, rfl⟩ : ∃ m : Nat, w = m := ⟨w.toNat, by omega⟩
  have hm : m < 2 ^ k := by
    have := hw.2
    have e : ((2 : Int) ^ k) = ((2 ^ k : Nat) : Int) := by simp
    rw [e] at this
    exact Int.ofNat_lt.1 this
  have e : ((n : Int) * 2 ^ k % 18446744073709551616) = ((n * 2 ^ k % 2 ^ 64 : Nat) : Int) := by simp
  have hdvd : n * 2 ^ k % 2 ^ 64 = 2 ^ k * (n % 2 ^ (64 - k)) := by
    have : (2 : Nat) ^ 64 = 2 ^ k * 2 ^ (64 - k) := by rw [← Nat.pow_add]; congr 1; omega
    rw [this, Nat.mul_comm n, Nat.mul_mod_mul_left]
  have hlt : n * 2 ^ k % 2 ^ 64 < 2 ^ 64 := Nat.mod_lt _ (by decide)
  rw [e, u_or (by omega) (by omega) (by omega) hw', Int.toNat_natCast, Int.toNat_natCast, hdvd, ← Nat.two_pow_add_eq_or_of_lt hm, Int.natCast_add]

theorem and_mask {y : Int} (k : Nat) (hk : k ≤ 63) (h : U y) : ibin .and .u64 y (((2 ^ k - 1 : Nat) : Nat) : Int) = y % 2 ^ k := by
  unfold U at h
  obtain ⟨n, rfl⟩ : ∃ n : Nat, y = n := ⟨y.toNat, by omega⟩
  have hp : 2 ^ k - 1 < 18446744073709551616 := by
    have : (2 : Nat) ^ k ≤ 2 ^ 63 := Nat.pow_le_pow_right (by decide) hk
    have e : (2 : Nat) ^ 63 = 9223372036854775808 := by decide
    omega
  rw [u_and (by omega) (by omega) (by omega) (by omega), Int.toNat_natCast, Int.toNat_natCast, Nat.and_two_pow_sub_one_eq_mod]
  simp

end Go.Vx

/- Numbers, part M34: the reference's least scalars and their bytes. -/
set_option autoImplicit false
set_option linter.unusedSimpArgs false
namespace Go.Vx
open Go Ref

abbrev LL : Int := 7237005577332262213973186563042994240857116359379907606001950938285454250989

theorem l2_U : U4 veilref02_l := ⟨_, _, _, _, rfl, ⟨by decide, by decide⟩, ⟨by decide, by decide⟩, ⟨by decide, by decide⟩, ⟨by decide, by decide⟩⟩
theorem l2_v : v4 veilref02_l = LL := by decide

/-- q times the order's low part, by pieces. -/
theorem pieces {q : Int} (hq : 0 ≤ q ∧ q ≤ 65536) : ∃ y0 y1 y2, 
    (ibin .or .u64 (ibin .and .u64 (ibin .add .u64 (ibin .mul .u64 (ibin .and .u64 6346243789798364141 4294967295) q) 0) 4294967295) (ibin .shl .u64 (ibin .and .u64 (ibin .add .u64 (ibin .mul .u64 (ibin .shr .u64 6346243789798364141 32) q) (ibin .shr .u64 (ibin .add .u64 (ibin .mul .u64 (ibin .and .u64 6346243789798364141 4294967295) q) 0) 32)) 4294967295) 32)) = y0 ∧
    (ibin .or .u64 (ibin .and .u64 (ibin .add .u64 (ibin .mul .u64 (ibin .and .u64 1503914060200516822 4294967295) q) (ibin .shr .u64 (ibin .add .u64 (ibin .mul .u64 (ibin .shr .u64 6346243789798364141 32) q) (ibin .shr .u64 (ibin .add .u64 (ibin .mul .u64 (ibin .and .u64 6346243789798364141 4294967295) q) 0) 32)) 32)) 4294967295)
      (ibin .shl .u64 (ibin .and .u64 (ibin .add .u64 (ibin .mul .u64 (ibin .shr .u64 1503914060200516822 32) q) (ibin .shr .u64 (ibin .add .u64 (ibin .mul .u64 (ibin .and .u64 1503914060200516822 4294967295) q) (ibin .shr .u64 (ibin .add .u64 (ibin .mul .u64 (ibin .shr .u64 6346243789798364141 32) q) (ibin .shr .u64 (ibin .add .u64 (ibin .mul .u64 (ibin .and .u64 6346243789798364141 4294967295) q) 0) 32)) 32)) 32)) 4294967295) 32)) = y1 ∧
    (ibin .shr .u64 (ibin .add .u64 (ibin .mul .u64 (ibin .shr .u64 1503914060200516822 32) q) (ibin .shr .u64 (ibin .add .u64 (ibin .mul .u64 (ibin .and .u64 1503914060200516822 4294967295) q) (ibin .shr .u64 (ibin .add .u64 (ibin .mul .u64 (ibin .shr .u64 6346243789798364141 32) q) (ibin .shr .u64 (ibin .add .u64 (ibin .mul .u64 (ibin .and .u64 6346243789798364141 4294967295) q) 0) 32)) 32)) 32)) 32) = y2 ∧
    U y0 ∧ U y1 ∧ U y2 ∧ v4 [y0, y1, y2, 0] = q * 27742317777372353535851937790883648493 := by
  have c0 : ibin .and .u64 6346243789798364141 4294967295 = 1559614445 := by decide +kernel
  have c1 : ibin .shr .u64 6346243789798364141 32 = 1477600026 := by decide +kernel
  have c2 : ibin .and .u64 1503914060200516822 4294967295 = 2734136534 := by decide +kernel
  have c3 : ibin .shr .u64 1503914060200516822 32 = 350157278 := by decide +kernel
  have sh : ∀ y : Int, ibin .shr .u64 y 32 = y / 4294967296 := fun y => u_shr 32 (by decide)
  rw [c0, c1, c2, c3]
  simp only [u_mul, u_add, sh]
  have p0 : (1559614445 * q % 18446744073709551616 + 0) % 18446744073709551616 = 1559614445 * q := by omega
  rw [p0]
  have p1 : (1477600026 * q % 18446744073709551616 + 1559614445 * q / 4294967296) % 18446744073709551616 = 1477600026 * q + 1559614445 * q / 4294967296 := by omega
  rw [p1]
  generalize hx0 : 1559614445 * q = x0 at *
  generalize hx1 : 1477600026 * q + x0 / 4294967296 = x1 at *
  have p2 : (2734136534 * q % 18446744073709551616 + x1 / 4294967296) % 18446744073709551616 = 2734136534 * q + x1 / 4294967296 := by omega
  rw [p2]
  generalize hx2 : 2734136534 * q + x1 / 4294967296 = x2 at *
  have p3 : (350157278 * q % 18446744073709551616 + x2 / 4294967296) % 18446744073709551616 = 350157278 * q + x2 / 4294967296 := by omega
  rw [p3]
  generalize hx3 : 350157278 * q + x2 / 4294967296 = x3 at *
  have r0 : 0 ≤ x0 ∧ x0 < 281474976710656 := by omega
  have r1 : 0 ≤ x1 ∧ x1 < 281474976710656 := by omega
  have r2 : 0 ≤ x2 ∧ x2 < 281474976710656 := by omega
  have r3 : 0 ≤ x3 ∧ x3 < 281474976710656 := by omega
  have a : ∀ y : Int, 0 ≤ y ∧ y < 281474976710656 → ibin .and .u64 y 4294967295 = y % 4294967296 := fun y h => u_and32 ⟨h.1, by omega⟩
  have o : ∀ y z : Int, 0 ≤ y ∧ y < 4294967296 → 0 ≤ z ∧ z < 4294967296 → ibin .or .u64 y (ibin .shl .u64 z 32) = z * 4294967296 + y := by
    intro y z hy hz
    have hs : ibin .shl .u64 z 32 = z * 4294967296 := by
      rw [show ibin .shl .u64 z 32 = (z * 2 ^ 32) % 18446744073709551616 from u_shl 32 (by decide), show (2 : Int) ^ 32 = 4294967296 from by decide]
      omega
    have hc : ibin .or .u64 y (ibin .shl .u64 z 32) = ibin .or .u64 (ibin .shl .u64 z 32) y := by
      rw [hs, u_or hy.1 (by omega) (by omega) (by omega), u_or (by omega) (by omega) hy.1 (by omega), Nat.or_comm]
    rw [hc, show ibin .or .u64 (ibin .shl .u64 z 32) y = _ from shl_or 32 (by decide) ⟨hz.1, by omega⟩ (by rw [show (2 : Int) ^ 32 = 4294967296 from by decide]; exact hy) (by omega), show (2 : Int) ^ 32 = 4294967296 from by decide]
    omega
  refine ⟨_, _, _, rfl, rfl, rfl, ?_⟩
  rw [a x0 r0, a x1 r1, a x2 r2, a x3 r3, o _ _ (by omega) (by omega), o _ _ (by omega) (by omega), v4_mk]
  unfold U
  refine ⟨by omega, by omega, by omega, by omega⟩

/-- r by 2^16, without what lies above 252 bits. -/
theorem lowpart {x0 x1 x2 x3 w : Int} (h0 : U x0) (h1 : U x1) (h2 : U x2) (h3 : 0 ≤ x3 ∧ x3 ≤ 1152921504606846976) (hw : 0 ≤ w ∧ w < 65536) : ∃ q y0 y1 y2 y3,
    ibin .shr .u64 x3 44 = q ∧ ibin .or .u64 (ibin .shl .u64 x0 16) w = y0 ∧ ibin .or .u64 (ibin .shl .u64 x1 16) (ibin .shr .u64 x0 48) = y1 ∧ ibin .or .u64 (ibin .shl .u64 x2 16) (ibin .shr .u64 x1 48) = y2 ∧ ibin .and .u64 (ibin .or .u64 (ibin .shl .u64 x3 16) (ibin .shr .u64 x2 48)) 1152921504606846975 = y3 ∧
    0 ≤ q ∧ q ≤ 65536 ∧ U y0 ∧ U y1 ∧ U y2 ∧ U y3 ∧ v4 [y0, y1, y2, y3] + q * 7237005577332262213973186563042994240829374041602535252466099000494570602496 = v4 [x0, x1, x2, x3] * 65536 + w ∧ v4 [y0, y1, y2, y3] < 7237005577332262213973186563042994240829374041602535252466099000494570602496 := by
  have sh44 : ∀ y : Int, ibin .shr .u64 y 44 = y / 17592186044416 := fun y => u_shr 44 (by decide)
  have sh48 : ∀ y : Int, ibin .shr .u64 y 48 = y / 281474976710656 := fun y => u_shr 48 (by decide)
  have o : ∀ x w : Int, U x → 0 ≤ w ∧ w < 65536 → ibin .or .u64 (ibin .shl .u64 x 16) w = x * 65536 % 18446744073709551616 + w := by
    intro x w hx hw
    have := shl_or (x := x) (w := w) 16 (by decide) hx (by rw [show (2 : Int) ^ 16 = 65536 from by decide]; exact hw) (by omega)
    rw [show (2 : Int) ^ 16 = 65536 from by decide] at this
    exact this
  have m : ∀ y : Int, U y → ibin .and .u64 y 1152921504606846975 = y % 1152921504606846976 := by
    intro y hy
    have := and_mask (y := y) 60 (by decide) hy
    rw [show (2 : Int) ^ 60 = 1152921504606846976 from by decide] at this
    exact this
  unfold U at h0 h1 h2
  refine ⟨_, _, _, _, _, rfl, rfl, rfl, rfl, rfl, ?_⟩
  rw [sh44, sh48, sh48, sh48, o x0 w h0 hw, o x1 _ h1 (by omega), o x2 _ h2 (by omega), o x3 _ (by unfold U; omega) (by omega), m _ (by unfold U; omega), v4_mk, v4_mk]
  unfold U
  refine ⟨by omega, by omega, by omega, by omega, by omega, by omega, by omega, by omega⟩

theorem step2_k (N : Nat) (hN : 5 ≤ N) {r : List Int} {w : Int} (hr : U4 r) (hl : v4 r < LL) (hw : 0 ≤ w ∧ w < 65536) : ∃ d, veilref02_step N r w = some d ∧ U4 d ∧ v4 d = (v4 r * 65536 + w) % LL := by
  obtain ⟨x0, x1, x2, x3, rfl, a0, a1, a2, a3⟩ := hr
  have h3 : 0 ≤ x3 ∧ x3 ≤ 1152921504606846976 := by
    rw [v4_mk] at hl
    unfold U at *
    unfold LL at hl
    omega
  obtain ⟨q, y0, y1, y2, y3, e0, e1, e2, e3, e4, q0, q1, u0, u1, u2, u3, hv, hlt⟩ := lowpart a0 a1 a2 h3 hw
  obtain ⟨z0, z1, z2, f0, f1, f2, v0, v1, v2, hz⟩ := pieces ⟨q0, q1⟩
  have hy : U4 [y0, y1, y2, y3] := ⟨_, _, _, _, rfl, u0, u1, u2, u3⟩
  have hzU : U4 [z0, z1, z2, 0] := ⟨_, _, _, _, rfl, v0, v1, v2, ⟨by decide, by decide⟩⟩
  obtain ⟨d, c, k1, k2, k3, k4⟩ := minus2_k N hN hy hzU
  have ry := hy.rng
  have rz := hzU.rng
  have rd := k2.rng
  have g0 : List.getD veilref02_l 0 0 = 6346243789798364141 := rfl
  have g1 : List.getD veilref02_l 1 0 = 1503914060200516822 := rfl
  have fin : ∀ s, U4 s → 0 ≤ v4 s → v4 s < LL → v4 s = v4 [x0, x1, x2, x3] * 65536 + w - q * LL → v4 s = (v4 [x0, x1, x2, x3] * 65536 + w) % LL := by
    intro s _ s0 s1 hs
    rw [show v4 [x0, x1, x2, x3] * 65536 + w = v4 s + q * LL by omega, Int.add_mul_emod_self_right, Int.emod_eq_of_lt s0 s1]
  unfold veilref02_step
  simp only [List.getD_cons_zero, List.getD_cons_succ, g0, g1, e0, e1, e2, e3, e4, f0, f1, f2, k1, mo]
  rcases k3 with rfl | rfl
  · have hb : veilref02_below d veilref02_l = true := (below2_k k2 l2_U).2 (by rw [l2_v]; unfold LL; omega)
    simp only [show icmp .eql 0 1 = false from rfl, cond_false, hb, Bool.not_true]
    refine ⟨d, rfl, k2, fin d k2 rd.1 ?_ ?_⟩
    · unfold LL; omega
    · unfold LL; omega
  · obtain ⟨s, c', j1, j2, j3, j4⟩ := plus2_k N hN k2 l2_U
    rw [l2_v] at j4
    have rs := j2.rng
    have hs : v4 s = v4 [y0, y1, y2, y3] - v4 [z0, z1, z2, 0] + LL := by
      unfold LL at *
      omega
    have hb : veilref02_below s veilref02_l = true := (below2_k j2 l2_U).2 (by rw [l2_v, hs]; unfold LL at *; omega)
    simp only [show icmp .eql 1 1 = true from rfl, cond_true, j1, hb, Bool.not_true, cond_false]
    have e : v4 s = v4 s := rfl
    refine ⟨s, rfl, j2, ?_⟩
    have hlt' : v4 s < LL := by rw [hs]; unfold LL at *; omega
    rw [show v4 [x0, x1, x2, x3] * 65536 + w = v4 s + (q - 1) * LL by rw [hs]; unfold LL at *; omega, Int.add_mul_emod_self_right, Int.emod_eq_of_lt rs.1 hlt']

/-- The number of words, the last one first. -/
def wsum : List Int → Int
  | [] => 0
  | w :: l => w + 65536 * wsum l
theorem wsum_take : (l : List Int) → (j : Nat) → j < l.length → wsum (l.drop j) = List.getD l j 0 + 65536 * wsum (l.drop (j + 1))
  | [], j, h => by simp at h
  | x :: l, 0, _ => by simp [wsum]
  | x :: l, j + 1, h => by
    have := wsum_take l j (by simpa using h)
    simpa using this
theorem words_loop (N : Nat) (hN : 5 ≤ N) {ws : List Int} (hw : ∀ x ∈ ws, 0 ≤ x ∧ x < 65536) (hl : ws.length ≤ 900) : (j : Nat) → j ≤ ws.length → (fuel : Nat) → j < fuel → (r : List Int) → U4 r → v4 r < LL → v4 r = wsum (ws.drop j) % LL →
    ∃ s, loopF (veilref02_words_l0 N) fuel ((ws.length, (), (), (j : Int) - 1), ((ws.length, ws), (), r)) = some (.inl (((), ()), ((), s))) ∧ U4 s ∧ v4 s < LL ∧ v4 s = wsum ws % LL
  | 0, hj, fuel, hf, r, hr, h1, h2 => by
    obtain ⟨f, rfl⟩ : ∃ f, fuel = f + 1 := ⟨fuel - 1, by omega⟩
    have hs : veilref02_words_l0 N ((ws.length, (), (), ((0 : Nat) : Int) - 1), ((ws.length, ws), (), r)) = some (.inr (.inl (((), ()), ((), r)))) := by
      unfold veilref02_words_l0
      have hge : icmp .geq (((0 : Nat) : Int) - 1) 0 = false := by decide
      simp only [hge, cond_false]
    exact ⟨r, loop_out hs f, hr, h1, h2⟩
  | j + 1, hj, fuel, hf, r, hr, h1, h2 => by
    obtain ⟨f, rfl⟩ : ∃ f, fuel = f + 1 := ⟨fuel - 1, by omega⟩
    have h0 : ((j + 1 : Nat) : Int) - 1 = (j : Int) := by omega
    rw [h0]
    have hge : icmp .geq (j : Int) 0 = true := decide_eq_true (by omega : (j : Int) ≥ 0)
    have hlt : j < ws.length := by omega
    have hd : decide (0 ≤ (j : Int) ∧ (j : Int) < ((ws.length : Nat) : Int)) = true := decide_eq_true (by omega)
    have hwj : 0 ≤ List.getD ws j 0 ∧ List.getD ws j 0 < 65536 := by
      rw [List.getD_eq_getElem?_getD, List.getElem?_eq_getElem hlt]
      exact hw _ (List.getElem_mem hlt)
    obtain ⟨d, k1, k2, k3⟩ := step2_k N hN hr h1 hwj
    have hs : veilref02_words_l0 N ((ws.length, (), (), (j : Int)), ((ws.length, ws), (), r)) = some (.inl ((ws.length, (), (), (j : Int) - 1), ((ws.length, ws), (), d))) := by
      unfold veilref02_words_l0
      simp only [hge, hd, cond_true, Int.toNat_natCast, k1, mo, i_dec (j := j) (by omega)]
    have hd1 : v4 d < LL := by rw [k3]; exact Int.emod_lt_of_pos _ (by decide)
    have hd2 : v4 d = wsum (ws.drop j) % LL := by
      rw [k3, h2, wsum_take ws j hlt, Int.add_comm (List.getD ws j 0), Int.mul_comm 65536, Int.add_emod, Int.mul_emod, Int.emod_emod, ← Int.mul_emod, ← Int.add_emod]
    obtain ⟨s, l1, l2⟩ := words_loop N hN hw hl j (by omega) f (by omega) d k2 hd1 hd2
    exact ⟨s, (loop_in hs f).trans l1, l2⟩

theorem split16 {x : Int} (h : U x) : 0 ≤ ibin .and .u64 x 65535 ∧ ibin .and .u64 x 65535 < 65536 ∧ 0 ≤ ibin .and .u64 (ibin .shr .u64 x 16) 65535 ∧ ibin .and .u64 (ibin .shr .u64 x 16) 65535 < 65536 ∧ 0 ≤ ibin .and .u64 (ibin .shr .u64 x 32) 65535 ∧ ibin .and .u64 (ibin .shr .u64 x 32) 65535 < 65536 ∧ 0 ≤ ibin .shr .u64 x 48 ∧ ibin .shr .u64 x 48 < 65536 ∧
    x = ibin .and .u64 x 65535 + 65536 * (ibin .and .u64 (ibin .shr .u64 x 16) 65535 + 65536 * (ibin .and .u64 (ibin .shr .u64 x 32) 65535 + 65536 * ibin .shr .u64 x 48)) := by
  have s16 : ibin .shr .u64 x 16 = x / 65536 := u_shr 16 (by decide)
  have s32 : ibin .shr .u64 x 32 = x / 4294967296 := u_shr 32 (by decide)
  have s48 : ibin .shr .u64 x 48 = x / 281474976710656 := u_shr 48 (by decide)
  have m : ∀ y : Int, U y → ibin .and .u64 y 65535 = y % 65536 := by
    intro y hy
    have := and_mask (y := y) 16 (by decide) hy
    rw [show (2 : Int) ^ 16 = 65536 from by decide] at this
    exact this
  unfold U at h
  rw [s16, s32, s48, m x h, m (x / 65536) (by unfold U; omega), m (x / 4294967296) (by unfold U; omega)]
  omega

/-- The reference's least scalar. -/
theorem least2_k (N : Nat) (hN : 17 ≤ N) {a : List Int} (ha : U4 a) : ∃ r, veilref02_Least N a = some r ∧ Lm r (sc a) := by
  have rng := ha.rng
  obtain ⟨x0, x1, x2, x3, rfl, u0, u1, u2, u3⟩ := ha
  have s0 := split16 u0
  have s1 := split16 u1
  have s2 := split16 u2
  have s3 := split16 u3
  unfold veilref02_Least
  simp only [show decide ((0 + 4) * 8 ≤ 140737488355328 ∧ (0 + 4) ≤ 9223372036854775807) = true from rfl, show decide (((0 + 4) + 4) * 8 ≤ 140737488355328 ∧ ((0 + 4) + 4) ≤ 9223372036854775807) = true from rfl, show decide ((((0 + 4) + 4) + 4) * 8 ≤ 140737488355328 ∧ (((0 + 4) + 4) + 4) ≤ 9223372036854775807) = true from rfl, show decide (((((0 + 4) + 4) + 4) + 4) * 8 ≤ 140737488355328 ∧ ((((0 + 4) + 4) + 4) + 4) ≤ 9223372036854775807) = true from rfl, cond_true, List.getD_cons_zero, List.getD_cons_succ, List.cons_append, List.nil_append]
  generalize ibin .and .u64 x0 65535 = a0 at *
  generalize ibin .and .u64 (ibin .shr .u64 x0 16) 65535 = a1 at *
  generalize ibin .and .u64 (ibin .shr .u64 x0 32) 65535 = a2 at *
  generalize ibin .shr .u64 x0 48 = a3 at *
  generalize ibin .and .u64 x1 65535 = b0 at *
  generalize ibin .and .u64 (ibin .shr .u64 x1 16) 65535 = b1 at *
  generalize ibin .and .u64 (ibin .shr .u64 x1 32) 65535 = b2 at *
  generalize ibin .shr .u64 x1 48 = b3 at *
  generalize ibin .and .u64 x2 65535 = c0 at *
  generalize ibin .and .u64 (ibin .shr .u64 x2 16) 65535 = c1 at *
  generalize ibin .and .u64 (ibin .shr .u64 x2 32) 65535 = c2 at *
  generalize ibin .shr .u64 x2 48 = c3 at *
  generalize ibin .and .u64 x3 65535 = d0 at *
  generalize ibin .and .u64 (ibin .shr .u64 x3 16) 65535 = d1 at *
  generalize ibin .and .u64 (ibin .shr .u64 x3 32) 65535 = d2 at *
  generalize ibin .shr .u64 x3 48 = d3 at *
  obtain ⟨s, l1, l2, l3, l4⟩ := words_loop N (by omega) (ws := [a0, a1, a2, a3, b0, b1, b2, b3, c0, c1, c2, c3, d0, d1, d2, d3]) (by
    intro x hx
    simp only [List.mem_cons, List.not_mem_nil, or_false] at hx
    rcases hx with rfl | rfl | rfl | rfl | rfl | rfl | rfl | rfl | rfl | rfl | rfl | rfl | rfl | rfl | rfl | rfl <;> omega) (by simp) 16 (Nat.le_refl _) N (by omega) [0, 0, 0, 0] lm_zero.u (by decide) (by rfl)
  have hv : wsum [a0, a1, a2, a3, b0, b1, b2, b3, c0, c1, c2, c3, d0, d1, d2, d3] = v4 [x0, x1, x2, x3] := by
    rw [v4_mk]
    simp only [wsum]
    omega
  rw [hv] at l4
  have l1' : loopF (veilref02_words_l0 N) N ((16, (), (), ibin .sub .i64 ((16 : Nat) : Int) 1), ((16, [a0, a1, a2, a3, b0, b1, b2, b3, c0, c1, c2, c3, d0, d1, d2, d3]), (), [0, 0, 0, 0])) = some (.inl (((), ()), ((), s))) := l1
  refine ⟨s, ?_, l2, ?_, sc_lt _⟩
  · unfold veilref02_words
    show mo (mo (loopF (veilref02_words_l0 N) N ((16, (), (), ibin .sub .i64 ((16 : Nat) : Int) 1), ((16, [a0, a1, a2, a3, b0, b1, b2, b3, c0, c1, c2, c3, d0, d1, d2, d3]), (), [0, 0, 0, 0]))) none _) none _ = _
    rw [l1']
    rfl
  · rw [l4]
    show _ = (((v4 [x0, x1, x2, x3]).toNat % ordl : Nat) : Int)
    rw [Int.natCast_emod, Int.toNat_of_nonneg rng.1]
    rfl

theorem enc2_loop (N f : Nat) (x0 x1 x2 x3 : Int) : loopF (veilref02_Scalar_Encode_l0 N) (f + 33) (((), (), (), 0), ([x0, x1, x2, x3], (), [0, 0, 0, 0, 0, 0, 0, 0, 0, 0, 0, 0, 0, 0, 0, 0, 0, 0, 0, 0, 0, 0, 0, 0, 0, 0, 0, 0, 0, 0, 0, 0])) = some (.inl (((), ()), ((), enc4 x0 x1 x2 x3))) := by kernel_rfl
theorem encode2_k (N : Nat) (hN : 33 ≤ N) {a : List Int} {n : Nat} (ha : Lm a n) : ∃ b, veilref02_Scalar_Encode N a = some b ∧ L32 b ∧ numB b = n := by
  obtain ⟨⟨x0, x1, x2, x3, rfl, u0, u1, u2, u3⟩, hv, hlt⟩ := ha
  obtain ⟨f, rfl⟩ : ∃ f, N = f + 33 := ⟨N - 33, by omega⟩
  obtain ⟨e1, e2⟩ := enc4_ok u0 u1 u2 u3
  refine ⟨enc4 x0 x1 x2 x3, ?_, e1, ?_⟩
  · unfold veilref02_Scalar_Encode
    simp only [enc2_loop, mo]
  · omega

end Go.Vx

/- WireEncodes: the plain law. -/
set_option autoImplicit false
set_option linter.unusedVariables false
set_option linter.unusedSimpArgs false
namespace Go.Vx
open Go

namespace En
theorem beqS (a : ByteArray) : (a == a) = true := by
  show (a.data == a.data) = true
  exact beq_self_eq_true _

/-- The bytes of a scalar, as the program has them. -/
def eB (N : Nat) (x : List Int) : List Int := (scalar_Scalar_Encode N x).getD []
/-- Its least limbs, as the reference has them. -/
def lS (N : Nat) (x : List Int) : List Int := (veilref02_Least N x).getD []

theorem enc {N : Nat} (hN : 33 ≤ N) {x : List Int} (hx : U4 x) : scalar_Scalar_Encode N x = some (eB N x) ∧ veilref02_Least N x = some (lS N x) ∧ veilref02_Scalar_Encode N (lS N x) = some (eB N x) ∧ (eB N x).length = 32 := by
  obtain ⟨b, h1, h2, h3⟩ := encode_k N hN hx
  obtain ⟨r, g1, g2⟩ := least2_k N (by omega) hx
  obtain ⟨c, k1, k2, k3⟩ := encode2_k N hN g2
  have e1 : eB N x = b := by unfold eB; rw [h1]; rfl
  have e2 : lS N x = r := by unfold lS; rw [g1]; rfl
  have e3 : c = b := k2.inj h2 (by rw [k3, h3])
  rw [e1, e2, k1, e3]
  exact ⟨h1, g1, rfl, h2.1⟩

theorem tk {r : List Int} (h : r.length = 32) : List.take 32 (List.drop 0 r) = r := by
  rw [List.drop_zero, List.take_of_length_le (by omega)]

theorem okk {k m : Nat} (h : k ≤ 100000000) (hm : m ≤ 1000) : decide (k * m ≤ 140737488355328 ∧ k ≤ 9223372036854775807) = true := by
  have : k * m ≤ 100000000 * 1000 := Nat.mul_le_mul h hm
  exact decide_eq_true (by omega)
theorem ok1 {k : Nat} (h : k ≤ 100000000) : decide (k * 1 ≤ 140737488355328 ∧ k ≤ 9223372036854775807) = true := okk h (by decide)
theorem inc {i : Nat} (h : i < 100000000) : ibin .add .i64 (i : Int) 1 = ((i + 1 : Nat) : Int) := by rw [Ref.i_add (by omega) (by omega)]; omega
theorem lt_t {i n : Nat} (h : i < n) : icmp .lss ((i : Nat) : Int) ((n : Nat) : Int) = true := decide_eq_true (by omega)
theorem lt_f {n : Nat} : icmp .lss ((n : Nat) : Int) ((n : Nat) : Int) = false := decide_eq_false (by omega)
theorem ix {i n : Nat} (h : i < n) : decide ((0 : Int) ≤ ((i : Nat) : Int) ∧ ((i : Nat) : Int) < ((n : Nat) : Int)) = true := decide_eq_true (by omega)
theorem getD_lt {α : Type} {l : List α} {i : Nat} (h : i < l.length) (d : α) : List.getD l i d = l[i] := by
  rw [List.getD_eq_getElem?_getD, List.getElem?_eq_getElem h]; rfl
theorem take_succ {α : Type} {l : List α} {i : Nat} (h : i < l.length) : l.take (i + 1) = l.take i ++ [l[i]] := by
  rw [List.take_add_one, List.getElem?_eq_getElem h]; rfl

/- The two copies. -/
theorem lines_loop (N : Nat) (L : List (List Int)) (hL : L.length ≤ 2000000) : (k i : Nat) → i + k = L.length → (f : Nat) → k < f →
    loopF (veillaw10_lines_l0 N) f ((L.length, (), i, (i : Int)), (L, L.take i)) = some (.inl (L.length, L))
  | 0, i, hi, f, hf => by
    obtain ⟨f, rfl⟩ : ∃ g, f = g + 1 := ⟨f - 1, by omega⟩
    obtain rfl : i = L.length := by omega
    refine loop_out ?_ f
    unfold veillaw10_lines_l0
    simp only [lt_f, cond_false, List.take_length]
  | k + 1, i, hi, f, hf => by
    obtain ⟨f, rfl⟩ : ∃ g, f = g + 1 := ⟨f - 1, by omega⟩
    have hlt : i < L.length := by omega
    refine (loop_in (w := ((L.length, (), i + 1, ((i + 1 : Nat) : Int)), (L, L.take (i + 1)))) ?_ f).trans (lines_loop N L hL k (i + 1) (by omega) f (by omega))
    have hl : (L.take i ++ [List.getD L i [0, 0, 0, 0]]).length = i + 1 := by simp; omega
    unfold veillaw10_lines_l0
    simp only [lt_t hlt, ix hlt, cond_true, Int.toNat_natCast, hl, okk (k := i + 1) (m := 32) (by omega) (by decide), inc (i := i) (by omega)]
    rw [getD_lt hlt, ← take_succ hlt]
theorem lines_k (N : Nat) (L : List (List Int)) (hL : L.length ≤ 2000000) (hN : L.length < N) : veillaw10_lines N (L, ()) = some (L, ()) := by
  unfold veillaw10_lines
  have := lines_loop N L hL L.length 0 (by omega) N hN
  rw [List.take_zero] at this
  simp only
  rw [show ((0 : Int)) = ((0 : Nat) : Int) from rfl, this]
  rfl

/-- The bytes of the first lines. -/
def acc (N : Nat) (L R : List (List Int)) : Nat → List Int
  | 0 => []
  | i + 1 => acc N L R i ++ (eB N (List.getD L i [0, 0, 0, 0]) ++ eB N (List.getD R i [0, 0, 0, 0]))
abbrev PF : Type := List Int × List Int × List Int × List Int × List Int × List Int × List Int × Nat × Nat × List Int × List Int

theorem enc_loop1 (N : Nat) (hN : 33 ≤ N) (L R : List (List Int)) (hL : ∀ x ∈ L, U4 x) (hR : ∀ x ∈ R, U4 x) (hLR : L.length = R.length) (h10 : L.length ≤ 10) (p : PF) (hp : p.2.2.2.2.2.2.2.2.1 = R.length) (out : List Int) (ho : out.length = 224) : (k i : Nat) → i + k = L.length → (f : Nat) → k < f →
    loopF (wire_EncodeProof_of_msm_Line_l4 N) f (((), (), (), (), (), L.length, ((L.length : Nat) : Int), (i : Int)), (L, R, p, 224 + 64 * i, (224 + 64 * i, out ++ acc N L R i))) = some (.inl (((), (), ()), (L, R, p, 224 + 64 * L.length, (224 + 64 * L.length, out ++ acc N L R L.length))))
  | 0, i, hi, f, hf => by
    obtain ⟨f, rfl⟩ : ∃ g, f = g + 1 := ⟨f - 1, by omega⟩
    obtain rfl : i = L.length := by omega
    refine loop_out ?_ f
    unfold wire_EncodeProof_of_msm_Line_l4
    simp only [lt_f, cond_false]
  | k + 1, i, hi, f, hf => by
    obtain ⟨f, rfl⟩ : ∃ g, f = g + 1 := ⟨f - 1, by omega⟩
    have hlt : i < L.length := by omega
    have hlr : i < R.length := by omega
    refine (loop_in (w := (((), (), (), (), (), L.length, ((L.length : Nat) : Int), ((i + 1 : Nat) : Int)), (L, R, p, 224 + 64 * (i + 1), (224 + 64 * (i + 1), out ++ acc N L R (i + 1))))) ?_ f).trans (enc_loop1 N hN L R hL hR hLR h10 p hp out ho k (i + 1) (by omega) f (by omega))
    obtain ⟨hl, -, -, ll⟩ := enc hN (hL _ (List.getElem_mem hlt))
    obtain ⟨hr, -, -, lr⟩ := enc hN (hR _ (List.getElem_mem hlr))
    obtain ⟨p1, p2, p3, p4, p5, p6, p7, p8, p9, p10, p11⟩ := p
    simp only at hp
    subst hp
    unfold wire_EncodeProof_of_msm_Line_l4
    simp only [lt_t hlt, ix hlt, cond_true, Int.toNat_natCast, getD_lt hlt, getD_lt hlr, hl, hr, mo, ix hlr, tk ll, tk lr, ok1 (k := 224 + 64 * i + 32) (by omega), ok1 (k := 224 + 64 * i + 32 + 32) (by omega), inc (i := i) (by omega), acc, List.append_assoc]
    rfl

/-- The program's bytes of a proof. -/
def bytesOf (N : Nat) (s0 s1 s2 s3 t0 t1 t2 a b : List Int) (L R : List (List Int)) : List Int :=
  ((((((((eB N s0 ++ eB N s1) ++ eB N s2) ++ eB N s3) ++ eB N t0) ++ eB N t1) ++ eB N t2) ++ acc N L R L.length) ++ eB N a) ++ eB N b

theorem encode_p (N : Nat) (hN : 33 ≤ N) {s0 s1 s2 s3 t0 t1 t2 a b : List Int} {L R : List (List Int)} (h0 : U4 s0) (h1 : U4 s1) (h2 : U4 s2) (h3 : U4 s3) (g0 : U4 t0) (g1 : U4 t1) (g2 : U4 t2) (ha : U4 a) (hb : U4 b) (hL : ∀ x ∈ L, U4 x) (hR : ∀ x ∈ R, U4 x) :
    wire_EncodeProof_of_msm_Line N (s0, s1, s2, s3, t0, t1, t2, L.length, R.length, a, b) (L, R) () =
      if L.length = R.length ∧ L.length ≤ 10 then some ((288 + 64 * L.length, 0), (288 + 64 * L.length, bytesOf N s0 s1 s2 s3 t0 t1 t2 a b L R)) else some ((0, 2), (0, [])) := by
  unfold wire_EncodeProof_of_msm_Line
  by_cases hLR : L.length = R.length
  · have e1 : icmp .neq ((L.length : Nat) : Int) ((R.length : Nat) : Int) = false := by simp [icmp, hLR]
    simp only [e1, cond_false]
    by_cases h10 : L.length ≤ 10
    · have e2 : icmp .gtr ((L.length : Nat) : Int) 10 = false := decide_eq_false (by omega)
      obtain ⟨f0, -, -, l0⟩ := enc hN h0
      obtain ⟨f1, -, -, l1⟩ := enc hN h1
      obtain ⟨f2, -, -, l2⟩ := enc hN h2
      obtain ⟨f3, -, -, l3⟩ := enc hN h3
      obtain ⟨f4, -, -, l4⟩ := enc hN g0
      obtain ⟨f5, -, -, l5⟩ := enc hN g1
      obtain ⟨f6, -, -, l6⟩ := enc hN g2
      obtain ⟨f7, -, -, l7⟩ := enc hN ha
      obtain ⟨f8, -, -, l8⟩ := enc hN hb
      have lp := enc_loop1 N hN L R hL hR hLR h10 (s0, s1, s2, s3, t0, t1, t2, L.length, R.length, a, b) rfl ((((((eB N s0 ++ eB N s1) ++ eB N s2) ++ eB N s3) ++ eB N t0) ++ eB N t1) ++ eB N t2) (by simp only [List.length_append, l0, l1, l2, l3, l4, l5, l6]) L.length 0 (by omega) N (by omega)
      simp only [acc, List.append_nil, Nat.mul_zero, Nat.add_zero] at lp
      rw [if_pos ⟨hLR, h10⟩]
      simp only [e2, cond_false, f0, f1, f2, f3, f4, f5, f6, f7, f8, mo, tk l0, tk l1, tk l2, tk l3, tk l4, tk l5, tk l6, tk l7, tk l8, ok1 (k := 0 + 32) (by decide), ok1 (k := 0 + 32 + 32) (by decide), ok1 (k := 0 + 32 + 32 + 32) (by decide), ok1 (k := 0 + 32 + 32 + 32 + 32) (by decide), ok1 (k := 0 + 32 + 32 + 32 + 32 + 32) (by decide), ok1 (k := 0 + 32 + 32 + 32 + 32 + 32 + 32) (by decide), ok1 (k := 0 + 32 + 32 + 32 + 32 + 32 + 32 + 32) (by decide), cond_true]
      rw [show (0 + 32 + 32 + 32 + 32 + 32 + 32 + 32) = 224 from rfl, show ((0 : Int)) = ((0 : Nat) : Int) from rfl, lp]
      simp only [f7, f8, mo, tk l7, tk l8, ok1 (k := 224 + 64 * L.length + 32) (by omega), ok1 (k := 224 + 64 * L.length + 32 + 32) (by omega), cond_true]
      rw [show 224 + 64 * L.length + 32 + 32 = 288 + 64 * L.length by omega]
      rfl
    · have e2 : icmp .gtr ((L.length : Nat) : Int) 10 = true := decide_eq_true (by omega)
      rw [if_neg (fun h => h10 h.2)]
      simp only [e2, cond_true]
  · have e1 : icmp .neq ((L.length : Nat) : Int) ((R.length : Nat) : Int) = true := by
      simp only [icmp, bne_iff_ne, ne_eq, Int.natCast_inj]; exact hLR
    rw [if_neg (fun h => hLR h.1)]
    simp only [e1, cond_true]

/- The reference's bytes. -/
abbrev LT : Type := Int × (List Int × List Int) × List Int × List (List Int)
abbrev z10 : List Int := [0, 0, 0, 0, 0, 0, 0, 0, 0, 0]
/-- A line over the least limbs. -/
def ln (r : List Int) : LT := (2, (z10, z10), r, [])
def lr (N : Nat) (L R : List (List Int)) : Nat → List LT
  | 0 => []
  | i + 1 => lr N L R i ++ [ln (lS N (List.getD L i [0, 0, 0, 0])), ln (lS N (List.getD R i [0, 0, 0, 0]))]
theorem lr_len (N : Nat) (L R : List (List Int)) : (i : Nat) → (lr N L R i).length = 2 * i
  | 0 => rfl
  | i + 1 => by simp only [lr, List.length_append, lr_len N L R i, List.length_cons, List.length_nil]; omega
/-- The bytes of lines. -/
def encs (N : Nat) : List LT → List Int
  | [] => []
  | x :: l => (veilref02_Scalar_Encode N x.2.2.1).getD [] ++ encs N l
theorem encs_app (N : Nat) : (a b : List LT) → encs N (a ++ b) = encs N a ++ encs N b
  | [], b => rfl
  | x :: a, b => by simp only [List.cons_append, encs, encs_app N a b, List.append_assoc]
theorem encs_lr {N : Nat} (hN : 33 ≤ N) {L R : List (List Int)} (hL : ∀ x ∈ L, U4 x) (hR : ∀ x ∈ R, U4 x) : (i : Nat) → i ≤ L.length → i ≤ R.length → encs N (lr N L R i) = acc N L R i
  | 0, _, _ => rfl
  | i + 1, h1, h2 => by
    obtain ⟨-, -, hl, -⟩ := enc hN (hL _ (List.getElem_mem (show i < L.length by omega)))
    obtain ⟨-, -, hr, -⟩ := enc hN (hR _ (List.getElem_mem (show i < R.length by omega)))
    simp only [lr, encs_app, encs_lr hN hL hR i (by omega) (by omega), acc, encs, ln, getD_lt (show i < L.length by omega), getD_lt (show i < R.length by omega), hl, hr, Option.getD_some, List.append_nil]
/-- Lines that have bytes. -/
def Good (N : Nat) (x : LT) : Prop := x.1 = 2 ∧ ∃ b, veilref02_Scalar_Encode N x.2.2.1 = some b ∧ b.length = 32
theorem good_lr {N : Nat} (hN : 33 ≤ N) {L R : List (List Int)} (hL : ∀ x ∈ L, U4 x) (hR : ∀ x ∈ R, U4 x) : (i : Nat) → i ≤ L.length → i ≤ R.length → ∀ x ∈ lr N L R i, Good N x
  | 0, _, _, x, hx => by simp [lr] at hx
  | i + 1, h1, h2, x, hx => by
    obtain ⟨-, -, hl, el⟩ := enc hN (hL _ (List.getElem_mem (show i < L.length by omega)))
    obtain ⟨-, -, hr, er⟩ := enc hN (hR _ (List.getElem_mem (show i < R.length by omega)))
    simp only [lr, List.mem_append, List.mem_cons, List.not_mem_nil, or_false, getD_lt (show i < L.length by omega), getD_lt (show i < R.length by omega)] at hx
    rcases hx with h | rfl | rfl
    · exact good_lr hN hL hR i (by omega) (by omega) x h
    · exact ⟨rfl, _, hl, el⟩
    · exact ⟨rfl, _, hr, er⟩

abbrev PR : Type := (LT × LT × LT × LT) × (List Int × List Int × List Int) × List LT × (List Int × List Int)

theorem enc_loop2 (N : Nat) (T : List LT) (hT : ∀ x ∈ T, Good N x) (h20 : T.length ≤ 20) (p : PR) (hp : p.2.2.1 = T) : (k i : Nat) → i + k = T.length → (f : Nat) → k < f → (n : Nat) → n ≤ 10000 - 32 * k → (out : List Int) →
    loopF (veilref10_EncodeProof_l4 N) f (((), (), n, (i : Int)), ((n, out), p)) = some (.inl (((), n + 32 * k), ((n + 32 * k, out ++ encs N (T.drop i)), p)))
  | 0, i, hi, f, hf, n, hn, out => by
    obtain ⟨f, rfl⟩ : ∃ g, f = g + 1 := ⟨f - 1, by omega⟩
    obtain rfl : i = T.length := by omega
    obtain ⟨⟨⟨q1, ⟨q2, q3⟩, q4, q5⟩, ⟨r1, ⟨r2, r3⟩, r4, r5⟩, ⟨s1, ⟨s2, s3⟩, s4, s5⟩, ⟨t1, ⟨t2, t3⟩, t4, t5⟩⟩, ⟨u1, u2, u3⟩, v, ⟨w1, w2⟩⟩ := p
    simp only at hp
    subst hp
    refine loop_out ?_ f
    unfold veilref10_EncodeProof_l4
    simp only [lt_f, cond_false, List.drop_length, encs, List.append_nil, Nat.mul_zero, Nat.add_zero]
  | k + 1, i, hi, f, hf, n, hn, out => by
    obtain ⟨f, rfl⟩ : ∃ g, f = g + 1 := ⟨f - 1, by omega⟩
    have hlt : i < T.length := by omega
    obtain ⟨g1, b, g2, g3⟩ := hT _ (List.getElem_mem hlt)
    have hd : T.drop i = T[i] :: T.drop (i + 1) := List.drop_eq_getElem_cons hlt
    have go := enc_loop2 N T hT h20 p hp k (i + 1) (by omega) f (by omega) (n + 32) (by omega) (out ++ b)
    rw [hd]
    simp only [encs, g2, Option.getD_some]
    rw [← List.append_assoc, show n + 32 * (k + 1) = n + 32 + 32 * k by omega, ← go]
    refine loop_in ?_ f
    obtain ⟨⟨⟨q1, ⟨q2, q3⟩, q4, q5⟩, ⟨r1, ⟨r2, r3⟩, r4, r5⟩, ⟨s1, ⟨s2, s3⟩, s4, s5⟩, ⟨t1, ⟨t2, t3⟩, t4, t5⟩⟩, ⟨u1, u2, u3⟩, v, ⟨w1, w2⟩⟩ := p
    simp only at hp
    subst hp
    unfold veilref10_EncodeProof_l4
    simp only [lt_t hlt, ix hlt, cond_true, Int.toNat_natCast, getD_lt hlt, g1, show icmp .eql 2 1 = false from rfl, show icmp .eql 2 2 = true from rfl, cond_false, g2, mo, tk g3, ok1 (k := n + 32) (by omega), inc (i := i) (by omega)]

theorem encode_r (N : Nat) (hN : 33 ≤ N) {s0 s1 s2 s3 t0 t1 t2 a b : List Int} {L R : List (List Int)} (h0 : U4 s0) (h1 : U4 s1) (h2 : U4 s2) (h3 : U4 s3) (g0 : U4 t0) (g1 : U4 t1) (g2 : U4 t2) (ha : U4 a) (hb : U4 b) (hL : ∀ x ∈ L, U4 x) (hR : ∀ x ∈ R, U4 x) (hLR : L.length = R.length) (h10 : L.length ≤ 10) :
    veilref10_EncodeProof N ((ln (lS N s0), ln (lS N s1), ln (lS N s2), ln (lS N s3)), (lS N t0, lS N t1, lS N t2), lr N L R L.length, (lS N a, lS N b)) () () = some (288 + 64 * L.length, (288 + 64 * L.length, bytesOf N s0 s1 s2 s3 t0 t1 t2 a b L R)) := by
  obtain ⟨-, -, f0, l0⟩ := enc hN h0
  obtain ⟨-, -, f1, l1⟩ := enc hN h1
  obtain ⟨-, -, f2, l2⟩ := enc hN h2
  obtain ⟨-, -, f3, l3⟩ := enc hN h3
  obtain ⟨-, -, f4, l4⟩ := enc hN g0
  obtain ⟨-, -, f5, l5⟩ := enc hN g1
  obtain ⟨-, -, f6, l6⟩ := enc hN g2
  obtain ⟨-, -, f7, l7⟩ := enc hN ha
  obtain ⟨-, -, f8, l8⟩ := enc hN hb
  have hlen := lr_len N L R L.length
  have lp := enc_loop2 N (lr N L R L.length) (good_lr hN hL hR _ (Nat.le_refl _) (by omega)) (by omega) ((ln (lS N s0), ln (lS N s1), ln (lS N s2), ln (lS N s3)), (lS N t0, lS N t1, lS N t2), lr N L R L.length, (lS N a, lS N b)) rfl (2 * L.length) 0 (by omega) N (by omega) 224 (by omega)
    ((((((eB N s0 ++ eB N s1) ++ eB N s2) ++ eB N s3) ++ eB N t0) ++ eB N t1) ++ eB N t2)
  rw [List.drop_zero, encs_lr hN hL hR _ (Nat.le_refl _) (by omega)] at lp
  unfold veilref10_EncodeProof
  simp only [ln] at lp ⊢
  simp only [show icmp .eql 2 1 = false from rfl, show icmp .eql 2 2 = true from rfl, cond_false, cond_true, f0, f1, f2, f3, f4, f5, f6, mo, tk l0, tk l1, tk l2, tk l3, tk l4, tk l5, tk l6, ok1 (k := 0 + 32) (by decide), ok1 (k := 0 + 32 + 32) (by decide), ok1 (k := 0 + 32 + 32 + 32) (by decide), ok1 (k := 0 + 32 + 32 + 32 + 32) (by decide), ok1 (k := 0 + 32 + 32 + 32 + 32 + 32) (by decide), ok1 (k := 0 + 32 + 32 + 32 + 32 + 32 + 32) (by decide), ok1 (k := 0 + 32 + 32 + 32 + 32 + 32 + 32 + 32) (by decide)]
  rw [show (0 + 32 + 32 + 32 + 32 + 32 + 32 + 32) = 224 from rfl, show ((0 : Int)) = ((0 : Nat) : Int) from rfl, lp]
  simp only [f7, f8, mo, tk l7, tk l8, ok1 (k := 224 + 32 * (2 * L.length) + 32) (by omega), ok1 (k := 224 + 32 * (2 * L.length) + 32 + 32) (by omega), cond_true]
  rw [show 224 + 32 * (2 * L.length) + 32 + 32 = 288 + 64 * L.length by omega]
  rfl

abbrev WP : Type := (List Int × List Int × List Int × List Int) × List Int × List Int × List Int × List (List Int) × List (List Int) × List Int × List Int
abbrev LU : Type := Int × (List Int × List Int) × List Int × Unit
abbrev QR : Type := (LU × LU × LU × LU) × (List Int × List Int × List Int) × (List Int × List Int)

theorem bytes_loop (N : Nat) (hN : 33 ≤ N) (w : WP) (hL : ∀ x ∈ w.2.2.2.2.1, U4 x) (hR : ∀ x ∈ w.2.2.2.2.2.1, U4 x) (hLR : w.2.2.2.2.1.length = w.2.2.2.2.2.1.length) (h10 : w.2.2.2.2.1.length ≤ 10) (q : QR) : (k i : Nat) → i + k = w.2.2.2.2.1.length → (f : Nat) → k < f →
    loopF (veillaw10_WireProof_bytes_l2 N) f (((), (), (), (i : Int)), ((), w, (q.1, q.2.1, lr N w.2.2.2.2.1 w.2.2.2.2.2.1 i, q.2.2))) = some (.inl (((), ()), ((), w, (q.1, q.2.1, lr N w.2.2.2.2.1 w.2.2.2.2.2.1 w.2.2.2.2.1.length, q.2.2))))
  | 0, i, hi, f, hf => by
    obtain ⟨f, rfl⟩ : ∃ g, f = g + 1 := ⟨f - 1, by omega⟩
    obtain rfl : i = w.2.2.2.2.1.length := by omega
    obtain ⟨⟨s0, s1, s2, s3⟩, t0, t1, t2, L, R, a, b⟩ := w
    obtain ⟨⟨⟨q1, ⟨q2, q3⟩, q4, ⟨⟩⟩, ⟨r1, ⟨r2, r3⟩, r4, ⟨⟩⟩, ⟨s1', ⟨s2', s3'⟩, s4', ⟨⟩⟩, ⟨t1', ⟨t2', t3'⟩, t4', ⟨⟩⟩⟩, ⟨u1, u2, u3⟩, ⟨w1, w2⟩⟩ := q
    refine loop_out ?_ f
    unfold veillaw10_WireProof_bytes_l2
    simp only [lt_f, cond_false]
  | k + 1, i, hi, f, hf => by
    obtain ⟨f, rfl⟩ : ∃ g, f = g + 1 := ⟨f - 1, by omega⟩
    refine (loop_in (w := (((), (), (), ((i + 1 : Nat) : Int)), ((), w, (q.1, q.2.1, lr N w.2.2.2.2.1 w.2.2.2.2.2.1 (i + 1), q.2.2)))) ?_ f).trans (bytes_loop N hN w hL hR hLR h10 q k (i + 1) (by omega) f (by omega))
    obtain ⟨⟨s0, s1, s2, s3⟩, t0, t1, t2, L, R, a, b⟩ := w
    obtain ⟨⟨⟨q1, ⟨q2, q3⟩, q4, ⟨⟩⟩, ⟨r1, ⟨r2, r3⟩, r4, ⟨⟩⟩, ⟨s1', ⟨s2', s3'⟩, s4', ⟨⟩⟩, ⟨t1', ⟨t2', t3'⟩, t4', ⟨⟩⟩⟩, ⟨u1, u2, u3⟩, ⟨w1, w2⟩⟩ := q
    simp only at hL hR hLR h10 hi
    have hlt : i < L.length := by omega
    have hlr : i < R.length := by omega
    obtain ⟨-, hl, -, -⟩ := enc hN (hL _ (List.getElem_mem hlt))
    obtain ⟨-, hr, -, -⟩ := enc hN (hR _ (List.getElem_mem hlr))
    have hlen : (lr N L R i ++ [ln (lS N L[i]), ln (lS N R[i])]).length = 2 * i + 2 := by simp [lr_len]
    simp only [ln] at hlen
    unfold veillaw10_WireProof_bytes_l2
    simp only [lt_t hlt, lt_t hlr, ix hlt, ix hlr, cond_true, Int.toNat_natCast, getD_lt hlt, getD_lt hlr, hl, hr, mo, veilref07_LineOf, hlen, okk (k := 2 * i + 2) (m := 224) (by omega) (by decide), inc (i := i) (by omega), lr, ln]

theorem bytes_k (N : Nat) (hN : 33 ≤ N) {s0 s1 s2 s3 t0 t1 t2 a b : List Int} {L R : List (List Int)} (h0 : U4 s0) (h1 : U4 s1) (h2 : U4 s2) (h3 : U4 s3) (g0 : U4 t0) (g1 : U4 t1) (g2 : U4 t2) (ha : U4 a) (hb : U4 b) (hL : ∀ x ∈ L, U4 x) (hR : ∀ x ∈ R, U4 x) (hLR : L.length = R.length) (h10 : L.length ≤ 10) :
    veillaw10_WireProof_bytes N ((s0, s1, s2, s3), t0, t1, t2, L, R, a, b) () () = some (288 + 64 * L.length, (288 + 64 * L.length, bytesOf N s0 s1 s2 s3 t0 t1 t2 a b L R)) := by
  obtain ⟨-, f0, -, -⟩ := enc hN h0
  obtain ⟨-, f1, -, -⟩ := enc hN h1
  obtain ⟨-, f2, -, -⟩ := enc hN h2
  obtain ⟨-, f3, -, -⟩ := enc hN h3
  obtain ⟨-, f4, -, -⟩ := enc hN g0
  obtain ⟨-, f5, -, -⟩ := enc hN g1
  obtain ⟨-, f6, -, -⟩ := enc hN g2
  obtain ⟨-, f7, -, -⟩ := enc hN ha
  obtain ⟨-, f8, -, -⟩ := enc hN hb
  have er := encode_r N hN h0 h1 h2 h3 g0 g1 g2 ha hb hL hR hLR h10
  have lp := bytes_loop N hN ((s0, s1, s2, s3), t0, t1, t2, L, R, a, b) hL hR hLR h10 (((2, (z10, z10), lS N s0, ()), (2, (z10, z10), lS N s1, ()), (2, (z10, z10), lS N s2, ()), (2, (z10, z10), lS N s3, ())), (lS N t0, lS N t1, lS N t2), ([0, 0, 0, 0], [0, 0, 0, 0])) L.length 0 (by simp) N (by omega)
  simp only [lr, Int.natCast_zero] at lp
  unfold veillaw10_WireProof_bytes
  simp only [f0, f1, f2, f3, f4, f5, f6, mo, veilref07_LineOf]
  rw [lp]
  simp only [f7, f8, mo]
  simp only [ln] at er
  rw [er]

/-- The other copy is changed as it pleases. -/
theorem change_loop (N : Nat) (n : Nat) (e : Int) (b : Nat × List Int) (w : WP) (m : Nat) (hm : m ≤ 100000) : (k i : Nat) → i + k = m → (f : Nat) → k < f → (d : List Int) →
    ∃ d', loopF (veillaw10_WireEncodes_l0 N) f (((), (), n, e, m, (i : Int)), (b, (m, d), w)) = some (.inl (((), n, e, m), (b, (m, d'), w)))
  | 0, i, hi, f, hf, d => by
    obtain ⟨f, rfl⟩ : ∃ g, f = g + 1 := ⟨f - 1, by omega⟩
    obtain rfl : i = m := by omega
    refine ⟨d, loop_out ?_ f⟩
    unfold veillaw10_WireEncodes_l0
    simp only [lt_f, cond_false]
  | k + 1, i, hi, f, hf, d => by
    obtain ⟨f, rfl⟩ : ∃ g, f = g + 1 := ⟨f - 1, by omega⟩
    have hlt : i < m := by omega
    obtain ⟨d', h⟩ := change_loop N n e b w m hm k (i + 1) (by omega) f (by omega) (List.set d i (ibin .add .u8 (List.getD d i 0) 1))
    refine ⟨d', (loop_in ?_ f).trans h⟩
    unfold veillaw10_WireEncodes_l0
    simp only [lt_t hlt, ix hlt, cond_true, Int.toNat_natCast, inc (i := i) (by omega)]

/-- Grown by one, so many times. -/
def grow {γ : Type} : Nat → Nat → Option γ → Option γ
  | 0, _, k => k
  | j + 1, n, k => cond (decide ((n + 1) * 1 ≤ 140737488355328 ∧ (n + 1) ≤ 9223372036854775807)) (grow j (n + 1) k) none
theorem grow_ok {γ : Type} : (j n : Nat) → n + j ≤ 100000000 → (k : Option γ) → grow j n k = k
  | 0, _, _, _ => rfl
  | j + 1, n, h, k => by
    unfold grow
    rw [ok1 (by omega), cond_true]
    exact grow_ok j (n + 1) (by omega) k
set_option maxRecDepth 100000 in
theorem encodes_form (N : Nat) (a : WP) : veillaw10_WireEncodes N a () () =
  let x1 := (veillaw10_WireProof_line N ((a.1.1, a.1.2.1, a.1.2.2.1, a.1.2.2.2), a.2.1, a.2.2.1, a.2.2.2.1, a.2.2.2.2.1, a.2.2.2.2.2.1, a.2.2.2.2.2.2.1, a.2.2.2.2.2.2.2) () ())
  mo x1 none fun r1 =>
  mo (wire_EncodeProof_of_msm_Line N (r1.1.1, r1.1.2.1, r1.1.2.2.1, r1.1.2.2.2.1, r1.1.2.2.2.2.1, r1.1.2.2.2.2.2.1, r1.1.2.2.2.2.2.2.1, r1.1.2.2.2.2.2.2.2.1, r1.1.2.2.2.2.2.2.2.2.1, r1.1.2.2.2.2.2.2.2.2.2.1, r1.1.2.2.2.2.2.2.2.2.2.2) (r1.2.1, r1.2.2) ()) none fun r2 =>
  mo x1 none fun r3 =>
  mo (wire_EncodeProof_of_msm_Line N (r3.1.1, r3.1.2.1, r3.1.2.2.1, r3.1.2.2.2.1, r3.1.2.2.2.2.1, r3.1.2.2.2.2.2.1, r3.1.2.2.2.2.2.2.1, r3.1.2.2.2.2.2.2.2.1, r3.1.2.2.2.2.2.2.2.2.1, r3.1.2.2.2.2.2.2.2.2.2.1, r3.1.2.2.2.2.2.2.2.2.2.2) (r3.2.1, r3.2.2) ()) none fun r4 =>
  cond (!((bStr r2.2.2) == (bStr r4.2.2))) (
    some (false, ())
  ) (
    mo (loopF (veillaw10_WireEncodes_l0 N) N (((), (), r2.1.1, r2.1.2, r4.1.1, 0), ((r2.2.1, r2.2.2), (r4.2.1, r4.2.2), ((a.1.1, a.1.2.1, a.1.2.2.1, a.1.2.2.2), a.2.1, a.2.2.1, a.2.2.2.1, a.2.2.2.2.1, a.2.2.2.2.2.1, a.2.2.2.2.2.2.1, a.2.2.2.2.2.2.2)))) none fun r42 =>
    match r42 with
    | .inl u43 => grow 64 u43.2.2.1.1 (
      let x65 := (((List.length u43.2.2.2.2.2.2.2.1) : Nat) : Int)
      cond (icmp .neq x65 (((List.length u43.2.2.2.2.2.2.2.2.1) : Nat) : Int)) (
        cond (icmp .eql u43.1.2.2.1 2) (
          some ((icmp .eql ((u43.1.2.1 : Nat) : Int) 0), ())
        ) (
          some (false, ())
        )
      ) (
        cond (icmp .gtr x65 10) (
          cond (icmp .eql u43.1.2.2.1 2) (
            some ((icmp .eql ((u43.1.2.1 : Nat) : Int) 0), ())
          ) (
            some (false, ())
          )
        ) (
          cond (icmp .eql u43.1.2.2.1 0) (
            mo (veillaw10_WireProof_bytes N ((u43.2.2.2.1.1, u43.2.2.2.1.2.1, u43.2.2.2.1.2.2.1, u43.2.2.2.1.2.2.2), u43.2.2.2.2.1, u43.2.2.2.2.2.1, u43.2.2.2.2.2.2.1, u43.2.2.2.2.2.2.2.1, u43.2.2.2.2.2.2.2.2.1, u43.2.2.2.2.2.2.2.2.2.1, u43.2.2.2.2.2.2.2.2.2.2) () ()) none fun r44 =>
            some (((bStr u43.2.1.2) == (bStr r44.2.2)), ())
          ) (
            some (false, ())
          )
        )
      )
    )
    | .inr _ => none) := by kernel_rfl

/-- WireEncodes. -/
theorem wireEncodes_law (N : Nat) (w : WP) (hw : (U4 w.1.1 ∧ U4 w.1.2.1 ∧ U4 w.1.2.2.1 ∧ U4 w.1.2.2.2) ∧ U4 w.2.1 ∧ U4 w.2.2.1 ∧ U4 w.2.2.2.1 ∧ (∀ x ∈ w.2.2.2.2.1, U4 x) ∧ (∀ x ∈ w.2.2.2.2.2.1, U4 x) ∧ U4 w.2.2.2.2.2.2.1 ∧ U4 w.2.2.2.2.2.2.2) (hl : w.2.2.2.2.1.length ≤ 2000000) (hr : w.2.2.2.2.2.1.length ≤ 2000000) (hN : 3000000 ≤ N) :
    veillaw10_WireEncodes N w () () = some (true, ()) := by
  obtain ⟨⟨s0, s1, s2, s3⟩, t0, t1, t2, L, R, a, b⟩ := w
  simp only at hw hl hr
  obtain ⟨⟨h0, h1, h2, h3⟩, g0, g1, g2, hL, hR, ha, hb⟩ := hw
  have e1 : veillaw10_WireProof_line N ((s0, s1, s2, s3), t0, t1, t2, L, R, a, b) () () = some ((s0, s1, s2, s3, t0, t1, t2, L.length, R.length, a, b), (L, R)) := by
    unfold veillaw10_WireProof_line
    simp only [lines_k N L hl (by omega), lines_k N R hr (by omega), mo]
  have e2 := encode_p N (by omega) h0 h1 h2 h3 g0 g1 g2 ha hb hL hR
  rw [encodes_form]
  simp only [e1, mo, e2]
  by_cases hc : L.length = R.length ∧ L.length ≤ 10
  · obtain ⟨d', lp⟩ := change_loop N (288 + 64 * L.length) 0 (288 + 64 * L.length, bytesOf N s0 s1 s2 s3 t0 t1 t2 a b L R) ((s0, s1, s2, s3), t0, t1, t2, L, R, a, b) (288 + 64 * L.length) (by omega) (288 + 64 * L.length) 0 (by omega) N (by omega) (bytesOf N s0 s1 s2 s3 t0 t1 t2 a b L R)
    have e3 := bytes_k N (by omega) h0 h1 h2 h3 g0 g1 g2 ha hb hL hR hc.1 hc.2
    have i1 : icmp .neq ((L.length : Nat) : Int) ((R.length : Nat) : Int) = false := by simp [icmp, hc.1]
    have i2 : icmp .gtr ((L.length : Nat) : Int) 10 = false := decide_eq_false (by omega)
    simp only [if_pos hc, beqS, Bool.not_true, cond_false]
    rw [Int.natCast_zero] at lp
    simp only [lp, mo]
    rw [grow_ok 64 (288 + 64 * L.length) (by omega)]
    simp only [i1, i2, cond_false, show icmp .eql 0 0 = true from rfl, cond_true, e3, mo, beqS]
  · obtain ⟨d', lp⟩ := change_loop N 0 2 (0, []) ((s0, s1, s2, s3), t0, t1, t2, L, R, a, b) 0 (by omega) 0 0 (by omega) N (by omega) []
    simp only [if_neg hc, beqS, Bool.not_true, cond_false]
    rw [Int.natCast_zero] at lp
    simp only [lp, mo]
    rw [grow_ok 64 0 (by omega)]
    by_cases h1 : L.length = R.length
    · have i1 : icmp .neq ((L.length : Nat) : Int) ((R.length : Nat) : Int) = false := by simp [icmp, h1]
      have i2 : icmp .gtr ((L.length : Nat) : Int) 10 = true := decide_eq_true (by omega)
      simp only [i1, i2, cond_false, cond_true, show icmp .eql 2 2 = true from rfl]
      simp [icmp]
    · have i1 : icmp .neq ((L.length : Nat) : Int) ((R.length : Nat) : Int) = true := by
        simp only [icmp, bne_iff_ne, ne_eq, Int.natCast_inj]; exact h1
      simp only [i1, cond_false, cond_true, show icmp .eql 2 2 = true from rfl]
      simp [icmp]

end En
end Go.Vx
