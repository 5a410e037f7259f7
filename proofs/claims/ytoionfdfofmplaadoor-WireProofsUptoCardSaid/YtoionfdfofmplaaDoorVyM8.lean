import Derived.Test.YtoionfdfofmplaaDoorVyA
import Derived.Test.YtoionfdfofmplaaDoorFp
import Derived.KernelRfl
import Derived.Test.YtoionfdfofmplaaDoorVyP
import Derived.Test.YtoionfdfofmplaaDoorVyR
import Derived.Test.YtoionfdfofmplaaDoorVyU
import Derived.Test.YtoionfdfofmplaaDoorVyV3
import Derived.Test.YtoionfdfofmplaaDoorVyV4
import Derived.Test.YtoionfdfofmplaaDoorVyW3
import Derived.Test.YtoionfdfofmplaaDoorVyS
/- Numbers, part B: what the field's functions do. -/
set_option autoImplicit false
set_option linter.unusedVariables false
namespace Go.Vx
open Go

/-- The limbs after the carries of one round. -/
def L0 (a e : Int) : Int := a % M51 + 19 * (e / M51)
/-- Five numbers of 64 bits. -/
def L5 (a : List Int) : Prop := a.length = 5 ∧ ∀ x ∈ a, 0 ≤ x ∧ x ≤ 18446744073709551615

theorem L5.get {a : List Int} (h : L5 a) : ∃ x0 x1 x2 x3 x4, a = [x0, x1, x2, x3, x4] ∧ U x0 ∧ U x1 ∧ U x2 ∧ U x3 ∧ U x4 := by
  obtain ⟨hl, hr⟩ := h
  match a, hl, hr with
  | [x0, x1, x2, x3, x4], _, hr =>
    have h0 := hr x0 (by simp)
    have h1 := hr x1 (by simp)
    have h2 := hr x2 (by simp)
    have h3 := hr x3 (by simp)
    have h4 := hr x4 (by simp)
    exact ⟨x0, x1, x2, x3, x4, rfl, ⟨h0.1, by omega⟩, ⟨h1.1, by omega⟩, ⟨h2.1, by omega⟩, ⟨h3.1, by omega⟩, ⟨h4.1, by omega⟩⟩

theorem Can.L5 {a : List Int} (h : Can a) : L5 a := by
  obtain ⟨x0, x1, x2, x3, x4, rfl, hx0, hx1, hx2, hx3, hx4, -⟩ := h
  refine ⟨rfl, fun x hx => ?_⟩
  simp only [M51, List.mem_cons, List.not_mem_nil, or_false] at *
  rcases hx with rfl | rfl | rfl | rfl | rfl <;> omega

end Go.Vx

/- Numbers, part C: closed, slim, Add, Sub, Neg, Encode's digits. -/
set_option autoImplicit false
set_option linter.unusedVariables false
namespace Go.Vx
open Go

end Go.Vx

/- Numbers, part D: Add, Sub, Neg; IsZero, Same, Negative, Select, Abs. -/
set_option autoImplicit false
set_option linter.unusedVariables false
namespace Go.Vx
open Go

/-- Five digits of 51 bits. -/
def Sm (a : List Int) : Prop := ∃ x0 x1 x2 x3 x4, a = [x0, x1, x2, x3, x4] ∧ (0 ≤ x0 ∧ x0 < M51) ∧ (0 ≤ x1 ∧ x1 < M51) ∧ (0 ≤ x2 ∧ x2 < M51) ∧ (0 ≤ x3 ∧ x3 < M51) ∧ (0 ≤ x4 ∧ x4 < M51)

theorem Can.sm {a : List Int} (h : Can a) : Sm a := by
  obtain ⟨x0, x1, x2, x3, x4, rfl, h0, h1, h2, h3, h4, -⟩ := h
  exact ⟨_, _, _, _, _, rfl, h0, h1, h2, h3, h4⟩

end Go.Vx

/- Numbers, part F: products: Mul64, double, carried, Mul, Square. -/
set_option autoImplicit false
set_option linter.unusedVariables false
namespace Go.Vx
open Go

theorem u_and32 {a : Int} (h : U a) : ibin .and .u64 a 4294967295 = a % 4294967296 := by
  rw [u_and h.1 h.2 (by decide) (by decide)]
  have : a.toNat &&& (2 ^ 32 - 1) = a.toNat % 2 ^ 32 := Nat.and_two_pow_sub_one_eq_mod _ _
  rw [show (4294967295 : Int).toNat = 2 ^ 32 - 1 from rfl, this]
  simp only [U] at h
  omega

theorem mul_le {a b A B : Int} (a0 : 0 ≤ a) (a1 : a ≤ A) (b0 : 0 ≤ b) (b1 : b ≤ B) : 0 ≤ a * b ∧ a * b ≤ A * B :=
  ⟨Int.mul_nonneg a0 b0, Int.mul_le_mul a1 b1 b0 (Int.le_trans a0 a1)⟩

/-- The product of two numbers of 64 bits. -/
theorem mul64_spec {a b : Int} (ha : U a) (hb : U b) : bits_Mul64 a b = (a * b / 18446744073709551616, a * b % 18446744073709551616) := by
  unfold bits_Mul64
  have s32 : ∀ y : Int, ibin .shr .u64 y 32 = y / 4294967296 := fun y => u_shr 32 (by decide)
  simp only [u_and32 ha, u_and32 hb, s32, u_mul, u_add]
  have ea : a = 4294967296 * (a / 4294967296) + a % 4294967296 := by omega
  have eb : b = 4294967296 * (b / 4294967296) + b % 4294967296 := by omega
  have p : a * b = 18446744073709551616 * (a / 4294967296 * (b / 4294967296)) + 4294967296 * (a / 4294967296 * (b % 4294967296)) + 4294967296 * (a % 4294967296 * (b / 4294967296)) + a % 4294967296 * (b % 4294967296) := by
    conv => lhs; rw [ea, eb]
    generalize a / 4294967296 = a1
    generalize a % 4294967296 = a0
    generalize b / 4294967296 = b1
    generalize b % 4294967296 = b0
    grind
  have ha1 : 0 ≤ a / 4294967296 ∧ a / 4294967296 ≤ 4294967295 := by simp only [U] at ha; omega
  have ha0 : 0 ≤ a % 4294967296 ∧ a % 4294967296 ≤ 4294967295 := by omega
  have hb1 : 0 ≤ b / 4294967296 ∧ b / 4294967296 ≤ 4294967295 := by simp only [U] at hb; omega
  have hb0 : 0 ≤ b % 4294967296 ∧ b % 4294967296 ≤ 4294967295 := by omega
  have q11 := mul_le ha1.1 ha1.2 hb1.1 hb1.2
  have q10 := mul_le ha1.1 ha1.2 hb0.1 hb0.2
  have q01 := mul_le ha0.1 ha0.2 hb1.1 hb1.2
  have q00 := mul_le ha0.1 ha0.2 hb0.1 hb0.2
  rw [p]
  generalize a / 4294967296 * (b / 4294967296) = h at *
  generalize a / 4294967296 * (b % 4294967296) = m at *
  generalize a % 4294967296 * (b / 4294967296) = n at *
  generalize a % 4294967296 * (b % 4294967296) = l at *
  clear p ea eb ha hb ha1 ha0 hb1 hb0
  have e1 : (m % 18446744073709551616 + l % 18446744073709551616 / 4294967296) % 18446744073709551616 = m + l / 4294967296 := by omega
  rw [e1]
  have u1 : U (m + l / 4294967296) := by simp only [U]; omega
  rw [u_and32 u1]
  refine Prod.ext ?_ rfl
  simp only
  omega

/-- The number that two words stand for. -/
def dv (d : Int × Int) : Int := d.1 * 18446744073709551616 + d.2
end Go.Vx

/- Numbers, part G: Mul and Square. Written by genmul.py. -/
set_option autoImplicit false
set_option linter.unusedSimpArgs false
set_option linter.unusedVariables false
namespace Go.Vx
open Go

end Go.Vx

/- Numbers, part E: the closed sentence 'live'; the first bit of the text; signs. -/
set_option autoImplicit false
set_option linter.unusedVariables false
namespace Go.Vx
open Go

end Go.Vx

/- Numbers, part H: powers and inverses; the laws of the field. -/
set_option autoImplicit false
set_option linter.unusedVariables false
set_option linter.unusedSimpArgs false
namespace Go.Vx
open Go

theorem mul_mod_l (a b n : Int) : (a % n * b) % n = (a * b) % n := by rw [Int.mul_emod, Int.emod_emod_of_dvd _ (Int.dvd_refl n), ← Int.mul_emod]
theorem mul_mod_r (a b n : Int) : (a * (b % n)) % n = (a * b) % n := by rw [Int.mul_emod, Int.emod_emod_of_dvd _ (Int.dvd_refl n), ← Int.mul_emod]
theorem mod_mod (a n : Int) : a % n % n = a % n := Int.emod_emod_of_dvd _ (Int.dvd_refl n)
theorem pow_mod (a n : Int) : (e : Nat) → (a % n) ^ e % n = a ^ e % n
  | 0 => by simp
  | e + 1 => by rw [Int.pow_succ, Int.pow_succ, mul_mod_r, ← mul_mod_l, pow_mod a n e, mul_mod_l]

/-- 'r' is x to the e-th. -/
def PowOf (x : Int) (e : Nat) (r : List Int) : Prop := Can r ∧ val r = x ^ e % pF

theorem PowOf.cast {x : Int} {e f : Nat} {r : List Int} (h : PowOf x e r) (hf : e = f) : PowOf x f r := hf ▸ h

/-- p - 2 -/
def eInv : Nat := 57896044618658097711785492504343953926634992332820282019728792003956564819947

/-- Fermat. -/
theorem fermat (x : Int) (h : x % pF ≠ 0) : x ^ (eInv + 1) % pF = 1 := by
  have key : ∀ (e : Nat) (n : Nat), ((n : Int) ^ e) % (57896044618658097711785492504343953926634992332820282019728792003956564819949 : Nat) = ((n ^ e % 57896044618658097711785492504343953926634992332820282019728792003956564819949 : Nat) : Int) := fun e n => by
    rw [← Int.natCast_pow, ← Int.natCast_emod]
  have h0 : 0 ≤ x % pF := Int.emod_nonneg _ (by decide)
  have hn : x % pF = ((x % pF).toNat : Int) := by omega
  rw [← pow_mod, hn]
  have h1 : (x % pF).toNat % 57896044618658097711785492504343953926634992332820282019728792003956564819949 ≠ 0 := by
    have := Int.emod_lt_of_pos x pF_pos
    simp only [pF] at *
    omega
  have h2 := luc_F.2 _ h1
  have h3 := key (eInv + 1) (x % pF).toNat
  rw [show eInv + 1 = 57896044618658097711785492504343953926634992332820282019728792003956564819949 - 1 from rfl, h2] at h3
  exact h3

theorem inv_mul (x : Int) (h : x % pF ≠ 0) : x * (x ^ eInv % pF) % pF = 1 := by
  rw [mul_mod_r, Int.mul_comm, ← Int.pow_succ]
  exact fermat x h

end Go.Vx

/- Numbers, part L: elements as members of the field K; SqrtRatio. -/
set_option autoImplicit false
set_option linter.unusedVariables false
set_option linter.unusedSimpArgs false
namespace Go.Vx
open Go

end Go.Vx

/- Numbers, part L2: FieldSquares. -/
set_option autoImplicit false
set_option linter.unusedVariables false
set_option linter.unusedSimpArgs false
namespace Go.Vx
open Go

end Go.Vx

/- Numbers, part J0: texts of 32 bytes as numbers; powers by any exponent. -/
set_option autoImplicit false
set_option linter.unusedVariables false
set_option linter.unusedSimpArgs false
namespace Go.Vx
open Go

/-- The number of a text, the least byte first. -/
def numB : List Int → Nat
  | [] => 0
  | x :: l => x.toNat + 256 * numB l

def Bs (l : List Int) : Prop := ∀ x ∈ l, 0 ≤ x ∧ x ≤ 255

def L32 (e : List Int) : Prop := e.length = 32 ∧ ∀ x ∈ e, 0 ≤ x ∧ x ≤ 255

end Go.Vx

/- Numbers, part K0: texts: Encode, Decode, Reduce; FieldCodec. Written by gencodec.py. -/
set_option autoImplicit false
set_option linter.unusedSimpArgs false
set_option linter.unusedVariables false
namespace Go.Vx
open Go

theorem or_join {x y K J kk : Int} (k : Nat) (hkk : kk = (k : Int)) (hk : k < 64) (hK : K = 2 ^ k) (hJ : J * K = 18446744073709551616) (hJ0 : 0 < J) (x0 : 0 ≤ x) (x1 : x < K) (y0 : 0 ≤ y) :
    ibin .or .u64 x (ibin .shl .u64 y kk) = x + y % J * K := by
  have e1 : ibin .shl .u64 y kk = y % J * K := by
    rw [hkk, u_shl k (by omega), ← hK, ← hJ]
    have K0 : 0 < K := by rw [hK]; exact Int.pow_pos (by decide)
    rw [Int.mul_comm y K, Int.mul_comm J K, Int.mul_emod_mul_of_pos _ _ K0, Int.mul_comm]
  have K0 : 0 < K := by rw [hK]; exact Int.pow_pos (by decide)
  have m0 : 0 ≤ y % J := Int.emod_nonneg _ (by omega)
  have m1 : y % J < J := Int.emod_lt_of_pos _ hJ0
  have q0 : 0 ≤ y % J * K := Int.mul_nonneg m0 (Int.le_of_lt K0)
  have q1 : y % J * K ≤ (J - 1) * K := Int.mul_le_mul_of_nonneg_right (by omega) (Int.le_of_lt K0)
  rw [Int.sub_mul, hJ, Int.one_mul] at q1
  rw [e1, u_or x0 (by omega) q0 (by omega)]
  have e2 : (y % J * K).toNat = (y % J).toNat <<< k := by
    rw [Nat.shiftLeft_eq, hK]
    have : (y % J) = ((y % J).toNat : Int) := by omega
    rw [this]
    have h2 : ((2 : Int) ^ k) = ((2 ^ k : Nat) : Int) := by rw [Int.natCast_pow]; rfl
    rw [h2, ← Int.natCast_mul, Int.toNat_natCast, Int.toNat_natCast]
  have hx : x.toNat < 2 ^ k := by
    have h2 : ((2 : Int) ^ k) = ((2 ^ k : Nat) : Int) := by rw [Int.natCast_pow]; rfl
    rw [hK, h2] at x1
    omega
  rw [e2, Nat.or_comm, ← Nat.shiftLeft_add_eq_or_of_lt hx, ← e2]
  omega

theorem or_byte {x y K J kk : Int} (k : Nat) (hkk : kk = (k : Int)) (hk : k < 64) (hK : K = 2 ^ k) (hJ : J * K = 18446744073709551616) (hJ0 : 256 ≤ J) (x0 : 0 ≤ x) (x1 : x < K) (hy : 0 ≤ y ∧ y ≤ 255) :
    ibin .or .u64 x (ibin .shl .u64 (IntKind.wrap .u64 y) kk) = x + y * K := by
  rw [wrap64, show y % 18446744073709551616 = y by omega, or_join k hkk hk hK hJ (by omega) x0 x1 hy.1, Int.emod_eq_of_lt hy.1 (by omega)]

theorem numB_cons8 {b0 b1 b2 b3 b4 b5 b6 b7 : Int} {l : List Int} (h0 : 0 ≤ b0) (h1 : 0 ≤ b1) (h2 : 0 ≤ b2) (h3 : 0 ≤ b3) (h4 : 0 ≤ b4) (h5 : 0 ≤ b5) (h6 : 0 ≤ b6) (h7 : 0 ≤ b7) :
    (numB (b0 :: b1 :: b2 :: b3 :: b4 :: b5 :: b6 :: b7 :: l) : Int) = b0 + b1 * 256 + b2 * 65536 + b3 * 16777216 + b4 * 4294967296 + b5 * 1099511627776 + b6 * 281474976710656 + b7 * 72057594037927936 + 18446744073709551616 * numB l := by
  simp only [numB]
  omega

/-- Eight bytes of a word. -/
theorem bytes8 {w : Int} (h : U w) (l : List Int) : (numB (IntKind.wrap .u8 (ibin .shr .u64 w 0) :: IntKind.wrap .u8 (ibin .shr .u64 w 8) :: IntKind.wrap .u8 (ibin .shr .u64 w 16) :: IntKind.wrap .u8 (ibin .shr .u64 w 24) :: IntKind.wrap .u8 (ibin .shr .u64 w 32) :: IntKind.wrap .u8 (ibin .shr .u64 w 40) ::
    IntKind.wrap .u8 (ibin .shr .u64 w 48) :: IntKind.wrap .u8 (ibin .shr .u64 w 56) :: l) : Int) = w + 18446744073709551616 * numB l := by
  have e0 : ibin .shr .u64 w 0 = w := by have := u_shr (a := w) 0 (by decide); simpa using this
  have e1 : ibin .shr .u64 w 8 = w / 256 := u_shr 8 (by decide)
  have e2 : ibin .shr .u64 w 16 = w / 65536 := u_shr 16 (by decide)
  have e3 : ibin .shr .u64 w 24 = w / 16777216 := u_shr 24 (by decide)
  have e4 : ibin .shr .u64 w 32 = w / 4294967296 := u_shr 32 (by decide)
  have e5 : ibin .shr .u64 w 40 = w / 1099511627776 := u_shr 40 (by decide)
  have e6 : ibin .shr .u64 w 48 = w / 281474976710656 := u_shr 48 (by decide)
  have e7 : ibin .shr .u64 w 56 = w / 72057594037927936 := u_shr 56 (by decide)
  simp only [e0, e1, e2, e3, e4, e5, e6, e7, wrap8]
  rw [numB_cons8 (by omega) (by omega) (by omega) (by omega) (by omega) (by omega) (by omega) (by omega)]
  simp only [U] at h
  omega

theorem wrap8_byte (n : Int) : 0 ≤ IntKind.wrap .u8 n ∧ IntKind.wrap .u8 n ≤ 255 := by rw [wrap8]; omega

theorem numB_inj : (a b : List Int) → a.length = b.length → Bs a → Bs b → numB a = numB b → a = b
  | [], [], _, _, _, _ => rfl
  | x :: a, y :: b, hl, ha, hb, h => by
    have hx := ha x (by simp)
    have hy := hb y (by simp)
    simp only [numB] at h
    have e1 : x = y := by omega
    have e2 : numB a = numB b := by omega
    rw [e1, numB_inj a b (by simpa using hl) (fun z hz => ha z (by simp [hz])) (fun z hz => hb z (by simp [hz])) e2]
  | [], _ :: _, hl, _, _, _ => by simp at hl
  | _ :: _, [], hl, _, _, _ => by simp at hl

theorem L32.inj {a b : List Int} (ha : L32 a) (hb : L32 b) (h : (numB a : Int) = numB b) : a = b := numB_inj a b (by rw [ha.1, hb.1]) ha.2 hb.2 (by omega)

theorem Sm.L5 {a : List Int} (h : Sm a) : L5 a := by
  obtain ⟨x0, x1, x2, x3, x4, rfl, hx0, hx1, hx2, hx3, hx4⟩ := h
  refine ⟨rfl, fun x hx => ?_⟩
  simp only [M51, List.mem_cons, List.not_mem_nil, or_false] at *
  rcases hx with rfl | rfl | rfl | rfl | rfl <;> omega

end Go.Vx

/- Numbers, part M2: the group's texts in the field K: the program's Decode and Encode. -/
set_option autoImplicit false
set_option linter.unusedVariables false
set_option linter.unusedSimpArgs false
namespace Go.Vx
open Go

end Go.Vx

/- Numbers, part M4: the group's texts in the field K: what bytes are mapped to, by the program. -/
set_option autoImplicit false
set_option linter.unusedVariables false
set_option linter.unusedSimpArgs false
namespace Go.Vx
open Go

end Go.Vx

/- Numbers, part M6: the curve's points in the field K: what the program's points stand for; sums. -/
set_option autoImplicit false
set_option linter.unusedVariables false
set_option linter.unusedSimpArgs false
namespace Go.Vx
open Go

abbrev z5 : List Int := [0, 0, 0, 0, 0]
end Go.Vx

/- Numbers, part M10: the curve's functions in the field K: opposite, double, same, multiples, 'live'. -/
set_option autoImplicit false
set_option linter.unusedVariables false
set_option linter.unusedSimpArgs false
namespace Go.Vx
open Go

/- Multiples. -/
end Go.Vx

/- Numbers, part L3: the reference's field: least digits. -/
set_option autoImplicit false
set_option linter.unusedVariables false
set_option linter.unusedSimpArgs false
namespace Go.Vx.Ref
open Go

end Go.Vx.Ref

/- Numbers, part L4: the reference's field: what limbs stand for, least limbs, bytes, sums, products. -/
set_option autoImplicit false
set_option linter.unusedVariables false
set_option linter.unusedSimpArgs false
namespace Go.Vx.Ref
open Go

end Go.Vx.Ref

/- Numbers, part L5: FieldAdds, FieldMuls, FieldAsks. -/
set_option autoImplicit false
set_option linter.unusedVariables false
set_option linter.unusedSimpArgs false
namespace Go.Vx.Ref
open Go

end Go.Vx.Ref

/- Numbers, part L8: the number of bytes; FieldBytes. -/
set_option autoImplicit false
set_option linter.unusedVariables false
set_option linter.unusedSimpArgs false
namespace Go.Vx.Ref
open Go

end Go.Vx.Ref

/- Numbers, part L6: the reference's powers and roots; FieldPowers, FieldRoots. -/
set_option autoImplicit false
set_option linter.unusedVariables false
set_option linter.unusedSimpArgs false
namespace Go.Vx.Ref
open Go

end Go.Vx.Ref

/- Numbers, part L7: FieldLeast. -/
set_option autoImplicit false
set_option linter.unusedVariables false
set_option linter.unusedSimpArgs false
namespace Go.Vx.Ref
open Go

end Go.Vx.Ref

/- Numbers, part M3: the group's texts in the field K: the reference's Decode and Encode. -/
set_option autoImplicit false
set_option linter.unusedVariables false
set_option linter.unusedSimpArgs false
namespace Go.Vx.Ref
open Go

end Go.Vx.Ref

/- Numbers, part M5: the group's texts in the field K: what bytes are mapped to, by the reference. -/
set_option autoImplicit false
set_option linter.unusedVariables false
set_option linter.unusedSimpArgs false
namespace Go.Vx.Ref
open Go

end Go.Vx.Ref

/- Numbers, part M7: the group's texts in the field K: the reference's sums, its map; GroupMaps. -/
set_option autoImplicit false
set_option linter.unusedVariables false
set_option linter.unusedSimpArgs false
namespace Go.Vx.Ref
open Go

end Go.Vx.Ref

/- Numbers, part M8: the group's texts in the field K: Decode, the base; GroupDecodes. -/
set_option autoImplicit false
set_option linter.unusedVariables false
set_option linter.unusedSimpArgs false
namespace Go.Vx.Ref
open Go

end Go.Vx.Ref
