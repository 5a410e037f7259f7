import Derived.Test.YtoionfdfofmplaaDoorVyA
import Derived.Test.YtoionfdfofmplaaDoorFp
import Derived.KernelRfl
import Derived.Test.YtoionfdfofmplaaDoorVyP
import Derived.Test.YtoionfdfofmplaaDoorVyR
import Derived.Test.YtoionfdfofmplaaDoorVyU
import Derived.Test.YtoionfdfofmplaaDoorVyV3
import Derived.Test.YtoionfdfofmplaaDoorVyV4
import Derived.Test.YtoionfdfofmplaaDoorVyW3
import Derived.Test.YtoionfdfofmplaaDoorVyS
set_option autoImplicit false
set_option linter.unusedVariables false
namespace Go.Vx
open Go
def L0 (a e:Int) : Int := a % M51 + 19 * (e / M51)
def L5 (a:LI) : Prop := a.length = 5 ∧ ∀ x ∈ a, 0 ≤ x ∧ x ≤ 18446744073709551615
theorem L5.get {a:LI} (h:L5 a) : ∃ x0 x1 x2 x3 x4, a = [x0, x1, x2, x3, x4] ∧ U x0 ∧ U x1 ∧ U x2 ∧ U x3 ∧ U x4 := by
 obtain ⟨hl, hr⟩ := h
 match a, hl, hr with
 | [x0, x1, x2, x3, x4], _, hr =>
  have h0 := hr x0 (by simp)
  have h1 := hr x1 (by simp)
  have h2 := hr x2 (by simp)
  have h3 := hr x3 (by simp)
  have h4 := hr x4 (by simp)
  exact ⟨x0, x1, x2, x3, x4, rfl, ⟨h0.1, by omega⟩, ⟨h1.1, by omega⟩, ⟨h2.1, by omega⟩, ⟨h3.1, by omega⟩, ⟨h4.1, by omega⟩⟩
theorem Can.L5 {a:LI} (h:Can a) : L5 a := by
 obtain ⟨x0, x1, x2, x3, x4, rfl, hx0, hx1, hx2, hx3, hx4, -⟩ := h
 refine ⟨rfl, fun x hx => ?_⟩
 simp only [M51, List.mem_cons, List.not_mem_nil, or_false] at *
 rcases hx with rfl | rfl | rfl | rfl | rfl <;> omega
end Go.Vx
set_option autoImplicit false
set_option linter.unusedVariables false
namespace Go.Vx
open Go
end Go.Vx
set_option autoImplicit false
set_option linter.unusedVariables false
namespace Go.Vx
open Go
def Sm (a:LI) : Prop := ∃ x0 x1 x2 x3 x4, a = [x0, x1, x2, x3, x4] ∧ (0 ≤ x0 ∧ x0 < M51) ∧ (0 ≤ x1 ∧ x1 < M51) ∧ (0 ≤ x2 ∧ x2 < M51) ∧ (0 ≤ x3 ∧ x3 < M51) ∧ (0 ≤ x4 ∧ x4 < M51)
theorem Can.sm {a:LI} (h:Can a) : Sm a := by
 obtain ⟨x0, x1, x2, x3, x4, rfl, h0, h1, h2, h3, h4, -⟩ := h
 exact ⟨_, _, _, _, _, rfl, h0, h1, h2, h3, h4⟩
end Go.Vx
set_option autoImplicit false
set_option linter.unusedVariables false
namespace Go.Vx
open Go
theorem ZoW {a:Int} (h:U a) : ibin .and .u64 a 4294967295 = a % 4294967296 := by
 rw [u_and h.1 h.2 (by decide) (by decide)]
 have : a.toNat &&& (2 ^ 32 - 1) = a.toNat % 2 ^ 32 := Nat.and_two_pow_sub_one_eq_mod _ _
 rw [show (4294967295 : Int).toNat = 2 ^ 32 - 1 from rfl, this]
 simp only [U] at h
 omega
theorem Zrc {a b A B:Int} (a0 : 0 ≤ a) (a1:a ≤ A) (b0 : 0 ≤ b) (b1:b ≤ B) : 0 ≤ a * b ∧ a * b ≤ A * B :=
 ⟨Int.mul_nonneg a0 b0, Int.mul_le_mul a1 b1 b0 (Int.le_trans a0 a1)⟩
theorem Zoi {a b:Int} (ha:U a) (hb:U b) : ZfG a b = (a * b / 18446744073709551616, a * b % 18446744073709551616) := by
 unfold ZfG
 have s32 : ∀ y : Int, ibin .shr .u64 y 32 = y / 4294967296 := fun y => u_shr 32 (by decide)
 simp only [ZoW ha, ZoW hb, s32, u_mul, u_add]
 have ea : a = 4294967296 * (a / 4294967296) + a % 4294967296 := by omega
 have eb : b = 4294967296 * (b / 4294967296) + b % 4294967296 := by omega
 have p : a * b = 18446744073709551616 * (a / 4294967296 * (b / 4294967296)) + 4294967296 * (a / 4294967296 * (b % 4294967296)) + 4294967296 * (a % 4294967296 * (b / 4294967296)) + a % 4294967296 * (b % 4294967296) := by
  conv => lhs; rw [ea, eb]
  generalize a / 4294967296 = a1
  generalize a % 4294967296 = a0
  generalize b / 4294967296 = b1
  generalize b % 4294967296 = b0
  grind
 have ha1 : 0 ≤ a / 4294967296 ∧ a / 4294967296 ≤ 4294967295 := by simp only [U] at ha; omega
 have ha0 : 0 ≤ a % 4294967296 ∧ a % 4294967296 ≤ 4294967295 := by omega
 have hb1 : 0 ≤ b / 4294967296 ∧ b / 4294967296 ≤ 4294967295 := by simp only [U] at hb; omega
 have hb0 : 0 ≤ b % 4294967296 ∧ b % 4294967296 ≤ 4294967295 := by omega
 have q11 := Zrc ha1.1 ha1.2 hb1.1 hb1.2
 have q10 := Zrc ha1.1 ha1.2 hb0.1 hb0.2
 have q01 := Zrc ha0.1 ha0.2 hb1.1 hb1.2
 have q00 := Zrc ha0.1 ha0.2 hb0.1 hb0.2
 rw [p]
 generalize a / 4294967296 * (b / 4294967296) = h at *
 generalize a / 4294967296 * (b % 4294967296) = m at *
 generalize a % 4294967296 * (b / 4294967296) = n at *
 generalize a % 4294967296 * (b % 4294967296) = l at *
 clear p ea eb ha hb ha1 ha0 hb1 hb0
 have e1 : (m % 18446744073709551616 + l % 18446744073709551616 / 4294967296) % 18446744073709551616 = m + l / 4294967296 := by omega
 rw [e1]
 have u1 : U (m + l / 4294967296) := by simp only [U]; omega
 rw [ZoW u1]
 refine Prod.ext ?_ rfl
 simp only
 omega
def dv (d:Int × Int) : Int := d.1 * 18446744073709551616 + d.2
end Go.Vx
set_option autoImplicit false
set_option linter.unusedSimpArgs false
set_option linter.unusedVariables false
namespace Go.Vx
open Go
end Go.Vx
set_option autoImplicit false
set_option linter.unusedVariables false
namespace Go.Vx
open Go
end Go.Vx
set_option autoImplicit false
set_option linter.unusedVariables false
set_option linter.unusedSimpArgs false
namespace Go.Vx
open Go
theorem Zp6 (a b n:Int) : (a % n * b) % n = (a * b) % n := by rw [Int.mul_emod, Int.emod_emod_of_dvd _ (Int.dvd_refl n), ← Int.mul_emod]
theorem Zp7 (a b n:Int) : (a * (b % n)) % n = (a * b) % n := by rw [Int.mul_emod, Int.emod_emod_of_dvd _ (Int.dvd_refl n), ← Int.mul_emod]
theorem mod_mod (a n:Int) : a % n % n = a % n := Int.emod_emod_of_dvd _ (Int.dvd_refl n)
theorem pow_mod (a n:Int) : (e:Nat) → (a % n) ^ e % n = a ^ e % n
 | 0 => by simp
 | e + 1 => by rw [Int.pow_succ, Int.pow_succ, Zp7, ← Zp6, pow_mod a n e, Zp6]
def PowOf (x:Int) (e:Nat) (r:LI) : Prop := Can r ∧ val r = x ^ e % pF
theorem PowOf.cast {x:Int} {e f:Nat} {r:LI} (h:PowOf x e r) (hf:e = f) : PowOf x f r := hf ▸ h
def eInv : Nat := 57896044618658097711785492504343953926634992332820282019728792003956564819947
theorem fermat (x:Int) (h:x % pF ≠ 0) : x ^ (eInv + 1) % pF = 1 := by
 have key : ∀ (e:Nat) (n:Nat), ((n:Int) ^ e) % (57896044618658097711785492504343953926634992332820282019728792003956564819949 : Nat) = ((n ^ e % 57896044618658097711785492504343953926634992332820282019728792003956564819949 : Nat) : Int) := fun e n => by
  rw [← Int.natCast_pow, ← Int.natCast_emod]
 have h0 : 0 ≤ x % pF := Int.emod_nonneg _ (by decide)
 have hn : x % pF = ((x % pF).toNat : Int) := by omega
 rw [← pow_mod, hn]
 have h1 : (x % pF).toNat % 57896044618658097711785492504343953926634992332820282019728792003956564819949 ≠ 0 := by
  have := Int.emod_lt_of_pos x Zrb
  simp only [pF] at *
  omega
 have h2 := luc_F.2 _ h1
 have h3 := key (eInv + 1) (x % pF).toNat
 rw [show eInv + 1 = 57896044618658097711785492504343953926634992332820282019728792003956564819949 - 1 from rfl, h2] at h3
 exact h3
theorem inv_mul (x:Int) (h:x % pF ≠ 0) : x * (x ^ eInv % pF) % pF = 1 := by
 rw [Zp7, Int.mul_comm, ← Int.pow_succ]
 exact fermat x h
end Go.Vx
set_option autoImplicit false
set_option linter.unusedVariables false
set_option linter.unusedSimpArgs false
namespace Go.Vx
open Go
end Go.Vx
set_option autoImplicit false
set_option linter.unusedVariables false
set_option linter.unusedSimpArgs false
namespace Go.Vx
open Go
end Go.Vx
set_option autoImplicit false
set_option linter.unusedVariables false
set_option linter.unusedSimpArgs false
namespace Go.Vx
open Go
def numB : LI → Nat
 | [] => 0
 | x :: l => x.toNat + 256 * numB l
def Bs (l:LI) : Prop := ∀ x ∈ l, 0 ≤ x ∧ x ≤ 255
def L32 (e:LI) : Prop := e.length = 32 ∧ ∀ x ∈ e, 0 ≤ x ∧ x ≤ 255
end Go.Vx
set_option autoImplicit false
set_option linter.unusedSimpArgs false
set_option linter.unusedVariables false
namespace Go.Vx
open Go
theorem or_join {x y K J kk:Int} (k:Nat) (hkk:kk = (k:Int)) (hk:k < 64) (hK:K = 2 ^ k) (hJ:J * K = 18446744073709551616) (hJ0 : 0 < J) (x0 : 0 ≤ x) (x1:x < K) (y0 : 0 ≤ y) :
  ibin .or .u64 x (ibin .shl .u64 y kk) = x + y % J * K := by
 have e1 : ibin .shl .u64 y kk = y % J * K := by
  rw [hkk, u_shl k (by omega), ← hK, ← hJ]
  have K0 : 0 < K := by rw [hK]; exact Int.pow_pos (by decide)
  rw [Int.mul_comm y K, Int.mul_comm J K, Int.mul_emod_mul_of_pos _ _ K0, Int.mul_comm]
 have K0 : 0 < K := by rw [hK]; exact Int.pow_pos (by decide)
 have m0 : 0 ≤ y % J := Int.emod_nonneg _ (by omega)
 have m1 : y % J < J := Int.emod_lt_of_pos _ hJ0
 have q0 : 0 ≤ y % J * K := Int.mul_nonneg m0 (Int.le_of_lt K0)
 have q1 : y % J * K ≤ (J - 1) * K := Int.mul_le_mul_of_nonneg_right (by omega) (Int.le_of_lt K0)
 rw [Int.sub_mul, hJ, Int.one_mul] at q1
 rw [e1, u_or x0 (by omega) q0 (by omega)]
 have e2 : (y % J * K).toNat = (y % J).toNat <<< k := by
  rw [Nat.shiftLeft_eq, hK]
  have : (y % J) = ((y % J).toNat : Int) := by omega
  rw [this]
  have h2 : ((2 : Int) ^ k) = ((2 ^ k : Nat) : Int) := by rw [Int.natCast_pow]; rfl
  rw [h2, ← Int.natCast_mul, Int.toNat_natCast, Int.toNat_natCast]
 have hx : x.toNat < 2 ^ k := by
  have h2 : ((2 : Int) ^ k) = ((2 ^ k : Nat) : Int) := by rw [Int.natCast_pow]; rfl
  rw [hK, h2] at x1
  omega
 rw [e2, Nat.or_comm, ← Nat.shiftLeft_add_eq_or_of_lt hx, ← e2]
 omega
theorem Zjw {x y K J kk:Int} (k:Nat) (hkk:kk = (k:Int)) (hk:k < 64) (hK:K = 2 ^ k) (hJ:J * K = 18446744073709551616) (hJ0 : 256 ≤ J) (x0 : 0 ≤ x) (x1:x < K) (hy : 0 ≤ y ∧ y ≤ 255) :
  ibin .or .u64 x (ibin .shl .u64 (IntKind.wrap .u64 y) kk) = x + y * K := by
 rw [wrap64, show y % 18446744073709551616 = y by omega, or_join k hkk hk hK hJ (by omega) x0 x1 hy.1, Int.emod_eq_of_lt hy.1 (by omega)]
theorem ZrN {b0 b1 b2 b3 b4 b5 b6 b7:Int} {l:LI} (h0 : 0 ≤ b0) (h1 : 0 ≤ b1) (h2 : 0 ≤ b2) (h3 : 0 ≤ b3) (h4 : 0 ≤ b4) (h5 : 0 ≤ b5) (h6 : 0 ≤ b6) (h7 : 0 ≤ b7) :
  (numB (b0 :: b1 :: b2 :: b3 :: b4 :: b5 :: b6 :: b7 :: l) : Int) = b0 + b1 * 256 + b2 * 65536 + b3 * 16777216 + b4 * 4294967296 + b5 * 1099511627776 + b6 * 281474976710656 + b7 * 72057594037927936 + 18446744073709551616 * numB l := by
 simp only [numB]
 omega
theorem bytes8 {w:Int} (h:U w) (l:LI) : (numB (IntKind.wrap .u8 (ibin .shr .u64 w 0) :: IntKind.wrap .u8 (ibin .shr .u64 w 8) :: IntKind.wrap .u8 (ibin .shr .u64 w 16) :: IntKind.wrap .u8 (ibin .shr .u64 w 24) :: IntKind.wrap .u8 (ibin .shr .u64 w 32) :: IntKind.wrap .u8 (ibin .shr .u64 w 40) ::
  IntKind.wrap .u8 (ibin .shr .u64 w 48) :: IntKind.wrap .u8 (ibin .shr .u64 w 56) :: l) : Int) = w + 18446744073709551616 * numB l := by
 have e0 : ibin .shr .u64 w 0 = w := by have := u_shr (a := w) 0 (by decide); simpa using this
 have e1 : ibin .shr .u64 w 8 = w / 256 := u_shr 8 (by decide)
 have e2 : ibin .shr .u64 w 16 = w / 65536 := u_shr 16 (by decide)
 have e3 : ibin .shr .u64 w 24 = w / 16777216 := u_shr 24 (by decide)
 have e4 : ibin .shr .u64 w 32 = w / 4294967296 := u_shr 32 (by decide)
 have e5 : ibin .shr .u64 w 40 = w / 1099511627776 := u_shr 40 (by decide)
 have e6 : ibin .shr .u64 w 48 = w / 281474976710656 := u_shr 48 (by decide)
 have e7 : ibin .shr .u64 w 56 = w / 72057594037927936 := u_shr 56 (by decide)
 simp only [e0, e1, e2, e3, e4, e5, e6, e7, wrap8]
 rw [ZrN (by omega) (by omega) (by omega) (by omega) (by omega) (by omega) (by omega) (by omega)]
 simp only [U] at h
 omega
theorem ZrO (n:Int) : 0 ≤ IntKind.wrap .u8 n ∧ IntKind.wrap .u8 n ≤ 255 := by rw [wrap8]; omega
theorem Zrd : (a b:LI) → a.length = b.length → Bs a → Bs b → numB a = numB b → a = b
 | [], [], _, _, _, _ => rfl
 | x :: a, y :: b, hl, ha, hb, h => by
  have hx := ha x (by simp)
  have hy := hb y (by simp)
  simp only [numB] at h
  have e1 : x = y := by omega
  have e2 : numB a = numB b := by omega
  rw [e1, Zrd a b (by simpa using hl) (fun z hz => ha z (by simp [hz])) (fun z hz => hb z (by simp [hz])) e2]
 | [], _ :: _, hl, _, _, _ => by simp at hl
 | _ :: _, [], hl, _, _, _ => by simp at hl
theorem L32.inj {a b:LI} (ha:L32 a) (hb:L32 b) (h:(numB a:Int) = numB b) : a = b := Zrd a b (by rw [ha.1, hb.1]) ha.2 hb.2 (by omega)
theorem Sm.L5 {a:LI} (h:Sm a) : L5 a := by
 obtain ⟨x0, x1, x2, x3, x4, rfl, hx0, hx1, hx2, hx3, hx4⟩ := h
 refine ⟨rfl, fun x hx => ?_⟩
 simp only [M51, List.mem_cons, List.not_mem_nil, or_false] at *
 rcases hx with rfl | rfl | rfl | rfl | rfl <;> omega
end Go.Vx
set_option autoImplicit false
set_option linter.unusedVariables false
set_option linter.unusedSimpArgs false
namespace Go.Vx
open Go
end Go.Vx
set_option autoImplicit false
set_option linter.unusedVariables false
set_option linter.unusedSimpArgs false
namespace Go.Vx
open Go
end Go.Vx
set_option autoImplicit false
set_option linter.unusedVariables false
set_option linter.unusedSimpArgs false
namespace Go.Vx
open Go
abbrev z5 : LI := [0, 0, 0, 0, 0]
end Go.Vx
set_option autoImplicit false
set_option linter.unusedVariables false
set_option linter.unusedSimpArgs false
namespace Go.Vx
open Go
end Go.Vx
set_option autoImplicit false
set_option linter.unusedVariables false
set_option linter.unusedSimpArgs false
namespace Go.Vx.Ref
open Go
end Go.Vx.Ref
set_option autoImplicit false
set_option linter.unusedVariables false
set_option linter.unusedSimpArgs false
namespace Go.Vx.Ref
open Go
end Go.Vx.Ref
set_option autoImplicit false
set_option linter.unusedVariables false
set_option linter.unusedSimpArgs false
namespace Go.Vx.Ref
open Go
end Go.Vx.Ref
set_option autoImplicit false
set_option linter.unusedVariables false
set_option linter.unusedSimpArgs false
namespace Go.Vx.Ref
open Go
end Go.Vx.Ref
set_option autoImplicit false
set_option linter.unusedVariables false
set_option linter.unusedSimpArgs false
namespace Go.Vx.Ref
open Go
end Go.Vx.Ref
set_option autoImplicit false
set_option linter.unusedVariables false
set_option linter.unusedSimpArgs false
namespace Go.Vx.Ref
open Go
end Go.Vx.Ref
set_option autoImplicit false
set_option linter.unusedVariables false
set_option linter.unusedSimpArgs false
namespace Go.Vx.Ref
open Go
abbrev z10 : LI := [0, 0, 0, 0, 0, 0, 0, 0, 0, 0]
end Go.Vx.Ref
set_option autoImplicit false
set_option linter.unusedVariables false
set_option linter.unusedSimpArgs false
namespace Go.Vx.Ref
open Go
end Go.Vx.Ref
set_option autoImplicit false
set_option linter.unusedVariables false
set_option linter.unusedSimpArgs false
namespace Go.Vx.Ref
open Go
end Go.Vx.Ref
set_option autoImplicit false
set_option linter.unusedVariables false
set_option linter.unusedSimpArgs false
namespace Go.Vx.Ref
open Go
end Go.Vx.Ref
