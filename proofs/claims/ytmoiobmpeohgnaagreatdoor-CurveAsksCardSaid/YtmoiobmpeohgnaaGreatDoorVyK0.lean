/- Numbers, part K0: texts: Encode, Decode, Reduce; FieldCodec. Written by gencodec.py. -/
import Derived.Test.YtmoiobmpeohgnaaGreatDoorVyJ0
set_option autoImplicit false
set_option linter.unusedSimpArgs false
set_option linter.unusedVariables false
namespace Go.Vx
open Go
theorem ZoT {x y K J kk:Int} (k:Nat) (hkk:kk = (k:Int)) (hk:k < 64) (hK:K = 2 ^ k) (hJ:J * K = 18446744073709551616) (hJ0 : 0 < J) (x0 : 0 ≤ x) (x1:x < K) (y0 : 0 ≤ y) :
  ibin .or .u64 x (ibin .shl .u64 y kk) = x + y % J * K := by
 have e1 : ibin .shl .u64 y kk = y % J * K := by
  rw [hkk, u_shl k (by omega), ← hK, ← hJ]
  have K0 : 0 < K := by rw [hK]; exact Int.pow_pos (by decide)
  rw [Int.mul_comm y K, Int.mul_comm J K, Int.mul_emod_mul_of_pos _ _ K0, Int.mul_comm]
 have K0 : 0 < K := by rw [hK]; exact Int.pow_pos (by decide)
 have m0 : 0 ≤ y % J := Int.emod_nonneg _ (by omega)
 have m1 : y % J < J := Int.emod_lt_of_pos _ hJ0
 have q0 : 0 ≤ y % J * K := Int.mul_nonneg m0 (Int.le_of_lt K0)
 have q1 : y % J * K ≤ (J - 1) * K := Int.mul_le_mul_of_nonneg_right (by omega) (Int.le_of_lt K0)
 rw [Int.sub_mul, hJ, Int.one_mul] at q1
 rw [e1, u_or x0 (by omega) q0 (by omega)]
 have e2 : (y % J * K).toNat = (y % J).toNat <<< k := by
  rw [Nat.shiftLeft_eq, hK]
  have : (y % J) = ((y % J).toNat : Int) := by omega
  rw [this]
  have h2 : ((2 : Int) ^ k) = ((2 ^ k : Nat) : Int) := by rw [Int.natCast_pow]; rfl
  rw [h2, ← Int.natCast_mul, Int.toNat_natCast, Int.toNat_natCast]
 have hx : x.toNat < 2 ^ k := by
  have h2 : ((2 : Int) ^ k) = ((2 ^ k : Nat) : Int) := by rw [Int.natCast_pow]; rfl
  rw [hK, h2] at x1
  omega
 rw [e2, Nat.or_comm, ← Nat.shiftLeft_add_eq_or_of_lt hx, ← e2]
 omega
theorem ZoU {x y K J kk:Int} (k:Nat) (hkk:kk = (k:Int)) (hk:k < 64) (hK:K = 2 ^ k) (hJ:J * K = 18446744073709551616) (hJ0 : 256 ≤ J) (x0 : 0 ≤ x) (x1:x < K) (hy : 0 ≤ y ∧ y ≤ 255) :
  ibin .or .u64 x (ibin .shl .u64 (IntKind.wrap .u64 y) kk) = x + y * K := by
 rw [wrap64, show y % 18446744073709551616 = y by omega, ZoT k hkk hk hK hJ (by omega) x0 x1 hy.1, Int.emod_eq_of_lt hy.1 (by omega)]
theorem word8 {b0 b1 b2 b3 b4 b5 b6 b7:Int} (h0 : 0 ≤ b0 ∧ b0 ≤ 255) (h1 : 0 ≤ b1 ∧ b1 ≤ 255) (h2 : 0 ≤ b2 ∧ b2 ≤ 255) (h3 : 0 ≤ b3 ∧ b3 ≤ 255) (h4 : 0 ≤ b4 ∧ b4 ≤ 255) (h5 : 0 ≤ b5 ∧ b5 ≤ 255) (h6 : 0 ≤ b6 ∧ b6 ≤ 255) (h7 : 0 ≤ b7 ∧ b7 ≤ 255) : (ibin .or .u64 (ibin .or .u64 (ibin .or .u64 (ibin .or .u64 (ibin .or .u64 (ibin .or .u64 (ibin .or .u64 (ibin .or .u64 0 (ibin .shl .u64 (IntKind.wrap .u64 b0) 0)) (ibin .shl .u64 (IntKind.wrap .u64 b1) 8)) (ibin .shl .u64 (IntKind.wrap .u64 b2) 16)) (ibin .shl .u64 (IntKind.wrap .u64 b3) 24)) (ibin .shl .u64 (IntKind.wrap .u64 b4) 32)) (ibin .shl .u64 (IntKind.wrap .u64 b5) 40)) (ibin .shl .u64 (IntKind.wrap .u64 b6) 48)) (ibin .shl .u64 (IntKind.wrap .u64 b7) 56)) = b0 * 1 + b1 * 256 + b2 * 65536 + b3 * 16777216 + b4 * 4294967296 + b5 * 1099511627776 + b6 * 281474976710656 + b7 * 72057594037927936 := by
 have e0 : ibin .or .u64 0 (ibin .shl .u64 (IntKind.wrap .u64 b0) 0) = b0 := by rw [ZoU (kk := 0) (K := 1) (J := 18446744073709551616) 0 rfl (by decide) (by decide) (by decide) (by decide) (by decide) (by decide) h0]; omega
 rw [e0]
 rw [ZoU (kk := 8) (K := 256) (J := 72057594037927936) 8 rfl (by decide) (by decide) (by decide) (by decide) (by omega) (by omega) h1]
 rw [ZoU (kk := 16) (K := 65536) (J := 281474976710656) 16 rfl (by decide) (by decide) (by decide) (by decide) (by omega) (by omega) h2]
 rw [ZoU (kk := 24) (K := 16777216) (J := 1099511627776) 24 rfl (by decide) (by decide) (by decide) (by decide) (by omega) (by omega) h3]
 rw [ZoU (kk := 32) (K := 4294967296) (J := 4294967296) 32 rfl (by decide) (by decide) (by decide) (by decide) (by omega) (by omega) h4]
 rw [ZoU (kk := 40) (K := 1099511627776) (J := 16777216) 40 rfl (by decide) (by decide) (by decide) (by decide) (by omega) (by omega) h5]
 rw [ZoU (kk := 48) (K := 281474976710656) (J := 65536) 48 rfl (by decide) (by decide) (by decide) (by decide) (by omega) (by omega) h6]
 rw [ZoU (kk := 56) (K := 72057594037927936) (J := 256) 56 rfl (by decide) (by decide) (by decide) (by decide) (by omega) (by omega) h7]
 omega
theorem ZgK {b0 b1 b2 b3 b4 b5 b6 b7:Int} {l:LI} (h0 : 0 ≤ b0) (h1 : 0 ≤ b1) (h2 : 0 ≤ b2) (h3 : 0 ≤ b3) (h4 : 0 ≤ b4) (h5 : 0 ≤ b5) (h6 : 0 ≤ b6) (h7 : 0 ≤ b7) :
  (numB (b0 :: b1 :: b2 :: b3 :: b4 :: b5 :: b6 :: b7 :: l) : Int) = b0 + b1 * 256 + b2 * 65536 + b3 * 16777216 + b4 * 4294967296 + b5 * 1099511627776 + b6 * 281474976710656 + b7 * 72057594037927936 + 18446744073709551616 * numB l := by
 simp only [numB]
 omega
theorem ZEk {b:LI} (h:L32 b) : Sm (Zdr b) ∧ val (Zdr b) = (numB b:Int) % 57896044618658097711785492504343953926634992332820282019728792003956564819968 := by
 obtain ⟨hl, hr⟩ := h
 obtain ⟨c0, c1, c2, c3, c4, c5, c6, c7, c8, c9, c10, c11, c12, c13, c14, c15, c16, c17, c18, c19, c20, c21, c22, c23, c24, c25, c26, c27, c28, c29, c30, c31, rfl⟩ := ZDw hl
 have h0 := hr c0 (by simp)
 have h1 := hr c1 (by simp)
 have h2 := hr c2 (by simp)
 have h3 := hr c3 (by simp)
 have h4 := hr c4 (by simp)
 have h5 := hr c5 (by simp)
 have h6 := hr c6 (by simp)
 have h7 := hr c7 (by simp)
 have h8 := hr c8 (by simp)
 have h9 := hr c9 (by simp)
 have h10 := hr c10 (by simp)
 have h11 := hr c11 (by simp)
 have h12 := hr c12 (by simp)
 have h13 := hr c13 (by simp)
 have h14 := hr c14 (by simp)
 have h15 := hr c15 (by simp)
 have h16 := hr c16 (by simp)
 have h17 := hr c17 (by simp)
 have h18 := hr c18 (by simp)
 have h19 := hr c19 (by simp)
 have h20 := hr c20 (by simp)
 have h21 := hr c21 (by simp)
 have h22 := hr c22 (by simp)
 have h23 := hr c23 (by simp)
 have h24 := hr c24 (by simp)
 have h25 := hr c25 (by simp)
 have h26 := hr c26 (by simp)
 have h27 := hr c27 (by simp)
 have h28 := hr c28 (by simp)
 have h29 := hr c29 (by simp)
 have h30 := hr c30 (by simp)
 have h31 := hr c31 (by simp)
 clear hr hl
 unfold Zdr
 simp only [List.getD_cons_zero, List.getD_cons_succ]
 rw [word8 h0 h1 h2 h3 h4 h5 h6 h7]
 rw [word8 h8 h9 h10 h11 h12 h13 h14 h15]
 rw [word8 h16 h17 h18 h19 h20 h21 h22 h23]
 rw [word8 h24 h25 h26 h27 h28 h29 h30 h31]
 have u0 : 0 ≤ c0 * 1 + c1 * 256 + c2 * 65536 + c3 * 16777216 + c4 * 4294967296 + c5 * 1099511627776 + c6 * 281474976710656 + c7 * 72057594037927936 ∧ c0 * 1 + c1 * 256 + c2 * 65536 + c3 * 16777216 + c4 * 4294967296 + c5 * 1099511627776 + c6 * 281474976710656 + c7 * 72057594037927936 < 18446744073709551616 := by clear h8 h9 h10 h11 h12 h13 h14 h15 h16 h17 h18 h19 h20 h21 h22 h23 h24 h25 h26 h27 h28 h29 h30 h31; omega
 have u1 : 0 ≤ c8 * 1 + c9 * 256 + c10 * 65536 + c11 * 16777216 + c12 * 4294967296 + c13 * 1099511627776 + c14 * 281474976710656 + c15 * 72057594037927936 ∧ c8 * 1 + c9 * 256 + c10 * 65536 + c11 * 16777216 + c12 * 4294967296 + c13 * 1099511627776 + c14 * 281474976710656 + c15 * 72057594037927936 < 18446744073709551616 := by clear h0 h1 h2 h3 h4 h5 h6 h7 h16 h17 h18 h19 h20 h21 h22 h23 h24 h25 h26 h27 h28 h29 h30 h31; omega
 have u2 : 0 ≤ c16 * 1 + c17 * 256 + c18 * 65536 + c19 * 16777216 + c20 * 4294967296 + c21 * 1099511627776 + c22 * 281474976710656 + c23 * 72057594037927936 ∧ c16 * 1 + c17 * 256 + c18 * 65536 + c19 * 16777216 + c20 * 4294967296 + c21 * 1099511627776 + c22 * 281474976710656 + c23 * 72057594037927936 < 18446744073709551616 := by clear h0 h1 h2 h3 h4 h5 h6 h7 h8 h9 h10 h11 h12 h13 h14 h15 h24 h25 h26 h27 h28 h29 h30 h31; omega
 have u3 : 0 ≤ c24 * 1 + c25 * 256 + c26 * 65536 + c27 * 16777216 + c28 * 4294967296 + c29 * 1099511627776 + c30 * 281474976710656 + c31 * 72057594037927936 ∧ c24 * 1 + c25 * 256 + c26 * 65536 + c27 * 16777216 + c28 * 4294967296 + c29 * 1099511627776 + c30 * 281474976710656 + c31 * 72057594037927936 < 18446744073709551616 := by clear h0 h1 h2 h3 h4 h5 h6 h7 h8 h9 h10 h11 h12 h13 h14 h15 h16 h17 h18 h19 h20 h21 h22 h23; omega
 have hn : (numB [c0, c1, c2, c3, c4, c5, c6, c7, c8, c9, c10, c11, c12, c13, c14, c15, c16, c17, c18, c19, c20, c21, c22, c23, c24, c25, c26, c27, c28, c29, c30, c31] : Int) = (c0 * 1 + c1 * 256 + c2 * 65536 + c3 * 16777216 + c4 * 4294967296 + c5 * 1099511627776 + c6 * 281474976710656 + c7 * 72057594037927936) * 1 + (c8 * 1 + c9 * 256 + c10 * 65536 + c11 * 16777216 + c12 * 4294967296 + c13 * 1099511627776 + c14 * 281474976710656 + c15 * 72057594037927936) * 18446744073709551616 + (c16 * 1 + c17 * 256 + c18 * 65536 + c19 * 16777216 + c20 * 4294967296 + c21 * 1099511627776 + c22 * 281474976710656 + c23 * 72057594037927936) * 340282366920938463463374607431768211456 + (c24 * 1 + c25 * 256 + c26 * 65536 + c27 * 16777216 + c28 * 4294967296 + c29 * 1099511627776 + c30 * 281474976710656 + c31 * 72057594037927936) * 6277101735386680763835789423207666416102355444464034512896 := by
  rw [ZgK h0.1 h1.1 h2.1 h3.1 h4.1 h5.1 h6.1 h7.1, ZgK h8.1 h9.1 h10.1 h11.1 h12.1 h13.1 h14.1 h15.1, ZgK h16.1 h17.1 h18.1 h19.1 h20.1 h21.1 h22.1 h23.1, ZgK h24.1 h25.1 h26.1 h27.1 h28.1 h29.1 h30.1 h31.1]
  simp only [numB]
  clear u0 u1 u2 u3
  clear h0 h1 h2 h3 h4 h5 h6 h7 h8 h9 h10 h11 h12 h13 h14 h15 h16 h17 h18 h19 h20 h21 h22 h23 h24 h25 h26 h27 h28 h29 h30 h31
  omega
 rw [hn]
 clear hn h0 h1 h2 h3 h4 h5 h6 h7 h8 h9 h10 h11 h12 h13 h14 h15 h16 h17 h18 h19 h20 h21 h22 h23 h24 h25 h26 h27 h28 h29 h30 h31
 generalize c0 * 1 + c1 * 256 + c2 * 65536 + c3 * 16777216 + c4 * 4294967296 + c5 * 1099511627776 + c6 * 281474976710656 + c7 * 72057594037927936 = w0 at *
 generalize c8 * 1 + c9 * 256 + c10 * 65536 + c11 * 16777216 + c12 * 4294967296 + c13 * 1099511627776 + c14 * 281474976710656 + c15 * 72057594037927936 = w1 at *
 generalize c16 * 1 + c17 * 256 + c18 * 65536 + c19 * 16777216 + c20 * 4294967296 + c21 * 1099511627776 + c22 * 281474976710656 + c23 * 72057594037927936 = w2 at *
 generalize c24 * 1 + c25 * 256 + c26 * 65536 + c27 * 16777216 + c28 * 4294967296 + c29 * 1099511627776 + c30 * 281474976710656 + c31 * 72057594037927936 = w3 at *
 have s51 : ibin .shr .u64 w0 51 = w0 / 2251799813685248 := Ze5 w0
 have s38 : ibin .shr .u64 w1 38 = w1 / 274877906944 := u_shr 38 (by decide)
 have s25 : ibin .shr .u64 w2 25 = w2 / 33554432 := u_shr 25 (by decide)
 have s12 : ibin .shr .u64 w3 12 = w3 / 4096 := u_shr 12 (by decide)
 rw [s51, s38, s25, s12]
 rw [ZoT (kk := 13) (K := 8192) (J := 2251799813685248) 13 rfl (by decide) (by decide) (by decide) (by decide) (by omega) (by omega) u1.1,
  ZoT (kk := 26) (K := 67108864) (J := 274877906944) 26 rfl (by decide) (by decide) (by decide) (by decide) (by omega) (by omega) u2.1,
  ZoT (kk := 39) (K := 549755813888) (J := 33554432) 39 rfl (by decide) (by decide) (by decide) (by decide) (by omega) (by omega) u3.1]
 rw [ZhL u0.1 u0.2]
 rw [ZhL (a := w0 / 2251799813685248 + w1 % 2251799813685248 * 8192) (by omega) (by omega)]
 rw [ZhL (a := w1 / 274877906944 + w2 % 274877906944 * 67108864) (by omega) (by omega)]
 rw [ZhL (a := w2 / 33554432 + w3 % 33554432 * 549755813888) (by omega) (by omega)]
 rw [ZhL (a := w3 / 4096) (by omega) (by omega)]
 constructor
 ·exact ⟨_, _, _, _, _, rfl, mod51 _, mod51 _, mod51 _, mod51 _, mod51 _⟩
 ·simp only [val]
  have e1 : (w0 / 2251799813685248 + w1 % 2251799813685248 * 8192) % 2251799813685248 = w0 / 2251799813685248 + w1 % 274877906944 * 8192 := by omega
  have e2 : (w1 / 274877906944 + w2 % 274877906944 * 67108864) % 2251799813685248 = w1 / 274877906944 + w2 % 33554432 * 67108864 := by omega
  have e3 : (w2 / 33554432 + w3 % 33554432 * 549755813888) % 2251799813685248 = w2 / 33554432 + w3 % 4096 * 549755813888 := by omega
  rw [e1, e2, e3]
  clear e1 e2 e3 s51 s38 s25 s12
  omega
theorem bytes8 {w:Int} (h:U w) (l:LI) : (numB (IntKind.wrap .u8 (ibin .shr .u64 w 0) :: IntKind.wrap .u8 (ibin .shr .u64 w 8) :: IntKind.wrap .u8 (ibin .shr .u64 w 16) :: IntKind.wrap .u8 (ibin .shr .u64 w 24) :: IntKind.wrap .u8 (ibin .shr .u64 w 32) :: IntKind.wrap .u8 (ibin .shr .u64 w 40) ::
  IntKind.wrap .u8 (ibin .shr .u64 w 48) :: IntKind.wrap .u8 (ibin .shr .u64 w 56) :: l) : Int) = w + 18446744073709551616 * numB l := by
 have e0 : ibin .shr .u64 w 0 = w := by have := u_shr (a := w) 0 (by decide); simpa using this
 have e1 : ibin .shr .u64 w 8 = w / 256 := u_shr 8 (by decide)
 have e2 : ibin .shr .u64 w 16 = w / 65536 := u_shr 16 (by decide)
 have e3 : ibin .shr .u64 w 24 = w / 16777216 := u_shr 24 (by decide)
 have e4 : ibin .shr .u64 w 32 = w / 4294967296 := u_shr 32 (by decide)
 have e5 : ibin .shr .u64 w 40 = w / 1099511627776 := u_shr 40 (by decide)
 have e6 : ibin .shr .u64 w 48 = w / 281474976710656 := u_shr 48 (by decide)
 have e7 : ibin .shr .u64 w 56 = w / 72057594037927936 := u_shr 56 (by decide)
 simp only [e0, e1, e2, e3, e4, e5, e6, e7, wrap8]
 rw [ZgK (by omega) (by omega) (by omega) (by omega) (by omega) (by omega) (by omega) (by omega)]
 simp only [U] at h
 omega
theorem ZxE (n:Int) : 0 ≤ IntKind.wrap .u8 n ∧ IntKind.wrap .u8 n ≤ 255 := by rw [wrap8]; omega
theorem ZvZ {a:LI} (ha:L5 a) : L32 (Zau a) ∧ (numB (Zau a) : Int) = val a % pF := by
 obtain ⟨c, h⟩ := Zeg ha
 rw [← h]
 obtain ⟨x0, x1, x2, x3, x4, hx, h0, h1, h2, h3, h4, -⟩ := c
 clear h
 unfold Zau
 rw [hx]
 clear hx
 simp only [List.getD_cons_zero, List.getD_cons_succ]
 have s13 : ibin .shr .u64 x1 13 = x1 / 8192 := u_shr 13 (by decide)
 have s26 : ibin .shr .u64 x2 26 = x2 / 67108864 := u_shr 26 (by decide)
 have s39 : ibin .shr .u64 x3 39 = x3 / 549755813888 := u_shr 39 (by decide)
 simp only [M51] at *
 rw [s13, s26, s39]
 rw [ZoT (kk := 51) (K := 2251799813685248) (J := 8192) 51 rfl (by decide) (by decide) (by decide) (by decide) (by omega) (by omega) h1.1,
  ZoT (kk := 38) (K := 274877906944) (J := 67108864) 38 rfl (by decide) (by decide) (by decide) (by decide) (by omega) (by omega) h2.1,
  ZoT (kk := 25) (K := 33554432) (J := 549755813888) 25 rfl (by decide) (by decide) (by decide) (by decide) (by omega) (by omega) h3.1,
  ZoT (kk := 12) (K := 4096) (J := 4503599627370496) 12 rfl (by decide) (by decide) (by decide) (by decide) (by omega) (by omega) h4.1]
 constructor
 ·refine ⟨rfl, fun y hy => ?_⟩
  simp only [List.mem_cons, List.not_mem_nil, or_false] at hy
  rcases hy with rfl | rfl | rfl | rfl | rfl | rfl | rfl | rfl | rfl | rfl | rfl | rfl | rfl | rfl | rfl | rfl | rfl | rfl | rfl | rfl | rfl | rfl | rfl | rfl | rfl | rfl | rfl | rfl | rfl | rfl | rfl | rfl <;> exact ZxE _
 ·rw [bytes8 (by simp only [U]; omega), bytes8 (by simp only [U]; omega), bytes8 (by simp only [U]; omega), bytes8 (by simp only [U]; omega)]
  simp only [numB, val]
  clear s13 s26 s39
  omega
theorem ZBR : (a b:LI) → a.length = b.length → Bs a → Bs b → numB a = numB b → a = b
 | [], [], _, _, _, _ => rfl
 | x :: a, y :: b, hl, ha, hb, h => by
  have hx := ha x (by simp)
  have hy := hb y (by simp)
  simp only [numB] at h
  have e1 : x = y := by omega
  have e2 : numB a = numB b := by omega
  rw [e1, ZBR a b (by simpa using hl) (fun z hz => ha z (by simp [hz])) (fun z hz => hb z (by simp [hz])) e2]
 | [], _ :: _, hl, _, _, _ => by simp at hl
 | _ :: _, [], hl, _, _, _ => by simp at hl
theorem L32.inj {a b:LI} (ha:L32 a) (hb:L32 b) (h:(numB a:Int) = numB b) : a = b := ZBR a b (by rw [ha.1, hb.1]) ha.2 hb.2 (by omega)
theorem Sm.L5 {a:LI} (h:Sm a) : L5 a := by
 obtain ⟨x0, x1, x2, x3, x4, rfl, hx0, hx1, hx2, hx3, hx4⟩ := h
 refine ⟨rfl, fun x hx => ?_⟩
 simp only [M51, List.mem_cons, List.not_mem_nil, or_false] at *
 rcases hx with rfl | rfl | rfl | rfl | rfl <;> omega
theorem Sm.can {a:LI} (h:Sm a) (hv:val a < pF) : Can a := by
 obtain ⟨x0, x1, x2, x3, x4, rfl, hx0, hx1, hx2, hx3, hx4⟩ := h
 exact ⟨_, _, _, _, _, rfl, hx0, hx1, hx2, hx3, hx4, hv⟩
theorem Zyb {b:LI} (h:L32 b) : (0 ≤ List.getD b 31 0 ∧ List.getD b 31 0 ≤ 255) ∧ (127 < List.getD b 31 0 ↔ 57896044618658097711785492504343953926634992332820282019728792003956564819968 ≤ (numB b:Int)) := by
 obtain ⟨hl, hr⟩ := h
 obtain ⟨c0, c1, c2, c3, c4, c5, c6, c7, c8, c9, c10, c11, c12, c13, c14, c15, c16, c17, c18, c19, c20, c21, c22, c23, c24, c25, c26, c27, c28, c29, c30, c31, rfl⟩ := ZDw hl
 have h0 := hr c0 (by simp)
 have h1 := hr c1 (by simp)
 have h2 := hr c2 (by simp)
 have h3 := hr c3 (by simp)
 have h4 := hr c4 (by simp)
 have h5 := hr c5 (by simp)
 have h6 := hr c6 (by simp)
 have h7 := hr c7 (by simp)
 have h8 := hr c8 (by simp)
 have h9 := hr c9 (by simp)
 have h10 := hr c10 (by simp)
 have h11 := hr c11 (by simp)
 have h12 := hr c12 (by simp)
 have h13 := hr c13 (by simp)
 have h14 := hr c14 (by simp)
 have h15 := hr c15 (by simp)
 have h16 := hr c16 (by simp)
 have h17 := hr c17 (by simp)
 have h18 := hr c18 (by simp)
 have h19 := hr c19 (by simp)
 have h20 := hr c20 (by simp)
 have h21 := hr c21 (by simp)
 have h22 := hr c22 (by simp)
 have h23 := hr c23 (by simp)
 have h24 := hr c24 (by simp)
 have h25 := hr c25 (by simp)
 have h26 := hr c26 (by simp)
 have h27 := hr c27 (by simp)
 have h28 := hr c28 (by simp)
 have h29 := hr c29 (by simp)
 have h30 := hr c30 (by simp)
 have h31 := hr c31 (by simp)
 simp only [List.getD_cons_zero, List.getD_cons_succ]
 refine ⟨h31, ?_⟩
 rw [ZgK h0.1 h1.1 h2.1 h3.1 h4.1 h5.1 h6.1 h7.1, ZgK h8.1 h9.1 h10.1 h11.1 h12.1 h13.1 h14.1 h15.1, ZgK h16.1 h17.1 h18.1 h19.1 h20.1 h21.1 h22.1 h23.1, ZgK h24.1 h25.1 h26.1 h27.1 h28.1 h29.1 h30.1 h31.1]
 simp only [numB]
 have u0 : 0 ≤ c0 + c1 * 256 + c2 * 65536 + c3 * 16777216 + c4 * 4294967296 + c5 * 1099511627776 + c6 * 281474976710656 + c7 * 72057594037927936 ∧ c0 + c1 * 256 + c2 * 65536 + c3 * 16777216 + c4 * 4294967296 + c5 * 1099511627776 + c6 * 281474976710656 + c7 * 72057594037927936 < 18446744073709551616 := by clear h8 h9 h10 h11 h12 h13 h14 h15 h16 h17 h18 h19 h20 h21 h22 h23 h24 h25 h26 h27 h28 h29 h30 h31; omega
 have u1 : 0 ≤ c8 + c9 * 256 + c10 * 65536 + c11 * 16777216 + c12 * 4294967296 + c13 * 1099511627776 + c14 * 281474976710656 + c15 * 72057594037927936 ∧ c8 + c9 * 256 + c10 * 65536 + c11 * 16777216 + c12 * 4294967296 + c13 * 1099511627776 + c14 * 281474976710656 + c15 * 72057594037927936 < 18446744073709551616 := by clear h0 h1 h2 h3 h4 h5 h6 h7 h16 h17 h18 h19 h20 h21 h22 h23 h24 h25 h26 h27 h28 h29 h30 h31; omega
 have u2 : 0 ≤ c16 + c17 * 256 + c18 * 65536 + c19 * 16777216 + c20 * 4294967296 + c21 * 1099511627776 + c22 * 281474976710656 + c23 * 72057594037927936 ∧ c16 + c17 * 256 + c18 * 65536 + c19 * 16777216 + c20 * 4294967296 + c21 * 1099511627776 + c22 * 281474976710656 + c23 * 72057594037927936 < 18446744073709551616 := by clear h0 h1 h2 h3 h4 h5 h6 h7 h8 h9 h10 h11 h12 h13 h14 h15 h24 h25 h26 h27 h28 h29 h30 h31; omega
 have u3 : 0 ≤ c24 + c25 * 256 + c26 * 65536 + c27 * 16777216 + c28 * 4294967296 + c29 * 1099511627776 + c30 * 281474976710656 ∧ c24 + c25 * 256 + c26 * 65536 + c27 * 16777216 + c28 * 4294967296 + c29 * 1099511627776 + c30 * 281474976710656 < 72057594037927936 := by clear h0 h1 h2 h3 h4 h5 h6 h7 h8 h9 h10 h11 h12 h13 h14 h15 h16 h17 h18 h19 h20 h21 h22 h23 h31; omega
 clear h0 h1 h2 h3 h4 h5 h6 h7 h8 h9 h10 h11 h12 h13 h14 h15 h16 h17 h18 h19 h20 h21 h22 h23 h24 h25 h26 h27 h28 h29 h30
 generalize c0 + c1 * 256 + c2 * 65536 + c3 * 16777216 + c4 * 4294967296 + c5 * 1099511627776 + c6 * 281474976710656 + c7 * 72057594037927936 = w0 at *
 generalize c8 + c9 * 256 + c10 * 65536 + c11 * 16777216 + c12 * 4294967296 + c13 * 1099511627776 + c14 * 281474976710656 + c15 * 72057594037927936 = w1 at *
 generalize c16 + c17 * 256 + c18 * 65536 + c19 * 16777216 + c20 * 4294967296 + c21 * 1099511627776 + c22 * 281474976710656 + c23 * 72057594037927936 = w2 at *
 generalize c24 + c25 * 256 + c26 * 65536 + c27 * 16777216 + c28 * 4294967296 + c29 * 1099511627776 + c30 * 281474976710656 = w3 at *
 omega
theorem ZqZ {b:LI} (h:L32 b) : ((numB b:Int) < pF ∧ (ZaQ b).2 = 0 ∧ Can (ZaQ b).1 ∧ val (ZaQ b).1 = numB b) ∨ (pF ≤ (numB b:Int) ∧ ZaQ b = ([0, 0, 0, 0, 0], 3)) := by
 obtain ⟨-, ht⟩ := Zyb h
 obtain ⟨sm, hv⟩ := ZEk h
 unfold ZaQ
 by_cases h1 : 127 < List.getD b 31 0
 ·refine .inr ⟨by have := ht.1 h1; simp only [pF]; omega, ?_⟩
  rw [show icmp .gtr (List.getD b 31 0) 127 = true from decide_eq_true h1]
  rfl
 ·rw [show icmp .gtr (List.getD b 31 0) 127 = false from decide_eq_false h1, cond_false]
  have hlt : (numB b:Int) < 57896044618658097711785492504343953926634992332820282019728792003956564819968 := Int.not_le.1 fun hh => h1 (ht.2 hh)
  rw [Int.emod_eq_of_lt (by omega) hlt] at hv
  by_cases h2 : (numB b:Int) < pF
  ·have c : Can (Zdr b) := sm.can (by rw [hv]; exact h2)
   rw [ZzV c, decide_eq_true rfl]
   exact .inl ⟨h2, rfl, c, hv⟩
  ·have : ¬ Zdr b = Zaa (Zdr b) := fun e => by
    have := (Zeg sm.L5).1.nonneg.2
    rw [← e, hv] at this
    exact h2 this
   rw [decide_eq_false this]
   exact .inr ⟨by omega, rfl⟩
theorem ZEZ {y:Int} (h : 0 ≤ y ∧ y ≤ 255) : ibin .and .u8 y 127 = y % 128 := by
 show IntKind.wrap .u8 ((BitVec.ofInt 8 y &&& BitVec.ofInt 8 127).toNat : Int) = _
 have : (BitVec.ofInt 8 y &&& BitVec.ofInt 8 127).toNat = y.toNat % 128 := by
  rw [BitVec.toNat_and, BitVec.toNat_ofInt, show (BitVec.ofInt 8 127).toNat = 2 ^ 7 - 1 from rfl, Nat.and_two_pow_sub_one_eq_mod]
  omega
 rw [this, wrap8]
 omega
end Go.Vx
