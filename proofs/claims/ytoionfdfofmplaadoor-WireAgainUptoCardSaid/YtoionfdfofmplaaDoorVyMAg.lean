import Derived.Test.YtoionfdfofmplaaDoorVyEn
import Derived.KernelRfl
import Derived.Test.YtoionfdfofmplaaDoorFp
set_option autoImplicit false
set_option linter.unusedVariables false
set_option linter.unusedSimpArgs false
namespace Go.Vx
open Go
namespace Pr
theorem ZsJ {a b:Int} (a0 : 0 ≤ a) (a1:a < 18446744073709551616) (b0 : 0 ≤ b) (b1:b < 18446744073709551616) : ibin .or .u64 a b = ibin .or .u64 b a := by
 rw [u_or a0 a1 b0 b1, u_or b0 b1 a0 a1, Nat.or_comm]
theorem Zjw {x b:Int} (k:Nat) (hk:k ≤ 56) (hx : 0 ≤ x ∧ x < 2 ^ k) (hb : 0 ≤ b ∧ b ≤ 255) : ibin .or .u64 x (ibin .shl .u64 (IntKind.wrap .u64 b) (k:Int)) = x + b * 2 ^ k := by
 have h2 : (2 : Int) ^ k ≤ 72057594037927936 := by
  have h3 : (2 : Nat) ^ k ≤ 2 ^ 56 := Nat.pow_le_pow_right (by decide) hk
  have h4 : ((2 ^ k : Nat) : Int) ≤ ((2 ^ 56 : Nat) : Int) := Int.ofNat_le.2 h3
  rw [Int.natCast_pow] at h4
  exact h4
 have hp : (0 : Int) < 2 ^ k := Int.pow_pos (by decide)
 have hw : IntKind.wrap .u64 b = b := by
  have hm : ∀ y : Int, IntKind.wrap .u64 y = y % 18446744073709551616 := fun y => by simp [IntKind.wrap, IntKind.signed, IntKind.bits]
  rw [hm]; omega
 have hbp : 0 ≤ b * 2 ^ k ∧ b * 2 ^ k < 18446744073709551616 := by
  have h1 : b * 2 ^ k ≤ 255 * 2 ^ k := Int.mul_le_mul_of_nonneg_right hb.2 (Int.le_of_lt hp)
  exact ⟨Int.mul_nonneg hb.1 (Int.le_of_lt hp), by omega⟩
 rw [hw]
 have hs : ibin .shl .u64 b (k:Int) = b * 2 ^ k := by
  have : ibin .shl .u64 b (k:Int) = (b * 2 ^ k) % 18446744073709551616 := u_shl k (by omega)
  rw [this, Int.emod_eq_of_lt hbp.1 hbp.2]
 have hc : ibin .or .u64 x (ibin .shl .u64 b (k:Int)) = ibin .or .u64 (ibin .shl .u64 b (k:Int)) x := by
  rw [hs]
  exact ZsJ hx.1 (by omega) hbp.1 hbp.2
 rw [hc, ZsK k (by omega) ⟨hb.1, by omega⟩ hx (by omega), Int.emod_eq_of_lt hbp.1 hbp.2]
 omega
def w8 (b0 b1 b2 b3 b4 b5 b6 b7:Int) : Int :=
 ibin .or .u64 (ibin .or .u64 (ibin .or .u64 (ibin .or .u64 (ibin .or .u64 (ibin .or .u64 (ibin .or .u64 (ibin .or .u64 0 (ibin .shl .u64 (IntKind.wrap .u64 b0) 0)) (ibin .shl .u64 (IntKind.wrap .u64 b1) 8)) (ibin .shl .u64 (IntKind.wrap .u64 b2) 16)) (ibin .shl .u64 (IntKind.wrap .u64 b3) 24)) (ibin .shl .u64 (IntKind.wrap .u64 b4) 32)) (ibin .shl .u64 (IntKind.wrap .u64 b5) 40)) (ibin .shl .u64 (IntKind.wrap .u64 b6) 48)) (ibin .shl .u64 (IntKind.wrap .u64 b7) 56)
abbrev By (b:Int) : Prop := 0 ≤ b ∧ b ≤ 255
theorem Zkl {b0 b1 b2 b3 b4 b5 b6 b7:Int} (h0:By b0) (h1:By b1) (h2:By b2) (h3:By b3) (h4:By b4) (h5:By b5) (h6:By b6) (h7:By b7) :
  w8 b0 b1 b2 b3 b4 b5 b6 b7 = b0 + b1 * 256 + b2 * 65536 + b3 * 16777216 + b4 * 4294967296 + b5 * 1099511627776 + b6 * 281474976710656 + b7 * 72057594037927936 := by
 have e0 := Zjw (x := 0) 0 (by decide) (by decide) h0
 have e1 := Zjw (x := b0) 8 (by decide) (by rw [show (2 : Int) ^ 8 = 256 from by decide]; omega) h1
 have e2 := Zjw (x := b0 + b1 * 256) 16 (by decide) (by rw [show (2 : Int) ^ 16 = 65536 from by decide]; omega) h2
 have e3 := Zjw (x := b0 + b1 * 256 + b2 * 65536) 24 (by decide) (by rw [show (2 : Int) ^ 24 = 16777216 from by decide]; omega) h3
 have e4 := Zjw (x := b0 + b1 * 256 + b2 * 65536 + b3 * 16777216) 32 (by decide) (by rw [show (2 : Int) ^ 32 = 4294967296 from by decide]; omega) h4
 have e5 := Zjw (x := b0 + b1 * 256 + b2 * 65536 + b3 * 16777216 + b4 * 4294967296) 40 (by decide) (by rw [show (2 : Int) ^ 40 = 1099511627776 from by decide]; omega) h5
 have e6 := Zjw (x := b0 + b1 * 256 + b2 * 65536 + b3 * 16777216 + b4 * 4294967296 + b5 * 1099511627776) 48 (by decide) (by rw [show (2 : Int) ^ 48 = 281474976710656 from by decide]; omega) h6
 have e7 := Zjw (x := b0 + b1 * 256 + b2 * 65536 + b3 * 16777216 + b4 * 4294967296 + b5 * 1099511627776 + b6 * 281474976710656) 56 (by decide) (by rw [show (2 : Int) ^ 56 = 72057594037927936 from by decide]; omega) h7
 rw [show (2 : Int) ^ 8 = 256 from by decide] at e1
 rw [show (2 : Int) ^ 16 = 65536 from by decide] at e2
 rw [show (2 : Int) ^ 24 = 16777216 from by decide] at e3
 rw [show (2 : Int) ^ 32 = 4294967296 from by decide] at e4
 rw [show (2 : Int) ^ 40 = 1099511627776 from by decide] at e5
 rw [show (2 : Int) ^ 48 = 281474976710656 from by decide] at e6
 rw [show (2 : Int) ^ 56 = 72057594037927936 from by decide] at e7
 rw [show (2 : Int) ^ 0 = 1 from by decide, Int.zero_add, Int.mul_one] at e0
 have e0' : ibin .or .u64 0 (ibin .shl .u64 (IntKind.wrap .u64 b0) 0) = b0 := e0
 have e1' : ibin .or .u64 b0 (ibin .shl .u64 (IntKind.wrap .u64 b1) 8) = _ := e1
 have e2' : ibin .or .u64 (b0 + b1 * 256) (ibin .shl .u64 (IntKind.wrap .u64 b2) 16) = _ := e2
 have e3' : ibin .or .u64 (b0 + b1 * 256 + b2 * 65536) (ibin .shl .u64 (IntKind.wrap .u64 b3) 24) = _ := e3
 have e4' : ibin .or .u64 (b0 + b1 * 256 + b2 * 65536 + b3 * 16777216) (ibin .shl .u64 (IntKind.wrap .u64 b4) 32) = _ := e4
 have e5' : ibin .or .u64 (b0 + b1 * 256 + b2 * 65536 + b3 * 16777216 + b4 * 4294967296) (ibin .shl .u64 (IntKind.wrap .u64 b5) 40) = _ := e5
 have e6' : ibin .or .u64 (b0 + b1 * 256 + b2 * 65536 + b3 * 16777216 + b4 * 4294967296 + b5 * 1099511627776) (ibin .shl .u64 (IntKind.wrap .u64 b6) 48) = _ := e6
 have e7' : ibin .or .u64 (b0 + b1 * 256 + b2 * 65536 + b3 * 16777216 + b4 * 4294967296 + b5 * 1099511627776 + b6 * 281474976710656) (ibin .shl .u64 (IntKind.wrap .u64 b7) 56) = _ := e7
 unfold w8
 rw [e0', e1', e2', e3', e4', e5', e6', e7']
theorem ZsL (N f:Nat) (a0 a1 a2 a3 a4 a5 a6 a7 a8 a9 a10 a11 a12 a13 a14 a15 a16 a17 a18 a19 a20 a21 a22 a23 a24 a25 a26 a27 a28 a29 a30 a31:Int) :
  loopF (ZcO N) (f + 33) (((), (), [a0, a1, a2, a3, a4, a5, a6, a7, a8, a9, a10, a11, a12, a13, a14, a15, a16, a17, a18, a19, a20, a21, a22, a23, a24, a25, a26, a27, a28, a29, a30, a31], 0), ((), [0, 0, 0, 0])) =
   some (.inl (((), ()), ((), [w8 a0 a1 a2 a3 a4 a5 a6 a7, w8 a8 a9 a10 a11 a12 a13 a14 a15, w8 a16 a17 a18 a19 a20 a21 a22 a23, w8 a24 a25 a26 a27 a28 a29 a30 a31]))) := by kernel_rfl
theorem list32 {a:LI} (h:a.length = 32) : ∃ a0 a1 a2 a3 a4 a5 a6 a7 a8 a9 a10 a11 a12 a13 a14 a15 a16 a17 a18 a19 a20 a21 a22 a23 a24 a25 a26 a27 a28 a29 a30 a31, a = [a0, a1, a2, a3, a4, a5, a6, a7, a8, a9, a10, a11, a12, a13, a14, a15, a16, a17, a18, a19, a20, a21, a22, a23, a24, a25, a26, a27, a28, a29, a30, a31] := by
 match a, h with
 | [a0, a1, a2, a3, a4, a5, a6, a7, a8, a9, a10, a11, a12, a13, a14, a15, a16, a17, a18, a19, a20, a21, a22, a23, a24, a25, a26, a27, a28, a29, a30, a31], _ => exact ⟨a0, a1, a2, a3, a4, a5, a6, a7, a8, a9, a10, a11, a12, a13, a14, a15, a16, a17, a18, a19, a20, a21, a22, a23, a24, a25, a26, a27, a28, a29, a30, a31, rfl⟩
theorem num8 {b0 b1 b2 b3 b4 b5 b6 b7:Int} (h0:By b0) (h1:By b1) (h2:By b2) (h3:By b3) (h4:By b4) (h5:By b5) (h6:By b6) (h7:By b7) (r:LI) :
  (numB (b0 :: b1 :: b2 :: b3 :: b4 :: b5 :: b6 :: b7 :: r) : Int) = (b0 + b1 * 256 + b2 * 65536 + b3 * 16777216 + b4 * 4294967296 + b5 * 1099511627776 + b6 * 281474976710656 + b7 * 72057594037927936) + 18446744073709551616 * (numB r:Int) := by
 have nat : ∀ {b:Int}, By b → ∃ n : Nat, b = (n:Int) := fun {b} h => ⟨b.toNat, by have := h.1; omega⟩
 obtain ⟨n0, rfl⟩ := nat h0
 obtain ⟨n1, rfl⟩ := nat h1
 obtain ⟨n2, rfl⟩ := nat h2
 obtain ⟨n3, rfl⟩ := nat h3
 obtain ⟨n4, rfl⟩ := nat h4
 obtain ⟨n5, rfl⟩ := nat h5
 obtain ⟨n6, rfl⟩ := nat h6
 obtain ⟨n7, rfl⟩ := nat h7
 simp only [numB, Int.toNat_natCast]
 generalize numB r = m
 omega
theorem from_k (N:Nat) (hN : 33 ≤ N) {a:LI} (ha:L32 a) : ∃ s, Zeb N a = some s ∧ U4 s ∧ v4 s = (numB a:Int) := by
 obtain ⟨hl, hb⟩ := ha
 obtain ⟨a0, a1, a2, a3, a4, a5, a6, a7, a8, a9, a10, a11, a12, a13, a14, a15, a16, a17, a18, a19, a20, a21, a22, a23, a24, a25, a26, a27, a28, a29, a30, a31, rfl⟩ := list32 hl
 simp only [List.forall_mem_cons] at hb
 obtain ⟨h0, h1, h2, h3, h4, h5, h6, h7, h8, h9, h10, h11, h12, h13, h14, h15, h16, h17, h18, h19, h20, h21, h22, h23, h24, h25, h26, h27, h28, h29, h30, h31, -⟩ := hb
 obtain ⟨f, rfl⟩ : ∃ f, N = f + 33 := ⟨N - 33, by omega⟩
 refine ⟨[w8 a0 a1 a2 a3 a4 a5 a6 a7, w8 a8 a9 a10 a11 a12 a13 a14 a15, w8 a16 a17 a18 a19 a20 a21 a22 a23, w8 a24 a25 a26 a27 a28 a29 a30 a31], ?_, ⟨_, _, _, _, rfl, ?_, ?_, ?_, ?_⟩, ?_⟩
 ·unfold Zeb
  simp only [ZsL, mo]
 ·rw [Zkl h0 h1 h2 h3 h4 h5 h6 h7]; unfold U; omega
 ·rw [Zkl h8 h9 h10 h11 h12 h13 h14 h15]; unfold U; omega
 ·rw [Zkl h16 h17 h18 h19 h20 h21 h22 h23]; unfold U; omega
 ·rw [Zkl h24 h25 h26 h27 h28 h29 h30 h31]; unfold U; omega
 ·rw [v4_mk, Zkl h0 h1 h2 h3 h4 h5 h6 h7, Zkl h8 h9 h10 h11 h12 h13 h14 h15, Zkl h16 h17 h18 h19 h20 h21 h22 h23, Zkl h24 h25 h26 h27 h28 h29 h30 h31, num8 h0 h1 h2 h3 h4 h5 h6 h7, num8 h8 h9 h10 h11 h12 h13 h14 h15, num8 h16 h17 h18 h19 h20 h21 h22 h23, num8 h24 h25 h26 h27 h28 h29 h30 h31]
  rw [show ((numB [] : Nat) : Int) = 0 from rfl]
  generalize a0 + a1 * 256 + a2 * 65536 + a3 * 16777216 + a4 * 4294967296 + a5 * 1099511627776 + a6 * 281474976710656 + a7 * 72057594037927936 = A
  generalize a8 + a9 * 256 + a10 * 65536 + a11 * 16777216 + a12 * 4294967296 + a13 * 1099511627776 + a14 * 281474976710656 + a15 * 72057594037927936 = B
  generalize a16 + a17 * 256 + a18 * 65536 + a19 * 16777216 + a20 * 4294967296 + a21 * 1099511627776 + a22 * 281474976710656 + a23 * 72057594037927936 = C
  generalize a24 + a25 * 256 + a26 * 65536 + a27 * 16777216 + a28 * 4294967296 + a29 * 1099511627776 + a30 * 281474976710656 + a31 * 72057594037927936 = D
  omega
theorem dk_k (N:Nat) (hN : 33 ≤ N) {a:LI} (ha:L32 a) : (numB a < ordl ∧ ∃ s, ZbP N a = some (s, 0) ∧ Lm s (numB a)) ∨ (¬ numB a < ordl ∧ ZbP N a = some ([0, 0, 0, 0], 3)) := by
 obtain ⟨s, h1, h2, h3⟩ := from_k N hN ha
 obtain ⟨r, h4, h5⟩ := sleast' h2
 unfold ZbP
 simp only [h1, h4, mo]
 have hsc : sc s = numB a % ordl := by
  show (v4 s).toNat % ordl = _
  rw [h3, Int.toNat_natCast]
 by_cases hlt : numB a < ordl
 ·have hL : Lm s (numB a) := ⟨h2, h3, hlt⟩
  have e : r = s := by
   rw [hsc, Nat.mod_eq_of_lt hlt] at h5
   exact h5.uniq hL
  refine .inl ⟨hlt, s, ?_, hL⟩
  simp [e]
 ·have e : r ≠ s := by
   rintro rfl
   have := h5.v
   rw [h3] at this
   have h6 := h5.lt
   omega
  refine .inr ⟨hlt, ?_⟩
  simp [e]
end Pr
end Go.Vx
set_option autoImplicit false
set_option linter.unusedVariables false
set_option linter.unusedSimpArgs false
namespace Go.Vx
open Go
namespace Ag
open En Pr
def lo (x:LI) : LI := (Zbm x).getD []
theorem enc5 {N:Nat} (hN : 33 ≤ N) {x:LI} (hx:U4 x) : Zam N x = some (En.eB N x) ∧ L32 (En.eB N x) ∧ numB (En.eB N x) = sc x := by
 obtain ⟨b, h1, h2, h3⟩ := Zq0 N hN hx
 have e1 : En.eB N x = b := by unfold En.eB; rw [h1]; rfl
 rw [e1]
 exact ⟨h1, h2, h3⟩
theorem low5 {x:LI} (hx:U4 x) : Lm (lo x) (sc x) := by
 obtain ⟨r, h1, h2⟩ := sleast' hx
 have e1 : lo x = r := by unfold lo; rw [h1]; rfl
 rw [e1]
 exact h2
theorem Zkm {N:Nat} (hN : 33 ≤ N) {x:LI} (hx:U4 x) : En.eB N (lo x) = En.eB N x := by
 have hl := low5 hx
 obtain ⟨-, h2, h3⟩ := enc5 hN hx
 obtain ⟨-, g2, g3⟩ := enc5 hN hl.u
 rw [hl.sc] at g3
 exact g2.inj h2 (by rw [g3, h3])
theorem ZtN {N:Nat} (hN : 33 ≤ N) {x:LI} (hx:U4 x) : ZbP N (En.eB N x) = some (lo x, 0) ∧ numB (En.eB N x) < ordl := by
 obtain ⟨-, h2, h3⟩ := enc5 hN hx
 have hl := low5 hx
 have hlt : numB (En.eB N x) < ordl := by rw [h3]; exact sc_lt x
 rcases dk_k N hN h2 with ⟨-, s, g1, g2⟩ | ⟨h, -⟩
 ·rw [h3] at g2
  rw [g1, g2.uniq hl]
  exact ⟨rfl, hlt⟩
 ·exact absurd hlt h
def ch (B:LI) (i:Nat) : LI := (B.drop (32 * i)).take 32
def good (B:LI) (i:Nat) : Prop := numB (ch B i) < ordl
instance (B:LI) (i:Nat) : Decidable (good B i) := by unfold good; infer_instance
def D (N:Nat) (B:LI) (i:Nat) : LI := ((ZbP N (ch B i)).getD ([], 0)).1
abbrev RM : Type := Bool × (Nat × Nat × Nat) × Int
def St (B:LI) (n i:Nat) (m:RM) : Prop := ((∀ j, j < i → good B j) ∧ ∃ z, m = (true, (32 * i, 32 * n - 32 * i, z), 0)) ∨ ((∃ j, j < i ∧ ¬ good B j) ∧ ∃ q, m = (true, q, 3))
theorem ch_ok {B:LI} {n i:Nat} (hb:∀ x ∈ B, 0 ≤ x ∧ x ≤ 255) (hl:B.length = 32 * n) (hi:i < n) : L32 (ch B i) := by
 refine ⟨?_, fun x hx => hb x (List.mem_of_mem_drop (List.mem_of_mem_take hx))⟩
 unfold ch
 rw [List.length_take, List.length_drop]
 omega
theorem ZtO {N:Nat} (hN : 33 ≤ N) {B:LI} {n i:Nat} (hb:∀ x ∈ B, 0 ≤ x ∧ x ≤ 255) (hl:B.length = 32 * n) (hi:i < n) (h:good B i) : ZbP N (ch B i) = some (D N B i, 0) := by
 rcases dk_k N hN (ch_ok hb hl hi) with ⟨-, s, g, -⟩ | ⟨g, -⟩
 ·unfold D; rw [g]; rfl
 ·exact absurd h g
theorem dec_bad {N:Nat} (hN : 33 ≤ N) {B:LI} {n i:Nat} (hb:∀ x ∈ B, 0 ≤ x ∧ x ≤ 255) (hl:B.length = 32 * n) (hi:i < n) (h:¬ good B i) : ZbP N (ch B i) = some ([0, 0, 0, 0], 3) := by
 rcases dk_k N hN (ch_ok hb hl hi) with ⟨g, -⟩ | ⟨-, g⟩
 ·exact absurd g h
 ·exact g
theorem St.next {B:LI} {n i:Nat} {m:RM} (h:St B n i m) : (∃ j, j < i + 1 ∧ ¬ good B j) → ∀ q, St B n (i + 1) (true, q, 3) := fun hj q => .inr ⟨hj, q, rfl⟩
theorem Zkn {N:Nat} (hN : 33 ≤ N) {B:LI} {n i:Nat} (hb:∀ x ∈ B, 0 ≤ x ∧ x ≤ 255) (hl:B.length = 32 * n) (hi:i < n) {m:RM} (h:St B n i m) :
  (∃ v m', Zay N () (B.length, B) m = some (v, m') ∧ St B n (i + 1) m' ∧ ((∀ j, j < i + 1 → good B j) → v = D N B i)) ∧
  (∃ v m', ZaN N () (B.length, B) m = some (v, m') ∧ St B n (i + 1) m' ∧ ((∀ j, j < i + 1 → good B j) → v = D N B i)) := by
 rcases h with ⟨hg, z, rfl⟩ | ⟨⟨j, hj, hbad⟩, q, rfl⟩
 ·have c1 : icmp .lss ((32 * n - 32 * i : Nat) : Int) 32 = false := decide_eq_false (by omega)
  have c2 : decide ((0 : Int) ≤ 32 ∧ 32 ≤ ((32 * n - 32 * i : Nat) : Int)) = true := decide_eq_true (by omega)
  have hs : ZaC () ((true, (32 * i, 32 * n - 32 * i, z), 0), (B.length, B)) () = some (true, ()) := rfl
  have hb32 : Za5 () (B.length, B) (true, (32 * i, 32 * n - 32 * i, z), 0) = some (ch B i, (true, (32 * i + 32, 32 * n - 32 * i - 32, 32 * i), 0)) := by
   unfold Za5
   simp only [hs, mo, Bool.not_true, cond_false, c1, c2, cond_true]
   rfl
  by_cases gi : good B i
  ·have hd := ZtO hN hb hl hi gi
   have hst : St B n (i + 1) (true, (32 * i + 32, 32 * n - 32 * i - 32, 32 * i), 0) := .inl ⟨fun j hj => by
    rcases Nat.lt_succ_iff_lt_or_eq.1 hj with h | rfl
    ·exact hg j h
    ·exact gi, 32 * i, by rw [show 32 * (i + 1) = 32 * i + 32 by omega, show 32 * n - (32 * i + 32) = 32 * n - 32 * i - 32 by omega]⟩
   refine ⟨⟨D N B i, _, ?_, hst, fun _ => rfl⟩, ⟨D N B i, _, ?_, hst, fun _ => rfl⟩⟩
   ·unfold Zay
    simp only [hs, hb32, mo, Bool.not_true, cond_false, show icmp .neq 0 0 = false from rfl, hd]
   ·unfold ZaN
    simp only [hs, hb32, mo, Bool.not_true, cond_false, show icmp .neq 0 0 = false from rfl, hd]
  ·have hd := dec_bad hN hb hl hi gi
   have hst : St B n (i + 1) (true, (32 * i, 32 * n - 32 * i, z), 3) := .inr ⟨⟨i, Nat.lt_succ_self i, gi⟩, _, rfl⟩
   have hf : ZaW ((), 3) (B.length, B) (true, (32 * i, 32 * n - 32 * i, z), 0) = some ((), (true, (32 * i, 32 * n - 32 * i, z), 3)) := rfl
   refine ⟨⟨[0, 0, 0, 0], _, ?_, hst, fun h => absurd (h i (Nat.lt_succ_self i)) gi⟩, ⟨[0, 0, 0, 0], _, ?_, hst, fun h => absurd (h i (Nat.lt_succ_self i)) gi⟩⟩
   ·unfold Zay
    simp only [hs, hb32, mo, Bool.not_true, cond_false, show icmp .neq 0 0 = false from rfl, hd, show icmp .neq 3 0 = true from rfl, cond_true, hf]
   ·unfold ZaN
    simp only [hs, hb32, mo, Bool.not_true, cond_false, show icmp .neq 0 0 = false from rfl, hd, show icmp .neq 3 0 = true from rfl, cond_true, hf]
 ·have hst : St B n (i + 1) (true, q, 3) := .inr ⟨⟨j, by omega, hbad⟩, q, rfl⟩
  obtain ⟨q1, q2, q3⟩ := q
  refine ⟨⟨[0, 0, 0, 0], _, ?_, hst, fun h => absurd (h j (by omega)) hbad⟩, ⟨[0, 0, 0, 0], _, ?_, hst, fun h => absurd (h j (by omega)) hbad⟩⟩
  ·rfl
  ·rfl
def LL1 (N:Nat) (B:LI) (i:Nat) : List (LI) := (List.range i).map fun j => D N B (7 + 2 * j)
def RR1 (N:Nat) (B:LI) (i:Nat) : List (LI) := (List.range i).map fun j => D N B (8 + 2 * j)
theorem Zq1 {N:Nat} (hN : 33 ≤ N) {B:LI} {k:Nat} (hk:k ≤ 10) (hb:∀ x ∈ B, 0 ≤ x ∧ x ≤ 255) (hl:B.length = 32 * (9 + 2 * k)) (s0 s1 s2 s3 t0 t1 t2 z1 z2:LI) : (r i:Nat) → i + r = k → (f:Nat) → r < f → (m:RM) → St B (9 + 2 * k) (7 + 2 * i) m → (L R:List (LI)) → L.length = i → R.length = i →
  ((∀ j, j < 7 + 2 * i → good B j) → L = LL1 N B i ∧ R = RR1 N B i) →
  ∃ m' L' R', loopF (ZaE N) f (((), (), (), (), ((k:Nat) : Int), (i:Int)), (L, R, (), m, (B.length, B), (s0, s1, s2, s3, t0, t1, t2, L.length, R.length, z1, z2))) = some (.inl (((), (), ()), (L', R', (), m', (B.length, B), (s0, s1, s2, s3, t0, t1, t2, L'.length, R'.length, z1, z2)))) ∧
   St B (9 + 2 * k) (7 + 2 * k) m' ∧ ((∀ j, j < 7 + 2 * k → good B j) → L' = LL1 N B k ∧ R' = RR1 N B k)
 | 0, i, hi, f, hf, m, hst, L, R, hL, hR, hLR => by
  obtain ⟨f, rfl⟩ : ∃ g, f = g + 1 := ⟨f - 1, by omega⟩
  obtain rfl : i = k := by omega
  refine ⟨m, L, R, Zhu ?_ f, hst, hLR⟩
  obtain ⟨m1, ⟨m2, m3, m4⟩, m5⟩ := m
  unfold ZaE
  simp only [lt_f, cond_false]
 | r + 1, i, hi, f, hf, m, hst, L, R, hL, hR, hLR => by
  obtain ⟨f, rfl⟩ : ∃ g, f = g + 1 := ⟨f - 1, by omega⟩
  have hlt : i < k := by omega
  obtain ⟨⟨v1, m1, a1, a2, a3⟩, -⟩ := Zkn hN hb hl (show 7 + 2 * i < 9 + 2 * k by omega) hst
  obtain ⟨⟨v2, m2, b1, b2, b3⟩, -⟩ := Zkn hN hb hl (show 7 + 2 * i + 1 < 9 + 2 * k by omega) a2
  have e1 : (L ++ [v1]).length = i + 1 := by simp [hL]
  have e2 : (R ++ [v2]).length = i + 1 := by simp [hR]
  obtain ⟨m', L', R', h1, h2⟩ := Zq1 hN hk hb hl s0 s1 s2 s3 t0 t1 t2 z1 z2 r (i + 1) (by omega) f (by omega) m2 (by rw [show 7 + 2 * (i + 1) = 7 + 2 * i + 1 + 1 by omega]; exact b2) (L ++ [v1]) (R ++ [v2]) e1 e2 (fun hg => by
   obtain ⟨q1, q2⟩ := hLR fun j hj => hg j (by omega)
   rw [q1, q2, a3 fun j hj => hg j (by omega), b3 fun j hj => hg j (by omega)]
   unfold LL1 RR1
   rw [List.range_succ, List.map_append, List.map_append, show 7 + 2 * i + 1 = 8 + 2 * i by omega]
   exact ⟨rfl, rfl⟩)
  refine ⟨m', L', R', (ZfF ?_ f).trans h1, h2⟩
  obtain ⟨c1, ⟨c2, c3, c4⟩, c5⟩ := m
  obtain ⟨d1, ⟨d2, d3, d4⟩, d5⟩ := m1
  obtain ⟨g1, ⟨g2, g3, g4⟩, g5⟩ := m2
  unfold ZaE
  simp only [lt_t hlt, cond_true, a1, b1, mo, e1, e2, okk (k := i + 1) (m := 32) (by omega) (by decide), inc (i := i) (by omega)]
theorem quo32 {n:Nat} (hn:n ≤ 100000000) : ibin .quo .i64 (ibin .sub .i64 (ibin .quo .i64 ((n:Nat) : Int) 32) 9) 2 = Int.tdiv (((n / 32 : Nat) : Int) - 9) 2 := by
 have e1 : ibin .quo .i64 ((n:Nat) : Int) 32 = ((n / 32 : Nat) : Int) := by
  have h0 : ibin .quo .i64 ((n:Nat) : Int) 32 = IntKind.wrap .i64 (Int.tdiv (n:Int) 32) := rfl
  rw [h0, Int.tdiv_eq_ediv_of_nonneg (by omega)]
  have h1 := Ref.i_add (a := ((n / 32 : Nat) : Int)) (b := 0) (by omega) (by omega)
  have h2 : ibin .add .i64 ((n / 32 : Nat) : Int) 0 = IntKind.wrap .i64 (((n / 32 : Nat) : Int) + 0) := rfl
  rw [h2, Int.add_zero] at h1
  rw [show (n:Int) / 32 = ((n / 32 : Nat) : Int) by omega, h1]
 have e2 : ibin .sub .i64 ((n / 32 : Nat) : Int) 9 = ((n / 32 : Nat) : Int) - 9 := by
  have h1 := Ref.i_add (a := ((n / 32 : Nat) : Int)) (b := -9) (by omega) (by omega)
  have h2 : ibin .add .i64 ((n / 32 : Nat) : Int) (-9) = IntKind.wrap .i64 (((n / 32 : Nat) : Int) + -9) := rfl
  have h3 : ibin .sub .i64 ((n / 32 : Nat) : Int) 9 = IntKind.wrap .i64 (((n / 32 : Nat) : Int) - 9) := rfl
  rw [h3, show ((n / 32 : Nat) : Int) - 9 = ((n / 32 : Nat) : Int) + -9 by omega, ← h2, h1]
 rw [e1, e2]
 have h0 : ibin .quo .i64 (((n / 32 : Nat) : Int) - 9) 2 = IntKind.wrap .i64 (Int.tdiv (((n / 32 : Nat) : Int) - 9) 2) := rfl
 rw [h0]
 have hr : -100000000 ≤ Int.tdiv (((n / 32 : Nat) : Int) - 9) 2 ∧ Int.tdiv (((n / 32 : Nat) : Int) - 9) 2 ≤ 100000000 := by
  by_cases h : 9 ≤ n / 32
  ·rw [Int.tdiv_eq_ediv_of_nonneg (by omega)]; omega
  ·have : Int.tdiv (((n / 32 : Nat) : Int) - 9) 2 = - Int.tdiv (9 - ((n / 32 : Nat) : Int)) 2 := by
    rw [show ((n / 32 : Nat) : Int) - 9 = -(9 - ((n / 32 : Nat) : Int)) by omega, Int.neg_tdiv]
   rw [this, Int.tdiv_eq_ediv_of_nonneg (by omega)]
   omega
 generalize Int.tdiv (((n / 32 : Nat) : Int) - 9) 2 = t at *
 have h1 := Ref.i_add (a := t) (b := 0) (by omega) (by omega)
 have h2 : ibin .add .i64 t 0 = IntKind.wrap .i64 (t + 0) := rfl
 rw [h2, Int.add_zero] at h1
 exact h1
theorem mul32 {k:Nat} (hk:k ≤ 100000000) : ibin .mul .i64 32 (ibin .add .i64 9 (ibin .mul .i64 2 ((k:Nat) : Int))) = ((32 * (9 + 2 * k) : Nat) : Int) := by
 have w : ∀ y : Int, 0 ≤ y → y < 9223372036854775808 → IntKind.wrap .i64 y = y := by
  intro y h0 h1
  have h2 := Ref.i_add (a := y) (b := 0) (by omega) (by omega)
  have h3 : ibin .add .i64 y 0 = IntKind.wrap .i64 (y + 0) := rfl
  rw [h3, Int.add_zero] at h2
  exact h2
 have e1 : ibin .mul .i64 2 ((k:Nat) : Int) = 2 * (k:Int) := by
  have : ibin .mul .i64 2 ((k:Nat) : Int) = IntKind.wrap .i64 (2 * (k:Int)) := rfl
  rw [this, w _ (by omega) (by omega)]
 have e2 : ibin .add .i64 9 (2 * (k:Int)) = 9 + 2 * (k:Int) := by
  have : ibin .add .i64 9 (2 * (k:Int)) = IntKind.wrap .i64 (9 + 2 * (k:Int)) := rfl
  rw [this, w _ (by omega) (by omega)]
 rw [e1, e2]
 have : ibin .mul .i64 32 (9 + 2 * (k:Int)) = IntKind.wrap .i64 (32 * (9 + 2 * (k:Int))) := rfl
 rw [this, w _ (by omega) (by omega)]
 omega
theorem ZtP (N:Nat) (hN : 33 ≤ N) {B:LI} {k:Nat} (hb:∀ x ∈ B, 0 ≤ x ∧ x ≤ 255) (hk:k ≤ 10) (hl:B.length = 32 * (9 + 2 * k)) (hgood:∀ j, j < 9 + 2 * k → good B j) :
  Zax N (0, B.length, 0) (B.length, B) () = some (((D N B 0, D N B 1, D N B 2, D N B 3, D N B 4, D N B 5, D N B 6, k, k, D N B (7 + 2 * k), D N B (8 + 2 * k)), 0), (LL1 N B k, RR1 N B k)) := by
 have hq := quo32 (n := B.length) (by omega)
 have ek : Int.tdiv (((B.length / 32 : Nat) : Int) - 9) 2 = ((k:Nat) : Int) := by
  rw [show B.length / 32 = 9 + 2 * k by omega, show ((9 + 2 * k : Nat) : Int) - 9 = 2 * (k:Int) by omega, Int.tdiv_eq_ediv_of_nonneg (by omega)]
  omega
 rw [ek] at hq
 have c1 : icmp .lss ((k:Nat) : Int) 0 = false := decide_eq_false (by omega:¬ ((k:Nat) : Int) < 0)
 have c2 : icmp .gtr ((k:Nat) : Int) 10 = false := decide_eq_false (by omega:¬ ((k:Nat) : Int) > 10)
 have c3 : icmp .neq ((B.length : Nat) : Int) (ibin .mul .i64 32 (ibin .add .i64 9 (ibin .mul .i64 2 ((k:Nat) : Int)))) = false := by
  rw [mul32 (by omega), ← hl]; simp [icmp]
 have hnew : Zeg (0, B.length, 0) (B.length, B) () = some ((), ((true, (0, B.length, 0), 0), (B.length, B))) := by
  unfold Zeg Zbx
  simp only [Nat.zero_add, ok1 (k := B.length) (by omega), cond_true, mo, List.drop_zero, List.take_length]
 have s0 : St B (9 + 2 * k) 0 (true, (0, B.length, 0), 0) := .inl ⟨fun j hj => by omega, 0, by rw [hl]; rfl⟩
 obtain ⟨⟨v0, m0, a0, st0, g0⟩, -⟩ := Zkn hN hb hl (show 0 < 9 + 2 * k by omega) s0
 obtain ⟨⟨v1, m1, a1, st1, g1⟩, -⟩ := Zkn hN hb hl (show 1 < 9 + 2 * k by omega) st0
 obtain ⟨⟨v2, m2, a2, st2, g2⟩, -⟩ := Zkn hN hb hl (show 2 < 9 + 2 * k by omega) st1
 obtain ⟨⟨v3, m3, a3, st3, g3⟩, -⟩ := Zkn hN hb hl (show 3 < 9 + 2 * k by omega) st2
 obtain ⟨-, ⟨v4, m4, a4, st4, g4⟩⟩ := Zkn hN hb hl (show 4 < 9 + 2 * k by omega) st3
 obtain ⟨-, ⟨v5, m5, a5, st5, g5⟩⟩ := Zkn hN hb hl (show 5 < 9 + 2 * k by omega) st4
 obtain ⟨-, ⟨v6, m6, a6, st6, g6⟩⟩ := Zkn hN hb hl (show 6 < 9 + 2 * k by omega) st5
 obtain ⟨m7, L, R, lp, st7, g7⟩ := Zq1 hN hk hb hl v0 v1 v2 v3 v4 v5 v6 [0, 0, 0, 0] [0, 0, 0, 0] k 0 (by omega) N (by omega) m6 st6 [] [] rfl rfl (fun _ => ⟨rfl, rfl⟩)
 rw [Int.natCast_zero] at lp
 simp only [List.length_nil] at lp
 obtain ⟨-, ⟨v8, m8, a8, st8, g8⟩⟩ := Zkn hN hb hl (show 7 + 2 * k < 9 + 2 * k by omega) st7
 obtain ⟨-, ⟨v9, m9, a9, st9, g9⟩⟩ := Zkn hN hb hl (show 7 + 2 * k + 1 < 9 + 2 * k by omega) st8
 rcases st9 with ⟨hg, z, rfl⟩ | ⟨⟨j, hj, hbad⟩, q, rfl⟩
 ·have he : ZdB () (B.length, B) (true, (32 * (7 + 2 * k + 1 + 1), 32 * (9 + 2 * k) - 32 * (7 + 2 * k + 1 + 1), z), 0) = some (0, (true, (32 * (7 + 2 * k + 1 + 1), 32 * (9 + 2 * k) - 32 * (7 + 2 * k + 1 + 1), z), 0)) := by
   rw [show 32 * (9 + 2 * k) - 32 * (7 + 2 * k + 1 + 1) = 0 by omega]
   rfl
  obtain ⟨q1, q2⟩ := g7 fun j hj => hg j (by omega)
  have n1 : L.length = k := by rw [q1]; simp [LL1]
  have n2 : R.length = k := by rw [q2]; simp [RR1]
  have main : Zax N (0, B.length, 0) (B.length, B) () = some (((v0, v1, v2, v3, v4, v5, v6, L.length, R.length, v8, v9), 0), (L, R)) := by
   unfold Zax
   simp only [hq, c1, c2, c3, cond_false, hnew, mo, a0, a1, a2, a3, a4, a5, a6, lp, a8, a9, he, show icmp .neq 0 0 = false from rfl]
  rw [main, n1, n2, g0 fun j hj => hg j (by omega), g1 fun j hj => hg j (by omega), g2 fun j hj => hg j (by omega), g3 fun j hj => hg j (by omega), g4 fun j hj => hg j (by omega), g5 fun j hj => hg j (by omega), g6 fun j hj => hg j (by omega), g8 fun j hj => hg j (by omega), g9 fun j hj => hg j (by omega), q1, q2, show 7 + 2 * k + 1 = 8 + 2 * k by omega]
 ·exact absurd (hgood j (by omega)) hbad
theorem ch_at {B P Q S:LI} {i:Nat} (h:B = P ++ (Q ++ S)) (hp:P.length = 32 * i) (hq:Q.length = 32) : ch B i = Q := by
 unfold ch
 rw [h, ← hp, List.drop_left, ← hq, List.take_left]
theorem ZnD (N:Nat) (L R:List (LI)) (j:Nat) : (n:Nat) → j < n → ∃ rest, acc N L R n = acc N L R j ++ (En.eB N (List.getD L j [0, 0, 0, 0]) ++ (En.eB N (List.getD R j [0, 0, 0, 0]) ++ rest))
 | 0, h => by omega
 | n + 1, h => by
  rcases Nat.lt_succ_iff_lt_or_eq.1 h with h | rfl
  ·obtain ⟨rest, e⟩ := ZnD N L R j n h
   exact ⟨rest ++ (En.eB N (List.getD L n [0, 0, 0, 0]) ++ En.eB N (List.getD R n [0, 0, 0, 0])), by rw [acc, e]; simp only [List.append_assoc]⟩
  ·exact ⟨[], by rw [acc, List.append_nil]⟩
theorem Zuf {N:Nat} (hN : 33 ≤ N) {L R:List (LI)} (hL:∀ x ∈ L, U4 x) (hR:∀ x ∈ R, U4 x) : (i:Nat) → i ≤ L.length → i ≤ R.length → ∀ x ∈ acc N L R i, 0 ≤ x ∧ x ≤ 255
 | 0, _, _, x, hx => by simp [acc] at hx
 | i + 1, h1, h2, x, hx => by
  have hl := (enc5 hN (hL _ (List.getElem_mem (show i < L.length by omega)))).2.1.2
  have hr := (enc5 hN (hR _ (List.getElem_mem (show i < R.length by omega)))).2.1.2
  simp only [acc, List.mem_append, Zds (show i < L.length by omega), Zds (show i < R.length by omega)] at hx
  rcases hx with h | h | h
  ·exact Zuf hN hL hR i (by omega) (by omega) x h
  ·exact hl x h
  ·exact hr x h
theorem ZsM {N:Nat} (hN : 33 ≤ N) {s0 s1 s2 s3 t0 t1 t2 a b:LI} {L R:List (LI)} (h0:U4 s0) (h1:U4 s1) (h2:U4 s2) (h3:U4 s3) (g0:U4 t0) (g1:U4 t1) (g2:U4 t2) (ha:U4 a) (hb:U4 b) (hL:∀ x ∈ L, U4 x) (hR:∀ x ∈ R, U4 x) (hLR:L.length = R.length) {B:LI} (hB:bytesOf N s0 s1 s2 s3 t0 t1 t2 a b L R = B) :
  (∀ x ∈ B, 0 ≤ x ∧ x ≤ 255) ∧ B.length = 32 * (9 + 2 * L.length) ∧ (∀ j, j < 9 + 2 * L.length → good B j) ∧ (D N B 0, D N B 1, D N B 2, D N B 3, D N B 4, D N B 5, D N B 6, L.length, L.length, D N B (7 + 2 * L.length), D N B (8 + 2 * L.length)) = (lo s0, lo s1, lo s2, lo s3, lo t0, lo t1, lo t2, L.length, L.length, lo a, lo b) ∧ LL1 N B L.length = L.map lo ∧ RR1 N B L.length = R.map lo := by
 obtain ⟨-, ⟨l0, y0⟩, -⟩ := enc5 hN h0
 obtain ⟨-, ⟨l1, y1⟩, -⟩ := enc5 hN h1
 obtain ⟨-, ⟨l2, y2⟩, -⟩ := enc5 hN h2
 obtain ⟨-, ⟨l3, y3⟩, -⟩ := enc5 hN h3
 obtain ⟨-, ⟨l4, y4⟩, -⟩ := enc5 hN g0
 obtain ⟨-, ⟨l5, y5⟩, -⟩ := enc5 hN g1
 obtain ⟨-, ⟨l6, y6⟩, -⟩ := enc5 hN g2
 obtain ⟨-, ⟨l7, y7⟩, -⟩ := enc5 hN ha
 obtain ⟨-, ⟨l8, y8⟩, -⟩ := enc5 hN hb
 have la : ∀ i, i ≤ L.length → (acc N L R i).length = 64 * i := fun i hi => ZsN hN hL hR i hi (by omega)
 have lan := la L.length (Nat.le_refl _)
 unfold bytesOf at hB
 have fact : ∀ {i:Nat} {x:LI}, U4 x → ch B i = En.eB N x → good B i ∧ D N B i = lo x := by
  intro i x hx h
  obtain ⟨d1, d2⟩ := ZtN hN hx
  unfold good D
  rw [h, d1]
  exact ⟨d2, rfl⟩
 have c0 := fact h0 (ch_at (B := B) (i := 0) (P := []) (Q := En.eB N s0) (by rw [← hB]; simp only [List.append_assoc, List.nil_append]; rfl) rfl l0)
 have c1 := fact h1 (ch_at (B := B) (i := 1) (P := En.eB N s0) (Q := En.eB N s1) (by rw [← hB]; simp only [List.append_assoc]; rfl) (by simp only [List.length_append, l0]) l1)
 have c2 := fact h2 (ch_at (B := B) (i := 2) (P := En.eB N s0 ++ En.eB N s1) (Q := En.eB N s2) (by rw [← hB]; simp only [List.append_assoc]; rfl) (by simp only [List.length_append, l0, l1]) l2)
 have c3 := fact h3 (ch_at (B := B) (i := 3) (P := En.eB N s0 ++ En.eB N s1 ++ En.eB N s2) (Q := En.eB N s3) (by rw [← hB]; simp only [List.append_assoc]; rfl) (by simp only [List.length_append, l0, l1, l2]) l3)
 have c4 := fact g0 (ch_at (B := B) (i := 4) (P := En.eB N s0 ++ En.eB N s1 ++ En.eB N s2 ++ En.eB N s3) (Q := En.eB N t0) (by rw [← hB]; simp only [List.append_assoc]; rfl) (by simp only [List.length_append, l0, l1, l2, l3]) l4)
 have c5 := fact g1 (ch_at (B := B) (i := 5) (P := En.eB N s0 ++ En.eB N s1 ++ En.eB N s2 ++ En.eB N s3 ++ En.eB N t0) (Q := En.eB N t1) (by rw [← hB]; simp only [List.append_assoc]; rfl) (by simp only [List.length_append, l0, l1, l2, l3, l4]) l5)
 have c6 := fact g2 (ch_at (B := B) (i := 6) (P := En.eB N s0 ++ En.eB N s1 ++ En.eB N s2 ++ En.eB N s3 ++ En.eB N t0 ++ En.eB N t1) (Q := En.eB N t2) (by rw [← hB]; simp only [List.append_assoc]; rfl) (by simp only [List.length_append, l0, l1, l2, l3, l4, l5]) l6)
 have c7 := fact ha (ch_at (B := B) (i := 7 + 2 * L.length) (P := En.eB N s0 ++ En.eB N s1 ++ En.eB N s2 ++ En.eB N s3 ++ En.eB N t0 ++ En.eB N t1 ++ En.eB N t2 ++ acc N L R L.length) (Q := En.eB N a) (by rw [← hB]; simp only [List.append_assoc]; rfl) (by simp only [List.length_append, l0, l1, l2, l3, l4, l5, l6, lan]; omega) l7)
 have c8 := fact hb (ch_at (B := B) (i := 8 + 2 * L.length) (P := En.eB N s0 ++ En.eB N s1 ++ En.eB N s2 ++ En.eB N s3 ++ En.eB N t0 ++ En.eB N t1 ++ En.eB N t2 ++ acc N L R L.length ++ En.eB N a) (Q := En.eB N b) (S := []) (by rw [← hB]; simp only [List.append_assoc, List.append_nil]) (by simp only [List.length_append, l0, l1, l2, l3, l4, l5, l6, l7, lan]; omega) l8)
 have cl : ∀ i (hi:i < L.length), good B (7 + 2 * i) ∧ D N B (7 + 2 * i) = lo L[i] := by
  intro i hi
  obtain ⟨rest, e⟩ := ZnD N L R i L.length hi
  rw [Zds hi] at e
  have lx := (enc5 hN (hL _ (List.getElem_mem hi))).2.1.1
  exact fact (hL _ (List.getElem_mem hi)) (ch_at (B := B) (i := 7 + 2 * i) (P := En.eB N s0 ++ En.eB N s1 ++ En.eB N s2 ++ En.eB N s3 ++ En.eB N t0 ++ En.eB N t1 ++ En.eB N t2 ++ acc N L R i) (Q := En.eB N L[i]) (by rw [← hB, e]; simp only [List.append_assoc]; rfl) (by simp only [List.length_append, l0, l1, l2, l3, l4, l5, l6, la i (by omega)]; omega) lx)
 have cr : ∀ i (hi:i < L.length) (hr:i < R.length), good B (8 + 2 * i) ∧ D N B (8 + 2 * i) = lo R[i] := by
  intro i hi hr
  obtain ⟨rest, e⟩ := ZnD N L R i L.length hi
  rw [Zds hi, Zds hr] at e
  have lx := (enc5 hN (hL _ (List.getElem_mem hi))).2.1.1
  have ly := (enc5 hN (hR _ (List.getElem_mem hr))).2.1.1
  exact fact (hR _ (List.getElem_mem hr)) (ch_at (B := B) (i := 8 + 2 * i) (P := En.eB N s0 ++ En.eB N s1 ++ En.eB N s2 ++ En.eB N s3 ++ En.eB N t0 ++ En.eB N t1 ++ En.eB N t2 ++ acc N L R i ++ En.eB N L[i]) (Q := En.eB N R[i]) (by rw [← hB, e]; simp only [List.append_assoc]; rfl) (by simp only [List.length_append, l0, l1, l2, l3, l4, l5, l6, lx, la i (by omega)]; omega) ly)
 refine ⟨fun x hx => ?_, ?_, fun j hj => ?_, ?_⟩
 ·rw [← hB] at hx
  simp only [List.mem_append] at hx
  rcases hx with (((((((((h | h) | h) | h) | h) | h) | h) | h) | h) | h)
  ·exact y0 x h
  ·exact y1 x h
  ·exact y2 x h
  ·exact y3 x h
  ·exact y4 x h
  ·exact y5 x h
  ·exact y6 x h
  ·exact Zuf hN hL hR L.length (Nat.le_refl _) (by omega) x h
  ·exact y7 x h
  ·exact y8 x h
 ·rw [← hB]
  simp only [List.length_append, l0, l1, l2, l3, l4, l5, l6, l7, l8, lan]
  omega
 ·by_cases hj7 : j < 7
  ·rcases (by omega:j = 0 ∨ j = 1 ∨ j = 2 ∨ j = 3 ∨ j = 4 ∨ j = 5 ∨ j = 6) with rfl | rfl | rfl | rfl | rfl | rfl | rfl
   ·exact c0.1
   ·exact c1.1
   ·exact c2.1
   ·exact c3.1
   ·exact c4.1
   ·exact c5.1
   ·exact c6.1
  ·by_cases ha' : j = 7 + 2 * L.length
   ·subst ha'; exact c7.1
   ·by_cases hb' : j = 8 + 2 * L.length
    ·subst hb'; exact c8.1
    ·rcases Nat.mod_two_eq_zero_or_one (j - 7) with hm | hm
     ·have := (cl ((j - 7) / 2) (by omega)).1
      rwa [show 7 + 2 * ((j - 7) / 2) = j by omega] at this
     ·have := (cr ((j - 7) / 2) (by omega) (by omega)).1
      rwa [show 8 + 2 * ((j - 7) / 2) = j by omega] at this
 ·refine ⟨by simp only [c0.2, c1.2, c2.2, c3.2, c4.2, c5.2, c6.2, c7.2, c8.2], ?_, ?_⟩
  ·refine List.ext_getElem (by simp [LL1]) fun i hi1 hi2 => ?_
   have hi : i < L.length := by simpa using hi2
   simp only [LL1, List.getElem_map, List.getElem_range]
   exact (cl i hi).2
  ·refine List.ext_getElem (by simp [RR1]; omega) fun i hi1 hi2 => ?_
   have hi : i < R.length := by simpa using hi2
   simp only [RR1, List.getElem_map, List.getElem_range]
   exact (cr i (by omega) hi).2
theorem Zug {N:Nat} (hN : 33 ≤ N) {L R:List (LI)} (hL:∀ x ∈ L, U4 x) (hR:∀ x ∈ R, U4 x) : (i:Nat) → i ≤ L.length → i ≤ R.length → acc N (L.map lo) (R.map lo) i = acc N L R i
 | 0, _, _ => rfl
 | i + 1, h1, h2 => by
  have e1 : List.getD (L.map lo) i [0, 0, 0, 0] = lo L[i] := by rw [Zds (by simp; omega)]; simp
  have e2 : List.getD (R.map lo) i [0, 0, 0, 0] = lo R[i] := by rw [Zds (by simp; omega)]; simp
  rw [acc, acc, Zug hN hL hR i (by omega) (by omega), e1, e2, Zkm hN (hL _ (List.getElem_mem _)), Zkm hN (hR _ (List.getElem_mem _)), Zds (show i < L.length by omega), Zds (show i < R.length by omega)]
theorem ZtQ {N:Nat} (hN : 33 ≤ N) {s0 s1 s2 s3 t0 t1 t2 a b:LI} {L R:List (LI)} (h0:U4 s0) (h1:U4 s1) (h2:U4 s2) (h3:U4 s3) (g0:U4 t0) (g1:U4 t1) (g2:U4 t2) (ha:U4 a) (hb:U4 b) (hL:∀ x ∈ L, U4 x) (hR:∀ x ∈ R, U4 x) (hLR:L.length = R.length) :
  bytesOf N (lo s0) (lo s1) (lo s2) (lo s3) (lo t0) (lo t1) (lo t2) (lo a) (lo b) (L.map lo) (R.map lo) = bytesOf N s0 s1 s2 s3 t0 t1 t2 a b L R := by
 unfold bytesOf
 rw [Zkm hN h0, Zkm hN h1, Zkm hN h2, Zkm hN h3, Zkm hN g0, Zkm hN g1, Zkm hN g2, Zkm hN ha, Zkm hN hb, List.length_map, Zug hN hL hR L.length (Nat.le_refl _) (by omega)]
end Ag
end Go.Vx
set_option autoImplicit false
set_option linter.unusedVariables false
set_option linter.unusedSimpArgs false
namespace Go.Vx.Wn
open Go Go.Vx
abbrev Byte (x:Int) : Prop := 0 ≤ x ∧ x ≤ 255
theorem ZoV {x:Int} (h:Byte x) : ∃ n : Nat, n < 256 ∧ x = (n:Int) := ⟨x.toNat, by omega, by omega⟩
theorem wrapi {n:Int} (h0 : -9223372036854775808 ≤ n) (h1:n ≤ 9223372036854775807) : IntKind.wrap .i64 n = n := by
 have hm : ∀ m : Int, IntKind.wrap .i64 m = if m % 18446744073709551616 ≥ 9223372036854775808 then m % 18446744073709551616 - 18446744073709551616 else m % 18446744073709551616 := by
  intro m
  simp [IntKind.wrap, IntKind.signed, IntKind.bits]
 rw [hm]
 split <;> omega
theorem beqS (a:ByteArray) : (a == a) = true := by
 show (a.data == a.data) = true
 exact beq_self_eq_true _
theorem wrap64 (n:Int) : IntKind.wrap .u64 n = n % 18446744073709551616 := by simp [IntKind.wrap, IntKind.signed, IntKind.bits]
theorem wrap8 (n:Int) : IntKind.wrap .u8 n = n % 256 := by simp [IntKind.wrap, IntKind.signed, IntKind.bits]
theorem ofInt64 {a:Int} (h0 : 0 ≤ a) (h1:a < 18446744073709551616) : (BitVec.ofInt 64 a).toNat = a.toNat := by
 rw [BitVec.toNat_ofInt]
 omega
theorem u_or {a b:Int} (a0 : 0 ≤ a) (a1:a < 18446744073709551616) (b0 : 0 ≤ b) (b1:b < 18446744073709551616) : ibin .or .u64 a b = ((a.toNat ||| b.toNat : Nat) : Int) := by
 show IntKind.wrap .u64 ((BitVec.ofInt 64 a ||| BitVec.ofInt 64 b).toNat : Int) = _
 rw [wrap64, BitVec.toNat_or, ofInt64 a0 a1, ofInt64 b0 b1]
 have : a.toNat ||| b.toNat < 2 ^ 64 := Nat.or_lt_two_pow (by omega) (by omega)
 omega
def Enc : Nat → LI → Prop
 | _, [] => False
 | v, [d] => d = (v:Int) ∧ v < 128
 | v, x :: t => ∃ n w : Nat, x = (n:Int) ∧ 128 ≤ n ∧ n < 256 ∧ v = (n - 128) + 128 * w ∧ 0 < w ∧ Enc w t
theorem or128 {v n w:Nat} (h1 : 128 ≤ n) (h2:n < 256) (hv:v = (n - 128) + 128 * w) : ibin .or .u8 (IntKind.wrap .u8 ((v:Nat) : Int)) 128 = (n:Int) := by
 have key : ∀ m : Nat, m < 256 → ibin .or .u8 (m:Int) 128 = (((m % 128) + 128 : Nat) : Int) := by decide +kernel
 rw [wrap8, show ((v:Nat) : Int) % 256 = ((v % 256 : Nat) : Int) by omega, key _ (Nat.mod_lt _ (by decide))]
 omega
theorem shr7 {v n w:Nat} (h1 : 128 ≤ n) (h2:n < 256) (hv:v = (n - 128) + 128 * w) (hw:v < 18446744073709551616) : ibin .shr .u64 ((v:Nat) : Int) 7 = ((w:Nat) : Int) := by
 show Int.fdiv ((v:Nat) : Int) (2 ^ (min (7 : Int).toNat 64)) = _
 rw [show (2 : Int) ^ (min (7 : Int).toNat 64) = 128 from rfl, Int.fdiv_eq_ediv_of_nonneg _ (by decide)]
 omega
theorem enc_all : ∀ (f:Nat) (w:Nat), w < 128 ^ f → 0 < f → ∃ t, Enc w t ∧ t.length ≤ f
 | 0, w, _, h => absurd h (by decide)
 | f + 1, w, hw, _ => by
  by_cases h : w < 128
  ·exact ⟨[(w:Int)], ⟨rfl, h⟩, by simp⟩
  ·have hf : 0 < f := by
    rcases Nat.eq_zero_or_pos f with rfl | hf
    ·simp at hw; omega
    ·exact hf
   obtain ⟨t, h1, h2⟩ := enc_all f (w / 128) (by rw [Nat.pow_succ] at hw; exact Nat.div_lt_of_lt_mul (by rw [Nat.mul_comm]; exact hw)) hf
   cases t with
   | nil => exact h1.elim
   | cons y t => exact ⟨((w % 128 + 128 : Nat) : Int) :: y :: t, ⟨w % 128 + 128, w / 128, rfl, by omega, by omega, by omega, by omega, h1⟩, by simp only [List.length_cons] at h2 ⊢; omega⟩
theorem w64n {k:Nat} (h:k ≤ 100000000) : IntKind.wrap .u64 ((k:Nat) : Int) = ((k:Nat) : Int) := by rw [wrap64]; omega
theorem Zq2 (N:Nat) : ∀ (t:LI) (w:Nat) (out:LI) (f:Nat), Enc w t → w < 18446744073709551616 → t.length ≤ f → out.length + t.length ≤ 200000000 →
  ∃ (init:LI) (d:Nat), t = init ++ [(d:Int)] ∧ d < 128 ∧
   loopF (Za3 N) f ((((w:Nat) : Int), (), out.length), (out.length, out)) = some (.inl (((d:Int), (out ++ init).length), ((out ++ init).length, out ++ init)))
 | [], w, out, f, h, _, _, _ => h.elim
 | [d], w, out, f, h, hw, hf, _ => by
  obtain ⟨k, rfl⟩ : ∃ k, f = k + 1 := ⟨f - 1, by simp at hf; omega⟩
  obtain ⟨h1, h2⟩ := h
  refine ⟨[], w, by rw [h1]; rfl, h2, ?_⟩
  rw [ZdO]
  unfold Za3
  have h3 : icmp .gtr ((w:Nat) : Int) 127 = false := by simp only [icmp, decide_eq_false_iff_not]; omega
  simp only [h3, cond_false, mo, List.append_nil]
 | x :: y :: t, w, out, f, h, hw, hf, ht => by
  obtain ⟨k, rfl⟩ : ∃ k, f = k + 1 := ⟨f - 1, by simp at hf; omega⟩
  obtain ⟨n, w', rfl, h1, h2, h3, h4, h5⟩ := h
  obtain ⟨init, d, q1, q2, q4⟩ := Zq2 N (y :: t) w' (out ++ [(n:Int)]) k h5 (by omega) (by simp only [List.length_cons] at hf ⊢; omega) (by simp only [List.length_append, List.length_cons, List.length_nil] at ht ⊢; omega)
  refine ⟨(n:Int) :: init, d, by rw [q1]; rfl, q2, ?_⟩
  rw [ZdO]
  unfold Za3
  have g1 : icmp .gtr ((w:Nat) : Int) 127 = true := by simp only [icmp, decide_eq_true_eq]; omega
  have g2 : decide ((out.length + 1) * 1 ≤ 140737488355328 ∧ out.length + 1 ≤ 9223372036854775807) = true := by simp only [decide_eq_true_eq]; simp only [List.length_cons] at ht; omega
  simp only [g1, g2, cond_true, mo, or128 h1 h2 h3, shr7 h1 h2 h3 hw]
  have e : (out ++ [(n:Int)]).length = out.length + 1 := by simp
  rw [e] at q4
  refine Eq.trans q4 ?_
  simp
theorem app_nil (N:Nat) {w:Nat} {t:LI} (h:Enc w t) (hw:w < 18446744073709551616) (ht:t.length ≤ 10) (hN : 10 ≤ N) : Zcl N () ((w:Nat) : Int) = some ((t.length, t), ()) := by
 obtain ⟨init, d, q1, q2, q4⟩ := Zq2 N t w [] N h hw (by omega) (by simp; omega)
 unfold Zcl
 simp only [List.length_nil, List.nil_append] at q4
 have hl : t.length = init.length + 1 := by rw [q1]; simp
 have g : decide ((init.length + 1) * 1 ≤ 140737488355328 ∧ init.length + 1 ≤ 9223372036854775807) = true := decide_eq_true (by omega)
 have hd : IntKind.wrap .u8 (d:Int) = (d:Int) := by rw [wrap8]; omega
 simp only [q4, mo, g, cond_true, hd]
 rw [hl, q1]
theorem app_bytes (N:Nat) {t x:LI} (h:Enc x.length t) (ht:t.length ≤ 10) (hx:x.length ≤ 100000000) (hN : 10 ≤ N) : ZbZ N () ((x.length, x), ()) = some ((t.length + x.length, t ++ x), ()) := by
 unfold ZbZ
 have k := app_nil N h (by omega) ht hN
 have g : decide ((t.length + x.length) * 1 ≤ 140737488355328 ∧ t.length + x.length ≤ 9223372036854775807) = true := decide_eq_true (by omega)
 simp only [w64n hx, k, mo, g, cond_true]
theorem Zq3 (N:Nat) : ∀ (t:LI) (w:Nat) (out:LI) (f:Nat), Enc w t → w < 18446744073709551616 → t.length ≤ f → out.length + t.length ≤ 200000000 →
  ∃ (init:LI) (d:Nat), t = init ++ [(d:Int)] ∧ d < 128 ∧
   loopF (ZbA N) f ((((w:Nat) : Int), (), out.length), (out.length, out)) = some (.inl (((d:Int), (out ++ init).length), ((out ++ init).length, out ++ init)))
 | [], w, out, f, h, _, _, _ => h.elim
 | [d], w, out, f, h, hw, hf, _ => by
  obtain ⟨k, rfl⟩ : ∃ k, f = k + 1 := ⟨f - 1, by simp at hf; omega⟩
  obtain ⟨h1, h2⟩ := h
  refine ⟨[], w, by rw [h1]; rfl, h2, ?_⟩
  rw [ZdO]
  unfold ZbA
  have h3 : icmp .geq ((w:Nat) : Int) 128 = false := by simp only [icmp, decide_eq_false_iff_not]; omega
  simp only [h3, cond_false, mo, List.append_nil]
 | x :: y :: t, w, out, f, h, hw, hf, ht => by
  obtain ⟨k, rfl⟩ : ∃ k, f = k + 1 := ⟨f - 1, by simp at hf; omega⟩
  obtain ⟨n, w', rfl, h1, h2, h3, h4, h5⟩ := h
  obtain ⟨init, d, q1, q2, q4⟩ := Zq3 N (y :: t) w' (out ++ [(n:Int)]) k h5 (by omega) (by simp only [List.length_cons] at hf ⊢; omega) (by simp only [List.length_append, List.length_cons, List.length_nil] at ht ⊢; omega)
  refine ⟨(n:Int) :: init, d, by rw [q1]; rfl, q2, ?_⟩
  rw [ZdO]
  unfold ZbA
  have g1 : icmp .geq ((w:Nat) : Int) 128 = true := by simp only [icmp, decide_eq_true_eq]; omega
  have g2 : decide ((out.length + 1) * 1 ≤ 140737488355328 ∧ out.length + 1 ≤ 9223372036854775807) = true := by simp only [decide_eq_true_eq]; simp only [List.length_cons] at ht; omega
  have g3 : ibin .add .u8 (IntKind.wrap .u8 (ibin .rem .u64 ((w:Nat) : Int) 128)) 128 = (n:Int) := by
   have e1 : ibin .rem .u64 ((w:Nat) : Int) 128 = ((w % 128 : Nat) : Int) := by
    have e0 : ibin .rem .u64 ((w:Nat) : Int) 128 = Int.tmod ((w:Nat) : Int) 128 := rfl
    rw [e0, Int.tmod_eq_emod_of_nonneg (by omega)]
    omega
   show IntKind.wrap .u8 _ = _
   rw [e1, wrap8, wrap8]
   omega
  have g4 : ibin .quo .u64 ((w:Nat) : Int) 128 = ((w':Nat) : Int) := by
   show IntKind.wrap .u64 (Int.tdiv _ _) = _
   rw [Int.tdiv_eq_ediv_of_nonneg (by omega), wrap64]
   omega
  simp only [g1, g2, g3, g4, cond_true, mo]
  have e : (out ++ [(n:Int)]).length = out.length + 1 := by simp
  rw [e] at q4
  refine Eq.trans q4 ?_
  simp
theorem ref_number (N:Nat) {w:Nat} {t:LI} (h:Enc w t) (hw:w < 18446744073709551616) (ht:t.length ≤ 10) (hN : 10 ≤ N) : Zdd N ((w:Nat) : Int) = some ((t.length, t), ()) := by
 obtain ⟨init, d, q1, q2, q4⟩ := Zq3 N t w [] N h hw (by omega) (by simp; omega)
 unfold Zdd
 simp only [List.length_nil, List.nil_append] at q4
 have hl : t.length = init.length + 1 := by rw [q1]; simp
 have g : decide ((init.length + 1) * 1 ≤ 140737488355328 ∧ init.length + 1 ≤ 9223372036854775807) = true := decide_eq_true (by omega)
 have hd : IntKind.wrap .u8 (d:Int) = (d:Int) := by rw [wrap8]; omega
 simp only [q4, mo, g, cond_true, hd]
 rw [hl, q1]
end Go.Vx.Wn
set_option autoImplicit false
set_option linter.unusedVariables false
set_option linter.unusedSimpArgs false
namespace Go.Vx.Wh
open Go Go.Vx
abbrev Dg : ByteArray := ByteArray.mk (List.toArray [48, 49, 50, 51, 52, 53, 54, 55, 56, 57, 97, 98, 99, 100, 101, 102])
def hexI (x:Int) : LI := [strAt Dg (ibin .shr .u8 x 4), strAt Dg (ibin .and .u8 x 15)]
abbrev Byte (x:Int) : Prop := 0 ≤ x ∧ x ≤ 255
theorem ZoV {x:Int} (h:Byte x) : ∃ n : Nat, n < 256 ∧ x = (n:Int) := ⟨x.toNat, by omega, by omega⟩
theorem ct {α:Type} {b:Bool} {x y : α} (h:b = true) : cond b x y = x := by rw [h]; rfl
theorem wrapi {n:Int} (h0 : -9223372036854775808 ≤ n) (h1:n ≤ 9223372036854775807) : IntKind.wrap .i64 n = n := by
 have hm : ∀ m : Int, IntKind.wrap .i64 m = if m % 18446744073709551616 ≥ 9223372036854775808 then m % 18446744073709551616 - 18446744073709551616 else m % 18446744073709551616 := by
  intro m
  simp [IntKind.wrap, IntKind.signed, IntKind.bits]
 rw [hm]
 split <;> omega
theorem beqS (a:ByteArray) : (a == a) = true := by
 show (a.data == a.data) = true
 exact beq_self_eq_true _
theorem b_shr : ∀ n : Nat, n < 256 → decide (0 ≤ ibin .shr .u8 (n:Int) 4 ∧ ibin .shr .u8 (n:Int) 4 < ((16 : Nat) : Int)) = true := by decide +kernel
theorem b_and : ∀ n : Nat, n < 256 → decide (0 ≤ ibin .and .u8 (n:Int) 15 ∧ ibin .and .u8 (n:Int) 15 < ((16 : Nat) : Int)) = true := by decide +kernel
theorem b_quo : ∀ n : Nat, n < 256 → decide (0 ≤ ibin .add .u8 (ibin .quo .u8 (n:Int) 16) 1 ∧ ibin .add .u8 (ibin .quo .u8 (n:Int) 16) 1 ≤ ((16 : Nat) : Int)) = true := by decide +kernel
theorem b_quo' : ∀ n : Nat, n < 256 → decide (0 ≤ ibin .quo .u8 (n:Int) 16 ∧ ibin .quo .u8 (n:Int) 16 ≤ ((Int.toNat (ibin .add .u8 (ibin .quo .u8 (n:Int) 16) 1) : Nat) : Int)) = true := by decide +kernel
theorem b_rem : ∀ n : Nat, n < 256 → decide (0 ≤ ibin .add .u8 (ibin .rem .u8 (n:Int) 16) 1 ∧ ibin .add .u8 (ibin .rem .u8 (n:Int) 16) 1 ≤ ((16 : Nat) : Int)) = true := by decide +kernel
theorem b_rem' : ∀ n : Nat, n < 256 → decide (0 ≤ ibin .rem .u8 (n:Int) 16 ∧ ibin .rem .u8 (n:Int) 16 ≤ ((Int.toNat (ibin .add .u8 (ibin .rem .u8 (n:Int) 16) 1) : Nat) : Int)) = true := by decide +kernel
theorem b_hi : ∀ n : Nat, n < 256 → (ByteArray.extract Dg (Int.toNat (ibin .quo .u8 (n:Int) 16)) (Int.toNat (ibin .add .u8 (ibin .quo .u8 (n:Int) 16) 1))).data = (List.map (fun m:Int => UInt8.ofNat m.toNat) [strAt Dg (ibin .shr .u8 (n:Int) 4)]).toArray := by decide +kernel
theorem b_lo : ∀ n : Nat, n < 256 → (ByteArray.extract Dg (Int.toNat (ibin .rem .u8 (n:Int) 16)) (Int.toNat (ibin .add .u8 (ibin .rem .u8 (n:Int) 16) 1))).data = (List.map (fun m:Int => UInt8.ofNat m.toNat) [strAt Dg (ibin .and .u8 (n:Int) 15)]).toArray := by decide +kernel
theorem Zq4 {α:Type} (pre:List α) (a : α) (suf:List α) (d : α) : List.getD (pre ++ a :: suf) pre.length d = a := by simp
theorem ZtR (N0:Nat) (l:LI) (hb:∀ x ∈ l, Byte x) (hl:l.length ≤ 2000000) (e0:ByteArray) : ∀ (suf pre:LI) (fuel:Nat) (out:LI), l = pre ++ suf → out.length = 2 * pre.length → suf.length + 1 ≤ fuel →
  loopF (ZfB N0) fuel ((e0, out.length, l.length, ((l.length : Nat) : Int), ((pre.length : Nat) : Int)), ((l.length, l), (out.length, out))) = some (.inl ((out ++ suf.flatMap hexI).length, ((out ++ suf.flatMap hexI).length, out ++ suf.flatMap hexI))) := by
 intro suf
 induction suf with
 | nil =>
  intro pre fuel out h1 h2 h3
  obtain ⟨k, rfl⟩ : ∃ k, fuel = k + 1 := ⟨fuel - 1, by omega⟩
  have : pre.length = l.length := by rw [h1]; simp
  rw [ZdO]
  unfold ZfB
  have h4 : icmp .lss ((pre.length : Nat) : Int) ((l.length : Nat) : Int) = false := decide_eq_false (by omega)
  simp only [h4, cond_false, mo, List.flatMap_nil, List.append_nil]
 | cons a suf ih =>
  intro pre fuel out h1 h2 h3
  obtain ⟨k, rfl⟩ : ∃ k, fuel = k + 1 := ⟨fuel - 1, by omega⟩
  have hlen : l.length = pre.length + suf.length + 1 := by rw [h1]; simp; omega
  obtain ⟨n, hn, rfl⟩ := ZoV (hb a (by rw [h1]; simp))
  have hg : List.getD l (Int.toNat ((pre.length : Nat) : Int)) 0 = (n:Int) := by rw [Int.toNat_natCast, h1]; exact Zq4 _ _ _ _
  rw [ZdO]
  unfold ZfB
  have h4 : icmp .lss ((pre.length : Nat) : Int) ((l.length : Nat) : Int) = true := decide_eq_true (by omega)
  have h5 : decide (0 ≤ ((pre.length : Nat) : Int) ∧ ((pre.length : Nat) : Int) < ((l.length : Nat) : Int)) = true := decide_eq_true (by omega)
  have h6 : decide ((out.length + 2) * 1 ≤ 140737488355328 ∧ out.length + 2 ≤ 9223372036854775807) = true := decide_eq_true (by simp only [List.length_cons] at h3; omega)
  have h7 : ibin .add .i64 ((pre.length : Nat) : Int) 1 = (((pre ++ [(n:Int)]).length : Nat) : Int) := by
   show IntKind.wrap .i64 _ = _
   rw [wrapi (by omega) (by omega), List.length_append]
   rfl
  simp only [h4, h5, h6, h7, hg, b_shr n hn, b_and n hn, cond_true, mo]
  have := ih (pre ++ [(n:Int)]) k (out ++ hexI (n:Int)) (by rw [h1]; simp) (by simp [hexI]; omega) (by simp only [List.length_cons] at h3; omega)
  rw [show (out ++ hexI (n:Int)).length = out.length + 2 by simp [hexI]] at this
  rw [List.flatMap_cons, ← List.append_assoc]
  exact this
theorem hex_law (N:Nat) (l:LI) (hb:∀ x ∈ l, Byte x) (hl:l.length ≤ 1048576) (hN : 2200000 ≤ N) : Zkr N ((l.length, l), ()) = some (bStr (l.flatMap hexI)) := by
 unfold Zkr
 have h0 : ibin .mul .i64 2 ((l.length : Nat) : Int) = 2 * ((l.length : Nat) : Int) := wrapi (by omega) (by omega)
 have h1 : ((decide ((0 : Int) ≤ 0 ∧ (0 : Int) ≤ (ibin .mul .i64 2 ((l.length : Nat) : Int))) && decide (Int.toNat (ibin .mul .i64 2 ((l.length : Nat) : Int)) * 1 ≤ 140737488355328 ∧ Int.toNat (ibin .mul .i64 2 ((l.length : Nat) : Int)) ≤ 9223372036854775807)) && true) = true := by
  rw [h0, decide_eq_true (by omega), decide_eq_true (by omega)]
  rfl
 simp only [h1, cond_true]
 have := ZtR N l hb (by omega) (ByteArray.mk (List.toArray [])) l [] N [] rfl rfl (by omega)
 simp only [List.length_nil, List.nil_append] at this
 rw [show ((0 : Nat) : Int) = 0 from rfl] at this
 rw [this]
 rfl
theorem Zla (a b:LI) : bStr (a ++ b) = bStr a ++ bStr b := by
 apply ByteArray.ext
 simp [bStr, ByteArray.data_append]
theorem ZhW (a:LI) : (bStr a).size = a.length := by
 simp [bStr, ByteArray.size]
theorem ZpZ (N0:Nat) (l:LI) (hb:∀ x ∈ l, Byte x) (hl:l.length ≤ 2000000) (e0:ByteArray) : ∀ (suf pre:LI) (fuel:Nat) (out:LI), l = pre ++ suf → out.length = 2 * pre.length → suf.length + 1 ≤ fuel →
  loopF (Zcv N0) fuel ((l.length, e0, bStr out, ((pre.length : Nat) : Int)), (l.length, l)) = some (.inl (bStr (out ++ suf.flatMap hexI), ())) := by
 intro suf
 induction suf with
 | nil =>
  intro pre fuel out h1 h2 h3
  obtain ⟨k, rfl⟩ : ∃ k, fuel = k + 1 := ⟨fuel - 1, by omega⟩
  have : pre.length = l.length := by rw [h1]; simp
  rw [ZdO]
  unfold Zcv
  have h4 : icmp .lss ((pre.length : Nat) : Int) ((l.length : Nat) : Int) = false := decide_eq_false (by omega)
  simp only [h4, cond_false, mo, List.flatMap_nil, List.append_nil]
 | cons a suf ih =>
  intro pre fuel out h1 h2 h3
  obtain ⟨k, rfl⟩ : ∃ k, fuel = k + 1 := ⟨fuel - 1, by omega⟩
  have hlen : l.length = pre.length + suf.length + 1 := by rw [h1]; simp; omega
  obtain ⟨n, hn, rfl⟩ := ZoV (hb a (by rw [h1]; simp))
  have hg : List.getD l (Int.toNat ((pre.length : Nat) : Int)) 0 = (n:Int) := by rw [Int.toNat_natCast, h1]; exact Zq4 _ _ _ _
  have e1 : ByteArray.extract Dg (Int.toNat (ibin .quo .u8 (n:Int) 16)) (Int.toNat (ibin .add .u8 (ibin .quo .u8 (n:Int) 16) 1)) = bStr [strAt Dg (ibin .shr .u8 (n:Int) 4)] := ByteArray.ext (b_hi n hn)
  have e2 : ByteArray.extract Dg (Int.toNat (ibin .rem .u8 (n:Int) 16)) (Int.toNat (ibin .add .u8 (ibin .rem .u8 (n:Int) 16) 1)) = bStr [strAt Dg (ibin .and .u8 (n:Int) 15)] := ByteArray.ext (b_lo n hn)
  have h8 : inR .i64 ((ByteArray.size (bStr out) + ByteArray.size (bStr [strAt Dg (ibin .shr .u8 (n:Int) 4)]) : Nat) : Int) = true := by
   rw [ZhW, ZhW]
   simp only [List.length_cons, List.length_nil, inR]
   exact decide_eq_true (by simp only [List.length_cons] at h3; simp only [IntKind.min, IntKind.max, IntKind.signed, IntKind.bits, if_true]; omega)
  have h9 : inR .i64 ((ByteArray.size (bStr out ++ bStr [strAt Dg (ibin .shr .u8 (n:Int) 4)]) + ByteArray.size (bStr [strAt Dg (ibin .and .u8 (n:Int) 15)]) : Nat) : Int) = true := by
   rw [← Zla, ZhW, ZhW]
   simp only [List.length_append, List.length_cons, List.length_nil, inR]
   exact decide_eq_true (by simp only [List.length_cons] at h3; simp only [IntKind.min, IntKind.max, IntKind.signed, IntKind.bits, if_true]; omega)
  rw [ZdO]
  unfold Zcv
  have h4 : icmp .lss ((pre.length : Nat) : Int) ((l.length : Nat) : Int) = true := decide_eq_true (by omega)
  have h5 : decide (0 ≤ ((pre.length : Nat) : Int) ∧ ((pre.length : Nat) : Int) < ((l.length : Nat) : Int)) = true := decide_eq_true (by omega)
  have h7 : ibin .add .i64 ((pre.length : Nat) : Int) 1 = (((pre ++ [(n:Int)]).length : Nat) : Int) := by
   show IntKind.wrap .i64 _ = _
   rw [wrapi (by omega) (by omega), List.length_append]
   rfl
  simp only [h4, h5, h7, hg, b_quo n hn, b_quo' n hn, b_rem n hn, b_rem' n hn, e1, e2, h8, h9, cond_true, mo]
  have := ih (pre ++ [(n:Int)]) k (out ++ hexI (n:Int)) (by rw [h1]; simp) (by simp [hexI]; omega) (by simp only [List.length_cons] at h3; omega)
  rw [show bStr (out ++ hexI (n:Int)) = bStr out ++ bStr [strAt Dg (ibin .shr .u8 (n:Int) 4)] ++ bStr [strAt Dg (ibin .and .u8 (n:Int) 15)] by
   rw [← Zla, ← Zla]; simp [hexI]] at this
  rw [List.flatMap_cons, ← List.append_assoc]
  exact this
theorem ref_hex_law (N:Nat) (l:LI) (hb:∀ x ∈ l, Byte x) (hl:l.length ≤ 1048576) (hN : 2200000 ≤ N) : ZeH N ((l.length, l), ()) = some (bStr (l.flatMap hexI)) := by
 unfold ZeH
 have := ZpZ N l hb (by omega) (ByteArray.mk (List.toArray [])) l [] N [] rfl rfl (by omega)
 simp only [List.length_nil, List.nil_append] at this
 rw [show ((0 : Nat) : Int) = 0 from rfl, show bStr [] = (ByteArray.mk (List.toArray [])) from rfl] at this
 rw [this]
 rfl
end Go.Vx.Wh
set_option autoImplicit false
set_option linter.unusedVariables false
set_option linter.unusedSimpArgs false
namespace Go.Vx
open Go
namespace Ag
open En Pr
abbrev WP5 : Type := (LI × LI × LI × LI) × LI × LI × LI × List (LI) × List (LI) × LI × LI
def Uw (w:WP5) : Prop := (U4 w.1.1 ∧ U4 w.1.2.1 ∧ U4 w.1.2.2.1 ∧ U4 w.1.2.2.2) ∧ U4 w.2.1 ∧ U4 w.2.2.1 ∧ U4 w.2.2.2.1 ∧ (∀ x ∈ w.2.2.2.2.1, U4 x) ∧ (∀ x ∈ w.2.2.2.2.2.1, U4 x) ∧ U4 w.2.2.2.2.2.2.1 ∧ U4 w.2.2.2.2.2.2.2
def bw (N:Nat) (w:WP5) : LI := En.bytesOf N w.1.1 w.1.2.1 w.1.2.2.1 w.1.2.2.2 w.2.1 w.2.2.1 w.2.2.2.1 w.2.2.2.2.2.2.1 w.2.2.2.2.2.2.2 w.2.2.2.2.1 w.2.2.2.2.2.1
def yw (w:WP5) : (LI × LI × LI × LI × LI × LI × LI × Nat × Nat × LI × LI) × (List (LI) × List (LI)) :=
 ((lo w.1.1, lo w.1.2.1, lo w.1.2.2.1, lo w.1.2.2.2, lo w.2.1, lo w.2.2.1, lo w.2.2.2.1, w.2.2.2.2.1.length, w.2.2.2.2.1.length, lo w.2.2.2.2.2.2.1, lo w.2.2.2.2.2.2.2), (w.2.2.2.2.1.map lo, w.2.2.2.2.2.1.map lo))
theorem ZsO (N:Nat) (hN : 33 ≤ N) {w:WP5} (hw:Uw w) (hLR:w.2.2.2.2.1.length = w.2.2.2.2.2.1.length) (h10:w.2.2.2.2.1.length ≤ 10) :
  ZaR N w () () = some ((bw N w).length, ((bw N w).length, bw N w)) ∧ (∀ x ∈ bw N w, 0 ≤ x ∧ x ≤ 255) ∧ (bw N w).length = 288 + 64 * w.2.2.2.2.1.length ∧
  Zax N (0, (bw N w).length, 0) ((bw N w).length, bw N w) () = some (((yw w).1, 0), (yw w).2) ∧
  Zah N (yw w).1 (yw w).2 () = some (((bw N w).length, 0), ((bw N w).length, bw N w)) := by
 obtain ⟨⟨s0, s1, s2, s3⟩, t0, t1, t2, L, R, a, b⟩ := w
 obtain ⟨⟨h0, h1, h2, h3⟩, g0, g1, g2, hL, hR, ha, hb⟩ := hw
 simp only at h0 h1 h2 h3 g0 g1 g2 hL hR ha hb hLR h10
 obtain ⟨d1, d2, d3, d4, d5, d6⟩ := ZsM hN h0 h1 h2 h3 g0 g1 g2 ha hb hL hR hLR (B := bw N ((s0, s1, s2, s3), t0, t1, t2, L, R, a, b)) rfl
 have hlen : (bw N ((s0, s1, s2, s3), t0, t1, t2, L, R, a, b)).length = 288 + 64 * L.length := by rw [d2]; omega
 have hdec := ZtP N hN d1 h10 d2 d3
 rw [d4, d5, d6] at hdec
 have hby := En.bytes_k N hN h0 h1 h2 h3 g0 g1 g2 ha hb hL hR hLR h10
 have henc := En.encode_p N hN (low5 h0).u (low5 h1).u (low5 h2).u (low5 h3).u (low5 g0).u (low5 g1).u (low5 g2).u (low5 ha).u (low5 hb).u (L := L.map lo) (R := R.map lo) (fun x hx => by
  obtain ⟨y, hy, rfl⟩ := List.mem_map.1 hx
  exact (low5 (hL y hy)).u) (fun x hx => by
  obtain ⟨y, hy, rfl⟩ := List.mem_map.1 hx
  exact (low5 (hR y hy)).u)
 rw [if_pos ⟨by simpa using hLR, by simpa using h10⟩, ZtQ hN h0 h1 h2 h3 g0 g1 g2 ha hb hL hR hLR, List.length_map, List.length_map, ← hLR] at henc
 refine ⟨?_, d1, hlen, hdec, ?_⟩
 ·rw [hlen]; exact hby
 ·rw [hlen]; exact henc
theorem change5 (N:Nat) (l:LI) (e f:Int) (n1 n2 x m:Nat) (p q s:Nat × LI) (hx:x ≤ 100000000) : (k i:Nat) → i + k = x → (fu:Nat) → k < fu → (g:LI) → g.length = x →
  ∃ g', g'.length = x ∧ loopF (Zbh N) fu ((l, (), e, f, n1, n2, x, m, (i:Int)), (p, q, (x, g), s)) = some (.inl ((l, e, f, n1, n2, x, m), (p, q, (x, g'), s)))
 | 0, i, hi, fu, hf, g, hg => by
  obtain ⟨fu, rfl⟩ : ∃ h, fu = h + 1 := ⟨fu - 1, by omega⟩
  obtain rfl : i = x := by omega
  refine ⟨g, hg, Zhu ?_ fu⟩
  unfold Zbh
  simp only [En.lt_f, cond_false]
 | k + 1, i, hi, fu, hf, g, hg => by
  obtain ⟨fu, rfl⟩ : ∃ h, fu = h + 1 := ⟨fu - 1, by omega⟩
  have hlt : i < x := by omega
  obtain ⟨g', q1, q2⟩ := change5 N l e f n1 n2 x m p q s hx k (i + 1) (by omega) fu (by omega) (List.set g i (ibin .add .u8 (List.getD g i 0) 1)) (by simp [hg])
  refine ⟨g', q1, (ZfF ?_ fu).trans q2⟩
  unfold Zbh
  simp only [En.lt_t hlt, En.ix hlt, cond_true, Int.toNat_natCast, En.inc (i := i) (by omega)]
theorem wireAgain_law (N:Nat) (w z:WP5) (b:LI) (hw:Uw w) (hz:Uw z) (lb:b.length ≤ 1048576) (hN : 3000000 ≤ N) : Zd8 N (w, z, b) () () = some (true, ()) := by
 have n33 : 33 ≤ N := by omega
 have pw := ZsO N n33 hw
 have pz := ZsO N n33 hz
 have hw' := hw
 have hz' := hz
 obtain ⟨⟨s0, s1, s2, s3⟩, t0, t1, t2, L, R, a, d⟩ := w
 obtain ⟨⟨s0', s1', s2', s3'⟩, t0', t1', t2', L', R', a', d'⟩ := z
 obtain ⟨⟨h0, h1, h2, h3⟩, g0, g1, g2, hL, hR, ha, hd⟩ := hw'
 obtain ⟨⟨h0', h1', h2', h3'⟩, g0', g1', g2', hL', hR', ha', hd'⟩ := hz'
 simp only at h0 h1 h2 h3 g0 g1 g2 hL hR ha hd h0' h1' h2' h3' g0' g1' g2' hL' hR' ha' hd' pw pz
 unfold Zd8
 simp only
 have ne : ∀ m n : Nat, icmp .neq ((m:Nat) : Int) ((n:Nat) : Int) = !decide (m = n) := by
  intro m n
  by_cases h : m = n
  ·subst h; simp [icmp]
  ·simp only [icmp, h, decide_false, Bool.not_false, bne_iff_ne, ne_eq, Int.natCast_inj, not_false_eq_true]
 rw [ne, ne, ne]
 by_cases c1 : L.length = R.length
 ·by_cases c2 : L'.length = R'.length
  ·by_cases c3 : L.length = L'.length
   ·by_cases c4 : L.length ≤ 10
    ·have c4' : icmp .gtr ((L.length : Nat) : Int) 10 = false := decide_eq_false (by omega:¬ ((L.length : Nat) : Int) > 10)
     obtain ⟨b1, b2, b3, b4, b5⟩ := pw c1 c4
     obtain ⟨e1, e2, e3, e4, e5⟩ := pz c2 (by omega)
     generalize hBw : bw N ((s0, s1, s2, s3), t0, t1, t2, L, R, a, d) = Bw at *
     generalize hBz : bw N ((s0', s1', s2', s3'), t0', t1', t2', L', R', a', d') = Bz at *
     generalize hyw : yw ((s0, s1, s2, s3), t0, t1, t2, L, R, a, d) = Y at *
     generalize hyz : yw ((s0', s1', s2', s3'), t0', t1', t2', L', R', a', d') = Z at *
     have hln : Bw.length = Bz.length := by rw [b3, e3, c3]
     have cp : List.take Bw.length Bz ++ List.drop Bz.length Bw = Bz := by
      rw [List.take_of_length_le (by omega), List.drop_eq_nil_of_le (by omega), List.append_nil]
     have x1 := Wh.hex_law N Bw b2 (by omega) (by omega)
     have x2 := Wh.ref_hex_law N Bw b2 (by omega) (by omega)
     have x3 := Wh.hex_law N Bz e2 (by omega) (by omega)
     have x4 := Wh.ref_hex_law N Bz e2 (by omega) (by omega)
     have y1 : ZaJ N ((s0, s1, s2, s3), t0, t1, t2, L, R, a, d) () () = some ((s0, s1, s2, s3, t0, t1, t2, L.length, R.length, a, d), (L, R)) := by
      unfold ZaJ
      simp only [En.lines_k N L (by omega) (by omega), En.lines_k N R (by omega) (by omega), mo]
     have y2 : ZaJ N ((s0', s1', s2', s3'), t0', t1', t2', L', R', a', d') () () = some ((s0', s1', s2', s3', t0', t1', t2', L'.length, R'.length, a', d'), (L', R')) := by
      unfold ZaJ
      simp only [En.lines_k N L' (by omega) (by omega), En.lines_k N R' (by omega) (by omega), mo]
     have cL : List.take L.length L' ++ List.drop L'.length L = L' := by
      rw [List.take_of_length_le (by omega), List.drop_eq_nil_of_le (by omega), List.append_nil]
     have cR : List.take R.length R' ++ List.drop R'.length R = R' := by
      rw [List.take_of_length_le (by omega), List.drop_eq_nil_of_le (by omega), List.append_nil]
     have z1 := En.encode_p N n33 h0 h1 h2 h3 g0 g1 g2 ha hd hL hR
     have z2 := En.encode_p N n33 h0 h1 h2 h3 g0 g1 g2 ha hd hL' hR'
     rw [if_pos ⟨c1, c4⟩] at z1
     rw [if_pos ⟨c2, by omega⟩] at z2
     have z3 : Zah N (s0, s1, s2, s3, t0, t1, t2, L.length, R.length, a, d) (L', R') () = some ((288 + 64 * L'.length, 0), (288 + 64 * L'.length, En.bytesOf N s0 s1 s2 s3 t0 t1 t2 a d L' R')) := by
      rw [show R.length = R'.length by omega, c3]; exact z2
     obtain ⟨t, ht1, ht2⟩ := Wn.enc_all 10 b.length (by omega) (by decide)
     have a1 := Wn.app_bytes N ht1 ht2 (by omega) (by omega)
     have a2 := Wn.ref_number N ht1 (by omega) ht2 (by omega)
     have hbx : decide (b.length * 1 ≤ 140737488355328 ∧ b.length ≤ 9223372036854775807) = true := En.ok1 (by omega)
     generalize hE : En.bytesOf N s0 s1 s2 s3 t0 t1 t2 a d L' R' = E2 at *
     obtain ⟨g', q1, q2⟩ := change5 N b 0 0 (288 + 64 * L'.length) (288 + 64 * L'.length) b.length (t.length + b.length) (288 + 64 * L'.length, E2) (288 + 64 * L'.length, E2) (t.length + b.length, t ++ b) (by omega) b.length 0 (by omega) N (by omega) b rfl
     rw [Int.natCast_zero] at q2
     have a3 := Wn.app_bytes N (x := g') (t := t) (by rw [q1]; exact ht1) ht2 (by omega) (by omega)
     rw [q1] at a3
     have hfit : decide ((t.length + b.length) * 1 ≤ 140737488355328 ∧ t.length + b.length ≤ 9223372036854775807) = true := En.ok1 (by omega)
     have hnn : icmp .neq 0 0 = false := rfl
     have hee : icmp .eql 0 0 = true := rfl
     have d1 : decide (L.length = R.length) = true := decide_eq_true c1
     have d2 : decide (L'.length = R'.length) = true := decide_eq_true c2
     have d3 : decide (L.length = L'.length) = true := decide_eq_true c3
     have e4' := e4
     rw [← hln] at e4'
     have x3' := x3
     rw [← hln] at x3'
     have b5' : Zah N (Y.1.1, Y.1.2.1, Y.1.2.2.1, Y.1.2.2.2.1, Y.1.2.2.2.2.1, Y.1.2.2.2.2.2.1, Y.1.2.2.2.2.2.2.1, Y.1.2.2.2.2.2.2.2.1, Y.1.2.2.2.2.2.2.2.2.1, Y.1.2.2.2.2.2.2.2.2.2.1, Y.1.2.2.2.2.2.2.2.2.2.2) (Y.2.1, Y.2.2) () = some ((Bw.length, 0), (Bw.length, Bw)) := b5
     have e5' : Zah N (Z.1.1, Z.1.2.1, Z.1.2.2.1, Z.1.2.2.2.1, Z.1.2.2.2.2.1, Z.1.2.2.2.2.2.1, Z.1.2.2.2.2.2.2.1, Z.1.2.2.2.2.2.2.2.1, Z.1.2.2.2.2.2.2.2.2.1, Z.1.2.2.2.2.2.2.2.2.2.1, Z.1.2.2.2.2.2.2.2.2.2.2) (Z.2.1, Z.2.2) () = some ((Bz.length, 0), (Bz.length, Bz)) := e5
     have w64 := Wn.w64n (k := b.length) (by omega)
     simp only [d1, d2, d3, Bool.not_true, cond_false, c4', b1, e1, mo, b4, x1, cp, e4', hnn, x2, En.beqS, x3', x4, b5', e5', y1, y2, z1, cL, cR, z2, z3, Nat.zero_add, hbx, cond_true, a1, q2, a3, hee, w64, a2, hfit]
    ·have c4' : icmp .gtr ((L.length : Nat) : Int) 10 = true := decide_eq_true (by omega:((L.length : Nat) : Int) > 10)
     simp only [decide_eq_true c1, decide_eq_true c2, decide_eq_true c3, Bool.not_true, cond_false, c4', cond_true]
   ·simp only [decide_eq_true c1, decide_eq_true c2, decide_eq_false c3, Bool.not_true, Bool.not_false, cond_false, cond_true]
  ·simp only [decide_eq_true c1, decide_eq_false c2, Bool.not_true, Bool.not_false, cond_false, cond_true]
 ·simp only [decide_eq_false c1, Bool.not_false, cond_true]
end Ag
end Go.Vx
