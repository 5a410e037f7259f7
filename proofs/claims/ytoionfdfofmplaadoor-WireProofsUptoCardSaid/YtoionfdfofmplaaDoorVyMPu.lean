import Derived.Test.YtoionfdfofmplaaDoorVyM34
import Derived.KernelRfl
/- Scalars' bytes, read: Decode; proofs over Line as bytes and back. -/
set_option autoImplicit false
set_option linter.unusedVariables false
set_option linter.unusedSimpArgs false
namespace Go.Vx
open Go

namespace Pr
theorem or_comm64 {a b : Int} (a0 : 0 ≤ a) (a1 : a < 18446744073709551616) (b0 : 0 ≤ b) (b1 : b < 18446744073709551616) : ibin .or .u64 a b = ibin .or .u64 b a := by
  rw [u_or a0 a1 b0 b1, u_or b0 b1 a0 a1, Nat.or_comm]

/-- One byte more. -/
theorem or_byte {x b : Int} (k : Nat) (hk : k ≤ 56) (hx : 0 ≤ x ∧ x < 2 ^ k) (hb : 0 ≤ b ∧ b ≤ 255) : ibin .or .u64 x (ibin .shl .u64 (IntKind.wrap .u64 b) (k : Int)) = x + b * 2 ^ k := by
  have h2 : (2 : Int) ^ k ≤ 72057594037927936 := by
    have h3 : (2 : Nat) ^ k ≤ 2 ^ 56 := Nat.pow_le_pow_right (by decide) hk
    have h4 : ((2 ^ k : Nat) : Int) ≤ ((2 ^ 56 : Nat) : Int) := Int.ofNat_le.2 h3
    rw [Int.natCast_pow] at h4
    exact h4
  have hp : (0 : Int) < 2 ^ k := Int.pow_pos (by decide)
  have hw : IntKind.wrap .u64 b = b := by
    have hm : ∀ y : Int, IntKind.wrap .u64 y = y % 18446744073709551616 := fun y => by simp [IntKind.wrap, IntKind.signed, IntKind.bits]
    rw [hm]; omega
  have hbp : 0 ≤ b * 2 ^ k ∧ b * 2 ^ k < 18446744073709551616 := by
    have h1 : b * 2 ^ k ≤ 255 * 2 ^ k := Int.mul_le_mul_of_nonneg_right hb.2 (Int.le_of_lt hp)
    exact ⟨Int.mul_nonneg hb.1 (Int.le_of_lt hp), by omega⟩
  rw [hw]
  have hs : ibin .shl .u64 b (k : Int) = b * 2 ^ k := by
    have : ibin .shl .u64 b (k : Int) = (b * 2 ^ k) % 18446744073709551616 := u_shl k (by omega)
    rw [this, Int.emod_eq_of_lt hbp.1 hbp.2]
  have hc : ibin .or .u64 x (ibin .shl .u64 b (k : Int)) = ibin .or .u64 (ibin .shl .u64 b (k : Int)) x := by
    rw [hs]
    exact or_comm64 hx.1 (by omega) hbp.1 hbp.2
  rw [hc, shl_or k (by omega) ⟨hb.1, by omega⟩ hx (by omega), Int.emod_eq_of_lt hbp.1 hbp.2]
  omega

def w8 (b0 b1 b2 b3 b4 b5 b6 b7 : Int) : Int :=
  ibin .or .u64 (ibin .or .u64 (ibin .or .u64 (ibin .or .u64 (ibin .or .u64 (ibin .or .u64 (ibin .or .u64 (ibin .or .u64 0 (ibin .shl .u64 (IntKind.wrap .u64 b0) 0)) (ibin .shl .u64 (IntKind.wrap .u64 b1) 8)) (ibin .shl .u64 (IntKind.wrap .u64 b2) 16)) (ibin .shl .u64 (IntKind.wrap .u64 b3) 24)) (ibin .shl .u64 (IntKind.wrap .u64 b4) 32)) (ibin .shl .u64 (IntKind.wrap .u64 b5) 40)) (ibin .shl .u64 (IntKind.wrap .u64 b6) 48)) (ibin .shl .u64 (IntKind.wrap .u64 b7) 56)
abbrev By (b : Int) : Prop := 0 ≤ b ∧ b ≤ 255
theorem w8_spec {b0 b1 b2 b3 b4 b5 b6 b7 : Int} (h0 : By b0) (h1 : By b1) (h2 : By b2) (h3 : By b3) (h4 : By b4) (h5 : By b5) (h6 : By b6) (h7 : By b7) :
    w8 b0 b1 b2 b3 b4 b5 b6 b7 = b0 + b1 * 256 + b2 * 65536 + b3 * 16777216 + b4 * 4294967296 + b5 * 1099511627776 + b6 * 281474976710656 + b7 * 72057594037927936 := by
  have e0 := or_byte (x := 0) 0 (by decide) (by decide) h0
  have e1 := or_byte (x := b0) 8 (by decide) (by rw [show (2 : Int) ^ 8 = 256 from by decide]; omega) h1
  have e2 := or_byte (x := b0 + b1 * 256) 16 (by decide) (by rw [show (2 : Int) ^ 16 = 65536 from by decide]; omega) h2
  have e3 := or_byte (x := b0 + b1 * 256 + b2 * 65536) 24 (by decide) (by rw [show (2 : Int) ^ 24 = 16777216 from by decide]; omega) h3
  have e4 := or_byte (x := b0 + b1 * 256 + b2 * 65536 + b3 * 16777216) 32 (by decide) (by rw [show (2 : Int) ^ 32 = 4294967296 from by decide]; omega) h4
  have e5 := or_byte (x := b0 + b1 * 256 + b2 * 65536 + b3 * 16777216 + b4 * 4294967296) 40 (by decide) (by rw [show (2 : Int) ^ 40 = 1099511627776 from by decide]; omega) h5
  have e6 := or_byte (x := b0 + b1 * 256 + b2 * 65536 + b3 * 16777216 + b4 * 4294967296 + b5 * 1099511627776) 48 (by decide) (by rw [show (2 : Int) ^ 48 = 281474976710656 from by decide]; omega) h6
  have e7 := or_byte (x := b0 + b1 * 256 + b2 * 65536 + b3 * 16777216 + b4 * 4294967296 + b5 * 1099511627776 + b6 * 281474976710656) 56 (by decide) (by rw [show (2 : Int) ^ 56 = 72057594037927936 from by decide]; omega) h7
  rw [show (2 : Int) ^ 8 = 256 from by decide] at e1
  rw [show (2 : Int) ^ 16 = 65536 from by decide] at e2
  rw [show (2 : Int) ^ 24 = 16777216 from by decide] at e3
  rw [show (2 : Int) ^ 32 = 4294967296 from by decide] at e4
  rw [show (2 : Int) ^ 40 = 1099511627776 from by decide] at e5
  rw [show (2 : Int) ^ 48 = 281474976710656 from by decide] at e6
  rw [show (2 : Int) ^ 56 = 72057594037927936 from by decide] at e7
  rw [show (2 : Int) ^ 0 = 1 from by decide, Int.zero_add, Int.mul_one] at e0
  have e0' : ibin .or .u64 0 (ibin .shl .u64 (IntKind.wrap .u64 b0) 0) = b0 := e0
  have e1' : ibin .or .u64 b0 (ibin .shl .u64 (IntKind.wrap .u64 b1) 8) = _ := e1
  have e2' : ibin .or .u64 (b0 + b1 * 256) (ibin .shl .u64 (IntKind.wrap .u64 b2) 16) = _ := e2
  have e3' : ibin .or .u64 (b0 + b1 * 256 + b2 * 65536) (ibin .shl .u64 (IntKind.wrap .u64 b3) 24) = _ := e3
  have e4' : ibin .or .u64 (b0 + b1 * 256 + b2 * 65536 + b3 * 16777216) (ibin .shl .u64 (IntKind.wrap .u64 b4) 32) = _ := e4
  have e5' : ibin .or .u64 (b0 + b1 * 256 + b2 * 65536 + b3 * 16777216 + b4 * 4294967296) (ibin .shl .u64 (IntKind.wrap .u64 b5) 40) = _ := e5
  have e6' : ibin .or .u64 (b0 + b1 * 256 + b2 * 65536 + b3 * 16777216 + b4 * 4294967296 + b5 * 1099511627776) (ibin .shl .u64 (IntKind.wrap .u64 b6) 48) = _ := e6
  have e7' : ibin .or .u64 (b0 + b1 * 256 + b2 * 65536 + b3 * 16777216 + b4 * 4294967296 + b5 * 1099511627776 + b6 * 281474976710656) (ibin .shl .u64 (IntKind.wrap .u64 b7) 56) = _ := e7
  unfold w8
  rw [e0', e1', e2', e3', e4', e5', e6', e7']

theorem from_loop (N f : Nat) (a0 a1 a2 a3 a4 a5 a6 a7 a8 a9 a10 a11 a12 a13 a14 a15 a16 a17 a18 a19 a20 a21 a22 a23 a24 a25 a26 a27 a28 a29 a30 a31 : Int) :
    loopF (scalar_fromBytes_l0 N) (f + 33) (((), (), [a0, a1, a2, a3, a4, a5, a6, a7, a8, a9, a10, a11, a12, a13, a14, a15, a16, a17, a18, a19, a20, a21, a22, a23, a24, a25, a26, a27, a28, a29, a30, a31], 0), ((), [0, 0, 0, 0])) =
      some (.inl (((), ()), ((), [w8 a0 a1 a2 a3 a4 a5 a6 a7, w8 a8 a9 a10 a11 a12 a13 a14 a15, w8 a16 a17 a18 a19 a20 a21 a22 a23, w8 a24 a25 a26 a27 a28 a29 a30 a31]))) := by kernel_rfl

theorem list32 {a : List Int} (h : a.length = 32) : ∃ a0 a1 a2 a3 a4 a5 a6 a7 a8 a9 a10 a11 a12 a13 a14 a15 a16 a17 a18 a19 a20 a21 a22 a23 a24 a25 a26 a27 a28 a29 a30 a31, a = [a0, a1, a2, a3, a4, a5, a6, a7, a8, a9, a10, a11, a12, a13, a14, a15, a16, a17, a18, a19, a20, a21, a22, a23, a24, a25, a26, a27, a28, a29, a30, a31] := by
  match a, h with
  | [a0, a1, a2, a3, a4, a5, a6, a7, a8, a9, a10, a11, a12, a13, a14, a15, a16, a17, a18, a19, a20, a21, a22, a23, a24, a25, a26, a27, a28, a29, a30, a31], _ => exact ⟨a0, a1, a2, a3, a4, a5, a6, a7, a8, a9, a10, a11, a12, a13, a14, a15, a16, a17, a18, a19, a20, a21, a22, a23, a24, a25, a26, a27, a28, a29, a30, a31, rfl⟩

theorem num8 {b0 b1 b2 b3 b4 b5 b6 b7 : Int} (h0 : By b0) (h1 : By b1) (h2 : By b2) (h3 : By b3) (h4 : By b4) (h5 : By b5) (h6 : By b6) (h7 : By b7) (r : List Int) :
    (numB (b0 :: b1 :: b2 :: b3 :: b4 :: b5 :: b6 :: b7 :: r) : Int) = (b0 + b1 * 256 + b2 * 65536 + b3 * 16777216 + b4 * 4294967296 + b5 * 1099511627776 + b6 * 281474976710656 + b7 * 72057594037927936) + 18446744073709551616 * (numB r : Int) := by
  have nat : ∀ {b : Int}, By b → ∃ n : Nat, b = (n : Int) := fun {b} h => ⟨b.toNat, by have := h.1; omega⟩
  obtain ⟨n0, rfl⟩ := nat h0
  obtain ⟨n1, rfl⟩ := nat h1
  obtain ⟨n2, rfl⟩ := nat h2
  obtain ⟨n3, rfl⟩ := nat h3
  obtain ⟨n4, rfl⟩ := nat h4
  obtain ⟨n5, rfl⟩ := nat h5
  obtain ⟨n6, rfl⟩ := nat h6
  obtain ⟨n7, rfl⟩ := nat h7
  simp only [numB, Int.toNat_natCast]
  generalize numB r = m
  omega
theorem from_k (N : Nat) (hN : 33 ≤ N) {a : List Int} (ha : L32 a) : ∃ s, scalar_fromBytes N a = some s ∧ U4 s ∧ v4 s = (numB a : Int) := by
  obtain ⟨hl, hb⟩ := ha
  obtain ⟨a0, a1, a2, a3, a4, a5, a6, a7, a8, a9, a10, a11, a12, a13, a14, a15, a16, a17, a18, a19, a20, a21, a22, a23, a24, a25, a26, a27, a28, a29, a30, a31, rfl⟩ := list32 hl
  simp only [List.forall_mem_cons] at hb
  obtain ⟨h0, h1, h2, h3, h4, h5, h6, h7, h8, h9, h10, h11, h12, h13, h14, h15, h16, h17, h18, h19, h20, h21, h22, h23, h24, h25, h26, h27, h28, h29, h30, h31, -⟩ := hb
  obtain ⟨f, rfl⟩ : ∃ f, N = f + 33 := ⟨N - 33, by omega⟩
  refine ⟨[w8 a0 a1 a2 a3 a4 a5 a6 a7, w8 a8 a9 a10 a11 a12 a13 a14 a15, w8 a16 a17 a18 a19 a20 a21 a22 a23, w8 a24 a25 a26 a27 a28 a29 a30 a31], ?_, ⟨_, _, _, _, rfl, ?_, ?_, ?_, ?_⟩, ?_⟩
  · unfold scalar_fromBytes
    simp only [from_loop, mo]
  · rw [w8_spec h0 h1 h2 h3 h4 h5 h6 h7]; unfold U; omega
  · rw [w8_spec h8 h9 h10 h11 h12 h13 h14 h15]; unfold U; omega
  · rw [w8_spec h16 h17 h18 h19 h20 h21 h22 h23]; unfold U; omega
  · rw [w8_spec h24 h25 h26 h27 h28 h29 h30 h31]; unfold U; omega
  · rw [v4_mk, w8_spec h0 h1 h2 h3 h4 h5 h6 h7, w8_spec h8 h9 h10 h11 h12 h13 h14 h15, w8_spec h16 h17 h18 h19 h20 h21 h22 h23, w8_spec h24 h25 h26 h27 h28 h29 h30 h31, num8 h0 h1 h2 h3 h4 h5 h6 h7, num8 h8 h9 h10 h11 h12 h13 h14 h15, num8 h16 h17 h18 h19 h20 h21 h22 h23, num8 h24 h25 h26 h27 h28 h29 h30 h31]
    rw [show ((numB [] : Nat) : Int) = 0 from rfl]
    generalize a0 + a1 * 256 + a2 * 65536 + a3 * 16777216 + a4 * 4294967296 + a5 * 1099511627776 + a6 * 281474976710656 + a7 * 72057594037927936 = A
    generalize a8 + a9 * 256 + a10 * 65536 + a11 * 16777216 + a12 * 4294967296 + a13 * 1099511627776 + a14 * 281474976710656 + a15 * 72057594037927936 = B
    generalize a16 + a17 * 256 + a18 * 65536 + a19 * 16777216 + a20 * 4294967296 + a21 * 1099511627776 + a22 * 281474976710656 + a23 * 72057594037927936 = C
    generalize a24 + a25 * 256 + a26 * 65536 + a27 * 16777216 + a28 * 4294967296 + a29 * 1099511627776 + a30 * 281474976710656 + a31 * 72057594037927936 = D
    omega

/-- Decode: the scalar of 32 canonical bytes. -/
theorem dk_k (N : Nat) (hN : 33 ≤ N) {a : List Int} (ha : L32 a) : (numB a < ordl ∧ ∃ s, scalar_Decode N a = some (s, 0) ∧ Lm s (numB a)) ∨ (¬ numB a < ordl ∧ scalar_Decode N a = some ([0, 0, 0, 0], 3)) := by
  obtain ⟨s, h1, h2, h3⟩ := from_k N hN ha
  obtain ⟨r, h4, h5⟩ := sleast' h2
  unfold scalar_Decode
  simp only [h1, h4, mo]
  have hsc : sc s = numB a % ordl := by
    show (v4 s).toNat % ordl = _
    rw [h3, Int.toNat_natCast]
  by_cases hlt : numB a < ordl
  · have hL : Lm s (numB a) := ⟨h2, h3, hlt⟩
    have e : r = s := by
      rw [hsc, Nat.mod_eq_of_lt hlt] at h5
      exact h5.uniq hL
    refine .inl ⟨hlt, s, ?_, hL⟩
    simp [e]
  · have e : r ≠ s := by
      rintro rfl
      have := h5.v
      rw [h3] at this
      have h6 := h5.lt
      omega
    refine .inr ⟨hlt, ?_⟩
    simp [e]

end Pr
end Go.Vx

/- Proofs over Line as bytes: EncodeProof; alike. -/
set_option autoImplicit false
set_option linter.unusedVariables false
set_option linter.unusedSimpArgs false
namespace Go.Vx
open Go

namespace Pr
/-- The bytes of a scalar. -/
def eB (N : Nat) (x : List Int) : List Int := (scalar_Scalar_Encode N x).getD []
/-- Its least limbs. -/
def lo (x : List Int) : List Int := (scalar_Scalar_Least x).getD []

theorem enc {N : Nat} (hN : 33 ≤ N) {x : List Int} (hx : U4 x) : scalar_Scalar_Encode N x = some (eB N x) ∧ L32 (eB N x) ∧ numB (eB N x) = sc x := by
  obtain ⟨b, h1, h2, h3⟩ := encode_k N hN hx
  have e1 : eB N x = b := by unfold eB; rw [h1]; rfl
  rw [e1]
  exact ⟨h1, h2, h3⟩
theorem low {x : List Int} (hx : U4 x) : scalar_Scalar_Least x = some (lo x) ∧ Lm (lo x) (sc x) := by
  obtain ⟨r, h1, h2⟩ := sleast' hx
  have e1 : lo x = r := by unfold lo; rw [h1]; rfl
  rw [e1]
  exact ⟨h1, h2⟩
theorem lo_lo {x : List Int} (hx : U4 x) : lo (lo x) = lo x := by
  obtain ⟨-, h⟩ := low hx
  obtain ⟨-, h'⟩ := low h.u
  rw [h.sc] at h'
  exact h'.uniq h
theorem p_dec_enc {N : Nat} (hN : 33 ≤ N) {x : List Int} (hx : U4 x) : scalar_Decode N (eB N x) = some (lo x, 0) ∧ numB (eB N x) < ordl := by
  obtain ⟨-, h2, h3⟩ := enc hN hx
  obtain ⟨-, hl⟩ := low hx
  have hlt : numB (eB N x) < ordl := by rw [h3]; exact sc_lt x
  rcases dk_k N hN h2 with ⟨-, s, g1, g2⟩ | ⟨h, -⟩
  · rw [h3] at g2
    rw [g1, g2.uniq hl]
    exact ⟨rfl, hlt⟩
  · exact absurd hlt h
theorem p_enc_dec {N : Nat} (hN : 33 ≤ N) {c s : List Int} (hc : L32 c) (h : scalar_Decode N c = some (s, 0)) : U4 s ∧ eB N s = c ∧ lo s = s := by
  rcases dk_k N hN hc with ⟨-, s', g1, g2⟩ | ⟨-, g⟩
  · rw [g1] at h
    obtain rfl : s' = s := (Prod.mk.inj (Option.some.inj h)).1
    obtain ⟨-, h2, h3⟩ := enc hN g2.u
    obtain ⟨-, hl⟩ := low g2.u
    rw [g2.sc] at h3 hl
    exact ⟨g2.u, h2.inj hc (by rw [h3]), hl.uniq g2⟩
  · rw [g] at h
    have := (Prod.mk.inj (Option.some.inj h)).2
    simp at this

theorem tk {r : List Int} (h : r.length = 32) : List.take 32 (List.drop 0 r) = r := by
  rw [List.drop_zero, List.take_of_length_le (by omega)]
theorem okk {k m : Nat} (h : k ≤ 100000000) (hm : m ≤ 1000) : decide (k * m ≤ 140737488355328 ∧ k ≤ 9223372036854775807) = true := by
  have : k * m ≤ 100000000 * 1000 := Nat.mul_le_mul h hm
  exact decide_eq_true (by omega)
theorem ok1 {k : Nat} (h : k ≤ 100000000) : decide (k * 1 ≤ 140737488355328 ∧ k ≤ 9223372036854775807) = true := okk h (by decide)
theorem inc {i : Nat} (h : i < 100000000) : ibin .add .i64 (i : Int) 1 = ((i + 1 : Nat) : Int) := by rw [Ref.i_add (by omega) (by omega)]; omega
theorem lt_t {i n : Nat} (h : i < n) : icmp .lss ((i : Nat) : Int) ((n : Nat) : Int) = true := decide_eq_true (by omega)
theorem lt_f {n : Nat} : icmp .lss ((n : Nat) : Int) ((n : Nat) : Int) = false := decide_eq_false (by omega)
theorem ix {i n : Nat} (h : i < n) : decide ((0 : Int) ≤ ((i : Nat) : Int) ∧ ((i : Nat) : Int) < ((n : Nat) : Int)) = true := decide_eq_true (by omega)
theorem getD_lt {α : Type} {l : List α} {i : Nat} (h : i < l.length) (d : α) : List.getD l i d = l[i] := by
  rw [List.getD_eq_getElem?_getD, List.getElem?_eq_getElem h]; rfl
theorem take_succ {α : Type} {l : List α} {i : Nat} (h : i < l.length) : l.take (i + 1) = l.take i ++ [l[i]] := by
  rw [List.take_add_one, List.getElem?_eq_getElem h]; rfl

theorem lines_loop (N : Nat) (L : List (List Int)) (hL : L.length ≤ 2000000) : (k i : Nat) → i + k = L.length → (f : Nat) → k < f →
    loopF (veillaw10_lines_l0 N) f ((L.length, (), i, (i : Int)), (L, L.take i)) = some (.inl (L.length, L))
  | 0, i, hi, f, hf => by
    obtain ⟨f, rfl⟩ : ∃ g, f = g + 1 := ⟨f - 1, by omega⟩
    obtain rfl : i = L.length := by omega
    refine loop_out ?_ f
    unfold veillaw10_lines_l0
    simp only [lt_f, cond_false, List.take_length]
  | k + 1, i, hi, f, hf => by
    obtain ⟨f, rfl⟩ : ∃ g, f = g + 1 := ⟨f - 1, by omega⟩
    have hlt : i < L.length := by omega
    refine (loop_in (w := ((L.length, (), i + 1, ((i + 1 : Nat) : Int)), (L, L.take (i + 1)))) ?_ f).trans (lines_loop N L hL k (i + 1) (by omega) f (by omega))
    have hl : (L.take i ++ [List.getD L i [0, 0, 0, 0]]).length = i + 1 := by simp; omega
    unfold veillaw10_lines_l0
    simp only [lt_t hlt, ix hlt, cond_true, Int.toNat_natCast, hl, okk (k := i + 1) (m := 32) (by omega) (by decide), inc (i := i) (by omega)]
    rw [getD_lt hlt, ← take_succ hlt]
theorem lines_k (N : Nat) (L : List (List Int)) (hL : L.length ≤ 2000000) (hN : L.length < N) : veillaw10_lines N (L, ()) = some (L, ()) := by
  unfold veillaw10_lines
  have := lines_loop N L hL L.length 0 (by omega) N hN
  rw [List.take_zero] at this
  simp only
  rw [show ((0 : Int)) = ((0 : Nat) : Int) from rfl, this]
  rfl

def acc (N : Nat) (L R : List (List Int)) : Nat → List Int
  | 0 => []
  | i + 1 => acc N L R i ++ (eB N (List.getD L i [0, 0, 0, 0]) ++ eB N (List.getD R i [0, 0, 0, 0]))
theorem acc_len {N : Nat} (hN : 33 ≤ N) {L R : List (List Int)} (hL : ∀ x ∈ L, U4 x) (hR : ∀ x ∈ R, U4 x) : (i : Nat) → i ≤ L.length → i ≤ R.length → (acc N L R i).length = 64 * i
  | 0, _, _ => rfl
  | i + 1, h1, h2 => by
    have hl := (enc hN (hL _ (List.getElem_mem (show i < L.length by omega)))).2.1.1
    have hr := (enc hN (hR _ (List.getElem_mem (show i < R.length by omega)))).2.1.1
    simp only [acc, List.length_append, acc_len hN hL hR i (by omega) (by omega), getD_lt (show i < L.length by omega), getD_lt (show i < R.length by omega), hl, hr]
    omega

abbrev PF : Type := List Int × List Int × List Int × List Int × List Int × List Int × List Int × List (List Int) × List (List Int) × List Int × List Int

theorem enc_loop1 (N : Nat) (hN : 33 ≤ N) (L R : List (List Int)) (hL : ∀ x ∈ L, U4 x) (hR : ∀ x ∈ R, U4 x) (hLR : L.length = R.length) (h10 : L.length ≤ 10) (s0 s1 s2 s3 t0 t1 t2 a b : List Int) (out : List Int) (ho : out.length = 224) : (k i : Nat) → i + k = L.length → (f : Nat) → k < f →
    loopF (wire_EncodeProof_of_msm_Line_l4 N) f (((), (), (), (), (), L, ((L.length : Nat) : Int), (i : Int)), ((s0, s1, s2, s3, t0, t1, t2, L, R, a, b), out ++ acc N L R i, ())) = some (.inl (((), (), ()), ((s0, s1, s2, s3, t0, t1, t2, L, R, a, b), out ++ acc N L R L.length, ())))
  | 0, i, hi, f, hf => by
    obtain ⟨f, rfl⟩ : ∃ g, f = g + 1 := ⟨f - 1, by omega⟩
    obtain rfl : i = L.length := by omega
    refine loop_out ?_ f
    unfold wire_EncodeProof_of_msm_Line_l4
    simp only [lt_f, cond_false]
  | k + 1, i, hi, f, hf => by
    obtain ⟨f, rfl⟩ : ∃ g, f = g + 1 := ⟨f - 1, by omega⟩
    have hlt : i < L.length := by omega
    have hlr : i < R.length := by omega
    refine (loop_in (w := (((), (), (), (), (), L, ((L.length : Nat) : Int), ((i + 1 : Nat) : Int)), ((s0, s1, s2, s3, t0, t1, t2, L, R, a, b), out ++ acc N L R (i + 1), ()))) ?_ f).trans (enc_loop1 N hN L R hL hR hLR h10 s0 s1 s2 s3 t0 t1 t2 a b out ho k (i + 1) (by omega) f (by omega))
    obtain ⟨hl, ⟨ll, -⟩, -⟩ := enc hN (hL _ (List.getElem_mem hlt))
    obtain ⟨hr, ⟨lr, -⟩, -⟩ := enc hN (hR _ (List.getElem_mem hlr))
    have la := acc_len hN hL hR i (by omega) (by omega)
    unfold wire_EncodeProof_of_msm_Line_l4
    simp only [lt_t hlt, ix hlt, cond_true, Int.toNat_natCast, getD_lt hlt, getD_lt hlr, hl, hr, mo, ix hlr, tk ll, tk lr, List.length_append, ho, la, ll, lr, List.append_assoc, ok1 (k := 224 + (64 * i + 32)) (by omega), ok1 (k := 224 + (64 * i + (32 + 32))) (by omega), inc (i := i) (by omega), acc]

/-- The bytes of a proof. -/
def bytesOf (N : Nat) (p : PF) : List Int :=
  ((((((((eB N p.1 ++ eB N p.2.1) ++ eB N p.2.2.1) ++ eB N p.2.2.2.1) ++ eB N p.2.2.2.2.1) ++ eB N p.2.2.2.2.2.1) ++ eB N p.2.2.2.2.2.2.1) ++ acc N p.2.2.2.2.2.2.2.1 p.2.2.2.2.2.2.2.2.1 p.2.2.2.2.2.2.2.1.length) ++ eB N p.2.2.2.2.2.2.2.2.2.1) ++ eB N p.2.2.2.2.2.2.2.2.2.2
/-- All of it are limbs. -/
def Us (p : PF) : Prop := U4 p.1 ∧ U4 p.2.1 ∧ U4 p.2.2.1 ∧ U4 p.2.2.2.1 ∧ U4 p.2.2.2.2.1 ∧ U4 p.2.2.2.2.2.1 ∧ U4 p.2.2.2.2.2.2.1 ∧ (∀ x ∈ p.2.2.2.2.2.2.2.1, U4 x) ∧ (∀ x ∈ p.2.2.2.2.2.2.2.2.1, U4 x) ∧ U4 p.2.2.2.2.2.2.2.2.2.1 ∧ U4 p.2.2.2.2.2.2.2.2.2.2
def Fit (p : PF) : Prop := p.2.2.2.2.2.2.2.1.length = p.2.2.2.2.2.2.2.2.1.length ∧ p.2.2.2.2.2.2.2.1.length ≤ 10
instance (p : PF) : Decidable (Fit p) := by unfold Fit; infer_instance

theorem encode_p (N : Nat) (hN : 33 ≤ N) {p : PF} (hp : Us p) : wire_EncodeProof_of_msm_Line N p () () = if Fit p then some ((bytesOf N p, 0), ()) else some (([], 2), ()) := by
  obtain ⟨s0, s1, s2, s3, t0, t1, t2, L, R, a, b⟩ := p
  obtain ⟨h0, h1, h2, h3, g0, g1, g2, hL, hR, ha, hb⟩ := hp
  simp only at h0 h1 h2 h3 g0 g1 g2 hL hR ha hb
  unfold wire_EncodeProof_of_msm_Line
  simp only
  by_cases hLR : L.length = R.length
  · have e1 : icmp .neq ((L.length : Nat) : Int) ((R.length : Nat) : Int) = false := by simp [icmp, hLR]
    simp only [e1, cond_false]
    by_cases h10 : L.length ≤ 10
    · have e2 : icmp .gtr ((L.length : Nat) : Int) 10 = false := decide_eq_false (by omega)
      obtain ⟨f0, ⟨l0, -⟩, -⟩ := enc hN h0
      obtain ⟨f1, ⟨l1, -⟩, -⟩ := enc hN h1
      obtain ⟨f2, ⟨l2, -⟩, -⟩ := enc hN h2
      obtain ⟨f3, ⟨l3, -⟩, -⟩ := enc hN h3
      obtain ⟨f4, ⟨l4, -⟩, -⟩ := enc hN g0
      obtain ⟨f5, ⟨l5, -⟩, -⟩ := enc hN g1
      obtain ⟨f6, ⟨l6, -⟩, -⟩ := enc hN g2
      obtain ⟨f7, ⟨l7, -⟩, -⟩ := enc hN ha
      obtain ⟨f8, ⟨l8, -⟩, -⟩ := enc hN hb
      have la := acc_len hN hL hR L.length (by omega) (by omega)
      have lp := enc_loop1 N hN L R hL hR hLR h10 s0 s1 s2 s3 t0 t1 t2 a b ((((((eB N s0 ++ eB N s1) ++ eB N s2) ++ eB N s3) ++ eB N t0) ++ eB N t1) ++ eB N t2) (by simp only [List.length_append, l0, l1, l2, l3, l4, l5, l6]) L.length 0 (by omega) N (by omega)
      simp only [acc, List.append_nil, Int.natCast_zero] at lp
      rw [if_pos (show Fit (s0, s1, s2, s3, t0, t1, t2, L, R, a, b) from ⟨hLR, h10⟩)]
      simp only [e2, cond_false, f0, f1, f2, f3, f4, f5, f6, mo, tk l0, tk l1, tk l2, tk l3, tk l4, tk l5, tk l6, List.length_append, l0, l1, l2, l3, l4, l5, l6, ok1 (k := 32) (by decide), ok1 (k := 32 + 32) (by decide), ok1 (k := 32 + 32 + 32) (by decide), ok1 (k := 32 + 32 + 32 + 32) (by decide), ok1 (k := 32 + 32 + 32 + 32 + 32) (by decide), ok1 (k := 32 + 32 + 32 + 32 + 32 + 32) (by decide), ok1 (k := 32 + 32 + 32 + 32 + 32 + 32 + 32) (by decide), cond_true, lp]
      simp only [f7, f8, mo, tk l7, tk l8, List.length_append, l0, l1, l2, l3, l4, l5, l6, l7, l8, la, ok1 (k := 32 + 32 + 32 + 32 + 32 + 32 + 32 + 64 * L.length + 32) (by omega), ok1 (k := 32 + 32 + 32 + 32 + 32 + 32 + 32 + 64 * L.length + 32 + 32) (by omega), cond_true]
      rfl
    · have e2 : icmp .gtr ((L.length : Nat) : Int) 10 = true := decide_eq_true (by omega)
      rw [if_neg (fun h : Fit (s0, s1, s2, s3, t0, t1, t2, L, R, a, b) => h10 h.2)]
      simp only [e2, cond_true]
  · have e1 : icmp .neq ((L.length : Nat) : Int) ((R.length : Nat) : Int) = true := by
      simp only [icmp, bne_iff_ne, ne_eq, Int.natCast_inj]; exact hLR
    rw [if_neg (fun h : Fit (s0, s1, s2, s3, t0, t1, t2, L, R, a, b) => hLR h.1)]
    simp only [e1, cond_true]

/-- The same by least limbs. -/
def lowp (p : PF) : PF := (lo p.1, lo p.2.1, lo p.2.2.1, lo p.2.2.2.1, lo p.2.2.2.2.1, lo p.2.2.2.2.2.1, lo p.2.2.2.2.2.2.1, p.2.2.2.2.2.2.2.1.map lo, p.2.2.2.2.2.2.2.2.1.map lo, lo p.2.2.2.2.2.2.2.2.2.1, lo p.2.2.2.2.2.2.2.2.2.2)

theorem sm_k {x y : List Int} (hx : U4 x) (hy : U4 y) : scalar_Scalar_Same x y = some (decide (lo x = lo y)) := by
  unfold scalar_Scalar_Same
  simp only [(low hx).1, (low hy).1, mo]
theorem sm_l {x y : List Int} (hx : U4 x) (hy : U4 y) : msm_Line_Same x y = some (decide (lo x = lo y)) := by
  unfold msm_Line_Same
  simp only [sm_k hx hy, mo]

theorem alike_loop (N : Nat) (p q : PF) (hp : Us p) (hq : Us q) (e1 : p.2.2.2.2.2.2.2.1.length = p.2.2.2.2.2.2.2.2.1.length) (e2 : q.2.2.2.2.2.2.2.1.length = q.2.2.2.2.2.2.2.2.1.length) (e3 : p.2.2.2.2.2.2.2.1.length = q.2.2.2.2.2.2.2.1.length) (hs : p.2.2.2.2.2.2.2.1.length ≤ 2000000) : (k i : Nat) → i + k = p.2.2.2.2.2.2.2.1.length → (f : Nat) → k < f →
    (p.2.2.2.2.2.2.2.1.map lo).take i = (q.2.2.2.2.2.2.2.1.map lo).take i → (p.2.2.2.2.2.2.2.2.1.map lo).take i = (q.2.2.2.2.2.2.2.2.1.map lo).take i →
    (p.2.2.2.2.2.2.2.1.map lo = q.2.2.2.2.2.2.2.1.map lo ∧ p.2.2.2.2.2.2.2.2.1.map lo = q.2.2.2.2.2.2.2.2.1.map lo ∧ loopF (veillaw10_alike_l0 N) f (((), (), (), (i : Int)), (p, q)) = some (.inl (((), ()), (p, q)))) ∨
    (¬ (p.2.2.2.2.2.2.2.1.map lo = q.2.2.2.2.2.2.2.1.map lo ∧ p.2.2.2.2.2.2.2.2.1.map lo = q.2.2.2.2.2.2.2.2.1.map lo) ∧ loopF (veillaw10_alike_l0 N) f (((), (), (), (i : Int)), (p, q)) = some (.inr ((), ())))
  | 0, i, hi, f, hf, k1, k2 => by
    obtain ⟨f, rfl⟩ : ∃ g, f = g + 1 := ⟨f - 1, by omega⟩
    obtain ⟨s0, s1, s2, s3, t0, t1, t2, L, R, a, b⟩ := p
    obtain ⟨s0', s1', s2', s3', t0', t1', t2', L', R', a', b'⟩ := q
    simp only at *
    obtain rfl : i = L.length := by omega
    left
    rw [List.take_of_length_le (by simp), List.take_of_length_le (by simp; omega)] at k1
    rw [List.take_of_length_le (by simp; omega), List.take_of_length_le (by simp; omega)] at k2
    refine ⟨k1, k2, loop_out ?_ f⟩
    unfold veillaw10_alike_l0
    simp only [lt_f, cond_false]
  | k + 1, i, hi, f, hf, k1, k2 => by
    obtain ⟨f, rfl⟩ : ∃ g, f = g + 1 := ⟨f - 1, by omega⟩
    have go := alike_loop N p q hp hq e1 e2 e3 hs k (i + 1) (by omega) f (by omega)
    obtain ⟨s0, s1, s2, s3, t0, t1, t2, L, R, a, b⟩ := p
    obtain ⟨s0', s1', s2', s3', t0', t1', t2', L', R', a', b'⟩ := q
    obtain ⟨-, -, -, -, -, -, -, hL, hR, -, -⟩ := hp
    obtain ⟨-, -, -, -, -, -, -, hL', hR', -, -⟩ := hq
    simp only at *
    have i1 : i < L.length := by omega
    have i2 : i < R.length := by omega
    have i3 : i < L'.length := by omega
    have i4 : i < R'.length := by omega
    have sl := sm_l (hL _ (List.getElem_mem i1)) (hL' _ (List.getElem_mem i3))
    have sr := sm_l (hR _ (List.getElem_mem i2)) (hR' _ (List.getElem_mem i4))
    have at1 : ∀ {A B : List (List Int)} (ha : i < A.length) (hb : i < B.length), A.map lo = B.map lo → lo A[i] = lo B[i] := by
      intro A B ha hb h
      have : (A.map lo)[i]? = (B.map lo)[i]? := by rw [h]
      rw [List.getElem?_map, List.getElem?_map, List.getElem?_eq_getElem ha, List.getElem?_eq_getElem hb] at this
      simpa using this
    by_cases c1 : lo L[i] = lo L'[i]
    · by_cases c2 : lo R[i] = lo R'[i]
      · have n1 : (L.map lo).take (i + 1) = (L'.map lo).take (i + 1) := by
          rw [take_succ (by simpa using i1), take_succ (by simpa using i3), k1]
          simp [c1]
        have n2 : (R.map lo).take (i + 1) = (R'.map lo).take (i + 1) := by
          rw [take_succ (by simpa using i2), take_succ (by simpa using i4), k2]
          simp [c2]
        have st : veillaw10_alike_l0 N (((), (), (), (i : Int)), ((s0, s1, s2, s3, t0, t1, t2, L, R, a, b), (s0', s1', s2', s3', t0', t1', t2', L', R', a', b'))) = some (.inl (((), (), (), ((i + 1 : Nat) : Int)), ((s0, s1, s2, s3, t0, t1, t2, L, R, a, b), (s0', s1', s2', s3', t0', t1', t2', L', R', a', b')))) := by
          unfold veillaw10_alike_l0
          simp only [lt_t i1, ix i1, ix i2, ix i3, ix i4, cond_true, Int.toNat_natCast, getD_lt i1, getD_lt i2, getD_lt i3, getD_lt i4, sl, sr, mo, c1, c2, decide_true, Bool.not_true, cond_false, inc (i := i) (by omega)]
        rw [loop_in st f]
        exact go n1 n2
      · right
        refine ⟨fun h => c2 (at1 i2 i4 h.2), loop_out ?_ f⟩
        unfold veillaw10_alike_l0
        simp only [lt_t i1, ix i1, ix i2, ix i3, ix i4, cond_true, Int.toNat_natCast, getD_lt i1, getD_lt i2, getD_lt i3, getD_lt i4, sl, sr, mo, c1, c2, decide_true, decide_false, Bool.not_true, Bool.not_false, cond_false]
    · right
      refine ⟨fun h => c1 (at1 i1 i3 h.1), loop_out ?_ f⟩
      unfold veillaw10_alike_l0
      simp only [lt_t i1, ix i1, ix i2, ix i3, ix i4, cond_true, Int.toNat_natCast, getD_lt i1, getD_lt i2, getD_lt i3, getD_lt i4, sl, sr, mo, c1, decide_false, Bool.not_false]

theorem cd {A B : Prop} [Decidable A] [Decidable B] : cond (decide A) (some (decide B, ())) (some (false, ())) = some (decide (A ∧ B), ()) := by
  by_cases h : A <;> simp [h]

theorem alike_k (N : Nat) {p q : PF} (hp : Us p) (hq : Us q) (e1 : p.2.2.2.2.2.2.2.1.length = p.2.2.2.2.2.2.2.2.1.length) (e2 : q.2.2.2.2.2.2.2.1.length = q.2.2.2.2.2.2.2.2.1.length) (hs : p.2.2.2.2.2.2.2.1.length ≤ 2000000) (hN : 2000001 ≤ N) : ∃ r, veillaw10_alike N (p, q) () () = some (r, ()) ∧ (r = true ↔ lowp p = lowp q) := by
  have lp := alike_loop N p q hp hq e1 e2
  obtain ⟨s0, s1, s2, s3, t0, t1, t2, L, R, a, b⟩ := p
  obtain ⟨s0', s1', s2', s3', t0', t1', t2', L', R', a', b'⟩ := q
  obtain ⟨h0, h1, h2, h3, g0, g1, g2, hL, hR, ha, hb⟩ := hp
  obtain ⟨h0', h1', h2', h3', g0', g1', g2', hL', hR', ha', hb'⟩ := hq
  simp only at *
  unfold veillaw10_alike
  simp only
  by_cases c : L.length = L'.length
  · have i1 : icmp .neq ((L.length : Nat) : Int) ((L'.length : Nat) : Int) = false := by simp [icmp, c]
    have i2 : icmp .neq ((R.length : Nat) : Int) ((R'.length : Nat) : Int) = false := by simp [icmp]; omega
    simp only [i1, i2, cond_false]
    rcases lp c hs L.length 0 (by omega) N (by omega) rfl rfl with ⟨k1, k2, k3⟩ | ⟨k1, k3⟩
    · rw [Int.natCast_zero] at k3
      simp only [k3, mo, sm_l h0 h0', sm_l h1 h1', sm_l h2 h2', sm_l h3 h3', sm_k g0 g0', sm_k g1 g1', sm_k g2 g2', sm_k ha ha', sm_k hb hb', cd]
      refine ⟨_, rfl, ?_⟩
      simp only [lowp, Prod.mk.injEq, k1, k2, true_and, decide_eq_true_eq]
    · rw [Int.natCast_zero] at k3
      simp only [k3, mo]
      refine ⟨_, rfl, fun h => absurd h (by decide), fun h => (k1 ?_).elim⟩
      simp only [lowp, Prod.mk.injEq] at h
      exact ⟨h.2.2.2.2.2.2.2.1, h.2.2.2.2.2.2.2.2.1⟩
  · have i1 : icmp .neq ((L.length : Nat) : Int) ((L'.length : Nat) : Int) = true := by
      simp only [icmp, bne_iff_ne, ne_eq, Int.natCast_inj]; exact c
    simp only [i1, cond_true]
    refine ⟨_, rfl, fun h => absurd h (by decide), fun h => (c ?_).elim⟩
    simp only [lowp, Prod.mk.injEq] at h
    have := congrArg List.length h.2.2.2.2.2.2.2.1
    simpa using this
end Pr
end Go.Vx

/- Proofs over Line from bytes: DecodeProof. -/
set_option autoImplicit false
set_option linter.unusedVariables false
set_option linter.unusedSimpArgs false
namespace Go.Vx
open Go

namespace Pr
/-- The i-th 32 bytes. -/
def ch (B : List Int) (i : Nat) : List Int := (B.drop (32 * i)).take 32
/-- They are canonical. -/
def good (B : List Int) (i : Nat) : Prop := numB (ch B i) < ordl
instance (B : List Int) (i : Nat) : Decidable (good B i) := by unfold good; infer_instance
/-- What is read of them. -/
def D (N : Nat) (B : List Int) (i : Nat) : List Int := ((scalar_Decode N (ch B i)).getD ([], 0)).1

abbrev RM : Type := Bool × (Nat × Nat × Nat) × Int
/-- The reader, i pieces behind the begin, of n. -/
def St (B : List Int) (n i : Nat) (m : RM) : Prop := ((∀ j, j < i → good B j) ∧ ∃ z, m = (true, (32 * i, 32 * n - 32 * i, z), 0)) ∨ ((∃ j, j < i ∧ ¬ good B j) ∧ ∃ q, m = (true, q, 3))

theorem ch_ok {B : List Int} {n i : Nat} (hb : ∀ x ∈ B, 0 ≤ x ∧ x ≤ 255) (hl : B.length = 32 * n) (hi : i < n) : L32 (ch B i) := by
  refine ⟨?_, fun x hx => hb x (List.mem_of_mem_drop (List.mem_of_mem_take hx))⟩
  unfold ch
  rw [List.length_take, List.length_drop]
  omega

theorem dec_good {N : Nat} (hN : 33 ≤ N) {B : List Int} {n i : Nat} (hb : ∀ x ∈ B, 0 ≤ x ∧ x ≤ 255) (hl : B.length = 32 * n) (hi : i < n) (h : good B i) : scalar_Decode N (ch B i) = some (D N B i, 0) := by
  rcases dk_k N hN (ch_ok hb hl hi) with ⟨-, s, g, -⟩ | ⟨g, -⟩
  · unfold D; rw [g]; rfl
  · exact absurd h g
theorem dec_bad {N : Nat} (hN : 33 ≤ N) {B : List Int} {n i : Nat} (hb : ∀ x ∈ B, 0 ≤ x ∧ x ≤ 255) (hl : B.length = 32 * n) (hi : i < n) (h : ¬ good B i) : scalar_Decode N (ch B i) = some ([0, 0, 0, 0], 3) := by
  rcases dk_k N hN (ch_ok hb hl hi) with ⟨g, -⟩ | ⟨-, g⟩
  · exact absurd g h
  · exact g

theorem St.next {B : List Int} {n i : Nat} {m : RM} (h : St B n i m) : (∃ j, j < i + 1 ∧ ¬ good B j) → ∀ q, St B n (i + 1) (true, q, 3) := fun hj q => .inr ⟨hj, q, rfl⟩

/-- One piece is read. -/
theorem read_k {N : Nat} (hN : 33 ≤ N) {B : List Int} {n i : Nat} (hb : ∀ x ∈ B, 0 ≤ x ∧ x ≤ 255) (hl : B.length = 32 * n) (hi : i < n) {m : RM} (h : St B n i m) :
    (∃ v m', wire_Point_of_msm_Line N () (B.length, B) m = some (v, m') ∧ St B n (i + 1) m' ∧ ((∀ j, j < i + 1 → good B j) → v = D N B i)) ∧
    (∃ v m', p_wire_Reader_Scalar N () (B.length, B) m = some (v, m') ∧ St B n (i + 1) m' ∧ ((∀ j, j < i + 1 → good B j) → v = D N B i)) := by
  rcases h with ⟨hg, z, rfl⟩ | ⟨⟨j, hj, hbad⟩, q, rfl⟩
  · have c1 : icmp .lss ((32 * n - 32 * i : Nat) : Int) 32 = false := decide_eq_false (by omega)
    have c2 : decide ((0 : Int) ≤ 32 ∧ 32 ≤ ((32 * n - 32 * i : Nat) : Int)) = true := decide_eq_true (by omega)
    have hs : p_wire_Reader_sound () ((true, (32 * i, 32 * n - 32 * i, z), 0), (B.length, B)) () = some (true, ()) := rfl
    have hb32 : p_wire_Reader_Bytes32 () (B.length, B) (true, (32 * i, 32 * n - 32 * i, z), 0) = some (ch B i, (true, (32 * i + 32, 32 * n - 32 * i - 32, 32 * i), 0)) := by
      unfold p_wire_Reader_Bytes32
      simp only [hs, mo, Bool.not_true, cond_false, c1, c2, cond_true]
      rfl
    by_cases gi : good B i
    · have hd := dec_good hN hb hl hi gi
      have hst : St B n (i + 1) (true, (32 * i + 32, 32 * n - 32 * i - 32, 32 * i), 0) := .inl ⟨fun j hj => by
        rcases Nat.lt_succ_iff_lt_or_eq.1 hj with h | rfl
        · exact hg j h
        · exact gi, 32 * i, by rw [show 32 * (i + 1) = 32 * i + 32 by omega, show 32 * n - (32 * i + 32) = 32 * n - 32 * i - 32 by omega]⟩
      refine ⟨⟨D N B i, _, ?_, hst, fun _ => rfl⟩, ⟨D N B i, _, ?_, hst, fun _ => rfl⟩⟩
      · unfold wire_Point_of_msm_Line
        simp only [hs, hb32, mo, Bool.not_true, cond_false, show icmp .neq 0 0 = false from rfl, hd]
      · unfold p_wire_Reader_Scalar
        simp only [hs, hb32, mo, Bool.not_true, cond_false, show icmp .neq 0 0 = false from rfl, hd]
    · have hd := dec_bad hN hb hl hi gi
      have hst : St B n (i + 1) (true, (32 * i, 32 * n - 32 * i, z), 3) := .inr ⟨⟨i, Nat.lt_succ_self i, gi⟩, _, rfl⟩
      have hf : p_wire_Reader_Fail ((), 3) (B.length, B) (true, (32 * i, 32 * n - 32 * i, z), 0) = some ((), (true, (32 * i, 32 * n - 32 * i, z), 3)) := rfl
      refine ⟨⟨[0, 0, 0, 0], _, ?_, hst, fun h => absurd (h i (Nat.lt_succ_self i)) gi⟩, ⟨[0, 0, 0, 0], _, ?_, hst, fun h => absurd (h i (Nat.lt_succ_self i)) gi⟩⟩
      · unfold wire_Point_of_msm_Line
        simp only [hs, hb32, mo, Bool.not_true, cond_false, show icmp .neq 0 0 = false from rfl, hd, show icmp .neq 3 0 = true from rfl, cond_true, hf]
      · unfold p_wire_Reader_Scalar
        simp only [hs, hb32, mo, Bool.not_true, cond_false, show icmp .neq 0 0 = false from rfl, hd, show icmp .neq 3 0 = true from rfl, cond_true, hf]
  · have hst : St B n (i + 1) (true, q, 3) := .inr ⟨⟨j, by omega, hbad⟩, q, rfl⟩
    obtain ⟨q1, q2, q3⟩ := q
    refine ⟨⟨[0, 0, 0, 0], _, ?_, hst, fun h => absurd (h j (by omega)) hbad⟩, ⟨[0, 0, 0, 0], _, ?_, hst, fun h => absurd (h j (by omega)) hbad⟩⟩
    · rfl
    · rfl

/-- The lists that are read. -/
def LL1 (N : Nat) (B : List Int) (i : Nat) : List (List Int) := (List.range i).map fun j => D N B (7 + 2 * j)
def RR1 (N : Nat) (B : List Int) (i : Nat) : List (List Int) := (List.range i).map fun j => D N B (8 + 2 * j)

abbrev zP : PF := ([0, 0, 0, 0], [0, 0, 0, 0], [0, 0, 0, 0], [0, 0, 0, 0], [0, 0, 0, 0], [0, 0, 0, 0], [0, 0, 0, 0], [], [], [0, 0, 0, 0], [0, 0, 0, 0])

theorem dec_loop {N : Nat} (hN : 33 ≤ N) {B : List Int} {k : Nat} (hk : k ≤ 10) (hb : ∀ x ∈ B, 0 ≤ x ∧ x ≤ 255) (hl : B.length = 32 * (9 + 2 * k)) (s0 s1 s2 s3 t0 t1 t2 z1 z2 : List Int) : (r i : Nat) → i + r = k → (f : Nat) → r < f → (m : RM) → St B (9 + 2 * k) (7 + 2 * i) m → (L R : List (List Int)) → L.length = i → R.length = i →
    ((∀ j, j < 7 + 2 * i → good B j) → L = LL1 N B i ∧ R = RR1 N B i) →
    ∃ m' L' R', loopF (wire_DecodeProof_of_msm_Line_l4 N) f (((), (), (), (), ((k : Nat) : Int), (i : Int)), ((), (), (), m, (B.length, B), (s0, s1, s2, s3, t0, t1, t2, L, R, z1, z2))) = some (.inl (((), (), ()), ((), (), (), m', (B.length, B), (s0, s1, s2, s3, t0, t1, t2, L', R', z1, z2)))) ∧
      St B (9 + 2 * k) (7 + 2 * k) m' ∧ ((∀ j, j < 7 + 2 * k → good B j) → L' = LL1 N B k ∧ R' = RR1 N B k)
  | 0, i, hi, f, hf, m, hst, L, R, hL, hR, hLR => by
    obtain ⟨f, rfl⟩ : ∃ g, f = g + 1 := ⟨f - 1, by omega⟩
    obtain rfl : i = k := by omega
    refine ⟨m, L, R, loop_out ?_ f, hst, hLR⟩
    obtain ⟨m1, ⟨m2, m3, m4⟩, m5⟩ := m
    unfold wire_DecodeProof_of_msm_Line_l4
    simp only [lt_f, cond_false]
  | r + 1, i, hi, f, hf, m, hst, L, R, hL, hR, hLR => by
    obtain ⟨f, rfl⟩ : ∃ g, f = g + 1 := ⟨f - 1, by omega⟩
    have hlt : i < k := by omega
    obtain ⟨⟨v1, m1, a1, a2, a3⟩, -⟩ := read_k hN hb hl (show 7 + 2 * i < 9 + 2 * k by omega) hst
    obtain ⟨⟨v2, m2, b1, b2, b3⟩, -⟩ := read_k hN hb hl (show 7 + 2 * i + 1 < 9 + 2 * k by omega) a2
    have e1 : (L ++ [v1]).length = i + 1 := by simp [hL]
    have e2 : (R ++ [v2]).length = i + 1 := by simp [hR]
    obtain ⟨m', L', R', h1, h2⟩ := dec_loop hN hk hb hl s0 s1 s2 s3 t0 t1 t2 z1 z2 r (i + 1) (by omega) f (by omega) m2 (by rw [show 7 + 2 * (i + 1) = 7 + 2 * i + 1 + 1 by omega]; exact b2) (L ++ [v1]) (R ++ [v2]) e1 e2 (fun hg => by
      obtain ⟨q1, q2⟩ := hLR fun j hj => hg j (by omega)
      rw [q1, q2, a3 fun j hj => hg j (by omega), b3 fun j hj => hg j (by omega)]
      unfold LL1 RR1
      rw [List.range_succ, List.map_append, List.map_append, show 7 + 2 * i + 1 = 8 + 2 * i by omega]
      exact ⟨rfl, rfl⟩)
    refine ⟨m', L', R', (loop_in ?_ f).trans h1, h2⟩
    obtain ⟨c1, ⟨c2, c3, c4⟩, c5⟩ := m
    obtain ⟨d1, ⟨d2, d3, d4⟩, d5⟩ := m1
    obtain ⟨g1, ⟨g2, g3, g4⟩, g5⟩ := m2
    unfold wire_DecodeProof_of_msm_Line_l4
    simp only [lt_t hlt, cond_true, a1, b1, mo, e1, e2, okk (k := i + 1) (m := 32) (by omega) (by decide), inc (i := i) (by omega)]

theorem quo32 {n : Nat} (hn : n ≤ 100000000) : ibin .quo .i64 (ibin .sub .i64 (ibin .quo .i64 ((n : Nat) : Int) 32) 9) 2 = Int.tdiv (((n / 32 : Nat) : Int) - 9) 2 := by
  have e1 : ibin .quo .i64 ((n : Nat) : Int) 32 = ((n / 32 : Nat) : Int) := by
    have h0 : ibin .quo .i64 ((n : Nat) : Int) 32 = IntKind.wrap .i64 (Int.tdiv (n : Int) 32) := rfl
    rw [h0, Int.tdiv_eq_ediv_of_nonneg (by omega)]
    have h1 := Ref.i_add (a := ((n / 32 : Nat) : Int)) (b := 0) (by omega) (by omega)
    have h2 : ibin .add .i64 ((n / 32 : Nat) : Int) 0 = IntKind.wrap .i64 (((n / 32 : Nat) : Int) + 0) := rfl
    rw [h2, Int.add_zero] at h1
    rw [show (n : Int) / 32 = ((n / 32 : Nat) : Int) by omega, h1]
  have e2 : ibin .sub .i64 ((n / 32 : Nat) : Int) 9 = ((n / 32 : Nat) : Int) - 9 := by
    have h1 := Ref.i_add (a := ((n / 32 : Nat) : Int)) (b := -9) (by omega) (by omega)
    have h2 : ibin .add .i64 ((n / 32 : Nat) : Int) (-9) = IntKind.wrap .i64 (((n / 32 : Nat) : Int) + -9) := rfl
    have h3 : ibin .sub .i64 ((n / 32 : Nat) : Int) 9 = IntKind.wrap .i64 (((n / 32 : Nat) : Int) - 9) := rfl
    rw [h3, show ((n / 32 : Nat) : Int) - 9 = ((n / 32 : Nat) : Int) + -9 by omega, ← h2, h1]
  rw [e1, e2]
  have h0 : ibin .quo .i64 (((n / 32 : Nat) : Int) - 9) 2 = IntKind.wrap .i64 (Int.tdiv (((n / 32 : Nat) : Int) - 9) 2) := rfl
  rw [h0]
  have hr : -100000000 ≤ Int.tdiv (((n / 32 : Nat) : Int) - 9) 2 ∧ Int.tdiv (((n / 32 : Nat) : Int) - 9) 2 ≤ 100000000 := by
    by_cases h : 9 ≤ n / 32
    · rw [Int.tdiv_eq_ediv_of_nonneg (by omega)]; omega
    · have : Int.tdiv (((n / 32 : Nat) : Int) - 9) 2 = - Int.tdiv (9 - ((n / 32 : Nat) : Int)) 2 := by
        rw [show ((n / 32 : Nat) : Int) - 9 = -(9 - ((n / 32 : Nat) : Int)) by omega, Int.neg_tdiv]
      rw [this, Int.tdiv_eq_ediv_of_nonneg (by omega)]
      omega
  generalize Int.tdiv (((n / 32 : Nat) : Int) - 9) 2 = t at *
  have h1 := Ref.i_add (a := t) (b := 0) (by omega) (by omega)
  have h2 : ibin .add .i64 t 0 = IntKind.wrap .i64 (t + 0) := rfl
  rw [h2, Int.add_zero] at h1
  exact h1

/-- The proof that is read. -/
def prf (N : Nat) (B : List Int) (k : Nat) : PF := (D N B 0, D N B 1, D N B 2, D N B 3, D N B 4, D N B 5, D N B 6, LL1 N B k, RR1 N B k, D N B (7 + 2 * k), D N B (8 + 2 * k))

theorem mul32 {k : Nat} (hk : k ≤ 100000000) : ibin .mul .i64 32 (ibin .add .i64 9 (ibin .mul .i64 2 ((k : Nat) : Int))) = ((32 * (9 + 2 * k) : Nat) : Int) := by
  have w : ∀ y : Int, 0 ≤ y → y < 9223372036854775808 → IntKind.wrap .i64 y = y := by
    intro y h0 h1
    have h2 := Ref.i_add (a := y) (b := 0) (by omega) (by omega)
    have h3 : ibin .add .i64 y 0 = IntKind.wrap .i64 (y + 0) := rfl
    rw [h3, Int.add_zero] at h2
    exact h2
  have e1 : ibin .mul .i64 2 ((k : Nat) : Int) = 2 * (k : Int) := by
    have : ibin .mul .i64 2 ((k : Nat) : Int) = IntKind.wrap .i64 (2 * (k : Int)) := rfl
    rw [this, w _ (by omega) (by omega)]
  have e2 : ibin .add .i64 9 (2 * (k : Int)) = 9 + 2 * (k : Int) := by
    have : ibin .add .i64 9 (2 * (k : Int)) = IntKind.wrap .i64 (9 + 2 * (k : Int)) := rfl
    rw [this, w _ (by omega) (by omega)]
  rw [e1, e2]
  have : ibin .mul .i64 32 (9 + 2 * (k : Int)) = IntKind.wrap .i64 (32 * (9 + 2 * (k : Int))) := rfl
  rw [this, w _ (by omega) (by omega)]
  omega

/-- DecodeProof. -/
theorem decode_p (N : Nat) (hN : 33 ≤ N) {B : List Int} (hb : ∀ x ∈ B, 0 ≤ x ∧ x ≤ 255) (hs : B.length ≤ 2000000) :
    (∃ k, k ≤ 10 ∧ B.length = 32 * (9 + 2 * k) ∧ (∀ j, j < 9 + 2 * k → good B j) ∧ wire_DecodeProof_of_msm_Line N B () () = some ((prf N B k, 0), ((), ()))) ∨
    ((¬ ∃ k, k ≤ 10 ∧ B.length = 32 * (9 + 2 * k) ∧ (∀ j, j < 9 + 2 * k → good B j)) ∧ ∃ y e, (e = 2 ∨ e = 3) ∧ wire_DecodeProof_of_msm_Line N B () () = some ((y, e), ((), ()))) := by
  have hq := quo32 (n := B.length) (by omega)
  by_cases hk : ∃ k, k ≤ 10 ∧ B.length = 32 * (9 + 2 * k)
  · obtain ⟨k, hk, hl⟩ := hk
    have ek : Int.tdiv (((B.length / 32 : Nat) : Int) - 9) 2 = ((k : Nat) : Int) := by
      rw [show B.length / 32 = 9 + 2 * k by omega, show ((9 + 2 * k : Nat) : Int) - 9 = 2 * (k : Int) by omega, Int.tdiv_eq_ediv_of_nonneg (by omega)]
      omega
    rw [ek] at hq
    have c1 : icmp .lss ((k : Nat) : Int) 0 = false := decide_eq_false (by omega : ¬ ((k : Nat) : Int) < 0)
    have c2 : icmp .gtr ((k : Nat) : Int) 10 = false := decide_eq_false (by omega : ¬ ((k : Nat) : Int) > 10)
    have c3 : icmp .neq ((B.length : Nat) : Int) (ibin .mul .i64 32 (ibin .add .i64 9 (ibin .mul .i64 2 ((k : Nat) : Int)))) = false := by
      rw [mul32 (by omega), ← hl]; simp [icmp]
    have hnew : wire_NewReader B () () = some ((), ((true, (0, B.length, 0), 0), (B.length, B))) := by
      unfold wire_NewReader slices_Clone_of_byte_byte
      simp only [Nat.zero_add, ok1 (k := B.length) (by omega), cond_true, mo, List.drop_zero, List.take_length]
    have s0 : St B (9 + 2 * k) 0 (true, (0, B.length, 0), 0) := .inl ⟨fun j hj => by omega, 0, by rw [hl]; rfl⟩
    obtain ⟨⟨v0, m0, a0, st0, g0⟩, -⟩ := read_k hN hb hl (show 0 < 9 + 2 * k by omega) s0
    obtain ⟨⟨v1, m1, a1, st1, g1⟩, -⟩ := read_k hN hb hl (show 1 < 9 + 2 * k by omega) st0
    obtain ⟨⟨v2, m2, a2, st2, g2⟩, -⟩ := read_k hN hb hl (show 2 < 9 + 2 * k by omega) st1
    obtain ⟨⟨v3, m3, a3, st3, g3⟩, -⟩ := read_k hN hb hl (show 3 < 9 + 2 * k by omega) st2
    obtain ⟨-, ⟨v4, m4, a4, st4, g4⟩⟩ := read_k hN hb hl (show 4 < 9 + 2 * k by omega) st3
    obtain ⟨-, ⟨v5, m5, a5, st5, g5⟩⟩ := read_k hN hb hl (show 5 < 9 + 2 * k by omega) st4
    obtain ⟨-, ⟨v6, m6, a6, st6, g6⟩⟩ := read_k hN hb hl (show 6 < 9 + 2 * k by omega) st5
    obtain ⟨m7, L, R, lp, st7, g7⟩ := dec_loop hN hk hb hl v0 v1 v2 v3 v4 v5 v6 [0, 0, 0, 0] [0, 0, 0, 0] k 0 (by omega) N (by omega) m6 st6 [] [] rfl rfl (fun _ => ⟨rfl, rfl⟩)
    rw [Int.natCast_zero] at lp
    obtain ⟨-, ⟨v8, m8, a8, st8, g8⟩⟩ := read_k hN hb hl (show 7 + 2 * k < 9 + 2 * k by omega) st7
    obtain ⟨-, ⟨v9, m9, a9, st9, g9⟩⟩ := read_k hN hb hl (show 7 + 2 * k + 1 < 9 + 2 * k by omega) st8
    have main : ∀ e m', p_wire_Reader_End () (B.length, B) m9 = some (e, m') → wire_DecodeProof_of_msm_Line N B () () = cond (icmp .neq e 0) (some ((zP, e), ((), ()))) (some (((v0, v1, v2, v3, v4, v5, v6, L, R, v8, v9), 0), ((), ()))) := by
      intro e m' he
      unfold wire_DecodeProof_of_msm_Line
      simp only [hq, c1, c2, c3, cond_false, hnew, mo, a0, a1, a2, a3, a4, a5, a6, lp, a8, a9, he]
    rcases st9 with ⟨hg, z, rfl⟩ | ⟨⟨j, hj, hbad⟩, q, rfl⟩
    · have he : p_wire_Reader_End () (B.length, B) (true, (32 * (7 + 2 * k + 1 + 1), 32 * (9 + 2 * k) - 32 * (7 + 2 * k + 1 + 1), z), 0) = some (0, (true, (32 * (7 + 2 * k + 1 + 1), 32 * (9 + 2 * k) - 32 * (7 + 2 * k + 1 + 1), z), 0)) := by
        rw [show 32 * (9 + 2 * k) - 32 * (7 + 2 * k + 1 + 1) = 0 by omega]
        rfl
      refine .inl ⟨k, hk, hl, fun j hj => hg j (by omega), ?_⟩
      rw [main _ _ he]
      obtain ⟨q1, q2⟩ := g7 fun j hj => hg j (by omega)
      rw [g0 fun j hj => hg j (by omega), g1 fun j hj => hg j (by omega), g2 fun j hj => hg j (by omega), g3 fun j hj => hg j (by omega), g4 fun j hj => hg j (by omega), g5 fun j hj => hg j (by omega), g6 fun j hj => hg j (by omega), g8 fun j hj => hg j (by omega), g9 fun j hj => hg j (by omega), q1, q2]
      unfold prf
      rw [show 7 + 2 * k + 1 = 8 + 2 * k by omega]
      rfl
    · have he : p_wire_Reader_End () (B.length, B) (true, q, 3) = some (3, (true, q, 3)) := rfl
      refine .inr ⟨?_, zP, 3, .inr rfl, ?_⟩
      · rintro ⟨k', -, hl', hg'⟩
        obtain rfl : k' = k := by omega
        exact hbad (hg' j (by omega))
      · rw [main _ _ he]; rfl
  · refine .inr ⟨fun ⟨k, h1, h2, _⟩ => hk ⟨k, h1, h2⟩, zP, 2, .inl rfl, ?_⟩
    unfold wire_DecodeProof_of_msm_Line
    simp only [hq]
    generalize ht : Int.tdiv (((B.length / 32 : Nat) : Int) - 9) 2 = t at *
    by_cases c1 : t < 0
    · have : icmp .lss t 0 = true := decide_eq_true c1
      simp only [this, cond_true]
    · have c1' : icmp .lss t 0 = false := decide_eq_false c1
      by_cases c2 : t > 10
      · have : icmp .gtr t 10 = true := decide_eq_true c2
        simp only [c1', this, cond_true, cond_false]
      · have c2' : icmp .gtr t 10 = false := decide_eq_false c2
        obtain ⟨k, rfl⟩ : ∃ k : Nat, t = (k : Int) := ⟨t.toNat, by omega⟩
        have c3 : icmp .neq ((B.length : Nat) : Int) (ibin .mul .i64 32 (ibin .add .i64 9 (ibin .mul .i64 2 ((k : Nat) : Int)))) = true := by
          rw [mul32 (by omega)]
          simp only [icmp, bne_iff_ne, ne_eq, Int.natCast_inj]
          exact fun h => hk ⟨k, by omega, h⟩
        simp only [c1', c2', c3, cond_true, cond_false]
end Pr
end Go.Vx

/- WireProofs: the plain law. -/
set_option autoImplicit false
set_option linter.unusedVariables false
set_option linter.unusedSimpArgs false
namespace Go.Vx
open Go

namespace Pr
theorem T_step (B : List Int) (i : Nat) : B.take (32 * i) ++ ch B i = B.take (32 * (i + 1)) := by
  unfold ch
  rw [show 32 * (i + 1) = 32 * i + 32 by omega, List.take_add]

section
variable {N : Nat} (hN : 33 ≤ N) {B : List Int} {k : Nat} (hb : ∀ x ∈ B, 0 ≤ x ∧ x ≤ 255) (hl : B.length = 32 * (9 + 2 * k)) (hg : ∀ j, j < 9 + 2 * k → good B j)
include hN hb hl hg
theorem Dd_k {i : Nat} (hi : i < 9 + 2 * k) : U4 (D N B i) ∧ eB N (D N B i) = ch B i ∧ lo (D N B i) = D N B i :=
  p_enc_dec hN (ch_ok hb hl hi) (dec_good hN hb hl hi (hg i hi))
theorem acc_prf : (i : Nat) → i ≤ k → B.take (32 * 7) ++ acc N (LL1 N B k) (RR1 N B k) i = B.take (32 * (7 + 2 * i))
  | 0, _ => by simp [acc]
  | i + 1, hi => by
    have e1 : List.getD (LL1 N B k) i [0, 0, 0, 0] = D N B (7 + 2 * i) := by
      rw [getD_lt (by simp [LL1]; omega)]; simp [LL1]
    have e2 : List.getD (RR1 N B k) i [0, 0, 0, 0] = D N B (8 + 2 * i) := by
      rw [getD_lt (by simp [RR1]; omega)]; simp [RR1]
    rw [acc, ← List.append_assoc, acc_prf i (by omega), e1, e2, (Dd_k hN hb hl hg (show 7 + 2 * i < 9 + 2 * k by omega)).2.1, (Dd_k hN hb hl hg (show 8 + 2 * i < 9 + 2 * k by omega)).2.1, ← List.append_assoc, T_step, show 7 + 2 * i + 1 = 8 + 2 * i by omega, T_step, show 8 + 2 * i + 1 = 7 + 2 * (i + 1) by omega]
/-- What was read is written as it was. -/
theorem enc_prf : bytesOf N (prf N B k) = B := by
  have d0 := (Dd_k hN hb hl hg (show 0 < 9 + 2 * k by omega)).2.1
  have d1 := (Dd_k hN hb hl hg (show 1 < 9 + 2 * k by omega)).2.1
  have d2 := (Dd_k hN hb hl hg (show 2 < 9 + 2 * k by omega)).2.1
  have d3 := (Dd_k hN hb hl hg (show 3 < 9 + 2 * k by omega)).2.1
  have d4 := (Dd_k hN hb hl hg (show 4 < 9 + 2 * k by omega)).2.1
  have d5 := (Dd_k hN hb hl hg (show 5 < 9 + 2 * k by omega)).2.1
  have d6 := (Dd_k hN hb hl hg (show 6 < 9 + 2 * k by omega)).2.1
  have d7 := (Dd_k hN hb hl hg (show 7 + 2 * k < 9 + 2 * k by omega)).2.1
  have d8 := (Dd_k hN hb hl hg (show 8 + 2 * k < 9 + 2 * k by omega)).2.1
  have hlen : (LL1 N B k).length = k := by simp [LL1]
  have h1 : ch B 0 = B.take (32 * 1) := by unfold ch; simp
  unfold bytesOf prf
  simp only [d0, d1, d2, d3, d4, d5, d6, d7, d8, hlen]
  rw [h1, T_step, T_step, T_step, T_step, T_step, T_step, acc_prf hN hb hl hg k (Nat.le_refl k), T_step, show 7 + 2 * k + 1 = 8 + 2 * k by omega, T_step, List.take_of_length_le (by omega)]
theorem prf_us : Us (prf N B k) := by
  have d := fun {i} (h : i < 9 + 2 * k) => (Dd_k hN hb hl hg h).1
  refine ⟨d (by omega), d (by omega), d (by omega), d (by omega), d (by omega), d (by omega), d (by omega), fun x hx => ?_, fun x hx => ?_, d (by omega), d (by omega)⟩
  · simp only [prf, LL1, List.mem_map, List.mem_range] at hx
    obtain ⟨i, hi, rfl⟩ := hx
    exact d (by omega)
  · simp only [prf, RR1, List.mem_map, List.mem_range] at hx
    obtain ⟨i, hi, rfl⟩ := hx
    exact d (by omega)
theorem prf_low : lowp (prf N B k) = prf N B k := by
  have d := fun {i} (h : i < 9 + 2 * k) => (Dd_k hN hb hl hg h).2.2
  have e1 : (LL1 N B k).map lo = LL1 N B k := by
    unfold LL1
    rw [List.map_map]
    refine List.map_congr_left fun i hi => d ?_
    have := List.mem_range.1 hi; omega
  have e2 : (RR1 N B k).map lo = RR1 N B k := by
    unfold RR1
    rw [List.map_map]
    refine List.map_congr_left fun i hi => d ?_
    have := List.mem_range.1 hi; omega
  unfold lowp prf
  simp only [e1, e2, d (show 0 < 9 + 2 * k by omega), d (show 1 < 9 + 2 * k by omega), d (show 2 < 9 + 2 * k by omega), d (show 3 < 9 + 2 * k by omega), d (show 4 < 9 + 2 * k by omega), d (show 5 < 9 + 2 * k by omega), d (show 6 < 9 + 2 * k by omega), d (show 7 + 2 * k < 9 + 2 * k by omega), d (show 8 + 2 * k < 9 + 2 * k by omega)]
end
theorem prf_len (N : Nat) (B : List Int) (k : Nat) : (prf N B k).2.2.2.2.2.2.2.1.length = k ∧ (prf N B k).2.2.2.2.2.2.2.2.1.length = k := by simp [prf, LL1, RR1]

/- What is written is read as it was. -/
theorem ch_at {B P Q S : List Int} {i : Nat} (h : B = P ++ (Q ++ S)) (hp : P.length = 32 * i) (hq : Q.length = 32) : ch B i = Q := by
  unfold ch
  rw [h, ← hp, List.drop_left, ← hq, List.take_left]
theorem acc_split (N : Nat) (L R : List (List Int)) (j : Nat) : (n : Nat) → j < n → ∃ rest, acc N L R n = acc N L R j ++ (eB N (List.getD L j [0, 0, 0, 0]) ++ (eB N (List.getD R j [0, 0, 0, 0]) ++ rest))
  | 0, h => by omega
  | n + 1, h => by
    rcases Nat.lt_succ_iff_lt_or_eq.1 h with h | rfl
    · obtain ⟨rest, e⟩ := acc_split N L R j n h
      exact ⟨rest ++ (eB N (List.getD L n [0, 0, 0, 0]) ++ eB N (List.getD R n [0, 0, 0, 0])), by rw [acc, e]; simp only [List.append_assoc]⟩
    · exact ⟨[], by rw [acc, List.append_nil]⟩
theorem acc_by {N : Nat} (hN : 33 ≤ N) {L R : List (List Int)} (hL : ∀ x ∈ L, U4 x) (hR : ∀ x ∈ R, U4 x) : (i : Nat) → i ≤ L.length → i ≤ R.length → ∀ x ∈ acc N L R i, 0 ≤ x ∧ x ≤ 255
  | 0, _, _, x, hx => by simp [acc] at hx
  | i + 1, h1, h2, x, hx => by
    have hl := (enc hN (hL _ (List.getElem_mem (show i < L.length by omega)))).2.1.2
    have hr := (enc hN (hR _ (List.getElem_mem (show i < R.length by omega)))).2.1.2
    simp only [acc, List.mem_append, getD_lt (show i < L.length by omega), getD_lt (show i < R.length by omega)] at hx
    rcases hx with h | h | h
    · exact acc_by hN hL hR i (by omega) (by omega) x h
    · exact hl x h
    · exact hr x h

theorem dec_bytes {N : Nat} (hN : 33 ≤ N) {p : PF} (hp : Us p) (hf : Fit p) : (∀ x ∈ bytesOf N p, 0 ≤ x ∧ x ≤ 255) ∧ (bytesOf N p).length = 32 * (9 + 2 * p.2.2.2.2.2.2.2.1.length) ∧ (∀ j, j < 9 + 2 * p.2.2.2.2.2.2.2.1.length → good (bytesOf N p) j) ∧ prf N (bytesOf N p) p.2.2.2.2.2.2.2.1.length = lowp p := by
  obtain ⟨s0, s1, s2, s3, t0, t1, t2, L, R, a, b⟩ := p
  obtain ⟨h0, h1, h2, h3, g0, g1, g2, hL, hR, ha, hb⟩ := hp
  obtain ⟨hLR, h10⟩ := hf
  simp only at *
  obtain ⟨-, ⟨l0, y0⟩, -⟩ := enc hN h0
  obtain ⟨-, ⟨l1, y1⟩, -⟩ := enc hN h1
  obtain ⟨-, ⟨l2, y2⟩, -⟩ := enc hN h2
  obtain ⟨-, ⟨l3, y3⟩, -⟩ := enc hN h3
  obtain ⟨-, ⟨l4, y4⟩, -⟩ := enc hN g0
  obtain ⟨-, ⟨l5, y5⟩, -⟩ := enc hN g1
  obtain ⟨-, ⟨l6, y6⟩, -⟩ := enc hN g2
  obtain ⟨-, ⟨l7, y7⟩, -⟩ := enc hN ha
  obtain ⟨-, ⟨l8, y8⟩, -⟩ := enc hN hb
  have la : ∀ i, i ≤ L.length → (acc N L R i).length = 64 * i := fun i hi => acc_len hN hL hR i hi (by omega)
  have lan := la L.length (Nat.le_refl _)
  generalize hB : bytesOf N (s0, s1, s2, s3, t0, t1, t2, L, R, a, b) = B
  unfold bytesOf at hB
  simp only at hB
  have fact : ∀ {i : Nat} {x : List Int}, U4 x → ch B i = eB N x → good B i ∧ D N B i = lo x := by
    intro i x hx h
    obtain ⟨d1, d2⟩ := p_dec_enc hN hx
    unfold good D
    rw [h, d1]
    exact ⟨d2, rfl⟩
  have c0 := fact h0 (ch_at (B := B) (i := 0) (P := []) (Q := eB N s0) (by rw [← hB]; simp only [List.append_assoc, List.nil_append]; rfl) rfl l0)
  have c1 := fact h1 (ch_at (B := B) (i := 1) (P := eB N s0) (Q := eB N s1) (by rw [← hB]; simp only [List.append_assoc]; rfl) (by simp only [List.length_append, l0]) l1)
  have c2 := fact h2 (ch_at (B := B) (i := 2) (P := eB N s0 ++ eB N s1) (Q := eB N s2) (by rw [← hB]; simp only [List.append_assoc]; rfl) (by simp only [List.length_append, l0, l1]) l2)
  have c3 := fact h3 (ch_at (B := B) (i := 3) (P := eB N s0 ++ eB N s1 ++ eB N s2) (Q := eB N s3) (by rw [← hB]; simp only [List.append_assoc]; rfl) (by simp only [List.length_append, l0, l1, l2]) l3)
  have c4 := fact g0 (ch_at (B := B) (i := 4) (P := eB N s0 ++ eB N s1 ++ eB N s2 ++ eB N s3) (Q := eB N t0) (by rw [← hB]; simp only [List.append_assoc]; rfl) (by simp only [List.length_append, l0, l1, l2, l3]) l4)
  have c5 := fact g1 (ch_at (B := B) (i := 5) (P := eB N s0 ++ eB N s1 ++ eB N s2 ++ eB N s3 ++ eB N t0) (Q := eB N t1) (by rw [← hB]; simp only [List.append_assoc]; rfl) (by simp only [List.length_append, l0, l1, l2, l3, l4]) l5)
  have c6 := fact g2 (ch_at (B := B) (i := 6) (P := eB N s0 ++ eB N s1 ++ eB N s2 ++ eB N s3 ++ eB N t0 ++ eB N t1) (Q := eB N t2) (by rw [← hB]; simp only [List.append_assoc]; rfl) (by simp only [List.length_append, l0, l1, l2, l3, l4, l5]) l6)
  have c7 := fact ha (ch_at (B := B) (i := 7 + 2 * L.length) (P := eB N s0 ++ eB N s1 ++ eB N s2 ++ eB N s3 ++ eB N t0 ++ eB N t1 ++ eB N t2 ++ acc N L R L.length) (Q := eB N a) (by rw [← hB]; simp only [List.append_assoc]; rfl) (by simp only [List.length_append, l0, l1, l2, l3, l4, l5, l6, lan]; omega) l7)
  have c8 := fact hb (ch_at (B := B) (i := 8 + 2 * L.length) (P := eB N s0 ++ eB N s1 ++ eB N s2 ++ eB N s3 ++ eB N t0 ++ eB N t1 ++ eB N t2 ++ acc N L R L.length ++ eB N a) (Q := eB N b) (S := []) (by rw [← hB]; simp only [List.append_assoc, List.append_nil]) (by simp only [List.length_append, l0, l1, l2, l3, l4, l5, l6, l7, lan]; omega) l8)
  have cl : ∀ i (hi : i < L.length), good B (7 + 2 * i) ∧ D N B (7 + 2 * i) = lo L[i] := by
    intro i hi
    obtain ⟨rest, e⟩ := acc_split N L R i L.length hi
    rw [getD_lt hi] at e
    have lx := (enc hN (hL _ (List.getElem_mem hi))).2.1.1
    exact fact (hL _ (List.getElem_mem hi)) (ch_at (B := B) (i := 7 + 2 * i) (P := eB N s0 ++ eB N s1 ++ eB N s2 ++ eB N s3 ++ eB N t0 ++ eB N t1 ++ eB N t2 ++ acc N L R i) (Q := eB N L[i]) (by rw [← hB, e]; simp only [List.append_assoc]; rfl) (by simp only [List.length_append, l0, l1, l2, l3, l4, l5, l6, la i (by omega)]; omega) lx)
  have cr : ∀ i (hi : i < L.length) (hr : i < R.length), good B (8 + 2 * i) ∧ D N B (8 + 2 * i) = lo R[i] := by
    intro i hi hr
    obtain ⟨rest, e⟩ := acc_split N L R i L.length hi
    rw [getD_lt hi, getD_lt hr] at e
    have lx := (enc hN (hL _ (List.getElem_mem hi))).2.1.1
    have ly := (enc hN (hR _ (List.getElem_mem hr))).2.1.1
    exact fact (hR _ (List.getElem_mem hr)) (ch_at (B := B) (i := 8 + 2 * i) (P := eB N s0 ++ eB N s1 ++ eB N s2 ++ eB N s3 ++ eB N t0 ++ eB N t1 ++ eB N t2 ++ acc N L R i ++ eB N L[i]) (Q := eB N R[i]) (by rw [← hB, e]; simp only [List.append_assoc]; rfl) (by simp only [List.length_append, l0, l1, l2, l3, l4, l5, l6, lx, la i (by omega)]; omega) ly)
  refine ⟨fun x hx => ?_, ?_, fun j hj => ?_, ?_⟩
  · rw [← hB] at hx
    simp only [List.mem_append] at hx
    rcases hx with (((((((((h | h) | h) | h) | h) | h) | h) | h) | h) | h)
    · exact y0 x h
    · exact y1 x h
    · exact y2 x h
    · exact y3 x h
    · exact y4 x h
    · exact y5 x h
    · exact y6 x h
    · exact acc_by hN hL hR L.length (Nat.le_refl _) (by omega) x h
    · exact y7 x h
    · exact y8 x h
  · rw [← hB]
    simp only [List.length_append, l0, l1, l2, l3, l4, l5, l6, l7, l8, lan]
    omega
  · by_cases hj7 : j < 7
    · rcases (by omega : j = 0 ∨ j = 1 ∨ j = 2 ∨ j = 3 ∨ j = 4 ∨ j = 5 ∨ j = 6) with rfl | rfl | rfl | rfl | rfl | rfl | rfl
      · exact c0.1
      · exact c1.1
      · exact c2.1
      · exact c3.1
      · exact c4.1
      · exact c5.1
      · exact c6.1
    · by_cases ha' : j = 7 + 2 * L.length
      · subst ha'; exact c7.1
      · by_cases hb' : j = 8 + 2 * L.length
        · subst hb'; exact c8.1
        · rcases Nat.mod_two_eq_zero_or_one (j - 7) with hm | hm
          · have := (cl ((j - 7) / 2) (by omega)).1
            rwa [show 7 + 2 * ((j - 7) / 2) = j by omega] at this
          · have := (cr ((j - 7) / 2) (by omega) (by omega)).1
            rwa [show 8 + 2 * ((j - 7) / 2) = j by omega] at this
  · unfold prf lowp
    simp only [c0.2, c1.2, c2.2, c3.2, c4.2, c5.2, c6.2, c7.2, c8.2, Prod.mk.injEq, true_and, and_true]
    constructor
    · refine List.ext_getElem (by simp [LL1]) fun i hi1 hi2 => ?_
      have hi : i < L.length := by simpa using hi2
      simp only [LL1, List.getElem_map, List.getElem_range]
      exact (cl i hi).2
    · refine List.ext_getElem (by simp [RR1]; omega) fun i hi1 hi2 => ?_
      have hi : i < R.length := by simpa using hi2
      simp only [RR1, List.getElem_map, List.getElem_range]
      exact (cr i (by omega) hi).2

theorem lowp_lowp {p : PF} (hp : Us p) : lowp (lowp p) = lowp p := by
  obtain ⟨s0, s1, s2, s3, t0, t1, t2, L, R, a, b⟩ := p
  obtain ⟨h0, h1, h2, h3, g0, g1, g2, hL, hR, ha, hb⟩ := hp
  simp only at *
  have e : ∀ {L : List (List Int)}, (∀ x ∈ L, U4 x) → (L.map lo).map lo = L.map lo := by
    intro L h
    rw [List.map_map]
    exact List.map_congr_left fun x hx => lo_lo (h x hx)
  unfold lowp
  simp only [lo_lo h0, lo_lo h1, lo_lo h2, lo_lo h3, lo_lo g0, lo_lo g1, lo_lo g2, lo_lo ha, lo_lo hb, e hL, e hR]
theorem lowp_us {p : PF} (hp : Us p) : Us (lowp p) := by
  obtain ⟨h0, h1, h2, h3, g0, g1, g2, hL, hR, ha, hb⟩ := hp
  refine ⟨(low h0).2.u, (low h1).2.u, (low h2).2.u, (low h3).2.u, (low g0).2.u, (low g1).2.u, (low g2).2.u, fun x hx => ?_, fun x hx => ?_, (low ha).2.u, (low hb).2.u⟩
  · obtain ⟨y, hy, rfl⟩ := List.mem_map.1 hx
    exact (low (hL y hy)).2.u
  · obtain ⟨y, hy, rfl⟩ := List.mem_map.1 hx
    exact (low (hR y hy)).2.u

/- Texts. -/
theorem beqS (a : ByteArray) : (a == a) = true := by
  show (a.data == a.data) = true
  exact beq_self_eq_true _
theorem bStr_inj {b c : List Int} (hb : ∀ x ∈ b, 0 ≤ x ∧ x ≤ 255) (hc : ∀ x ∈ c, 0 ≤ x ∧ x ≤ 255) (h : (bStr b == bStr c) = true) : b = c := by
  have h1 : (bStr b).data = (bStr c).data := eq_of_beq (show ((bStr b).data == (bStr c).data) = true from h)
  have h2 : b.map (fun n => UInt8.ofNat n.toNat) = c.map (fun n => UInt8.ofNat n.toNat) := by
    have := congrArg Array.toList h1
    simpa [bStr] using this
  clear h h1
  induction b generalizing c with
  | nil => cases c <;> simp at h2 ⊢
  | cons x b ih =>
    cases c with
    | nil => simp at h2
    | cons y c =>
      simp only [List.map_cons, List.cons.injEq] at h2
      have hx := hb x (by simp)
      have hy := hc y (by simp)
      have e : x.toNat = y.toNat := by
        have := congrArg UInt8.toNat h2.1
        simpa [Nat.mod_eq_of_lt (show x.toNat < 256 by omega), Nat.mod_eq_of_lt (show y.toNat < 256 by omega)] using this
      rw [show x = y by omega, ih (fun z hz => hb z (by simp [hz])) (fun z hz => hc z (by simp [hz])) h2.2]

def TT (N : Nat) (b c : List Int) : Option (Bool × Unit) :=
  mo (wire_DecodeProof_of_msm_Line N b () ()) none fun r16 =>
  mo (wire_DecodeProof_of_msm_Line N c () ()) none fun r17 =>
  cond (icmp .eql r16.1.2 0) (
    mo (wire_EncodeProof_of_msm_Line N (r16.1.1.1, r16.1.1.2.1, r16.1.1.2.2.1, r16.1.1.2.2.2.1, r16.1.1.2.2.2.2.1, r16.1.1.2.2.2.2.2.1, r16.1.1.2.2.2.2.2.2.1, r16.1.1.2.2.2.2.2.2.2.1, r16.1.1.2.2.2.2.2.2.2.2.1, r16.1.1.2.2.2.2.2.2.2.2.2.1, r16.1.1.2.2.2.2.2.2.2.2.2.2) () ()) none fun r18 =>
    cond (icmp .neq r18.1.2 0) (
      some (false, ())
    ) (
      let x4 := (bStr b)
      cond (!((bStr r18.1.1) == x4)) (
        some (false, ())
      ) (
        cond (icmp .neq r16.1.2 0) (
          some (true, ())
        ) (
          cond (icmp .neq r17.1.2 0) (
            some (true, ())
          ) (
            mo (veillaw10_alike N ((r16.1.1.1, r16.1.1.2.1, r16.1.1.2.2.1, r16.1.1.2.2.2.1, r16.1.1.2.2.2.2.1, r16.1.1.2.2.2.2.2.1, r16.1.1.2.2.2.2.2.2.1, r16.1.1.2.2.2.2.2.2.2.1, r16.1.1.2.2.2.2.2.2.2.2.1, r16.1.1.2.2.2.2.2.2.2.2.2.1, r16.1.1.2.2.2.2.2.2.2.2.2.2), (r17.1.1.1, r17.1.1.2.1, r17.1.1.2.2.1, r17.1.1.2.2.2.1, r17.1.1.2.2.2.2.1, r17.1.1.2.2.2.2.2.1, r17.1.1.2.2.2.2.2.2.1, r17.1.1.2.2.2.2.2.2.2.1, r17.1.1.2.2.2.2.2.2.2.2.1, r17.1.1.2.2.2.2.2.2.2.2.2.1, r17.1.1.2.2.2.2.2.2.2.2.2.2)) () ()) none fun r19 =>
            some ((r19.1 == (x4 == (bStr c))), ())
          )
        )
      )
    )
  ) (
    cond (icmp .neq r16.1.2 0) (
      some (true, ())
    ) (
      cond (icmp .neq r17.1.2 0) (
        some (true, ())
      ) (
        mo (veillaw10_alike N ((r16.1.1.1, r16.1.1.2.1, r16.1.1.2.2.1, r16.1.1.2.2.2.1, r16.1.1.2.2.2.2.1, r16.1.1.2.2.2.2.2.1, r16.1.1.2.2.2.2.2.2.1, r16.1.1.2.2.2.2.2.2.2.1, r16.1.1.2.2.2.2.2.2.2.2.1, r16.1.1.2.2.2.2.2.2.2.2.2.1, r16.1.1.2.2.2.2.2.2.2.2.2.2), (r17.1.1.1, r17.1.1.2.1, r17.1.1.2.2.1, r17.1.1.2.2.2.1, r17.1.1.2.2.2.2.1, r17.1.1.2.2.2.2.2.1, r17.1.1.2.2.2.2.2.2.1, r17.1.1.2.2.2.2.2.2.2.1, r17.1.1.2.2.2.2.2.2.2.2.1, r17.1.1.2.2.2.2.2.2.2.2.2.1, r17.1.1.2.2.2.2.2.2.2.2.2.2)) () ()) none fun r20 =>
        some ((r20.1 == ((bStr b) == (bStr c))), ())
      )
    )
  )
set_option maxRecDepth 100000 in
theorem proofs_form (N : Nat) (a : ((List Int × List Int × List Int × List Int) × List Int × List Int × List Int × List (List Int) × List (List Int) × List Int × List Int) × List Int × List Int) : veillaw10_WireProofs N a () () =
  mo (veillaw10_live N) none fun r1 =>
  cond (!r1) (
    some (false, ())
  ) (
    mo (veillaw10_WireProof_line N ((a.1.1.1, a.1.1.2.1, a.1.1.2.2.1, a.1.1.2.2.2), a.1.2.1, a.1.2.2.1, a.1.2.2.2.1, a.1.2.2.2.2.1, a.1.2.2.2.2.2.1, a.1.2.2.2.2.2.2.1, a.1.2.2.2.2.2.2.2) () ()) none fun r2 =>
    mo (wire_EncodeProof_of_msm_Line N (r2.1.1, r2.1.2.1, r2.1.2.2.1, r2.1.2.2.2.1, r2.1.2.2.2.2.1, r2.1.2.2.2.2.2.1, r2.1.2.2.2.2.2.2.1, r2.1.2.2.2.2.2.2.2.1, r2.1.2.2.2.2.2.2.2.2.1, r2.1.2.2.2.2.2.2.2.2.2.1, r2.1.2.2.2.2.2.2.2.2.2.2) () ()) none fun r3 =>
    let x1 := (((List.length a.1.2.2.2.2.1) : Nat) : Int)
    cond (icmp .eql x1 (((List.length a.1.2.2.2.2.2.1) : Nat) : Int)) (
      cond (icmp .lss x1 11) (
        mo (wire_DecodeProof_of_msm_Line N r3.1.1 () ()) none fun r4 =>
        cond (icmp .neq r3.1.2 0) (
          some (false, ())
        ) (
          cond (icmp .neq r4.1.2 0) (
            some (false, ())
          ) (
            cond (icmp .neq (((List.length r3.1.1) : Nat) : Int) (ibin .mul .i64 32 (ibin .add .i64 9 (ibin .mul .i64 2 x1)))) (
              some (false, ())
            ) (
              mo (veillaw10_alike N ((r2.1.1, r2.1.2.1, r2.1.2.2.1, r2.1.2.2.2.1, r2.1.2.2.2.2.1, r2.1.2.2.2.2.2.1, r2.1.2.2.2.2.2.2.1, r2.1.2.2.2.2.2.2.2.1, r2.1.2.2.2.2.2.2.2.2.1, r2.1.2.2.2.2.2.2.2.2.2.1, r2.1.2.2.2.2.2.2.2.2.2.2), (r4.1.1.1, r4.1.1.2.1, r4.1.1.2.2.1, r4.1.1.2.2.2.1, r4.1.1.2.2.2.2.1, r4.1.1.2.2.2.2.2.1, r4.1.1.2.2.2.2.2.2.1, r4.1.1.2.2.2.2.2.2.2.1, r4.1.1.2.2.2.2.2.2.2.2.1, r4.1.1.2.2.2.2.2.2.2.2.2.1, r4.1.1.2.2.2.2.2.2.2.2.2.2)) () ()) none fun r5 =>
              cond (!r5.1) (
                some (false, ())
              ) (
                TT N a.2.1 a.2.2
              )
            )
          )
        )
      ) (
        cond (icmp .neq r3.1.2 2) (
          some (false, ())
        ) (
          TT N a.2.1 a.2.2
        )
      )
    ) (
      cond (icmp .neq r3.1.2 2) (
        some (false, ())
      ) (
        TT N a.2.1 a.2.2
      )
    )
  ) := by kernel_rfl

theorem tail_k (N : Nat) (hN : 3000000 ≤ N) {b c : List Int} (hb : ∀ x ∈ b, 0 ≤ x ∧ x ≤ 255) (hc : ∀ x ∈ c, 0 ≤ x ∧ x ≤ 255) (lb : b.length ≤ 2000000) (lc : c.length ≤ 2000000) : TT N b c = some (true, ()) := by
  have n33 : 33 ≤ N := by omega
  unfold TT
  rcases decode_p N n33 hb lb with ⟨k, hk, hl, hg, e1⟩ | ⟨-, y, e, he, e1⟩
  · have u1 := prf_us n33 hb hl hg
    have p1 := prf_len N b k
    have f1 : Fit (prf N b k) := ⟨by rw [p1.1, p1.2], by rw [p1.1]; exact hk⟩
    have k1 := encode_p N n33 u1
    rw [if_pos f1, enc_prf n33 hb hl hg] at k1
    rcases decode_p N n33 hc lc with ⟨k', hk', hl', hg', e2⟩ | ⟨-, y', e', he', e2⟩
    · have u2 := prf_us n33 hc hl' hg'
      have p2 := prf_len N c k'
      obtain ⟨r, k2, k3⟩ := alike_k N u1 u2 (by rw [p1.1, p1.2]) (by rw [p2.1, p2.2]) (by rw [p1.1]; omega) (by omega)
      rw [prf_low n33 hb hl hg, prf_low n33 hc hl' hg'] at k3
      have fin : (r == (bStr b == bStr c)) = true := by
        cases hq : (bStr b == bStr c) with
        | true =>
          have hbc := bStr_inj hb hc hq
          subst hbc
          obtain rfl : k = k' := by omega
          rw [k3.2 rfl]; rfl
        | false =>
          cases hr : r with
          | false => rfl
          | true =>
            have h1 := k3.1 hr
            have h2 : b = c := by rw [← enc_prf n33 hb hl hg, ← enc_prf n33 hc hl' hg', h1]
            rw [h2, beqS] at hq
            cases hq
      have k1' : wire_EncodeProof_of_msm_Line N ((prf N b k).1, (prf N b k).2.1, (prf N b k).2.2.1, (prf N b k).2.2.2.1, (prf N b k).2.2.2.2.1, (prf N b k).2.2.2.2.2.1, (prf N b k).2.2.2.2.2.2.1, (prf N b k).2.2.2.2.2.2.2.1, (prf N b k).2.2.2.2.2.2.2.2.1, (prf N b k).2.2.2.2.2.2.2.2.2.1, (prf N b k).2.2.2.2.2.2.2.2.2.2) () () = some ((b, 0), ()) := k1
      have k2' : veillaw10_alike N (((prf N b k).1, (prf N b k).2.1, (prf N b k).2.2.1, (prf N b k).2.2.2.1, (prf N b k).2.2.2.2.1, (prf N b k).2.2.2.2.2.1, (prf N b k).2.2.2.2.2.2.1, (prf N b k).2.2.2.2.2.2.2.1, (prf N b k).2.2.2.2.2.2.2.2.1, (prf N b k).2.2.2.2.2.2.2.2.2.1, (prf N b k).2.2.2.2.2.2.2.2.2.2), ((prf N c k').1, (prf N c k').2.1, (prf N c k').2.2.1, (prf N c k').2.2.2.1, (prf N c k').2.2.2.2.1, (prf N c k').2.2.2.2.2.1, (prf N c k').2.2.2.2.2.2.1, (prf N c k').2.2.2.2.2.2.2.1, (prf N c k').2.2.2.2.2.2.2.2.1, (prf N c k').2.2.2.2.2.2.2.2.2.1, (prf N c k').2.2.2.2.2.2.2.2.2.2)) () () = some (r, ()) := k2
      simp only [e1, e2, mo, show icmp .eql 0 0 = true from rfl, show icmp .neq 0 0 = false from rfl, cond_true, cond_false, k1', beqS, Bool.not_true, k2', fin]
    · have ne : icmp .neq e' 0 = true := by rcases he' with rfl | rfl <;> rfl
      have k1' : wire_EncodeProof_of_msm_Line N ((prf N b k).1, (prf N b k).2.1, (prf N b k).2.2.1, (prf N b k).2.2.2.1, (prf N b k).2.2.2.2.1, (prf N b k).2.2.2.2.2.1, (prf N b k).2.2.2.2.2.2.1, (prf N b k).2.2.2.2.2.2.2.1, (prf N b k).2.2.2.2.2.2.2.2.1, (prf N b k).2.2.2.2.2.2.2.2.2.1, (prf N b k).2.2.2.2.2.2.2.2.2.2) () () = some ((b, 0), ()) := k1
      simp only [e1, e2, mo, show icmp .eql 0 0 = true from rfl, show icmp .neq 0 0 = false from rfl, cond_true, cond_false, k1', beqS, Bool.not_true, ne]
  · have eq : icmp .eql e 0 = false := by rcases he with rfl | rfl <;> rfl
    have ne : icmp .neq e 0 = true := by rcases he with rfl | rfl <;> rfl
    rcases decode_p N n33 hc lc with ⟨k', hk', hl', hg', e2⟩ | ⟨-, y', e', he', e2⟩
    · simp only [e1, e2, mo, eq, ne, cond_true, cond_false]
    · simp only [e1, e2, mo, eq, ne, cond_true, cond_false]

theorem plive_k (f : Nat) : veillaw10_live (f + 16) = some true := by kernel_rfl

abbrev WP : Type := (List Int × List Int × List Int × List Int) × List Int × List Int × List Int × List (List Int) × List (List Int) × List Int × List Int

/-- WireProofs. -/
theorem wireProofs_law (N : Nat) (w : WP) (b c : List Int) (hw : (U4 w.1.1 ∧ U4 w.1.2.1 ∧ U4 w.1.2.2.1 ∧ U4 w.1.2.2.2) ∧ U4 w.2.1 ∧ U4 w.2.2.1 ∧ U4 w.2.2.2.1 ∧ (∀ x ∈ w.2.2.2.2.1, U4 x) ∧ (∀ x ∈ w.2.2.2.2.2.1, U4 x) ∧ U4 w.2.2.2.2.2.2.1 ∧ U4 w.2.2.2.2.2.2.2) (hl : w.2.2.2.2.1.length ≤ 2000000) (hr : w.2.2.2.2.2.1.length ≤ 2000000)
    (hb : ∀ x ∈ b, 0 ≤ x ∧ x ≤ 255) (hc : ∀ x ∈ c, 0 ≤ x ∧ x ≤ 255) (lb : b.length ≤ 2000000) (lc : c.length ≤ 2000000) (hN : 3000000 ≤ N) :
    veillaw10_WireProofs N (w, b, c) () () = some (true, ()) := by
  obtain ⟨⟨s0, s1, s2, s3⟩, t0, t1, t2, L, R, a, d⟩ := w
  simp only at hw hl hr
  obtain ⟨⟨h0, h1, h2, h3⟩, g0, g1, g2, hL, hR, ha, hd⟩ := hw
  have n33 : 33 ≤ N := by omega
  have hlive : veillaw10_live N = some true := by
    obtain ⟨f, rfl⟩ : ∃ f, N = f + 16 := ⟨N - 16, by omega⟩
    exact plive_k f
  have e1 : veillaw10_WireProof_line N ((s0, s1, s2, s3), t0, t1, t2, L, R, a, d) () () = some ((s0, s1, s2, s3, t0, t1, t2, L, R, a, d), ((), ())) := by
    unfold veillaw10_WireProof_line
    simp only [lines_k N L hl (by omega), lines_k N R hr (by omega), mo]
  have hu : Us (s0, s1, s2, s3, t0, t1, t2, L, R, a, d) := ⟨h0, h1, h2, h3, g0, g1, g2, hL, hR, ha, hd⟩
  have e2 := encode_p N n33 hu
  have tl := tail_k N hN hb hc lb lc
  rw [proofs_form]
  simp only [hlive, mo, Bool.not_true, cond_false, e1, e2, tl]
  by_cases hf : Fit (s0, s1, s2, s3, t0, t1, t2, L, R, a, d)
  · obtain ⟨x1, x2, x3, x4⟩ := dec_bytes n33 hu hf
    simp only at x2 x3 x4
    have i1 : icmp .eql ((L.length : Nat) : Int) ((R.length : Nat) : Int) = true := by simp [icmp, show L.length = R.length from hf.1]
    have i2 : icmp .lss ((L.length : Nat) : Int) 11 = true := decide_eq_true (by have := hf.2; simp only at this; omega : ((L.length : Nat) : Int) < 11)
    have hlen : L.length ≤ 10 := hf.2
    rcases decode_p N n33 x1 (by rw [x2]; omega) with ⟨k, hk, hl', hg', e3⟩ | ⟨hno, -⟩
    · obtain rfl : k = L.length := by rw [x2] at hl'; omega
      rw [x4] at e3
      have i3 : icmp .neq (((bytesOf N (s0, s1, s2, s3, t0, t1, t2, L, R, a, d)).length : Nat) : Int) (ibin .mul .i64 32 (ibin .add .i64 9 (ibin .mul .i64 2 ((L.length : Nat) : Int)))) = false := by
        rw [mul32 (by omega), x2]; simp [icmp]
      have hll : (lowp (s0, s1, s2, s3, t0, t1, t2, L, R, a, d)).2.2.2.2.2.2.2.1.length = (lowp (s0, s1, s2, s3, t0, t1, t2, L, R, a, d)).2.2.2.2.2.2.2.2.1.length := by
        simp only [lowp, List.length_map]; exact hf.1
      obtain ⟨r, k2, k3⟩ := alike_k N hu (lowp_us hu) hf.1 hll hl (by omega)
      have hr' : r = true := k3.2 (lowp_lowp hu).symm
      subst hr'
      simp only [if_pos hf, i1, i2, cond_true, e3, mo, show icmp .neq 0 0 = false from rfl, cond_false, i3]
      have k2' : veillaw10_alike N ((s0, s1, s2, s3, t0, t1, t2, L, R, a, d), ((lowp (s0, s1, s2, s3, t0, t1, t2, L, R, a, d)).1, (lowp (s0, s1, s2, s3, t0, t1, t2, L, R, a, d)).2.1, (lowp (s0, s1, s2, s3, t0, t1, t2, L, R, a, d)).2.2.1, (lowp (s0, s1, s2, s3, t0, t1, t2, L, R, a, d)).2.2.2.1, (lowp (s0, s1, s2, s3, t0, t1, t2, L, R, a, d)).2.2.2.2.1, (lowp (s0, s1, s2, s3, t0, t1, t2, L, R, a, d)).2.2.2.2.2.1, (lowp (s0, s1, s2, s3, t0, t1, t2, L, R, a, d)).2.2.2.2.2.2.1, (lowp (s0, s1, s2, s3, t0, t1, t2, L, R, a, d)).2.2.2.2.2.2.2.1, (lowp (s0, s1, s2, s3, t0, t1, t2, L, R, a, d)).2.2.2.2.2.2.2.2.1, (lowp (s0, s1, s2, s3, t0, t1, t2, L, R, a, d)).2.2.2.2.2.2.2.2.2.1, (lowp (s0, s1, s2, s3, t0, t1, t2, L, R, a, d)).2.2.2.2.2.2.2.2.2.2)) () () = some (true, ()) := k2
      simp only [k2', Bool.not_true, cond_false]
    · exact absurd ⟨L.length, hlen, x2, x3⟩ hno
  · simp only [if_neg hf]
    have i4 : icmp .neq 2 2 = false := rfl
    by_cases h1 : L.length = R.length
    · have i1 : icmp .eql ((L.length : Nat) : Int) ((R.length : Nat) : Int) = true := by simp [icmp, h1]
      have i2 : icmp .lss ((L.length : Nat) : Int) 11 = false := decide_eq_false (fun h => hf ⟨h1, by simp only; omega⟩ : ¬ ((L.length : Nat) : Int) < 11)
      simp only [i1, i2, i4, cond_true, cond_false]
    · have i1 : icmp .eql ((L.length : Nat) : Int) ((R.length : Nat) : Int) = false := by
        simp only [icmp, beq_eq_false_iff_ne, ne_eq, Int.natCast_inj]; exact h1
      simp only [i1, i4, cond_false]
end Pr
end Go.Vx
