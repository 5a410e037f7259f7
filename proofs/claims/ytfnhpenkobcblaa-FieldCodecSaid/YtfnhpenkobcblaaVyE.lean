/- Numbers, part E: the closed sentence 'live'; the first bit of the text; signs. -/
import Derived.Test.YtfnhpenkobcblaaVyD
import Derived.KernelRfl
set_option autoImplicit false
namespace Go.Vx
open Go

theorem live_true : veillaw01_live 300 = some true := by kernel_rfl

theorem neg_val {a : List Int} (ha : L5 a) : val (field_Elem_Neg a) = if val a % pF = 0 then 0 else pF - val a % pF := by
  rw [(neg_spec ha).2]
  by_cases h : val a % pF = 0
  · rw [if_pos h, Int.emod_eq_zero_of_dvd]
    exact Int.dvd_neg.2 (Int.dvd_of_emod_eq_zero h)
  · rw [if_neg h]
    have h1 : 0 ≤ val a % pF := Int.emod_nonneg _ (by decide)
    have h2 : val a % pF < pF := Int.emod_lt_of_pos _ pF_pos
    have h3 : - val a = (pF - val a % pF) + pF * (-(val a / pF) - 1) := by
      have := Int.mul_ediv_add_emod (val a) pF
      rw [Int.mul_sub, Int.mul_neg]
      omega
    rw [h3, Int.add_mul_emod_self_left, Int.emod_eq_of_lt (by omega) (by omega)]

theorem encode_par {a : List Int} (ha : L5 a) : icmp .eql (ibin .and .u8 (List.getD (field_Elem_Encode a) 0 0) 1) 1 = decide (val a % pF % 2 = 1) := by
  obtain ⟨c, h⟩ := least_spec ha
  obtain ⟨x0, x1, x2, x3, x4, hx, h0, h1, h2, h3, h4, -⟩ := c
  have hp : val a % pF % 2 = x0 % 2 := by
    rw [← h, hx]
    simp only [val, M51] at *
    omega
  unfold field_Elem_Encode
  rw [hx]
  simp only [List.getD_cons_zero, List.getD_cons_succ]
  have e1 : ibin .shl .u64 x1 51 = (x1 * 2251799813685248) % 18446744073709551616 := u_shl 51 (by decide)
  have e2 : ∀ y, ibin .shr .u64 y 0 = y := fun y => by have := u_shr (a := y) 0 (by decide); simpa using this
  have e3 : ibin .or .u64 x0 (ibin .shl .u64 x1 51) = (((x0.toNat ||| (ibin .shl .u64 x1 51).toNat : Nat)) : Int) := by
    rw [e1]
    exact u_or (by simp only [M51] at *; omega) (by simp only [M51] at *; omega) (by omega) (by omega)
  rw [e3, e2, wrap8]
  have e4 : ∀ n : Nat, ibin .and .u8 ((n : Int) % 256) 1 = (n : Int) % 2 := by
    intro n
    show IntKind.wrap .u8 ((BitVec.ofInt 8 ((n : Int) % 256) &&& BitVec.ofInt 8 1).toNat : Int) = _
    have : (BitVec.ofInt 8 ((n : Int) % 256) &&& BitVec.ofInt 8 1).toNat = n % 2 := by
      rw [BitVec.toNat_and, BitVec.toNat_ofInt, show (BitVec.ofInt 8 1).toNat = 2 ^ 1 - 1 from rfl, Nat.and_two_pow_sub_one_eq_mod]
      omega
    rw [this, wrap8]
    omega
  rw [e4]
  have e5 : ((x0.toNat ||| (ibin .shl .u64 x1 51).toNat : Nat) : Int) % 2 = x0 % 2 := by
    have : (x0.toNat ||| (ibin .shl .u64 x1 51).toNat) % 2 ^ 1 = (x0.toNat % 2 ^ 1) ||| ((ibin .shl .u64 x1 51).toNat % 2 ^ 1) := Nat.or_mod_two_pow
    have h2 : (ibin .shl .u64 x1 51).toNat % 2 ^ 1 = 0 := by rw [e1]; omega
    rw [h2, Nat.or_zero] at this
    omega
  rw [e5, hp]
  show (x0 % 2 == 1) = _
  rw [Bool.eq_iff_iff]; simp

theorem signs_law (a : List Int) (ha : L5 a) : veillaw01_FieldSigns 300 a = some true := by
  unfold veillaw01_FieldSigns
  rw [live_true]
  have hn := neg_spec ha
  have hnv := neg_val ha
  have v0 : 0 ≤ val a % pF := Int.emod_nonneg _ (by decide)
  have v1 : val a % pF < pF := Int.emod_lt_of_pos _ pF_pos
  have l5n := hn.1.L5
  have lneg : val (field_Elem_Neg a) % pF = val (field_Elem_Neg a) := Int.emod_eq_of_lt hn.1.nonneg.1 hn.1.nonneg.2
  have hl := least_spec ha
  simp only [mo, Bool.not_true, cond_false]
  rw [iszero_spec ha, negative_spec ha, negative_spec l5n, lneg, hnv]
  by_cases hz : val a % pF = 0
  · rw [hz]
    have ez : field_Elem_Neg a = [0, 0, 0, 0, 0] := hn.1.inj zero_can (by rw [hnv, if_pos hz]; rfl)
    have eb : field_Elem_Abs a = [0, 0, 0, 0, 0] := by
      rw [abs_spec ha, hz, if_neg (by decide)]
      exact hl.1.inj zero_can (by rw [hl.2, hz]; rfl)
    rw [ez, eb]
    simp
  · rw [if_neg hz]
    have hodd : pF % 2 = 1 := by decide
    -- the sign of the absolute value
    have habs : Can (field_Elem_Abs a) ∧ val (field_Elem_Abs a) % 2 = 0 := by
      rw [abs_spec ha]
      split
      · rename_i h
        refine ⟨hn.1, ?_⟩
        rw [hnv, if_neg hz]
        simp only [pF] at *
        omega
      · rename_i h
        refine ⟨hl.1, ?_⟩
        rw [hl.2]
        omega
    have eabs : field_Elem_Negative (field_Elem_Abs a) = false := by
      rw [negative_spec habs.1.L5, Int.emod_eq_of_lt habs.1.nonneg.1 habs.1.nonneg.2, habs.2]
      decide
    -- twice negated
    have hnn : field_Elem_Neg (field_Elem_Neg a) = field_Elem_Least a := by
      refine (neg_spec l5n).1.inj hl.1 ?_
      rw [neg_val l5n, lneg, hnv, if_neg hz, if_neg (by omega), hl.2]
      omega
    have enabs : field_Elem_Abs (field_Elem_Neg a) = field_Elem_Abs a := by
      rw [abs_spec l5n, abs_spec ha, lneg, hnn, least_can hn.1, hnv, if_neg hz]
      by_cases h : val a % pF % 2 = 1
      · rw [if_pos h, if_neg (by simp only [pF] at *; omega)]
      · rw [if_neg h, if_pos (by simp only [pF] at *; omega)]
    rw [eabs, enabs, encode_par ha]
    have epar : (decide (val a % pF % 2 = 1) == decide ((pF - val a % pF) % 2 = 1)) = false := by
      by_cases h : val a % pF % 2 = 1
      · rw [decide_eq_true h, decide_eq_false (by simp only [pF] at *; omega)]; rfl
      · rw [decide_eq_false h, decide_eq_true (by simp only [pF] at *; omega)]; rfl
    rw [epar, decide_eq_false hz]
    simp only [Bool.not_false, cond_true, cond_false, decide_true, BEq.rfl]
    have hor : field_Elem_Abs a = field_Elem_Least a ∨ field_Elem_Abs a = field_Elem_Neg a := by
      rw [abs_spec ha]
      split
      · exact .inr rfl
      · exact .inl rfl
    rcases hor with h | h
    · rw [decide_eq_true h]; rfl
    · rw [decide_eq_true h]; cases decide (field_Elem_Abs a = field_Elem_Least a) <;> rfl

end Go.Vx
