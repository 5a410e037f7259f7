/- Numbers, part L8: the number of bytes; FieldBytes. -/
import Derived.Test.YtkilkhhnbhdbbaaDoorVyL5
import Derived.Test.YtkilkhhnbhdbbaaDoorVyK0
set_option autoImplicit false
set_option linter.unusedSimpArgs false
namespace Go.Vx.Ref
open Go

theorem numB_W : (l : List Int) → Bs l → (numB l : Int) = numW 8 l
  | [], _ => rfl
  | x :: l, h => by
    have h1 := h x (by simp)
    have h2 := numB_W l (fun y hy => h y (by simp [hy]))
    simp only [numB, numW]
    rw [← h2]
    show ((x.toNat + 256 * numB l : Nat) : Int) = x + 256 * (numB l : Int)
    omega
theorem Bs.dg {l : List Int} (h : Bs l) : Dg 8 l := fun x hx => by
  have := h x hx
  show 0 ≤ x ∧ x < 256
  omega

theorem nbit {y : Int} (h : 0 ≤ y ∧ y ≤ 255) (k : Nat) (hk : k ≤ 8) : ibin .and .u8 (ibin .shr .u8 y (k : Int)) 1 = y / 2 ^ k % 2 := by
  rw [b_bit h k hk, Int.natCast_emod, Int.natCast_ediv, Int.natCast_pow]
  have : ((y.toNat : Nat) : Int) = y := by omega
  rw [this]; rfl

theorem number_step (N : Nat) {l d : List Int} (hl : Bs l) (hlen : l.length ≤ 64) {M : Int} (hM : 0 ≤ M ∧ M < 1152921504606846976) (hd : Cols M d) {n : Nat} (hn : n < 8 * l.length) :
    ∃ d', veilref01_Number_l0 N ((l.length, (), (), (n : Int)), ((l.length, l), (), d)) = some (.inl ((l.length, (), (), ((n + 1 : Nat) : Int)), ((l.length, l), (), d'))) ∧ Cols (M + 33554432) d' ∧ num d' = num d + (numW 8 l / 2 ^ n % 2) * 2 ^ n := by
  have hy : 0 ≤ List.getD l (n / 8) 0 ∧ List.getD l (n / 8) 0 ≤ 255 := by
    have := getD_range (lo := 0) (hi := 256) (by decide) l (fun x hx => by have := hl x hx; omega) (n / 8)
    omega
  have x1 : ibin .quo .i64 (n : Int) 8 = ((n / 8 : Nat) : Int) := i_quo 8 (by omega)
  have x2 : ibin .rem .i64 (n : Int) 8 = ((n % 8 : Nat) : Int) := i_rem 8
  have x3 : ibin .quo .i64 (n : Int) 26 = ((n / 26 : Nat) : Int) := i_quo 26 (by omega)
  have x4 : ibin .rem .i64 (n : Int) 26 = ((n % 26 : Nat) : Int) := i_rem 26
  have hlt : n / 26 < 20 := by omega
  have hr : n % 26 < 26 := Nat.mod_lt _ (by decide)
  have hr8 : n % 8 < 8 := Nat.mod_lt _ (by decide)
  have hx : 26 * (n / 26) + n % 26 = n := Nat.div_add_mod _ _
  have hx8 : 8 * (n / 8) + n % 8 = n := Nat.div_add_mod _ _
  have hm : ibin .mul .i64 8 ((l.length : Nat) : Int) = ((8 * l.length : Nat) : Int) := by rw [i_mul (by omega) (by omega)]; omega
  have hc : icmp .lss (n : Int) ((8 * l.length : Nat) : Int) = true := by
    have h : (n : Int) < ((8 * l.length : Nat) : Int) := by omega
    simpa [icmp] using h
  have hbit : ibin .and .u8 (ibin .shr .u8 (List.getD l (n / 8) 0) ((n % 8 : Nat) : Int)) 1 = numW 8 l / 2 ^ n % 2 := by
    rw [nbit hy _ (by omega), digit_bit (w := 8) _ _ (Bs.dg hl) _ hr8, hx8]
  unfold veilref01_Number_l0
  simp only [hm, hc, cond_true, x1, x2, x3, x4, dec_range (show n / 8 < l.length by omega), dec_range hlt, dec_nonneg, Int.toNat_natCast, Nat.zero_add, hbit, i_inc (show n < 1000000 by omega), i_shl (show n % 26 < 62 by omega)]
  rw [eql_one _ (bit01 _)]
  rcases bit01 (numW 8 l / 2 ^ n) with h | h
  · rw [h]
    exact ⟨d, rfl, ⟨hd.1, fun x hx => by have := hd.2 x hx; omega⟩, by omega⟩
  · rw [h]
    have h3 := getD_range (lo := 0) (hi := M + 1) ⟨Int.le_refl 0, by omega⟩ d hd.2 (n / 26)
    have h4 : (2 : Int) ^ (n % 26) ≤ 2 ^ 25 := by
      have : (2 : Nat) ^ (n % 26) ≤ 2 ^ 25 := Nat.pow_le_pow_right (by decide) (by omega)
      exact_mod_cast this
    have h5 : (0 : Int) < 2 ^ (n % 26) := Int.pow_pos (by decide)
    rw [show (2 : Int) ^ 25 = 33554432 from rfl] at h4
    have e2 : ibin .add .i64 (List.getD d (n / 26) 0) (2 ^ (n % 26)) = List.getD d (n / 26) 0 + 2 ^ (n % 26) := i_add (by omega) (by omega)
    rw [e2]
    refine ⟨_, rfl, ⟨by rw [List.length_set]; exact hd.1, set_range (by omega) d (fun x hx => by have := hd.2 x hx; omega) _⟩, ?_⟩
    rw [num, numW_set _ d _ (by rw [hd.1]; exact hlt), ← Int.pow_add, Nat.add_comm, hx, Int.one_mul]

theorem number_loop (N : Nat) {l : List Int} (hl : Bs l) (hlen : l.length ≤ 64) : (k : Nat) → (n : Nat) → n + k = 8 * l.length → (fuel : Nat) → k < fuel → (M : Int) → 0 ≤ M → M + 33554432 * k < 1152921504606846976 → (d : List Int) → Cols M d →
    ∃ d', loopF (veilref01_Number_l0 N) fuel ((l.length, (), (), (n : Int)), ((l.length, l), (), d)) = some (.inl (((), ()), ((), d'))) ∧ Cols (M + 33554432 * k) d' ∧ num d' = num d + numW 8 l / 2 ^ n * 2 ^ n
  | 0, n, hn, fuel + 1, _, M, _, _, d, hd => by
    have hm : ibin .mul .i64 8 ((l.length : Nat) : Int) = ((8 * l.length : Nat) : Int) := by rw [i_mul (by omega) (by omega)]; omega
    have hc : icmp .lss (n : Int) ((8 * l.length : Nat) : Int) = false := by
      have h : ¬ (n : Int) < ((8 * l.length : Nat) : Int) := by omega
      simpa [icmp] using h
    have h1 := numW_lt l (Bs.dg hl)
    rw [← Int.pow_mul, show 8 * l.length = n by omega] at h1
    refine ⟨d, ?_, by simpa using hd, ?_⟩
    · rw [loopF_succ]
      simp only [veilref01_Number_l0, hm, hc, cond_false, mo]
    · rw [Int.ediv_eq_zero_of_lt (Bs.dg hl).nonneg h1]; omega
  | k + 1, n, hn, fuel + 1, hf, M, h0, hM, d, hd => by
    obtain ⟨d1, h1, h2, h3⟩ := number_step N hl hlen (M := M) ⟨h0, by omega⟩ hd (show n < 8 * l.length by omega)
    obtain ⟨d2, g1, g2, g3⟩ := number_loop N hl hlen k (n + 1) (by omega) fuel (by omega) (M + 33554432) (by omega) (by omega) d1 h2
    refine ⟨d2, ?_, ?_, ?_⟩
    · rw [loopF_succ, h1]; exact g1
    · rw [show M + 33554432 * ((k + 1 : Nat) : Int) = M + 33554432 + 33554432 * (k : Int) by omega]; exact g2
    · have hh := half_bit (numW 8 l) n 0
      simp only [Nat.zero_add] at hh
      rw [g3, h3, hh]; omega

theorem numB_32 {l : List Int} (hl : L32 l) : (numB l : Int) < 115792089237316195423570985008687907853269984665640564039457584007913129639936 := by
  have := numB_lt l hl.2
  rw [hl.1] at this
  have e : (256 : Nat) ^ 32 = 115792089237316195423570985008687907853269984665640564039457584007913129639936 := by decide
  rw [e] at this
  omega

theorem number_form (N : Nat) (l d r : List Int) (h : loopF (veilref01_Number_l0 N) N ((32, (), (), 0), ((32, l), (), [0, 0, 0, 0, 0, 0, 0, 0, 0, 0, 0, 0, 0, 0, 0, 0, 0, 0, 0, 0])) = some (.inl (((), ()), ((), d)))) (hr : veilref01_least N d = some r) :
    veilref01_Number N ((32, l), ()) = some r := by
  unfold veilref01_Number
  simp only [h, hr, mo]

theorem number_spec {l : List Int} (hl : L32 l) : ∃ r, veilref01_Number 300 ((32, l), ()) = some r ∧ CF r ∧ num r = (numB l : Int) % pF := by
  have z0 : Cols 0 [0, 0, 0, 0, 0, 0, 0, 0, 0, 0, 0, 0, 0, 0, 0, 0, 0, 0, 0, 0] := ⟨rfl, by decide⟩
  have n0 : num [0, 0, 0, 0, 0, 0, 0, 0, 0, 0, 0, 0, 0, 0, 0, 0, 0, 0, 0, 0] = 0 := by decide
  obtain ⟨d, h1, h2, h3⟩ := number_loop 300 (l := l) hl.2 (by rw [hl.1]; decide) 256 0 (by rw [hl.1]) 300 (by decide) 0 (by decide) (by decide) _ z0
  rw [n0, Int.pow_zero, Int.ediv_one, Int.mul_one, Int.zero_add, ← numB_W l hl.2] at h3
  have hb := numB_32 hl
  obtain ⟨r, l1, l2, l3⟩ := rleast_spec h2.1 (fun x hx => by have := h2.2 x hx; omega) (by
    rw [h3]
    omega)
  refine ⟨r, ?_, l2, by rw [l3, h3]⟩
  rw [hl.1] at h1
  have h1' : loopF (veilref01_Number_l0 300) 300 ((32, (), (), 0), ((32, l), (), [0, 0, 0, 0, 0, 0, 0, 0, 0, 0, 0, 0, 0, 0, 0, 0, 0, 0, 0, 0])) = some (.inl (((), ()), ((), d))) := h1
  exact number_form 300 l d r h1' l1

theorem renc_l32 {a : List Int} (ha : CF a) : ∃ b, veilref01_F_Encode 300 a = some b ∧ L32 b ∧ (numB b : Int) = num a := by
  obtain ⟨b, h1, h2, h3, h4⟩ := renc_spec ha
  have hb : Bs b := fun x hx => by
    have := h2 x hx
    change 0 ≤ x ∧ x < 256 at this
    omega
  exact ⟨b, h1, ⟨h3, hb⟩, by rw [numB_W b hb, h4]⟩

end Go.Vx.Ref
