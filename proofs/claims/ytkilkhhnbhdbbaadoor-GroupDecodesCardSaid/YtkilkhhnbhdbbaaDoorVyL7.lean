/- Numbers, part L7: FieldLeast. -/
import Derived.Test.YtkilkhhnbhdbbaaDoorVyL6
set_option autoImplicit false
set_option linter.unusedSimpArgs false
namespace Go.Vx.Ref
open Go

theorem rsub_k {a b : List Int} (ha : CF a) (hb : CF b) : ∃ r, veilref01_F_Sub 300 a b = some r ∧ CF r ∧ kf r = kf a - kf b := by
  obtain ⟨r, h1, h2, h3⟩ := rsub_spec ha hb
  exact ⟨r, h1, h2, by rw [kf_of h3, K.of_sub]; rfl⟩
theorem rneg_k {a : List Int} (ha : CF a) : CF (veilref01_F_Neg a) ∧ kf (veilref01_F_Neg a) = - kf a := by
  obtain ⟨h2, h3⟩ := rneg_spec ha
  exact ⟨h2, by rw [kf_of h3, K.of_neg]; rfl⟩
theorem D_cf : CF veilref01_D := ⟨rfl, by
  intro x hx
  show 0 ≤ x ∧ x < 67108864
  simp only [veilref01_D, List.mem_cons, List.not_mem_nil, or_false] at hx
  rcases hx with rfl | rfl | rfl | rfl | rfl | rfl | rfl | rfl | rfl | rfl <;> decide, by decide⟩
theorem tab3_can : Can (field_tab 3) := ⟨_, _, _, _, _, rfl, by decide, by decide, by decide, by decide, by decide, by decide⟩
theorem tab4_can : Can (field_tab 4) := ⟨_, _, _, _, _, rfl, by decide, by decide, by decide, by decide, by decide, by decide⟩
theorem kf_one : kf [1, 0, 0, 0, 0, 0, 0, 0, 0, 0] = 1 := by unfold kf; rw [num_one]; rfl
theorem tab3_sq : kv (field_tab 3) ^ 2 = - kf veilref01_D - 1 := by
  have h : kv (field_tab 3) * kv (field_tab 3) = - kf veilref01_D - 1 := by
    unfold kv kf
    rw [← K.of_mul, ← K.of_neg, show (1 : K) = K.of 1 from rfl, ← K.of_sub, K.of_eq]
    decide
  rw [← h]; grind
theorem tab4_sq : (-1 - kf veilref01_D) * kv (field_tab 4) ^ 2 = 1 := by
  have h : (-1 - kf veilref01_D) * (kv (field_tab 4) * kv (field_tab 4)) = 1 := by
    unfold kv kf
    rw [show (-1 : K) = K.of (-1) from by rw [K.of_neg]; rfl, ← K.of_sub, ← K.of_mul, ← K.of_mul, show (1 : K) = K.of 1 from rfl, K.of_eq]
    decide
  rw [← h]; grind

theorem small_spec {n : Int} (h : U n) : ∃ r, veilref01_Small 300 n = some r ∧ CF r ∧ num r = n % pF := by
  have m : ∀ x : Int, U x → ibin .and .u64 x 67108863 = x % 67108864 := fun x hx => by
    rw [u_and hx.1 hx.2 (by decide) (by decide), show (67108863 : Int).toNat = 2 ^ 26 - 1 from rfl, Nat.and_two_pow_sub_one_eq_mod]
    have := hx.1
    omega
  have s1 : ibin .shr .u64 n 26 = n / 67108864 := u_shr 26 (by decide)
  have s2 : ibin .shr .u64 n 52 = n / 4503599627370496 := u_shr 52 (by decide)
  have h0 := h.1
  have h1 := h.2
  have e1 : IntKind.wrap .i64 (ibin .and .u64 n 67108863) = n % 67108864 := by rw [m n h, wrapi (by omega) (by omega)]
  have e2 : IntKind.wrap .i64 (ibin .and .u64 (ibin .shr .u64 n 26) 67108863) = n / 67108864 % 67108864 := by rw [s1, m _ (by simp only [U]; omega), wrapi (by omega) (by omega)]
  have e3 : IntKind.wrap .i64 (ibin .shr .u64 n 52) = n / 4503599627370496 := by rw [s2, wrapi (by omega) (by omega)]
  have hn : num [n % 67108864, n / 67108864 % 67108864, n / 4503599627370496, 0, 0, 0, 0, 0, 0, 0, 0, 0, 0, 0, 0, 0, 0, 0, 0, 0] = n := by
    simp only [num, numW]; omega
  obtain ⟨r, l1, l2, l3⟩ := rleast_spec (d := [n % 67108864, n / 67108864 % 67108864, n / 4503599627370496, 0, 0, 0, 0, 0, 0, 0, 0, 0, 0, 0, 0, 0, 0, 0, 0, 0]) rfl (by
    intro x hx
    simp only [List.mem_cons, List.not_mem_nil, or_false, or_self] at hx
    rcases hx with rfl | rfl | rfl | rfl <;> omega) (by rw [hn]; omega)
  refine ⟨r, ?_, l2, by rw [l3, hn]⟩
  unfold veilref01_Small
  rw [e1, e2, e3, l1]
  rfl

end Go.Vx.Ref
