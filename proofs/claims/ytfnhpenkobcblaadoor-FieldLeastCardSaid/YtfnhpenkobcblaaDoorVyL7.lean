/- Numbers, part L7: FieldLeast. -/
import Derived.Test.YtfnhpenkobcblaaDoorVyL6
set_option autoImplicit false
set_option linter.unusedSimpArgs false
namespace Go.Vx.Ref
open Go

def constOK (N : Nat) (k : Int) : Option Bool := mo (field_Const k) none fun r => mo (veilref01_Const N k) none fun n => veillaw01_is N r n

theorem const1 : constOK 300 1 = some true := by kernel_rfl
theorem const2 : constOK 300 2 = some true := by kernel_rfl
theorem rsub_k {a b : List Int} (ha : CF a) (hb : CF b) : ∃ r, veilref01_F_Sub 300 a b = some r ∧ CF r ∧ kf r = kf a - kf b := by
  obtain ⟨r, h1, h2, h3⟩ := rsub_spec ha hb
  exact ⟨r, h1, h2, by rw [kf_of h3, K.of_sub]; rfl⟩
theorem rneg_k {a : List Int} (ha : CF a) : CF (veilref01_F_Neg a) ∧ kf (veilref01_F_Neg a) = - kf a := by
  obtain ⟨h2, h3⟩ := rneg_spec ha
  exact ⟨h2, by rw [kf_of h3, K.of_neg]; rfl⟩
theorem D_cf : CF veilref01_D := ⟨rfl, by
  intro x hx
  show 0 ≤ x ∧ x < 67108864
  simp only [veilref01_D, List.mem_cons, List.not_mem_nil, or_false] at hx
  rcases hx with rfl | rfl | rfl | rfl | rfl | rfl | rfl | rfl | rfl | rfl <;> decide, by decide⟩
theorem tab3_can : Can (field_tab 3) := ⟨_, _, _, _, _, rfl, by decide, by decide, by decide, by decide, by decide, by decide⟩
theorem tab4_can : Can (field_tab 4) := ⟨_, _, _, _, _, rfl, by decide, by decide, by decide, by decide, by decide, by decide⟩
theorem kf_one : kf [1, 0, 0, 0, 0, 0, 0, 0, 0, 0] = 1 := by unfold kf; rw [num_one]; rfl
theorem tab3_sq : kv (field_tab 3) ^ 2 = - kf veilref01_D - 1 := by
  have h : kv (field_tab 3) * kv (field_tab 3) = - kf veilref01_D - 1 := by
    unfold kv kf
    rw [← K.of_mul, ← K.of_neg, show (1 : K) = K.of 1 from rfl, ← K.of_sub, K.of_eq]
    decide
  rw [← h]; grind
theorem tab4_sq : (-1 - kf veilref01_D) * kv (field_tab 4) ^ 2 = 1 := by
  have h : (-1 - kf veilref01_D) * (kv (field_tab 4) * kv (field_tab 4)) = 1 := by
    unfold kv kf
    rw [show (-1 : K) = K.of (-1) from by rw [K.of_neg]; rfl, ← K.of_sub, ← K.of_mul, ← K.of_mul, show (1 : K) = K.of 1 from rfl, K.of_eq]
    decide
  rw [← h]; grind

theorem const3 (N : Nat) (hN : N = 300) : constOK N 3 = some true := by
  have n := rneg_k D_cf
  obtain ⟨r1, h1, c1, e1⟩ := rsub_k n.1 rone_cf
  rw [n.2, kf_one, ← tab3_sq] at e1
  have t0 : kv (field_tab 3) ≠ 0 := fun h => by
    have := K.of_eq.1 (show K.of (val (field_tab 3)) = K.of 0 from h)
    revert this; decide
  have h0 : kf r1 ≠ 0 := by rw [e1]; exact K.pow_ne t0 2
  obtain ⟨s, h2, c2, p2, q2⟩ := (rroot_k c1 h0).1 (by rw [e1]; exact K.half t0)
  have m := rneg_k c2
  have hs : kf s = - kv (field_tab 3) := by
    have : (kf s - kv (field_tab 3)) * (kf s + kv (field_tab 3)) = 0 := by rw [e1] at q2; grind
    rcases K.mul_zero' this with h | h
    · exfalso
      have h3 : kf s = kv (field_tab 3) := by grind
      have h4 := K.of_eq.1 (show K.of (num s) = K.of (val (field_tab 3)) from h3)
      rw [Int.emod_eq_of_lt c2.2.1.nonneg c2.2.2] at h4
      simp only [num] at p2
      rw [h4] at p2
      revert p2; decide
    · grind
  have i := is_k tab3_can m.1 (by rw [m.2, hs]; grind)
  rw [← hN] at h1 h2 i
  have hc : veilref01_Const N 3 = some (veilref01_F_Neg s) := by
    unfold veilref01_Const
    simp only [show icmp .eql 3 1 = false by decide, show icmp .eql 3 2 = false by decide, show icmp .eql 3 3 = true by decide, cond_false, cond_true, h1, mo, h2]
  unfold constOK
  rw [show field_Const 3 = some (field_tab 3) from rfl, hc]
  exact i

theorem const4 (N : Nat) (hN : N = 300) : constOK N 4 = some true := by
  have n := rneg_k rone_cf
  obtain ⟨r1, h1, c1, e1⟩ := rsub_k n.1 D_cf
  rw [n.2, kf_one] at e1
  have ht := tab4_sq
  rw [← e1] at ht
  have one := K.one_ne
  have h0 : kf r1 ≠ 0 := fun h => by rw [h] at ht; exact one (by grind)
  have t0 : kv (field_tab 4) ≠ 0 := fun h => by rw [h] at ht; exact one (by grind)
  -- the root is one over the constant
  have hw : kf r1 ^ eQ = 1 ∨ kf r1 ^ eQ = -1 := by
    have e : kf r1 = (kf r1 * kv (field_tab 4)) ^ 2 := by
      have : (kf r1 * kv (field_tab 4)) ^ 2 = kf r1 * (kf r1 * kv (field_tab 4) ^ 2) := by grind
      rw [this, ht]; grind
    rw [e]
    exact K.half (K.mul_ne h0 t0)
  obtain ⟨s, h2, c2, p2, q2⟩ := (rroot_k c1 h0).1 hw
  obtain ⟨r5, h5, c5, e5⟩ := rinvert_k c2
  have s0 : kf s ≠ 0 := fun h => h0 (by rw [← q2, h]; grind)
  have inv : kf r5 * kf s = 1 := by
    rw [e5]
    have := K.fermat s0
    rw [show eP1 = eInv + 1 from rfl, K.pow_add, kpow1] at this
    exact this
  have a5 := rabs_k c5
  obtain ⟨l, l1, l2, l3⟩ := limbs_can a5.1
  have hl : kv l = kf (veilref01_F_Abs r5) := by unfold kv kf; rw [l3]
  have hr : field_tab 4 = l := even_root tab4_can l2 (by decide) (by rw [l3]; exact a5.2.1) (by
    rw [hl, a5.2.2]
    have g1 : kf r5 ^ 2 * kf r1 = 1 := by rw [← q2]; have : kf r5 ^ 2 * kf s ^ 2 = (kf r5 * kf s) ^ 2 := by grind
                                          rw [this, inv]; grind
    have g2 : kf r1 * (kv (field_tab 4) ^ 2 - kf r5 ^ 2) = 0 := by grind
    rcases K.mul_zero' g2 with h | h
    · exact absurd h h0
    · grind)
  have i := is_k tab4_can a5.1 (by rw [hr, hl])
  rw [← hN] at h1 h2 h5 i
  have hc : veilref01_Const N 4 = some (veilref01_F_Abs r5) := by
    unfold veilref01_Const
    simp only [show icmp .eql 4 1 = false by decide, show icmp .eql 4 2 = false by decide, show icmp .eql 4 3 = false by decide, show icmp .eql 4 4 = true by decide, cond_false, cond_true, h1, mo, h2, h5]
  unfold constOK
  rw [show field_Const 4 = some (field_tab 4) from rfl, hc]
  exact i

theorem const5 : constOK 300 5 = some true := by kernel_rfl
theorem const6 : constOK 300 6 = some true := by kernel_rfl
theorem const_zero : veillaw01_is 300 [0, 0, 0, 0, 0] [0, 0, 0, 0, 0, 0, 0, 0, 0, 0] = some true := is_spec zero_can zero_cf (by decide)
theorem const_out (N : Nat) (hN : N = 300) (k : Int) (h : k < 0 ∨ 7 ≤ k ∨ k = 0) : constOK N k = some true := by
  have h1 : field_Const k = some [0, 0, 0, 0, 0] := by
    unfold field_Const
    rcases h with h | h | rfl
    · have g : icmp .lss k 0 = true := by simpa [icmp] using h
      rw [g, cond_true]
    · have g : icmp .lss k 0 = false := by simp [icmp]; omega
      have g2 : icmp .geq k 7 = true := by simpa [icmp] using h
      rw [g, cond_false, g2, cond_true]
    · rfl
  have ne : ∀ n : Int, (1 ≤ n ∧ n ≤ 6) → icmp .eql k n = false := fun n hn => by simp [icmp]; omega
  have h2 : veilref01_Const N k = some [0, 0, 0, 0, 0, 0, 0, 0, 0, 0] := by
    unfold veilref01_Const
    simp only [ne 1 (by decide), ne 2 (by decide), ne 3 (by decide), ne 4 (by decide), ne 5 (by decide), ne 6 (by decide), cond_false]
  unfold constOK
  rw [h1, h2]
  have h3 := const_zero
  rw [← hN] at h3
  exact h3
theorem const_all (k : Int) : constOK 300 k = some true := by
  by_cases h : k < 0 ∨ 7 ≤ k ∨ k = 0
  · exact const_out 300 rfl k h
  · have : k = 1 ∨ k = 2 ∨ k = 3 ∨ k = 4 ∨ k = 5 ∨ k = 6 := by omega
    rcases this with rfl | rfl | rfl | rfl | rfl | rfl
    · exact const1
    · exact const2
    · exact const3 300 rfl
    · exact const4 300 rfl
    · exact const5
    · exact const6
theorem const_at (N : Nat) (hN : N = 300) (k : Int) : ∃ r n, field_Const k = some r ∧ veilref01_Const N k = some n ∧ veillaw01_is N r n = some true := by
  have h := const_all k
  rw [← hN] at h
  unfold constOK at h
  cases h1 : field_Const k with
  | none => rw [h1] at h; simp [mo] at h
  | some r =>
    cases h2 : veilref01_Const N k with
    | none => rw [h1, h2] at h; simp [mo] at h
    | some n => rw [h1, h2] at h; exact ⟨r, n, rfl, rfl, h⟩

theorem least_round (N : Nat) (hN : N = 300) (c k k' : Int) (f : Nat) (h : -1 ≤ k ∧ k < 9) (hk : k' = k + 1) : loopF (veillaw01_FieldLeast_l0 N) (f + 1) ((c, (), k), ()) = loopF (veillaw01_FieldLeast_l0 N) f ((c, (), k'), ()) := by
  obtain ⟨r, n, h1, h2, h3⟩ := const_at N hN k
  have g : icmp .lss k 9 = true := by simpa [icmp] using h.2
  have e : veillaw01_FieldLeast_l0 N ((c, (), k), ()) = some (.inl ((c, (), k'), ())) := by
    unfold veillaw01_FieldLeast_l0
    simp only [g, cond_true, h1, h2, h3, mo, Bool.not_true, cond_false, i_add (show -9223372036854775808 ≤ k + 1 by omega) (show k + 1 ≤ 9223372036854775807 by omega), hk]
  rw [loopF_succ, e]
  rfl

theorem least_loop (N : Nat) (hN : N = 300) (c : Int) (f : Nat) : loopF (veillaw01_FieldLeast_l0 N) (f + 11) ((c, (), -1), ()) = some (.inl (c, ())) := by
  rw [least_round N hN c (-1) 0 (f + 10) (by decide) rfl, least_round N hN c 0 1 (f + 9) (by decide) rfl, least_round N hN c 1 2 (f + 8) (by decide) rfl, least_round N hN c 2 3 (f + 7) (by decide) rfl, least_round N hN c 3 4 (f + 6) (by decide) rfl,
    least_round N hN c 4 5 (f + 5) (by decide) rfl, least_round N hN c 5 6 (f + 4) (by decide) rfl, least_round N hN c 6 7 (f + 3) (by decide) rfl, least_round N hN c 7 8 (f + 2) (by decide) rfl, least_round N hN c 8 9 (f + 1) (by decide) rfl]
  have g : icmp .lss 9 9 = false := by decide
  have e : veillaw01_FieldLeast_l0 N ((c, (), 9), ()) = some (.inr (.inl (c, ()))) := by
    unfold veillaw01_FieldLeast_l0
    simp only [g, cond_false]
  rw [loopF_succ, e]
  rfl

theorem small_spec {n : Int} (h : U n) : ∃ r, veilref01_Small 300 n = some r ∧ CF r ∧ num r = n % pF := by
  have m : ∀ x : Int, U x → ibin .and .u64 x 67108863 = x % 67108864 := fun x hx => by
    rw [u_and hx.1 hx.2 (by decide) (by decide), show (67108863 : Int).toNat = 2 ^ 26 - 1 from rfl, Nat.and_two_pow_sub_one_eq_mod]
    have := hx.1
    omega
  have s1 : ibin .shr .u64 n 26 = n / 67108864 := u_shr 26 (by decide)
  have s2 : ibin .shr .u64 n 52 = n / 4503599627370496 := u_shr 52 (by decide)
  have h0 := h.1
  have h1 := h.2
  have e1 : IntKind.wrap .i64 (ibin .and .u64 n 67108863) = n % 67108864 := by rw [m n h, wrapi (by omega) (by omega)]
  have e2 : IntKind.wrap .i64 (ibin .and .u64 (ibin .shr .u64 n 26) 67108863) = n / 67108864 % 67108864 := by rw [s1, m _ (by simp only [U]; omega), wrapi (by omega) (by omega)]
  have e3 : IntKind.wrap .i64 (ibin .shr .u64 n 52) = n / 4503599627370496 := by rw [s2, wrapi (by omega) (by omega)]
  have hn : num [n % 67108864, n / 67108864 % 67108864, n / 4503599627370496, 0, 0, 0, 0, 0, 0, 0, 0, 0, 0, 0, 0, 0, 0, 0, 0, 0] = n := by
    simp only [num, numW]; omega
  obtain ⟨r, l1, l2, l3⟩ := rleast_spec (d := [n % 67108864, n / 67108864 % 67108864, n / 4503599627370496, 0, 0, 0, 0, 0, 0, 0, 0, 0, 0, 0, 0, 0, 0, 0, 0, 0]) rfl (by
    intro x hx
    simp only [List.mem_cons, List.not_mem_nil, or_false, or_self] at hx
    rcases hx with rfl | rfl | rfl | rfl <;> omega) (by rw [hn]; omega)
  refine ⟨r, ?_, l2, by rw [l3, hn]⟩
  unfold veilref01_Small
  rw [e1, e2, e3, l1]
  rfl

theorem leasts_N (N : Nat) (hN : N = 300) (a : List Int) (n c : Int) (ha : L5 a) (hn : IntKind.u64.min ≤ n ∧ n ≤ IntKind.u64.max) (_hc : IntKind.i64.min ≤ c ∧ c ≤ IntKind.i64.max) : veillaw01_FieldLeast N a n c = some true := by
  have hu : U n := by
    have h1 : 0 ≤ n ∧ n ≤ 18446744073709551615 := hn
    exact ⟨h1.1, by omega⟩
  obtain ⟨x, hx, cx, ex⟩ := lawof_spec ha
  obtain ⟨la, ea⟩ := least_spec ha
  obtain ⟨s, hs, cs, es⟩ := small_spec hu
  have hi : L5 [n, 0, 0, 0, 0] := ⟨rfl, by
    intro y hy
    simp only [List.mem_cons, List.not_mem_nil, or_false, or_self] at hy
    have := hu.2; have := hu.1
    rcases hy with rfl | rfl <;> omega⟩
  obtain ⟨li, ei⟩ := least_spec hi
  have i1 := is_spec la cx (by rw [ea, ex])
  have i2 : veillaw01_is 300 (field_Int n) s = some true := is_spec li cs (by
    rw [show field_Int n = field_Elem_Least [n, 0, 0, 0, 0] from rfl, ei, es]
    exact congrArg (fun z => z % pF) (show val [n, 0, 0, 0, 0] = n by simp only [val]; omega))
  have i3 : veillaw01_is 300 (field_Elem_One a) [1, 0, 0, 0, 0, 0, 0, 0, 0, 0] = some true := is_spec (show Can (field_Elem_One a) from one_can) rone_cf (by rw [show field_Elem_One a = [1, 0, 0, 0, 0] from rfl]; decide)
  obtain ⟨r, m, k1, k2, k3⟩ := const_at N hN c
  have hl := least_loop N hN c 289
  rw [show 289 + 11 = N by rw [hN]] at hl
  rw [← hN] at hx hs i1 i2 i3
  clear hN
  unfold veillaw01_FieldLeast
  simp only [hx, i1, hs, i2, i3, hl, k1, k2, k3, mo, Bool.not_true, cond_false]

theorem leasts_law (a : List Int) (n c : Int) (ha : L5 a) (hn : IntKind.u64.min ≤ n ∧ n ≤ IntKind.u64.max) (hc : IntKind.i64.min ≤ c ∧ c ≤ IntKind.i64.max) : veillaw01_FieldLeast 300 a n c = some true := leasts_N 300 rfl a n c ha hn hc

end Go.Vx.Ref
