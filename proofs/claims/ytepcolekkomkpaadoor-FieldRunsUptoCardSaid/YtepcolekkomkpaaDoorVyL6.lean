/- Numbers, part L6: the reference's powers and roots; FieldPowers, FieldRoots. -/
import Derived.Test.YtepcolekkomkpaaDoorVyL5
import Derived.Test.YtepcolekkomkpaaDoorVyL2
import Derived.Test.YtepcolekkomkpaaDoorVyJ0
set_option autoImplicit false
set_option linter.unusedSimpArgs false
namespace Go.Vx.Ref
open Go

def kf (a : List Int) : K := K.of (num a)
theorem kf_of {r : List Int} {x : Int} (h : num r = x % pF) : kf r = K.of x := by unfold kf; rw [h, K.of_mod]
theorem cf_k {a b : List Int} (ha : CF a) (hb : CF b) (h : kf a = kf b) : a = b := by
  refine ha.inj hb ?_
  have h1 := K.of_eq.1 h
  rwa [Int.emod_eq_of_lt ha.2.1.nonneg ha.2.2, Int.emod_eq_of_lt hb.2.1.nonneg hb.2.2] at h1
theorem rmul_k {a b : List Int} (ha : CF a) (hb : CF b) : ∃ r, veilref01_F_Mul 300 a b = some r ∧ CF r ∧ kf r = kf a * kf b := by
  obtain ⟨r, h1, h2, h3⟩ := rmul_spec ha hb
  exact ⟨r, h1, h2, by rw [kf_of h3, K.of_mul]; rfl⟩
theorem is_k {r n : List Int} (hr : Can r) (hn : CF n) (h : kv r = kf n) : veillaw01_is 300 r n = some true := by
  refine is_spec hr hn ?_
  have h1 := K.of_eq.1 h
  rwa [Int.emod_eq_of_lt hr.nonneg.1 hr.nonneg.2, Int.emod_eq_of_lt hn.2.1.nonneg hn.2.2] at h1
theorem of_k {a : List Int} (ha : L5 a) : ∃ n, veillaw01_of 300 a = some n ∧ CF n ∧ kf n = kv a := by
  obtain ⟨n, h1, h2, h3⟩ := lawof_spec ha
  exact ⟨n, h1, h2, kf_of h3⟩
theorem kf_zero {a : List Int} (ha : CF a) : a = [0, 0, 0, 0, 0, 0, 0, 0, 0, 0] ↔ kf a = 0 :=
  ⟨fun h => by rw [h]; rfl, fun h => cf_k ha zero_cf (by rw [h]; rfl)⟩

theorem kpow1 (a : K) : a ^ 1 = a := by grind

theorem rsq_loop {a h0 : List Int} {b : Int} {n : Nat} (hb : ibin .quo .i64 b 2 = (n : Int)) (hn : n < 1000) : (k : Nat) → (i : Nat) → i + k = n → (fuel : Nat) → k < fuel → (r : List Int) → CF r →
    ∃ t, loopF (veilref01_F_ones_l0 300) fuel ((b, (), (), (), (), (i : Int)), (a, (), h0, r)) = some (.inl ((b, (), (), (), ()), (a, (), h0, t))) ∧ CF t ∧ kf t = kf r ^ (2 ^ k)
  | 0, i, hi, fuel + 1, _, r, cr => by
    refine ⟨r, ?_, cr, by rw [Nat.pow_zero]; grind⟩
    have g : icmp .lss (i : Int) (n : Int) = false := by simp [icmp]; omega
    rw [loopF_succ]
    simp only [veilref01_F_ones_l0, hb, g, cond_false, mo]
  | k + 1, i, hi, fuel + 1, hf, r, cr => by
    obtain ⟨t, h1, ct, h2⟩ := rmul_k cr cr
    obtain ⟨u, h3, cu, h4⟩ := rsq_loop (a := a) (h0 := h0) hb hn k (i + 1) (by omega) fuel (by omega) t ct
    have g : icmp .lss (i : Int) (n : Int) = true := by simp [icmp]; omega
    refine ⟨u, ?_, cu, ?_⟩
    · rw [loopF_succ]
      simp only [veilref01_F_ones_l0, hb, g, cond_true, h1, mo, i_inc (show i < 1000000 by omega)]
      exact h3
    · have e : kf t = kf r ^ 2 := by rw [h2]; grind
      rw [h4, e, ← K.pow_mul, Nat.pow_succ, Nat.mul_comm]

theorem rones_go {a : List Int} (ha : CF a) : (m : Nat) → (n : Nat) → 1 ≤ n → n ≤ m → n < 290 → ∃ r E, veilref01_F_ones_go 300 m a (n : Int) = some r ∧ CF r ∧ E + 1 = 2 ^ n ∧ kf r = kf a ^ E
  | 0, n, h1, h2, _ => by omega
  | m + 1, n, h1, h2, h3 => by
    show ∃ r E, veilref01_F_ones_step (veilref01_F_ones_go 300 m) 300 a (n : Int) = some r ∧ _
    unfold veilref01_F_ones_step
    by_cases hn : n = 1
    · subst hn
      exact ⟨a, 1, rfl, ha, rfl, by grind⟩
    · have g1 : icmp .eql (n : Int) 1 = false := by simp [icmp]; omega
      have g2 : ibin .quo .i64 (n : Int) 2 = ((n / 2 : Nat) : Int) := i_quo 2 (by omega)
      have g3 : ibin .rem .i64 (n : Int) 2 = ((n % 2 : Nat) : Int) := i_rem 2
      obtain ⟨r1, E, k1, c1, k2, k3⟩ := rones_go ha m (n / 2) (by omega) (by omega) (by omega)
      obtain ⟨t, k4, ct, k5⟩ := rsq_loop (a := a) (h0 := r1) g2 (by omega) (n / 2) 0 (by omega) 300 (by omega) r1 c1
      obtain ⟨u, k6, cu, k7⟩ := rmul_k ct c1
      have hu : kf u = kf a ^ (E * (E + 1) + E) := by rw [k7, k5, k3, ← K.pow_mul, ← K.pow_add, k2]
      have hE : E * (E + 1) + E + 1 = 2 ^ (n / 2) * 2 ^ (n / 2) := by rw [← k2]; grind
      have k4' : loopF (veilref01_F_ones_l0 300) 300 (((n : Int), (), (), (), (), 0), (a, (), r1, r1)) = some (.inl (((n : Int), (), (), (), ()), (a, (), r1, t))) := k4
      simp only [g1, cond_false, g2, k1, mo, k4', k6, g3]
      rcases Nat.mod_two_eq_zero_or_one n with hz | hz
      · have c : icmp .eql (((n % 2 : Nat)) : Int) 1 = false := by rw [hz]; decide
        simp only [c, cond_false]
        refine ⟨u, _, rfl, cu, ?_, hu⟩
        rw [hE, ← Nat.pow_add]; exact congrArg (fun z => 2 ^ z) (show n / 2 + n / 2 = n by omega)
      · have c : icmp .eql (((n % 2 : Nat)) : Int) 1 = true := by rw [hz]; decide
        obtain ⟨v, k8, cv, k9⟩ := rmul_k cu cu
        obtain ⟨w, l1, cw, l2⟩ := rmul_k cv ha
        simp only [c, cond_true, k8, l1]
        refine ⟨w, (E * (E + 1) + E) + (E * (E + 1) + E) + 1, rfl, cw, ?_, ?_⟩
        · have e : (2 : Nat) ^ n = 2 * (2 ^ (n / 2) * 2 ^ (n / 2)) := by
            rw [← Nat.pow_add, ← Nat.pow_succ']
            exact congrArg (fun z => 2 ^ z) (show n = n / 2 + n / 2 + 1 by omega)
          rw [e, ← hE]; omega
        · rw [l2, k9, hu, K.pow_add _ _ 1, K.pow_add _ (E * (E + 1) + E), kpow1]

theorem rinvert_k {a : List Int} (ha : CF a) : ∃ r, veilref01_F_Invert 300 a = some r ∧ CF r ∧ kf r = kf a ^ eInv := by
  obtain ⟨r1, E, h1, c1, hE, e1⟩ := rones_go ha 300 250 (by decide) (by decide) (by decide)
  obtain ⟨r2, h2, c2, e2⟩ := rmul_k c1 c1
  obtain ⟨r3, h3, c3, e3⟩ := rmul_k c2 c2
  obtain ⟨r4, h4, c4, e4⟩ := rmul_k c3 c3
  obtain ⟨r5, h5, c5, e5⟩ := rmul_k c4 c4
  obtain ⟨r6, h6, c6, e6⟩ := rmul_k c5 c5
  obtain ⟨r7, h7, c7, e7⟩ := rmul_k ha ha
  obtain ⟨r8, h8, c8, e8⟩ := rmul_k c7 c7
  obtain ⟨r9, h9, c9, e9⟩ := rmul_k c8 c7
  obtain ⟨r10, h10, c10, e10⟩ := rmul_k c9 c7
  obtain ⟨r11, h11, c11, e11⟩ := rmul_k c6 c10
  obtain ⟨r12, h12, c12, e12⟩ := rmul_k c11 c7
  obtain ⟨r13, h13, c13, e13⟩ := rmul_k c12 ha
  have h1' : veilref01_F_ones 300 a 250 = some r1 := h1
  refine ⟨r13, ?_, c13, ?_⟩
  · unfold veilref01_F_Invert
    simp only [h1', h2, h3, h4, h5, h6, h7, h8, h9, h10, h11, h12, h13, mo]
  · have g1 : kf r6 = (kf a ^ E) ^ 32 := by rw [e6, e5, e4, e3, e2, e1]; generalize kf a ^ E = z; grind
    have g2 : kf r13 = kf r6 * kf a ^ 11 := by rw [e13, e12, e11, e10, e9, e8, e7]; grind
    have g3 : eInv = E * 32 + 11 := by
      have : E = 1809251394333065553493296640760748560207343510400633813116524750123642650623 := by
        have : (2 : Nat) ^ 250 = 1809251394333065553493296640760748560207343510400633813116524750123642650624 := by decide
        omega
      subst this
      rfl
    rw [g2, g1, g3, K.pow_add, K.pow_mul]

theorem I_cf : CF veilref01_I := ⟨rfl, by
  intro x hx
  show 0 ≤ x ∧ x < 67108864
  simp only [veilref01_I, List.mem_cons, List.not_mem_nil, or_false] at hx
  rcases hx with rfl | rfl | rfl | rfl | rfl | rfl | rfl | rfl | rfl | rfl <;> decide, by decide⟩
theorem I_k : kf veilref01_I = kI := by unfold kf kI; rfl

theorem rabs_k {a : List Int} (ha : CF a) : CF (veilref01_F_Abs a) ∧ num (veilref01_F_Abs a) % 2 = 0 ∧ kf (veilref01_F_Abs a) ^ 2 = kf a ^ 2 := by
  rw [rabs_spec ha]
  by_cases h : num a % 2 = 1
  · rw [if_pos h]
    obtain ⟨c, e⟩ := rneg_spec ha
    refine ⟨c, ?_, ?_⟩
    · have h0 := ha.2.1.nonneg; have h1 := ha.2.2
      have e2 : (- num a) % pF = pF - num a := by
        simp only [num] at *; rw [show - numW 26 a = (pF - numW 26 a) + pF * (-1) by omega, Int.add_mul_emod_self_left, Int.emod_eq_of_lt (by omega) (by omega)]
      rw [e, e2]
      simp only [pF] at *
      omega
    · have : kf (veilref01_F_Neg a) = - kf a := by rw [kf_of e, K.of_neg]; rfl
      rw [this]; grind
  · rw [if_neg h]
    exact ⟨ha, by omega, rfl⟩

theorem rroot_k {a : List Int} (ha : CF a) (h0 : kf a ≠ 0) :
    ((kf a ^ eQ = 1 ∨ kf a ^ eQ = -1) → ∃ s, veilref01_root 300 a = some (s, true) ∧ CF s ∧ num s % 2 = 0 ∧ kf s ^ 2 = kf a) ∧
    (¬ (kf a ^ eQ = 1 ∨ kf a ^ eQ = -1) → veilref01_root 300 a = some ([0, 0, 0, 0, 0, 0, 0, 0, 0, 0], false)) := by
  obtain ⟨r1, E, h1, c1, hE, e1⟩ := rones_go ha 300 251 (by decide) (by decide) (by decide)
  obtain ⟨r2, h2, c2, e2⟩ := rmul_k c1 c1
  obtain ⟨r3, h3, c3, e3⟩ := rmul_k c2 c2
  obtain ⟨r4, h4, c4, e4⟩ := rmul_k c2 I_cf
  obtain ⟨r5, h5, c5, e5⟩ := rmul_k c4 c4
  obtain ⟨r6, h6, c6, e6⟩ := rmul_k c4 I_cf
  have h1' : veilref01_F_ones 300 a 251 = some r1 := h1
  have g1 : kf r3 = kf a ^ eQ * kf a := by
    have : eQ + 1 = E * 4 := by
      have : E = 3618502788666131106986593281521497120414687020801267626233049500247285301247 := by
        have : (2 : Nat) ^ 251 = 3618502788666131106986593281521497120414687020801267626233049500247285301248 := by decide
        omega
      subst this
      rfl
    have e : kf r3 = (kf a ^ E) ^ 4 := by rw [e3, e2, e1]; generalize kf a ^ E = z; grind
    rw [e, ← K.pow_mul, ← this, K.pow_add, kpow1]
  have hi := kI_sq
  have g2 : kf r5 = - (kf a ^ eQ * kf a) := by rw [← g1, e5, e4, e3, I_k]; grind
  have one := K.one_ne
  have two := K.two_ne
  have d1 : (r3 = a) ↔ kf a ^ eQ = 1 := by
    constructor
    · intro h
      rw [h] at g1
      have : kf a * (kf a ^ eQ - 1) = 0 := by generalize kf a ^ eQ = w at *; grind
      rcases K.mul_zero' this with h | h
      · exact absurd h h0
      · generalize kf a ^ eQ = w at *; grind
    · intro h; exact cf_k c3 ha (by rw [g1, h]; grind)
  have d2 : (r5 = a) ↔ kf a ^ eQ = -1 := by
    constructor
    · intro h
      rw [h] at g2
      have : kf a * (kf a ^ eQ + 1) = 0 := by generalize kf a ^ eQ = w at *; grind
      rcases K.mul_zero' this with h | h
      · exact absurd h h0
      · generalize kf a ^ eQ = w at *; grind
    · intro h; exact cf_k c5 ha (by rw [g2, h]; grind)
  have a2 := rabs_k c2
  have a4 := rabs_k c4
  have q2 : kf r2 ^ 2 = kf r3 := by rw [e3]; grind
  have q4 : kf r4 ^ 2 = kf r5 := by rw [e5]; grind
  unfold veilref01_root
  simp only [h1', h2, h3, mo]
  by_cases hA : r3 = a
  · have hw := d1.1 hA
    refine ⟨fun _ => ⟨_, by rw [decide_eq_true hA, cond_true], a2.1, a2.2.1, by rw [a2.2.2, q2, hA]⟩, fun h => absurd (.inl hw) h⟩
  · simp only [decide_eq_false hA, cond_false, h4, h5, mo]
    by_cases hB : r5 = a
    · have hw := d2.1 hB
      refine ⟨fun _ => ⟨_, by rw [decide_eq_true hB, cond_true], a4.1, a4.2.1, by rw [a4.2.2, q4, hB]⟩, fun h => absurd (.inr hw) h⟩
    · refine ⟨fun h => ?_, fun _ => ?_⟩
      · rcases h with h | h
        · exact absurd (d1.2 h) hA
        · exact absurd (d2.2 h) hB
      · simp only [decide_eq_false hB, cond_false, h6, mo]

/-- What the document's SqrtRatio answers. -/
theorem rsqrt_k {a b : List Int} (ha : CF a) (hb : CF b) : ∃ s ok, veilref01_SqrtRatio 300 a b = some (s, ok) ∧ CF s ∧ num s % 2 = 0 ∧
    (kf a = 0 → ok = true ∧ kf s = 0) ∧ (kf a ≠ 0 → kf b = 0 → ok = false ∧ kf s = 0) ∧
    (kf a ≠ 0 → kf b ≠ 0 → (ok = true ↔ (kf a * kf b ^ 7) ^ eQ = 1 ∨ (kf a * kf b ^ 7) ^ eQ = -1) ∧ (ok = true → kf b * kf s ^ 2 = kf a) ∧ (ok = false → kf b * kf s ^ 2 = kf a * kI)) := by
  unfold veilref01_SqrtRatio
  by_cases hz : a = [0, 0, 0, 0, 0, 0, 0, 0, 0, 0]
  · have hk := (kf_zero ha).1 hz
    rw [decide_eq_true hz, cond_true]
    exact ⟨_, _, rfl, zero_cf, rfl, fun _ => ⟨rfl, rfl⟩, fun h => absurd hk h, fun h => absurd hk h⟩
  · have hk : kf a ≠ 0 := fun h => hz ((kf_zero ha).2 h)
    rw [decide_eq_false hz, cond_false]
    by_cases hy : b = [0, 0, 0, 0, 0, 0, 0, 0, 0, 0]
    · have hl := (kf_zero hb).1 hy
      rw [decide_eq_true hy, cond_true]
      exact ⟨_, _, rfl, zero_cf, rfl, fun h => absurd h hk, fun _ _ => ⟨rfl, rfl⟩, fun _ h => absurd hl h⟩
    · have hl : kf b ≠ 0 := fun h => hy ((kf_zero hb).2 h)
      rw [decide_eq_false hy, cond_false]
      obtain ⟨r1, h1, c1, e1⟩ := rinvert_k hb
      obtain ⟨r2, h2, c2, e2⟩ := rmul_k ha c1
      obtain ⟨r4, h4, c4, e4⟩ := rmul_k c2 I_cf
      have inv : kf r1 * kf b = 1 := by
        rw [e1]
        have := K.fermat hl
        rw [show eP1 = eInv + 1 from rfl, K.pow_add] at this
        rw [kpow1] at this
        exact this
      have hx : kf r2 * kf b = kf a := by
        rw [e2]
        have : kf a * kf r1 * kf b = kf a * (kf r1 * kf b) := by grind
        rw [this, inv]; grind
      have x0 : kf r2 ≠ 0 := fun h => hk (by rw [← hx, h]; grind)
      have hi := kI_sq
      have i0 : kI ≠ 0 := fun h => by rw [h] at hi; exact K.one_ne (by grind)
      have y0 : kf r4 ≠ 0 := by rw [e4, I_k]; exact K.mul_ne x0 i0
      have hw : (kf a * kf b ^ 7) ^ eQ = kf r2 ^ eQ := by
        have e : kf a * kf b ^ 7 = kf r2 * (kf b ^ 2) ^ 4 := by rw [← hx]; grind
        rw [e, K.mul_pow, ← K.pow_mul, Nat.mul_comm 4, K.pow_mul]
        have h4 : ((kf b ^ 2) ^ eQ) ^ 4 = 1 := by
          rcases K.half hl with h | h <;> rw [h] <;> grind
        rw [h4]; grind
      have hy4 : kf r4 ^ eQ = kf r2 ^ eQ * -kI := by rw [e4, I_k, K.mul_pow, kI_eQ]
      obtain ⟨p1, p2⟩ := rroot_k c2 x0
      obtain ⟨p3, p4⟩ := rroot_k c4 y0
      have one := K.one_ne
      have two := K.two_ne
      simp only [h1, h2, mo]
      rw [hw]
      by_cases hq : kf r2 ^ eQ = 1 ∨ kf r2 ^ eQ = -1
      · obtain ⟨s, k1, k2, k3, k4⟩ := p1 hq
        simp only [k1, cond_true]
        refine ⟨s, true, rfl, k2, k3, fun h => absurd h hk, fun _ h => absurd h hl, fun _ _ => ⟨⟨fun _ => hq, fun _ => rfl⟩, fun _ => ?_, fun h => by cases h⟩⟩
        rw [k4, ← hx]; grind
      · have hq2 : kf r4 ^ eQ = 1 ∨ kf r4 ^ eQ = -1 := by
          rw [hy4]
          rcases K.quarter x0 with h | h | h | h
          · exact absurd (.inl h) hq
          · exact absurd (.inr h) hq
          · left; rw [h]; grind
          · right; rw [h]; grind
        obtain ⟨s, k1, k2, k3, k4⟩ := p3 hq2
        simp only [p2 hq, cond_false, h4, mo, k1]
        refine ⟨s, false, rfl, k2, k3, fun h => absurd h hk, fun _ h => absurd h hl, fun _ _ => ⟨⟨(fun h => by cases h), fun h => absurd h hq⟩, (fun h => by cases h), fun _ => ?_⟩⟩
        rw [k4, e4, I_k, ← hx]; grind

end Go.Vx.Ref
