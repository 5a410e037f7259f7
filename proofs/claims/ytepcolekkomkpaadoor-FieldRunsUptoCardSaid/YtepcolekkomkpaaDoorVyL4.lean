/- Numbers, part L4: the reference's field: what limbs stand for, least limbs, bytes, sums, products. -/
import Derived.Test.YtepcolekkomkpaaDoorVyL3
set_option autoImplicit false
set_option linter.unusedSimpArgs false
namespace Go.Vx.Ref
open Go

theorem u_bit {y : Int} (h : U y) (k : Nat) (hk : k ≤ 64) : ibin .and .u64 (ibin .shr .u64 y (k : Int)) 1 = y / 2 ^ k % 2 := by
  rw [u_shr k hk]
  have hp : (0 : Int) < 2 ^ k := Int.pow_pos (by decide)
  have h0 : 0 ≤ y / 2 ^ k := Int.ediv_nonneg h.1 (Int.le_of_lt hp)
  have h1 : y / 2 ^ k ≤ y := Int.ediv_le_self _ h.1
  have h2 := h.2
  generalize y / 2 ^ k = z at *
  rw [u_and h0 (by omega) (by decide) (by decide), show (1 : Int).toNat = 2 ^ 1 - 1 from rfl, Nat.and_two_pow_sub_one_eq_mod]
  omega
theorem s_bit {y : Int} (k : Nat) (hk : k ≤ 64) : ibin .and .i64 (ibin .shr .i64 y (k : Int)) 1 = y / 2 ^ k % 2 := by
  rw [i_shr k hk, i_and1]
theorem eql_one (x : Int) (h : x = 0 ∨ x = 1) : icmp .eql x 1 = decide (x = 1) := by
  rcases h with rfl | rfl <;> rfl
theorem bit01 (x : Int) : x % 2 = 0 ∨ x % 2 = 1 := by omega
theorem dec_range {n : Nat} {i : Nat} (h : i < n) : decide (0 ≤ (i : Int) ∧ (i : Int) < ((n : Nat) : Int)) = true := decide_eq_true ⟨by omega, by omega⟩
theorem dec_nonneg (i : Nat) : decide (0 ≤ (i : Int)) = true := decide_eq_true (by omega)
theorem i_inc {i : Nat} (h : i < 1000000) : ibin .add .i64 (i : Int) 1 = ((i + 1 : Nat) : Int) := by rw [i_add (by omega) (by omega)]; omega

/-- Columns, each at most M. -/
def Cols (M : Int) (d : List Int) : Prop := d.length = 20 ∧ ∀ x ∈ d, 0 ≤ x ∧ x < M + 1

theorem of_step (N : Nat) {a d : List Int} (ha : L5 a) {M : Int} (hM : 0 ≤ M ∧ M < 1152921504606846976) (hd : Cols M d) {i b : Nat} (hi : i < 5) (hb : b < 64) :
    ∃ d', veilref01_Of_l2 N (((), (), (), (i : Int), (b : Int)), (a, (), d)) = some (.inl (((), (), (), (i : Int), ((b + 1 : Nat) : Int)), (a, (), d'))) ∧ Cols (M + 33554432) d' ∧ num d' = num d + (List.getD a i 0 / 2 ^ b % 2) * 2 ^ (51 * i + b) := by
  have hy : U (List.getD a i 0) := by
    have := getD_range (lo := 0) (hi := 18446744073709551616) (by decide) a (fun x hx => by have := ha.2 x hx; omega) i
    exact this
  have x1 : ibin .add .i64 (ibin .mul .i64 51 (i : Int)) (b : Int) = ((51 * i + b : Nat) : Int) := by
    rw [i_mul (by omega) (by omega), i_add (by omega) (by omega)]; omega
  have x2 : ibin .quo .i64 ((51 * i + b : Nat) : Int) 26 = (((51 * i + b) / 26 : Nat) : Int) := i_quo 26 (by omega)
  have x4 : ibin .rem .i64 ((51 * i + b : Nat) : Int) 26 = (((51 * i + b) % 26 : Nat) : Int) := i_rem 26
  have hlt : (51 * i + b) / 26 < 20 := by omega
  have hr : (51 * i + b) % 26 < 26 := Nat.mod_lt _ (by decide)
  have hx : 26 * ((51 * i + b) / 26) + (51 * i + b) % 26 = 51 * i + b := Nat.div_add_mod _ _
  have hc : icmp .lss (b : Int) 64 = true := decide_eq_true (by omega)
  unfold veilref01_Of_l2
  simp only [hc, cond_true, dec_range hi, dec_nonneg, Int.toNat_natCast, u_bit hy b (by omega), x1, x2, x4, dec_range hlt, i_inc (show b < 1000000 by omega), i_shl (show (51 * i + b) % 26 < 62 by omega)]
  rw [eql_one _ (bit01 _)]
  rcases bit01 (List.getD a i 0 / 2 ^ b) with h | h
  · rw [h]
    refine ⟨d, rfl, ⟨hd.1, fun x hx => by have := hd.2 x hx; omega⟩, by omega⟩
  · rw [h]
    have h3 := getD_range (lo := 0) (hi := M + 1) ⟨Int.le_refl 0, by omega⟩ d hd.2 ((51 * i + b) / 26)
    have h4 : (2 : Int) ^ ((51 * i + b) % 26) ≤ 2 ^ 25 := by
      have : (2 : Nat) ^ ((51 * i + b) % 26) ≤ 2 ^ 25 := Nat.pow_le_pow_right (by decide) (by omega)
      exact_mod_cast this
    have h5 : (0 : Int) < 2 ^ ((51 * i + b) % 26) := Int.pow_pos (by decide)
    rw [show (2 : Int) ^ 25 = 33554432 from rfl] at h4
    have e2 : ibin .add .i64 (List.getD d ((51 * i + b) / 26) 0) (2 ^ ((51 * i + b) % 26)) = List.getD d ((51 * i + b) / 26) 0 + 2 ^ ((51 * i + b) % 26) := i_add (by omega) (by omega)
    rw [e2]
    refine ⟨_, rfl, ⟨by rw [List.length_set]; exact hd.1, set_range (by omega) d (fun x hx => by have := hd.2 x hx; omega) _⟩, ?_⟩
    rw [num, numW_set _ d _ (by rw [hd.1]; exact hlt), ← Int.pow_add, Nat.add_comm, hx, Int.one_mul]

theorem half_bit (y : Int) (b : Nat) (n : Nat) : y / 2 ^ b * 2 ^ (n + b) = y / 2 ^ b % 2 * 2 ^ (n + b) + y / 2 ^ (b + 1) * 2 ^ (n + (b + 1)) := by
  have e : y / 2 ^ (b + 1) = y / 2 ^ b / 2 := by rw [Int.pow_succ, ← Int.ediv_ediv_of_nonneg (Int.le_of_lt (Int.pow_pos (by decide)))]
  rw [e, show n + (b + 1) = n + b + 1 by omega, Int.pow_succ]
  generalize y / 2 ^ b = z
  generalize (2 : Int) ^ (n + b) = t
  have := Int.emod_add_mul_ediv z 2
  generalize z % 2 = u at *
  generalize z / 2 = v at *
  subst this
  rw [Int.add_mul, Int.mul_comm t, ← Int.mul_assoc, Int.mul_comm v]

theorem of_inner (N : Nat) {a : List Int} (ha : L5 a) {i : Nat} (hi : i < 5) : (k : Nat) → (b : Nat) → b + k = 64 → (fuel : Nat) → k < fuel → (M : Int) → 0 ≤ M → M + 33554432 * k < 1152921504606846976 → (d : List Int) → Cols M d →
    ∃ d', loopF (veilref01_Of_l2 N) fuel (((), (), (), (i : Int), (b : Int)), (a, (), d)) = some (.inl (((), (), (), (i : Int)), (a, (), d'))) ∧ Cols (M + 33554432 * k) d' ∧ num d' = num d + List.getD a i 0 / 2 ^ b * 2 ^ (51 * i + b)
  | 0, b, hb, fuel + 1, _, M, _, _, d, hd => by
    obtain rfl : b = 64 := by omega
    have hy := getD_range (lo := 0) (hi := 18446744073709551616) (by decide) a (fun x hx => by have := ha.2 x hx; omega) i
    refine ⟨d, rfl, by simpa using hd, ?_⟩
    rw [Int.ediv_eq_zero_of_lt hy.1 (show List.getD a i 0 < 2 ^ 64 from hy.2)]; omega
  | k + 1, b, hb, fuel + 1, hf, M, h0, hM, d, hd => by
    obtain ⟨d1, h1, h2, h3⟩ := of_step N ha (M := M) ⟨h0, by omega⟩ hd hi (show b < 64 by omega)
    obtain ⟨d2, g1, g2, g3⟩ := of_inner N ha hi k (b + 1) (by omega) fuel (by omega) (M + 33554432) (by omega) (by omega) d1 h2
    refine ⟨d2, ?_, ?_, ?_⟩
    · rw [loopF_succ, h1]; exact g1
    · rw [show M + 33554432 * ((k + 1 : Nat) : Int) = M + 33554432 + 33554432 * (k : Int) by omega]; exact g2
    · have hh := half_bit (List.getD a i 0) b (51 * i)
      rw [g3, h3, hh]; omega

theorem of_outer (N : Nat) (hN : 70 < N) {a : List Int} (ha : L5 a) {i : Nat} (hi : i < 5) (fuel : Nat) (M : Int) (h0 : 0 ≤ M) (hM : M < 576460752303423488) (d : List Int) (hd : Cols M d) :
    ∃ d', loopF (veilref01_Of_l0 N) (fuel + 1) (((), (), (), (i : Int)), (a, (), d)) = loopF (veilref01_Of_l0 N) fuel (((), (), (), ((i + 1 : Nat) : Int)), (a, (), d')) ∧ Cols (M + 2147483648) d' ∧ num d' = num d + List.getD a i 0 * 2 ^ (51 * i) := by
  obtain ⟨d', h1, h2, h3⟩ := of_inner N ha hi 64 0 rfl N (by omega) M h0 (by omega) d hd
  refine ⟨d', ?_, h2, ?_⟩
  · have e : veilref01_Of_l0 N (((), (), (), (i : Int)), (a, (), d)) = some (.inl (((), (), (), ((i + 1 : Nat) : Int)), (a, (), d'))) := by
      unfold veilref01_Of_l0
      have hc : icmp .lss (i : Int) 5 = true := decide_eq_true (by omega)
      simp only [hc, cond_true]
      rw [show ((0 : Int)) = ((0 : Nat) : Int) from rfl, h1]
      simp only [mo, i_inc (show i < 1000000 by omega)]
    rw [loopF_succ, e]; rfl
  · rw [h3, Int.pow_zero, Int.ediv_one, Nat.add_zero]

theorem of_spec {a : List Int} (ha : L5 a) : ∃ n, veilref01_Of 300 a = some n ∧ CF n ∧ num n = val a % pF := by
  have z0 : Cols 0 [0, 0, 0, 0, 0, 0, 0, 0, 0, 0, 0, 0, 0, 0, 0, 0, 0, 0, 0, 0] := ⟨rfl, by decide⟩
  obtain ⟨d1, a1, b1, c1⟩ := of_outer 300 (by decide) ha (i := 0) (by decide) 299 0 (by decide) (by decide) _ z0
  obtain ⟨d2, a2, b2, c2⟩ := of_outer 300 (by decide) ha (i := 1) (by decide) 298 _ (by decide) (by decide) _ b1
  obtain ⟨d3, a3, b3, c3⟩ := of_outer 300 (by decide) ha (i := 2) (by decide) 297 _ (by decide) (by decide) _ b2
  obtain ⟨d4, a4, b4, c4⟩ := of_outer 300 (by decide) ha (i := 3) (by decide) 296 _ (by decide) (by decide) _ b3
  obtain ⟨d5, a5, b5, c5⟩ := of_outer 300 (by decide) ha (i := 4) (by decide) 295 _ (by decide) (by decide) _ b4
  have e : loopF (veilref01_Of_l0 300) 300 (((), (), (), 0), (a, (), [0, 0, 0, 0, 0, 0, 0, 0, 0, 0, 0, 0, 0, 0, 0, 0, 0, 0, 0, 0])) = some (.inl (((), ()), ((), d5))) :=
    a1.trans (a2.trans (a3.trans (a4.trans (a5.trans rfl))))
  have hv : num d5 = val a := by
    obtain ⟨y0, y1, y2, y3, y4, rfl, _⟩ := ha.get
    have n0 : num [0, 0, 0, 0, 0, 0, 0, 0, 0, 0, 0, 0, 0, 0, 0, 0, 0, 0, 0, 0] = 0 := by decide
    rw [c5, c4, c3, c2, c1, n0]
    simp only [val, List.getD_cons_zero, List.getD_cons_succ]
    omega
  have hb : val a < 1852673427797059126777135760139006525652319754650249024631321344126610074238976 * 18446744073709551616 := by
    obtain ⟨y0, y1, y2, y3, y4, rfl, u0, u1, u2, u3, u4⟩ := ha.get
    simp only [val, U] at *
    omega
  obtain ⟨r, l1, l2, l3⟩ := rleast_spec b5.1 (fun x hx => by have := b5.2 x hx; omega) (by rw [hv]; omega)
  refine ⟨r, ?_, l2, by rw [l3, hv]⟩
  unfold veilref01_Of
  rw [e]
  simp only [mo, l1]


theorem limbs_step (N : Nat) {a l : List Int} (ha : CF a) {n : Nat} (hn : n < 255) (hd : Dg 51 l) (hl : l.length = 5) (hm : numW 51 l = num a % 2 ^ n) :
    ∃ l', veilref01_F_Limbs_l0 N (((), (), (), (n : Int)), (a, (), l)) = some (.inl (((), (), (), ((n + 1 : Nat) : Int)), (a, (), l'))) ∧ Dg 51 l' ∧ l'.length = 5 ∧ numW 51 l' = num a % 2 ^ (n + 1) := by
  have x1 : ibin .quo .i64 (n : Int) 26 = ((n / 26 : Nat) : Int) := i_quo 26 (by omega)
  have x2 : ibin .rem .i64 (n : Int) 26 = ((n % 26 : Nat) : Int) := i_rem 26
  have x3 : ibin .quo .i64 (n : Int) 51 = ((n / 51 : Nat) : Int) := i_quo 51 (by omega)
  have x4 : ibin .rem .i64 (n : Int) 51 = ((n % 51 : Nat) : Int) := i_rem 51
  have r1 : n % 26 < 26 := Nat.mod_lt _ (by decide)
  have r2 : n % 51 < 51 := Nat.mod_lt _ (by decide)
  have q1 : n / 26 < 10 := by omega
  have q2 : n / 51 < 5 := by omega
  have hc : icmp .lss (n : Int) 255 = true := by
    have h : (n : Int) < 255 := by omega
    simpa [icmp] using h
  have hbit : List.getD a (n / 26) 0 / 2 ^ (n % 26) % 2 = num a / 2 ^ n % 2 := by
    rw [digit_bit (w := 26) _ _ ha.2.1 _ r1, Nat.div_add_mod]
  have hs := mod_step (num a) n
  have hlt : num a % 2 ^ n < 2 ^ n := Int.emod_lt_of_pos _ (Int.pow_pos (by decide))
  obtain ⟨p0, p1, p2⟩ := put_bit (w := 51) (n := n) (k := n / 51) (r := n % 51) hd (Nat.div_add_mod _ _).symm r2 (by rw [hl]; exact q2) (by rw [hm]; exact hlt)
  have hw : (2 : Int) * 2 ^ (n % 51) ≤ 2 ^ 51 := by
    have : (2 : Nat) ^ (n % 51 + 1) ≤ 2 ^ 51 := Nat.pow_le_pow_right (by decide) (by omega)
    rw [Nat.pow_succ, Nat.mul_comm] at this
    exact_mod_cast this
  have hp : (0 : Int) < 2 ^ (n % 51) := Int.pow_pos (by decide)
  rw [show (2 : Int) ^ 51 = 2251799813685248 from rfl] at hw
  have o1 : ibin .shl .u64 1 ((n % 51 : Nat) : Int) = 2 ^ (n % 51) := by
    show IntKind.wrap .u64 (1 * 2 ^ (min ((n % 51 : Nat) : Int).toNat 64)) = _
    rw [Int.toNat_natCast, Nat.min_eq_left (by omega), Int.one_mul, wrap64, Int.emod_eq_of_lt (by omega) (by omega)]
  have o2 : ibin .add .u64 (List.getD l (n / 51) 0) (2 ^ (n % 51)) = List.getD l (n / 51) 0 + 2 ^ (n % 51) := by
    show IntKind.wrap .u64 _ = _
    rw [wrap64, Int.emod_eq_of_lt (by omega) (by omega)]
  unfold veilref01_F_Limbs_l0
  simp only [hc, cond_true, x1, x2, x3, x4, dec_range q1, dec_range q2, dec_nonneg, Int.toNat_natCast, s_bit (n % 26) (by omega), i_inc (show n < 1000000 by omega), o1, o2, hbit]
  rw [eql_one _ (bit01 _)]
  rcases bit01 (num a / 2 ^ n) with h | h
  · rw [h] at hs ⊢
    exact ⟨l, rfl, hd, hl, by rw [hm, hs]; omega⟩
  · rw [h] at hs ⊢
    exact ⟨_, rfl, p1, by rw [List.length_set]; exact hl, by rw [p2, hm, hs]; omega⟩

theorem limbs_loop (N : Nat) {a : List Int} (ha : CF a) : (k : Nat) → (n : Nat) → n + k = 255 → (fuel : Nat) → k < fuel → (l : List Int) → Dg 51 l → l.length = 5 → numW 51 l = num a % 2 ^ n →
    ∃ l', loopF (veilref01_F_Limbs_l0 N) fuel (((), (), (), (n : Int)), (a, (), l)) = some (.inl (((), ()), ((), l'))) ∧ Dg 51 l' ∧ l'.length = 5 ∧ numW 51 l' = num a % 2 ^ 255
  | 0, n, hn, fuel + 1, _, l, hd, hl, hm => by
    obtain rfl : n = 255 := by omega
    exact ⟨l, rfl, hd, hl, hm⟩
  | k + 1, n, hn, fuel + 1, hf, l, hd, hl, hm => by
    obtain ⟨l1, h1, h2, h3, h4⟩ := limbs_step N ha (show n < 255 by omega) hd hl hm
    obtain ⟨l2, g1, g2⟩ := limbs_loop N ha k (n + 1) (by omega) fuel (by omega) l1 h2 h3 h4
    exact ⟨l2, by rw [loopF_succ, h1]; exact g1, g2⟩

theorem limbs_spec {a : List Int} (ha : CF a) : ∃ l, veilref01_F_Limbs 300 a = some l ∧ Dg 51 l ∧ l.length = 5 ∧ numW 51 l = num a := by
  obtain ⟨l, h1, h2, h3, h4⟩ := limbs_loop 300 ha 255 0 rfl 300 (by decide) [0, 0, 0, 0, 0] (by intro x hx; simp only [List.mem_cons, List.not_mem_nil, or_false, or_self] at hx; subst hx; decide) rfl (by
    rw [Int.pow_zero, Int.emod_one]; decide)
  refine ⟨l, ?_, h2, h3, ?_⟩
  · unfold veilref01_F_Limbs
    rw [show (0 : Int) = ((0 : Nat) : Int) from rfl] at *
    rw [h1]
    rfl
  · rw [h4]
    have := ha.2.2
    have h0 := ha.2.1.nonneg
    refine Int.emod_eq_of_lt h0 ?_
    rw [show (2 : Int) ^ 255 = T255 by decide]
    simp only [pF, T255] at *
    omega

theorem limbs_can {a : List Int} (ha : CF a) : ∃ l, veilref01_F_Limbs 300 a = some l ∧ Can l ∧ val l = num a := by
  obtain ⟨l, h1, h2, h3, h4⟩ := limbs_spec ha
  match l, h3 with
  | [y0, y1, y2, y3, y4], _ =>
    have hv : val [y0, y1, y2, y3, y4] = num a := by
      rw [← h4]; simp only [val, numW]; omega
    exact ⟨_, h1, ⟨y0, y1, y2, y3, y4, rfl, h2 y0 (by simp), h2 y1 (by simp), h2 y2 (by simp), h2 y3 (by simp), h2 y4 (by simp), by rw [hv]; exact ha.2.2⟩, hv⟩

/-- Do the limbs stand for the number, and are they the least? -/
theorem is_spec {r n : List Int} (hr : Can r) (hn : CF n) (h : val r = num n) : veillaw01_is 300 r n = some true := by
  obtain ⟨l, h1, h2, h3⟩ := limbs_can hn
  unfold veillaw01_is
  rw [h1]
  have : r = l := hr.inj h2 (by rw [h, h3])
  subst this
  simp [mo]
theorem lawof_spec {a : List Int} (ha : L5 a) : ∃ n, veillaw01_of 300 a = some n ∧ CF n ∧ num n = val a % pF := by
  obtain ⟨n, h1, h2⟩ := of_spec ha
  exact ⟨n, by unfold veillaw01_of; rw [h1]; rfl, h2⟩

theorem CF.dig {a : List Int} (h : CF a) : ∀ x ∈ a, 0 ≤ x ∧ x < 67108864 := h.2.1

theorem radd_spec {a b : List Int} (ha : CF a) (hb : CF b) : ∃ r, veilref01_F_Add 300 a b = some r ∧ CF r ∧ num r = (num a + num b) % pF := by
  have a2 := ha.2.2; have b2 := hb.2.2
  obtain ⟨x0, x1, x2, x3, x4, x5, x6, x7, x8, x9, rfl⟩ := ten ha.1
  obtain ⟨y0, y1, y2, y3, y4, y5, y6, y7, y8, y9, rfl⟩ := ten hb.1
  have D : ∀ x y : Int, 0 ≤ x ∧ x < 67108864 → 0 ≤ y ∧ y < 67108864 → ibin .add .i64 x y = x + y := fun x y hx hy => i_add (by omega) (by omega)
  have g0 := ha.dig x0 (by simp)
  have k0 := hb.dig y0 (by simp)
  have g1 := ha.dig x1 (by simp)
  have k1 := hb.dig y1 (by simp)
  have g2 := ha.dig x2 (by simp)
  have k2 := hb.dig y2 (by simp)
  have g3 := ha.dig x3 (by simp)
  have k3 := hb.dig y3 (by simp)
  have g4 := ha.dig x4 (by simp)
  have k4 := hb.dig y4 (by simp)
  have g5 := ha.dig x5 (by simp)
  have k5 := hb.dig y5 (by simp)
  have g6 := ha.dig x6 (by simp)
  have k6 := hb.dig y6 (by simp)
  have g7 := ha.dig x7 (by simp)
  have k7 := hb.dig y7 (by simp)
  have g8 := ha.dig x8 (by simp)
  have k8 := hb.dig y8 (by simp)
  have g9 := ha.dig x9 (by simp)
  have k9 := hb.dig y9 (by simp)
  have e : veilref01_F_Add 300 [x0, x1, x2, x3, x4, x5, x6, x7, x8, x9] [y0, y1, y2, y3, y4, y5, y6, y7, y8, y9] = mo (veilref01_least 300 ([x0 + y0, x1 + y1, x2 + y2, x3 + y3, x4 + y4, x5 + y5, x6 + y6, x7 + y7, x8 + y8, x9 + y9] ++ [0, 0, 0, 0, 0, 0, 0, 0, 0, 0])) none fun r => some r := by
    show mo (veilref01_least 300 [ibin .add .i64 x0 y0, ibin .add .i64 x1 y1, ibin .add .i64 x2 y2, ibin .add .i64 x3 y3, ibin .add .i64 x4 y4, ibin .add .i64 x5 y5, ibin .add .i64 x6 y6, ibin .add .i64 x7 y7, ibin .add .i64 x8 y8, ibin .add .i64 x9 y9, 0, 0, 0, 0, 0, 0, 0, 0, 0, 0]) none (fun r => some r) = _
    rw [D x0 y0, D x1 y1, D x2 y2, D x3 y3, D x4 y4, D x5 y5, D x6 y6, D x7 y7, D x8 y8, D x9 y9]
    · rfl
    all_goals assumption
  have hn : num ([x0 + y0, x1 + y1, x2 + y2, x3 + y3, x4 + y4, x5 + y5, x6 + y6, x7 + y7, x8 + y8, x9 + y9] ++ [0, 0, 0, 0, 0, 0, 0, 0, 0, 0]) = num [x0, x1, x2, x3, x4, x5, x6, x7, x8, x9] + num [y0, y1, y2, y3, y4, y5, y6, y7, y8, y9] := by
    clear ha hb D e a2 b2
    show num [x0 + y0, x1 + y1, x2 + y2, x3 + y3, x4 + y4, x5 + y5, x6 + y6, x7 + y7, x8 + y8, x9 + y9, 0, 0, 0, 0, 0, 0, 0, 0, 0, 0] = _
    simp only [num, numW]; omega
  obtain ⟨r, h1, h2, h3⟩ := rleast_spec (d := [x0 + y0, x1 + y1, x2 + y2, x3 + y3, x4 + y4, x5 + y5, x6 + y6, x7 + y7, x8 + y8, x9 + y9] ++ [0, 0, 0, 0, 0, 0, 0, 0, 0, 0]) rfl (by
    have key : ∀ u v : Int, 0 ≤ u ∧ u < 67108864 → 0 ≤ v ∧ v < 67108864 → 0 ≤ u + v ∧ u + v < 4611686018427387904 := by intro u v hu hv; omega
    intro x hx
    simp only [List.cons_append, List.nil_append, List.mem_cons, List.not_mem_nil, or_false, or_self] at hx
    rcases hx with rfl | rfl | rfl | rfl | rfl | rfl | rfl | rfl | rfl | rfl | rfl
    all_goals first | decide | exact key _ _ (by assumption) (by assumption)) (by rw [hn]; simp only [pF] at *; omega)
  exact ⟨r, by rw [e, h1]; rfl, h2, by rw [h3, hn]⟩

theorem zero_cf : CF [0, 0, 0, 0, 0, 0, 0, 0, 0, 0] := ⟨rfl, by intro x hx; simp only [List.mem_cons, List.not_mem_nil, or_false, or_self] at hx; subst hx; decide, by decide⟩
theorem num_zero : num [0, 0, 0, 0, 0, 0, 0, 0, 0, 0] = 0 := by decide
theorem rone_cf : CF [1, 0, 0, 0, 0, 0, 0, 0, 0, 0] := ⟨rfl, by
  intro x hx
  show 0 ≤ x ∧ x < 67108864
  simp only [List.mem_cons, List.not_mem_nil, or_false, or_self] at hx
  rcases hx with rfl | rfl <;> decide, by decide⟩
theorem num_one : num [1, 0, 0, 0, 0, 0, 0, 0, 0, 0] = 1 := by decide

theorem CF.zero_iff {a : List Int} (ha : CF a) : a = [0, 0, 0, 0, 0, 0, 0, 0, 0, 0] ↔ num a = 0 :=
  ⟨fun h => by rw [h]; exact num_zero, fun h => ha.inj zero_cf (by rw [h, num_zero])⟩

theorem rneg_spec {a : List Int} (ha : CF a) : CF (veilref01_F_Neg a) ∧ num (veilref01_F_Neg a) = (- num a) % pF := by
  unfold veilref01_F_Neg
  by_cases h : a = [0, 0, 0, 0, 0, 0, 0, 0, 0, 0]
  · rw [decide_eq_true h, cond_true]
    exact ⟨ha, by rw [h, num_zero]; rfl⟩
  · rw [decide_eq_false h, cond_false]
    have h0 := ha.2.1.nonneg
    have h1 : num a ≠ 0 := fun e => h (ha.zero_iff.2 e)
    have h2 := ha.2.2
    obtain ⟨m1, m2, m3⟩ := minus_spec (a := refP) (b := a) rfl ha.1 dg_refP ha.2.1 (by rw [num_refP]; omega)
    rw [num_refP] at m3
    simp only [num] at *
    refine ⟨⟨m1, m2, by simp only [num]; rw [m3]; omega⟩, ?_⟩
    rw [m3, show - numW 26 a = (pF - numW 26 a) + pF * (-1) by omega, Int.add_mul_emod_self_left, Int.emod_eq_of_lt (by omega) (by omega)]

theorem rsub_spec {a b : List Int} (ha : CF a) (hb : CF b) : ∃ r, veilref01_F_Sub 300 a b = some r ∧ CF r ∧ num r = (num a - num b) % pF := by
  obtain ⟨n1, n2⟩ := rneg_spec hb
  obtain ⟨r, h1, h2, h3⟩ := radd_spec ha n1
  refine ⟨r, by unfold veilref01_F_Sub; rw [h1]; rfl, h2, ?_⟩
  rw [h3, n2, Int.add_emod_emod, Int.sub_eq_add_neg]

theorem rmul_form (N : Nat) (x0 x1 x2 x3 x4 x5 x6 x7 x8 x9 y0 y1 y2 y3 y4 y5 y6 y7 y8 y9 : Int) : veilref01_F_Mul N [x0, x1, x2, x3, x4, x5, x6, x7, x8, x9] [y0, y1, y2, y3, y4, y5, y6, y7, y8, y9] = mo (veilref01_least N (mul64 [y0, y1, y2, y3, y4, y5, y6, y7, y8, y9] [x0, x1, x2, x3, x4, x5, x6, x7, x8, x9] [0, 0, 0, 0, 0, 0, 0, 0, 0, 0, 0, 0, 0, 0, 0, 0, 0, 0, 0, 0])) none fun r => some r := by kernel_rfl

theorem rmul_spec {a b : List Int} (ha : CF a) (hb : CF b) : ∃ r, veilref01_F_Mul 300 a b = some r ∧ CF r ∧ num r = (num a * num b) % pF := by
  have z : num [0, 0, 0, 0, 0, 0, 0, 0, 0, 0, 0, 0, 0, 0, 0, 0, 0, 0, 0, 0] = 0 := by decide
  obtain ⟨h1, h2, h3⟩ := mulrows_spec hb.2.1 a [0, 0, 0, 0, 0, 0, 0, 0, 0, 0, 0, 0, 0, 0, 0, 0, 0, 0, 0, 0] ha.dig 0 (by decide) (by rw [ha.1]; decide) (by rw [ha.1, hb.1]; decide) (by decide)
  rw [z, Int.zero_add] at h3
  have e : veilref01_F_Mul 300 a b = mo (veilref01_least 300 (mul64 b a [0, 0, 0, 0, 0, 0, 0, 0, 0, 0, 0, 0, 0, 0, 0, 0, 0, 0, 0, 0])) none fun r => some r := by
    obtain ⟨x0, x1, x2, x3, x4, x5, x6, x7, x8, x9, rfl⟩ := ten ha.1
    obtain ⟨y0, y1, y2, y3, y4, y5, y6, y7, y8, y9, rfl⟩ := ten hb.1
    exact rmul_form _ _ _ _ _ _ _ _ _ _ _ _ _ _ _ _ _ _ _ _ _
  have hlt : num a * num b < 1852673427797059126777135760139006525652319754650249024631321344126610074238976 * 1852673427797059126777135760139006525652319754650249024631321344126610074238976 := by
    have a2 := ha.2.2; have b2 := hb.2.2
    have a0 := ha.2.1.nonneg; have b0 := hb.2.1.nonneg
    have : num a * num b ≤ pF * pF := Int.mul_le_mul (by omega) (by omega) b0 (by decide)
    refine Int.lt_of_le_of_lt this (by decide)
  rw [ha.1] at h2
  obtain ⟨r, l1, l2, l3⟩ := rleast_spec h1 (fun x hx => by have := h2 x hx; omega) (by rw [h3]; exact hlt)
  exact ⟨r, by rw [e, l1]; rfl, l2, by rw [l3, h3]⟩

end Go.Vx.Ref
