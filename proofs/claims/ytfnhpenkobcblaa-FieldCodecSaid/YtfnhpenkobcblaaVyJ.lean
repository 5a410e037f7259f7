/- Numbers, part J: texts of 32 bytes as numbers; powers by any exponent; FieldExponents. -/
import Derived.Test.YtfnhpenkobcblaaVyI
set_option autoImplicit false
set_option linter.unusedSimpArgs false
namespace Go.Vx
open Go

/-- The number of a text, the least byte first. -/
def numB : List Int → Nat
  | [] => 0
  | x :: l => x.toNat + 256 * numB l

def Bs (l : List Int) : Prop := ∀ x ∈ l, 0 ≤ x ∧ x ≤ 255

theorem bit_at : (l : List Int) → Bs l → (i : Nat) → (List.getD l (i / 8) 0).toNat / 2 ^ (i % 8) % 2 = numB l / 2 ^ i % 2
  | [], _, i => by simp [numB]
  | x :: l, hb, i => by
    have hx := hb x (by simp)
    have ht : Bs l := fun y hy => hb y (by simp [hy])
    by_cases h : i < 8
    · have h1 : i / 8 = 0 := by omega
      have h2 : i % 8 = i := by omega
      rw [h1, h2]
      simp only [List.getD_cons_zero, numB]
      have hd : (x.toNat + 256 * numB l) / 2 ^ i = x.toNat / 2 ^ i + 2 ^ (8 - i) * numB l := by
        have e : 256 = 2 ^ i * 2 ^ (8 - i) := by rw [← Nat.pow_add, show i + (8 - i) = 8 by omega]
        rw [e, Nat.mul_assoc, Nat.add_mul_div_left _ _ (Nat.two_pow_pos i)]
      rw [hd]
      have e2 : 2 ^ (8 - i) = 2 * 2 ^ (7 - i) := by rw [show 8 - i = (7 - i) + 1 by omega, Nat.pow_succ, Nat.mul_comm]
      rw [e2, Nat.mul_assoc, Nat.add_mul_mod_self_left]
    · have h1 : i / 8 = (i - 8) / 8 + 1 := by omega
      have h2 : i % 8 = (i - 8) % 8 := by omega
      rw [h1, h2, List.getD_cons_succ, bit_at l ht (i - 8)]
      simp only [numB]
      have e : 2 ^ i = 256 * 2 ^ (i - 8) := by rw [show (256 : Nat) = 2 ^ 8 from rfl, ← Nat.pow_add, show 8 + (i - 8) = i by omega]
      rw [e, ← Nat.div_div_eq_div_mul]
      have : (x.toNat + 256 * numB l) / 256 = numB l := by omega
      rw [this]

theorem b_bit {y : Int} (h : 0 ≤ y ∧ y ≤ 255) (k : Nat) (hk : k ≤ 8) : ibin .and .u8 (ibin .shr .u8 y (k : Int)) 1 = ((y.toNat / 2 ^ k % 2 : Nat) : Int) := by
  have e1 : ibin .shr .u8 y (k : Int) = ((y.toNat / 2 ^ k : Nat) : Int) := by
    show y.fdiv (2 ^ (min (k : Int).toNat 8)) = _
    rw [Int.toNat_natCast, Nat.min_eq_left hk, Int.fdiv_eq_ediv_of_nonneg _ (Int.le_of_lt (Int.pow_pos (by decide)))]
    have : y = (y.toNat : Int) := by omega
    conv => lhs; rw [this]
    rw [Int.natCast_ediv, Int.natCast_pow]; rfl
  rw [e1]
  generalize hz : y.toNat / 2 ^ k = z
  have hz2 : z ≤ 255 := by
    rw [← hz]
    exact Nat.le_trans (Nat.div_le_self _ _) (by omega)
  show IntKind.wrap .u8 ((BitVec.ofInt 8 (z : Int) &&& BitVec.ofInt 8 1).toNat : Int) = _
  have : (BitVec.ofInt 8 (z : Int) &&& BitVec.ofInt 8 1).toNat = z % 2 := by
    rw [BitVec.toNat_and, BitVec.toNat_ofInt, show (BitVec.ofInt 8 1).toNat = 2 ^ 1 - 1 from rfl, Nat.and_two_pow_sub_one_eq_mod]
    omega
  rw [this, wrap8]
  omega

theorem power_loop {a : List Int} (ha : L5 a) {e : List Int} (he : Bs e) (hl : e.length = 32) (N : Nat) : (k : Nat) → k ≤ 256 → (fuel : Nat) → k < fuel → (r : List Int) → PowOf (val a) (numB e / 2 ^ k) r →
    ∃ t, loopF (field_Elem_Power_l0 N) fuel (((), (), (), (), (k : Int) - 1), (a, e, (), r)) = some (.inl (((), ()), ((), t))) ∧ PowOf (val a) (numB e) t
  | 0, _, fuel + 1, _, r, hr => by
    refine ⟨r, ?_, by simpa using hr⟩
    rw [loopF_succ]
    simp only [field_Elem_Power_l0, show icmp .geq (((0 : Nat) : Int) - 1) 0 = false from by decide, cond_false, mo]
  | k + 1, hk, fuel + 1, hf, r, hr => by
    obtain ⟨t, h1, h2⟩ := hr.sq
    have hi : (((k + 1 : Nat) : Int) - 1) = (k : Int) := by omega
    have g1 : icmp .geq (k : Int) 0 = true := by simp [icmp]
    have g2 : ibin .quo .i64 (k : Int) 8 = ((k / 8 : Nat) : Int) := by
      show IntKind.wrap .i64 ((k : Int).tdiv 8) = _
      rw [Int.tdiv_eq_ediv_of_nonneg (by omega), wrapi64 (by omega) (by omega)]
      omega
    have g3 : ibin .rem .i64 (k : Int) 8 = ((k % 8 : Nat) : Int) := by
      show (k : Int).tmod 8 = _
      rw [Int.tmod_eq_emod_of_nonneg (by omega)]
      omega
    have g4 : decide (0 ≤ ((k / 8 : Nat) : Int) ∧ ((k / 8 : Nat) : Int) < ((32 : Nat) : Int)) = true := by simp only [decide_eq_true_eq]; omega
    have g5 : decide (0 ≤ ((k % 8 : Nat) : Int)) = true := decide_eq_true (Int.natCast_nonneg _)
    have g6 : ibin .sub .i64 (k : Int) 1 = (k : Int) - 1 := by
      show IntKind.wrap .i64 ((k : Int) - 1) = _
      rcases Nat.eq_zero_or_pos k with h | h
      · subst h; decide
      · exact wrapi64 (by omega) (by omega)
    have hb : 0 ≤ List.getD e (k / 8) 0 ∧ List.getD e (k / 8) 0 ≤ 255 := by
      rw [List.getD_eq_getElem?_getD]
      have hlt : k / 8 < e.length := by omega
      rw [List.getElem?_eq_getElem hlt]
      exact he _ (List.getElem_mem hlt)
    have hbit : ibin .and .u8 (ibin .shr .u8 (List.getD e (k / 8) 0) ((k % 8 : Nat) : Int)) 1 = ((numB e / 2 ^ k % 2 : Nat) : Int) := by
      rw [b_bit hb _ (by omega), bit_at e he k]
    have hE : numB e / 2 ^ k = 2 * (numB e / 2 ^ (k + 1)) + numB e / 2 ^ k % 2 := by
      rw [Nat.pow_succ, ← Nat.div_div_eq_div_mul]
      omega
    rw [loopF_succ]
    simp only [field_Elem_Power_l0, hi, g1, cond_true, h1, mo, g2, g3, Int.toNat_natCast, g4, g5, hbit, g6]
    rcases Nat.mod_two_eq_zero_or_one (numB e / 2 ^ k) with hz | hz
    · have c : icmp .eql (((numB e / 2 ^ k % 2 : Nat)) : Int) 1 = false := by rw [hz]; decide
      simp only [c, cond_false]
      rw [hz, Nat.add_zero] at hE
      exact power_loop ha he hl N k (by omega) fuel (by omega) t (h2.cast hE.symm)
    · have c : icmp .eql (((numB e / 2 ^ k % 2 : Nat)) : Int) 1 = true := by rw [hz]; decide
      obtain ⟨u, h3, h4⟩ := h2.mulr ha rfl
      simp only [c, cond_true, h3]
      rw [hz] at hE
      exact power_loop ha he hl N k (by omega) fuel (by omega) u (h4.cast hE.symm)

theorem numB_lt : (l : List Int) → Bs l → numB l < 256 ^ l.length
  | [], _ => by simp [numB]
  | x :: l, h => by
    have hx := h x (by simp)
    have := numB_lt l (fun y hy => h y (by simp [hy]))
    simp only [numB, List.length_cons, Nat.pow_succ]
    omega

def L32 (e : List Int) : Prop := e.length = 32 ∧ ∀ x ∈ e, 0 ≤ x ∧ x ≤ 255

theorem power_spec {a e : List Int} (ha : L5 a) (he : L32 e) : ∃ r, field_Elem_Power 300 a e = some r ∧ PowOf (val a) (numB e) r := by
  have h0 : numB e / 2 ^ 256 = 0 := by
    have := numB_lt e he.2
    rw [he.1] at this
    exact Nat.div_eq_of_lt this
  obtain ⟨t, h1, h2⟩ := power_loop ha he.2 he.1 300 256 (Nat.le_refl _) 300 (by decide) [1, 0, 0, 0, 0] (by rw [h0]; exact ⟨one_can, by rw [Int.pow_zero]; rfl⟩)
  refine ⟨t, ?_, h2⟩
  unfold field_Elem_Power
  rw [show field_Elem_One a = [1, 0, 0, 0, 0] from rfl, show (255 : Int) = ((256 : Nat) : Int) - 1 from rfl, h1]
  rfl

/-- The sum of two texts, by rounds. -/
def addB : Int → List Int → List Int → List Int × Bool
  | c, x :: a, y :: b =>
    let s := ibin .add .i64 (ibin .add .i64 c (IntKind.wrap .i64 x)) (IntKind.wrap .i64 y)
    let r := addB (ibin .shr .i64 s 8) a b
    (IntKind.wrap .u8 (ibin .and .i64 s 255) :: r.1, r.2)
  | c, _, _ => ([], icmp .eql c 0)

theorem i_shr8 {s : Int} : ibin .shr .i64 s 8 = s / 256 := by
  show s.fdiv (2 ^ (min (8 : Int).toNat 64)) = _
  exact Int.fdiv_eq_ediv_of_nonneg _ (by decide)

theorem i_and255 {s : Int} (h0 : 0 ≤ s) (h1 : s ≤ 9223372036854775807) : ibin .and .i64 s 255 = s % 256 := by
  show IntKind.wrap .i64 ((BitVec.ofInt 64 s &&& BitVec.ofInt 64 255).toNat : Int) = _
  have : (BitVec.ofInt 64 s &&& BitVec.ofInt 64 255).toNat = s.toNat % 256 := by
    rw [BitVec.toNat_and, ofInt64 h0 (by omega), show (BitVec.ofInt 64 255).toNat = 2 ^ 8 - 1 from rfl, Nat.and_two_pow_sub_one_eq_mod]
  rw [this, wrapi64 (by omega) (by omega)]
  omega

theorem addB_spec : (a b : List Int) → a.length = b.length → Bs a → Bs b → (c : Int) → 0 ≤ c ∧ c ≤ 1 →
    ∃ l c', addB c a b = (l, icmp .eql c' 0) ∧ 0 ≤ c' ∧ c' ≤ 1 ∧ Bs l ∧ l.length = a.length ∧ (numB l : Int) + 256 ^ a.length * c' = numB a + numB b + c
  | [], [], _, _, _, c, hc => ⟨[], c, rfl, hc.1, hc.2, by simp [Bs], rfl, by simp [numB]⟩
  | x :: a, y :: b, hl, ha, hb, c, hc => by
    have hx := ha x (by simp)
    have hy := hb y (by simp)
    have e1 : ibin .add .i64 (ibin .add .i64 c (IntKind.wrap .i64 x)) (IntKind.wrap .i64 y) = c + x + y := by
      rw [wrapi64 hx.1 (by omega), wrapi64 hy.1 (by omega)]
      rw [show ibin .add .i64 c x = c + x from wrapi64 (n := c + x) (by omega) (by omega)]
      exact wrapi64 (n := c + x + y) (by omega) (by omega)
    obtain ⟨l, c', h1, h2, h3, h4, h5, h6⟩ := addB_spec a b (by simpa using hl) (fun z hz => ha z (by simp [hz])) (fun z hz => hb z (by simp [hz])) ((c + x + y) / 256) (by omega)
    refine ⟨(c + x + y) % 256 :: l, c', ?_, h2, h3, ?_, by simp [h5], ?_⟩
    · simp only [addB, e1, i_shr8, h1, i_and255 (s := c + x + y) (by omega) (by omega), wrap8]
      congr 2
      omega
    · intro z hz
      rcases List.mem_cons.1 hz with rfl | hz
      · omega
      · exact h4 z hz
    · simp only [numB, List.length_cons, Int.pow_succ]
      rw [show (256 : Int) ^ a.length * 256 * c' = 256 * (256 ^ a.length * c') by rw [Int.mul_comm ((256 : Int) ^ a.length) 256, Int.mul_assoc]]
      generalize (256 : Int) ^ a.length * c' = w at *
      omega
  | [], _ :: _, hl, _, _, _, _ => by simp at hl
  | _ :: _, [], hl, _, _, _, _ => by simp at hl

theorem l32_get {c : List Int} (h : c.length = 32) : ∃ x0 x1 x2 x3 x4 x5 x6 x7 x8 x9 x10 x11 x12 x13 x14 x15 x16 x17 x18 x19 x20 x21 x22 x23 x24 x25 x26 x27 x28 x29 x30 x31, c = [x0, x1, x2, x3, x4, x5, x6, x7, x8, x9, x10, x11, x12, x13, x14, x15, x16, x17, x18, x19, x20, x21, x22, x23, x24, x25, x26, x27, x28, x29, x30, x31] := by
  match c, h with
  | [x0, x1, x2, x3, x4, x5, x6, x7, x8, x9, x10, x11, x12, x13, x14, x15, x16, x17, x18, x19, x20, x21, x22, x23, x24, x25, x26, x27, x28, x29, x30, x31], _ => exact ⟨x0, x1, x2, x3, x4, x5, x6, x7, x8, x9, x10, x11, x12, x13, x14, x15, x16, x17, x18, x19, x20, x21, x22, x23, x24, x25, x26, x27, x28, x29, x30, x31, rfl⟩


theorem plus_add {c d : List Int} (hc : L32 c) (hd : L32 d) : veillaw01_plus c d = addB 0 c d := by
  obtain ⟨c0, c1, c2, c3, c4, c5, c6, c7, c8, c9, c10, c11, c12, c13, c14, c15, c16, c17, c18, c19, c20, c21, c22, c23, c24, c25, c26, c27, c28, c29, c30, c31, rfl⟩ := l32_get hc.1
  obtain ⟨d0, d1, d2, d3, d4, d5, d6, d7, d8, d9, d10, d11, d12, d13, d14, d15, d16, d17, d18, d19, d20, d21, d22, d23, d24, d25, d26, d27, d28, d29, d30, d31, rfl⟩ := l32_get hd.1
  rfl

theorem zeros_num : numB [0, 0, 0, 0, 0, 0, 0, 0, 0, 0, 0, 0, 0, 0, 0, 0, 0, 0, 0, 0, 0, 0, 0, 0, 0, 0, 0, 0, 0, 0, 0, 0] = 0 := rfl

theorem exps_law (a b c d : List Int) (ha : L5 a) (hb : L5 b) (hc : L32 c) (hd : L32 d) : veillaw01_FieldExponents 300 a b c d = some true := by
  unfold veillaw01_FieldExponents
  have la := least_spec ha
  obtain ⟨r2, e2, p2⟩ := power_spec ha (e := [237, 255, 255, 255, 255, 255, 255, 255, 255, 255, 255, 255, 255, 255, 255, 255, 255, 255, 255, 255, 255, 255, 255, 255, 255, 255, 255, 255, 255, 255, 255, 127]) ⟨rfl, by decide⟩
  obtain ⟨r3, e3, p3⟩ := power_spec ha (e := [0, 0, 0, 0, 0, 0, 0, 0, 0, 0, 0, 0, 0, 0, 0, 0, 0, 0, 0, 0, 0, 0, 0, 0, 0, 0, 0, 0, 0, 0, 0, 0]) ⟨rfl, by decide⟩
  obtain ⟨r4, e4, p4⟩ := power_spec ha (e := [235, 255, 255, 255, 255, 255, 255, 255, 255, 255, 255, 255, 255, 255, 255, 255, 255, 255, 255, 255, 255, 255, 255, 255, 255, 255, 255, 255, 255, 255, 255, 127]) ⟨rfl, by decide⟩
  obtain ⟨r5, e5, p5⟩ := invert_spec ha
  replace p2 := p2.cast (f := eInv + 1 + 1) (by decide)
  replace p4 := p4.cast (f := eInv) (by decide)
  have d1 : decide (r2 = field_Elem_Least a) = true := by
    refine decide_eq_true (p2.1.inj la.1 ?_)
    rw [p2.2, la.2, Int.pow_succ]
    by_cases h : val a % pF = 0
    · rw [← mul_mod_r, h, Int.mul_zero, Int.zero_emod]
    · rw [← mul_mod_l, fermat _ h, Int.one_mul]
  have d2 : decide (r3 = field_Elem_One a) = true := decide_eq_true (p3.1.inj one_can (by rw [p3.2, zeros_num, Int.pow_zero]; rfl))
  have d3 : decide (r4 = r5) = true := decide_eq_true (p4.1.inj p5.1 (by rw [p4.2, p5.2]))
  obtain ⟨r6, e6, p6⟩ := power_spec ha hc
  obtain ⟨r7, e7, p7⟩ := power_spec ha hd
  obtain ⟨r8, e8, p8⟩ := p6.mul p7
  obtain ⟨m, em, cm, vm⟩ := mul_spec ha hb
  obtain ⟨r11, e11, p11⟩ := power_spec cm.L5 hd
  obtain ⟨r13, e13, p13⟩ := power_spec hb hd
  obtain ⟨r14, e14, c14, v14⟩ := mul_spec p7.1.L5 p13.1.L5
  have d4 : decide (r11 = r14) = true := by
    refine decide_eq_true (p11.1.inj c14 ?_)
    rw [p11.2, v14, p7.2, p13.2, vm, pow_mod, mul_mod_l, mul_mod_r, Int.mul_pow]
  obtain ⟨l, k, q1, q2, q3, q4, q5, q6⟩ := addB_spec c d (by rw [hc.1, hd.1]) hc.2 hd.2 0 (by decide)
  rw [← plus_add hc hd] at q1
  obtain ⟨r9, e9, p9⟩ := power_spec ha (e := l) ⟨by rw [q5, hc.1], q4⟩
  simp only [live_true, mo, Bool.not_true, cond_false, e2, d1, e3, d2, e4, e5, d3, e6, e7, e8, em, e11, e13, e14, d4, q1, e9]
  by_cases hk : k = 0
  · subst hk
    have d5 : decide (r8 = r9) = true := by
      refine decide_eq_true (p8.1.inj p9.1 ?_)
      rw [p8.2, p9.2, show numB l = numB c + numB d by simp at q6; omega]
    simp only [show icmp .eql (0 : Int) 0 = true from rfl, cond_true, d5, Bool.not_true, cond_false]
  · have : icmp .eql k 0 = false := by simp [icmp, hk]
    simp only [this, cond_false]

end Go.Vx
