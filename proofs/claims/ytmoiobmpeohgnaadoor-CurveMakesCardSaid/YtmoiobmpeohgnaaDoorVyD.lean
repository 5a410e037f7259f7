/- Numbers, part D: Add, Sub, Neg; IsZero, Same, Negative, Select, Abs. -/
import Derived.Test.YtmoiobmpeohgnaaDoorVyC
set_option autoImplicit false
namespace Go.Vx
open Go

/-- Five digits of 51 bits. -/
def Sm (a : List Int) : Prop := ∃ x0 x1 x2 x3 x4, a = [x0, x1, x2, x3, x4] ∧ (0 ≤ x0 ∧ x0 < M51) ∧ (0 ≤ x1 ∧ x1 < M51) ∧ (0 ≤ x2 ∧ x2 < M51) ∧ (0 ≤ x3 ∧ x3 < M51) ∧ (0 ≤ x4 ∧ x4 < M51)

theorem Can.sm {a : List Int} (h : Can a) : Sm a := by
  obtain ⟨x0, x1, x2, x3, x4, rfl, h0, h1, h2, h3, h4, -⟩ := h
  exact ⟨_, _, _, _, _, rfl, h0, h1, h2, h3, h4⟩

theorem sm_of_slim {a : List Int} (h : L5 a) (hs : field_Elem_slim a = true) : Sm a := by
  obtain ⟨x0, x1, x2, x3, x4, rfl, h0, h1, h2, h3, h4⟩ := h.get
  rw [slim_spec h0 h1 h2 h3 h4] at hs
  simp only [decide_eq_true_eq] at hs
  exact ⟨_, _, _, _, _, rfl, ⟨h0.1, hs.1⟩, ⟨h1.1, hs.2.1⟩, ⟨h2.1, hs.2.2.1⟩, ⟨h3.1, hs.2.2.2.1⟩, ⟨h4.1, hs.2.2.2.2⟩⟩

/-- What the functions of two elements do first: they hand on digits of 51 bits that stand for the same modulo p. -/
theorem slim2 {R : Type} {a b : List Int} (ha : L5 a) (hb : L5 b) (f : List Int → List Int → R) (Q : R → Prop) (h : ∀ a' b', Sm a' → Sm b' → val a' % pF = val a % pF → val b' % pF = val b % pF → Q (f a' b')) :
    Q (cond (!(field_Elem_slim a)) (f (field_Elem_Least a) (field_Elem_Least b)) (cond (!(field_Elem_slim b)) (f (field_Elem_Least a) (field_Elem_Least b)) (f a b))) := by
  have la := least_spec ha
  have lb := least_spec hb
  have hl : Q (f (field_Elem_Least a) (field_Elem_Least b)) := h _ _ la.1.sm lb.1.sm (by rw [la.2, Int.emod_emod_of_dvd _ (Int.dvd_refl _)]) (by rw [lb.2, Int.emod_emod_of_dvd _ (Int.dvd_refl _)])
  cases h1 : field_Elem_slim a
  · exact hl
  · cases h2 : field_Elem_slim b
    · exact hl
    · exact h a b (sm_of_slim ha h1) (sm_of_slim hb h2) rfl rfl

theorem slim1 {R : Type} {a : List Int} (ha : L5 a) (f : List Int → R) (Q : R → Prop) (h : ∀ a', Sm a' → val a' % pF = val a % pF → Q (f a')) :
    Q (cond (!(field_Elem_slim a)) (f (field_Elem_Least a)) (f a)) := by
  have la := least_spec ha
  cases h1 : field_Elem_slim a
  · exact h _ la.1.sm (by rw [la.2, Int.emod_emod_of_dvd _ (Int.dvd_refl _)])
  · exact h a (sm_of_slim ha h1) rfl

theorem add_spec {a b : List Int} (ha : L5 a) (hb : L5 b) : Can (field_Elem_Add a b) ∧ val (field_Elem_Add a b) = (val a + val b) % pF := by
  refine slim2 ha hb (fun a b => field_closed (ibin .add .u64 (List.getD a 0 0) (List.getD b 0 0)) (ibin .add .u64 (List.getD a 1 0) (List.getD b 1 0)) (ibin .add .u64 (List.getD a 2 0) (List.getD b 2 0)) (ibin .add .u64 (List.getD a 3 0) (List.getD b 3 0)) (ibin .add .u64 (List.getD a 4 0) (List.getD b 4 0)))
    (fun r => Can r ∧ val r = (val a + val b) % pF) ?_
  intro a' b' sa sb va vb
  obtain ⟨x0, x1, x2, x3, x4, rfl, h0, h1, h2, h3, h4⟩ := sa
  obtain ⟨y0, y1, y2, y3, y4, rfl, k0, k1, k2, k3, k4⟩ := sb
  simp only [List.getD_cons_zero, List.getD_cons_succ]
  have f : ∀ x y : Int, 0 ≤ x ∧ x < M51 → 0 ≤ y ∧ y < M51 → ibin .add .u64 x y = x + y := fun x y hx hy => by simp only [u_add, M51] at *; omega
  rw [f _ _ h0 k0, f _ _ h1 k1, f _ _ h2 k2, f _ _ h3 k3, f _ _ h4 k4]
  have w : ∀ x y : Int, 0 ≤ x ∧ x < M51 → 0 ≤ y ∧ y < M51 → W54 (x + y) := fun x y hx hy => by simp only [W54, M51] at *; omega
  obtain ⟨c, hc⟩ := closed_spec (w _ _ h0 k0) (w _ _ h1 k1) (w _ _ h2 k2) (w _ _ h3 k3) (w _ _ h4 k4)
  refine ⟨c, ?_⟩
  rw [hc, show val [x0 + y0, x1 + y1, x2 + y2, x3 + y3, x4 + y4] = val [x0, x1, x2, x3, x4] + val [y0, y1, y2, y3, y4] by simp only [val]; omega, Int.add_emod, va, vb, ← Int.add_emod]

theorem sub_spec {a b : List Int} (ha : L5 a) (hb : L5 b) : Can (field_Elem_Sub a b) ∧ val (field_Elem_Sub a b) = (val a - val b) % pF := by
  refine slim2 ha hb (fun a b => field_closed (ibin .sub .u64 (ibin .add .u64 (List.getD a 0 0) 4503599627370458) (List.getD b 0 0)) (ibin .sub .u64 (ibin .add .u64 (List.getD a 1 0) 4503599627370494) (List.getD b 1 0)) (ibin .sub .u64 (ibin .add .u64 (List.getD a 2 0) 4503599627370494) (List.getD b 2 0)) (ibin .sub .u64 (ibin .add .u64 (List.getD a 3 0) 4503599627370494) (List.getD b 3 0)) (ibin .sub .u64 (ibin .add .u64 (List.getD a 4 0) 4503599627370494) (List.getD b 4 0)))
    (fun r => Can r ∧ val r = (val a - val b) % pF) ?_
  intro a' b' sa sb va vb
  obtain ⟨x0, x1, x2, x3, x4, rfl, h0, h1, h2, h3, h4⟩ := sa
  obtain ⟨y0, y1, y2, y3, y4, rfl, k0, k1, k2, k3, k4⟩ := sb
  simp only [List.getD_cons_zero, List.getD_cons_succ]
  have f : ∀ x y c : Int, 0 ≤ x ∧ x < M51 → 0 ≤ y ∧ y < M51 → 4503599627370458 ≤ c ∧ c ≤ 4503599627370494 → ibin .sub .u64 (ibin .add .u64 x c) y = x + c - y := fun x y c hx hy hc => by simp only [u_add, u_sub, M51] at *; omega
  rw [f _ _ 4503599627370458 h0 k0 (by decide), f _ _ 4503599627370494 h1 k1 (by decide), f _ _ 4503599627370494 h2 k2 (by decide), f _ _ 4503599627370494 h3 k3 (by decide), f _ _ 4503599627370494 h4 k4 (by decide)]
  have w : ∀ x y c : Int, 0 ≤ x ∧ x < M51 → 0 ≤ y ∧ y < M51 → 4503599627370458 ≤ c ∧ c ≤ 4503599627370494 → W54 (x + c - y) := fun x y c hx hy hc => by simp only [W54, M51] at *; omega
  obtain ⟨c, hc⟩ := closed_spec (w _ _ 4503599627370458 h0 k0 (by decide)) (w _ _ 4503599627370494 h1 k1 (by decide)) (w _ _ 4503599627370494 h2 k2 (by decide)) (w _ _ 4503599627370494 h3 k3 (by decide)) (w _ _ 4503599627370494 h4 k4 (by decide))
  refine ⟨c, ?_⟩
  rw [hc, show val [x0 + 4503599627370458 - y0, x1 + 4503599627370494 - y1, x2 + 4503599627370494 - y2, x3 + 4503599627370494 - y3, x4 + 4503599627370494 - y4] = val [x0, x1, x2, x3, x4] - val [y0, y1, y2, y3, y4] + pF * 2 by simp only [val, pF]; omega, Int.add_mul_emod_self_left, Int.sub_emod, va, vb, ← Int.sub_emod]

theorem zeroL5 : L5 [0, 0, 0, 0, 0] := ⟨rfl, by decide⟩
theorem zero_can : Can [0, 0, 0, 0, 0] := ⟨0, 0, 0, 0, 0, rfl, by decide, by decide, by decide, by decide, by decide, by decide⟩

theorem neg_spec {a : List Int} (ha : L5 a) : Can (field_Elem_Neg a) ∧ val (field_Elem_Neg a) = (- val a) % pF := by
  unfold field_Elem_Neg
  obtain ⟨c, h⟩ := sub_spec zeroL5 ha
  refine ⟨c, ?_⟩
  rw [h, show val [0, 0, 0, 0, 0] = 0 from rfl, Int.zero_sub]

theorem least_can {a : List Int} (h : Can a) : field_Elem_Least a = a := by
  obtain ⟨c, hv⟩ := least_spec h.L5
  refine c.inj h ?_
  rw [hv, Int.emod_eq_of_lt h.nonneg.1 h.nonneg.2]

theorem iszero_spec {a : List Int} (ha : L5 a) : field_Elem_IsZero a = decide (val a % pF = 0) := by
  unfold field_Elem_IsZero
  obtain ⟨c, h⟩ := least_spec ha
  have : field_Elem_Least a = [0, 0, 0, 0, 0] ↔ val a % pF = 0 := by
    constructor
    · intro e; rw [← h, e]; rfl
    · intro e; exact c.inj zero_can (by rw [h, e]; rfl)
  simp [this]

theorem u_and1 {a : Int} (a0 : 0 ≤ a) (a1 : a < 18446744073709551616) : ibin .and .u64 a 1 = a % 2 := by
  rw [u_and a0 a1 (by decide) (by decide)]
  have : a.toNat &&& (2 ^ 1 - 1) = a.toNat % 2 ^ 1 := Nat.and_two_pow_sub_one_eq_mod _ _
  rw [show (1 : Int).toNat = 2 ^ 1 - 1 from rfl, this]
  omega

/-- The first digit bears the number's parity. -/
theorem first_par {a : List Int} (h : Can a) : U (List.getD a 0 0) ∧ (List.getD a 0 0) % 2 = val a % 2 := by
  obtain ⟨x0, x1, x2, x3, x4, rfl, h0, h1, h2, h3, h4, -⟩ := h
  simp only [List.getD_cons_zero, val, U, M51] at *
  omega

theorem i_and1 (a : Int) : ibin .and .i64 a 1 = a % 2 := by
  show IntKind.wrap .i64 ((BitVec.ofInt 64 a &&& BitVec.ofInt 64 1).toNat : Int) = _
  have e : (BitVec.ofInt 64 a &&& BitVec.ofInt 64 1).toNat = (a % 2).toNat := by
    rw [BitVec.toNat_and, BitVec.toNat_ofInt, show (BitVec.ofInt 64 1).toNat = 2 ^ 1 - 1 from rfl, Nat.and_two_pow_sub_one_eq_mod]
    omega
  rw [e]
  simp only [IntKind.wrap, IntKind.signed, IntKind.bits]
  rcases Int.emod_two_eq a with h | h <;> rw [h] <;> decide

theorem toNat_and_max {x : Int} (h : U x) : x.toNat &&& 18446744073709551615 = x.toNat := by
  have := Nat.and_two_pow_sub_one_eq_mod x.toNat 64
  simp only [U] at h
  rw [show (18446744073709551615 : Nat) = 2 ^ 64 - 1 from rfl, this]
  exact Nat.mod_eq_of_lt (by omega)

theorem andNot_max (y : Int) : ibin .andNot .u64 y 18446744073709551615 = 0 := by
  show IntKind.wrap .u64 ((BitVec.ofInt 64 y &&& ~~~(BitVec.ofInt 64 18446744073709551615)).toNat : Int) = 0
  rw [show ~~~(BitVec.ofInt 64 18446744073709551615) = 0#64 from by decide]
  simp [wrap64]
theorem andNot_zero {y : Int} (h : U y) : ibin .andNot .u64 y 0 = y := by
  show IntKind.wrap .u64 ((BitVec.ofInt 64 y &&& ~~~(BitVec.ofInt 64 0)).toNat : Int) = y
  rw [show ~~~(BitVec.ofInt 64 0) = BitVec.allOnes 64 from by decide, BitVec.and_allOnes, ofInt64 h.1 h.2, wrap64]
  simp only [U] at h
  omega

theorem select_one {x y : Int} (hx : U x) : ibin .or .u64 (ibin .and .u64 x 18446744073709551615) (ibin .andNot .u64 y 18446744073709551615) = x := by
  rw [andNot_max, u_and hx.1 hx.2 (by decide) (by decide), show (18446744073709551615 : Int).toNat = 18446744073709551615 from rfl, toNat_and_max hx]
  have hx' := hx
  simp only [U] at hx'
  rw [u_or (by omega) (by omega) (by decide) (by decide)]
  simp
  omega
theorem select_zero {x y : Int} (hx : U x) (hy : U y) : ibin .or .u64 (ibin .and .u64 x 0) (ibin .andNot .u64 y 0) = y := by
  rw [andNot_zero hy, u_and hx.1 hx.2 (by decide) (by decide)]
  have hy' := hy
  simp only [U] at hy'
  simp only [Int.toNat_zero, Nat.and_zero]
  rw [u_or (by decide) (by decide) hy.1 hy.2]
  simp
  omega

theorem select_spec {pick : Int} {a b : List Int} (ha : L5 a) (hb : L5 b) : field_Select pick a b = if pick % 2 = 1 then field_Elem_Least a else field_Elem_Least b := by
  obtain ⟨x0, x1, x2, x3, x4, rfl, h0, h1, h2, h3, h4⟩ := ha.get
  obtain ⟨y0, y1, y2, y3, y4, rfl, k0, k1, k2, k3, k4⟩ := hb.get
  unfold field_Select
  rw [i_and1]
  simp only [List.getD_cons_zero, List.getD_cons_succ, List.set_cons_zero, List.set_cons_succ]
  rcases Int.emod_two_eq pick with h | h
  · rw [h, show ineg .u64 (IntKind.wrap .u64 0) = 0 from by decide]
    rw [select_zero h0 k0, select_zero h1 k1, select_zero h2 k2, select_zero h3 k3, select_zero h4 k4]
    simp
  · rw [h, show ineg .u64 (IntKind.wrap .u64 1) = 18446744073709551615 from by decide]
    rw [select_one h0, select_one h1, select_one h2, select_one h3, select_one h4]
    simp

theorem abs_spec {a : List Int} (ha : L5 a) : field_Elem_Abs a = if val a % pF % 2 = 1 then field_Elem_Neg a else field_Elem_Least a := by
  unfold field_Elem_Abs
  obtain ⟨c, h⟩ := least_spec ha
  obtain ⟨u, p⟩ := first_par c
  rw [u_and1 u.1 u.2, p, h]
  have e : IntKind.wrap .i64 (val a % pF % 2) = val a % pF % 2 := by
    rcases Int.emod_two_eq (val a % pF) with h | h <;> rw [h] <;> decide
  rw [e, select_spec (neg_spec ha).1.L5 ha, Int.emod_emod_of_dvd _ (Int.dvd_refl _), least_can (neg_spec ha).1]

end Go.Vx
