/- Numbers, part D: Add, Sub, Neg; IsZero, Same, Negative, Select, Abs. -/
import Derived.Test.YtmoiobmpeohgnaaGreatDoorVyC
set_option autoImplicit false
namespace Go.Vx
open Go
def Sm (a:LI) : Prop := ∃ x0 x1 x2 x3 x4, a = [x0, x1, x2, x3, x4] ∧ (0 ≤ x0 ∧ x0 < M51) ∧ (0 ≤ x1 ∧ x1 < M51) ∧ (0 ≤ x2 ∧ x2 < M51) ∧ (0 ≤ x3 ∧ x3 < M51) ∧ (0 ≤ x4 ∧ x4 < M51)
theorem Can.sm {a:LI} (h:Can a) : Sm a := by
 obtain ⟨x0, x1, x2, x3, x4, rfl, h0, h1, h2, h3, h4, -⟩ := h
 exact ⟨_, _, _, _, _, rfl, h0, h1, h2, h3, h4⟩
theorem Zt3 {a:LI} (h:L5 a) (hs:ZaJ a = true) : Sm a := by
 obtain ⟨x0, x1, x2, x3, x4, rfl, h0, h1, h2, h3, h4⟩ := h.get
 rw [ZEf h0 h1 h2 h3 h4] at hs
 simp only [decide_eq_true_eq] at hs
 exact ⟨_, _, _, _, _, rfl, ⟨h0.1, hs.1⟩, ⟨h1.1, hs.2.1⟩, ⟨h2.1, hs.2.2.1⟩, ⟨h3.1, hs.2.2.2.1⟩, ⟨h4.1, hs.2.2.2.2⟩⟩
theorem slim2 {R:Type} {a b:LI} (ha:L5 a) (hb:L5 b) (f:LI → LI → R) (Q:R → Prop) (h:∀ a' b', Sm a' → Sm b' → val a' % pF = val a % pF → val b' % pF = val b % pF → Q (f a' b')) :
  Q (cond (!(ZaJ a)) (f (Zaa a) (Zaa b)) (cond (!(ZaJ b)) (f (Zaa a) (Zaa b)) (f a b))) := by
 have la := Zeg ha
 have lb := Zeg hb
 have hl : Q (f (Zaa a) (Zaa b)) := h _ _ la.1.sm lb.1.sm (by rw [la.2, Int.emod_emod_of_dvd _ (Int.dvd_refl _)]) (by rw [lb.2, Int.emod_emod_of_dvd _ (Int.dvd_refl _)])
 cases h1 : ZaJ a
 ·exact hl
 ·cases h2 : ZaJ b
  ·exact hl
  ·exact h a b (Zt3 ha h1) (Zt3 hb h2) rfl rfl
theorem slim1 {R:Type} {a:LI} (ha:L5 a) (f:LI → R) (Q:R → Prop) (h:∀ a', Sm a' → val a' % pF = val a % pF → Q (f a')) :
  Q (cond (!(ZaJ a)) (f (Zaa a)) (f a)) := by
 have la := Zeg ha
 cases h1 : ZaJ a
 ·exact h _ la.1.sm (by rw [la.2, Int.emod_emod_of_dvd _ (Int.dvd_refl _)])
 ·exact h a (Zt3 ha h1) rfl
theorem ZBO {a b:LI} (ha:L5 a) (hb:L5 b) : Can (ZaO a b) ∧ val (ZaO a b) = (val a + val b) % pF := by
 refine slim2 ha hb (fun a b => Zbg (ibin .add .u64 (List.getD a 0 0) (List.getD b 0 0)) (ibin .add .u64 (List.getD a 1 0) (List.getD b 1 0)) (ibin .add .u64 (List.getD a 2 0) (List.getD b 2 0)) (ibin .add .u64 (List.getD a 3 0) (List.getD b 3 0)) (ibin .add .u64 (List.getD a 4 0) (List.getD b 4 0)))
  (fun r => Can r ∧ val r = (val a + val b) % pF) ?_
 intro a' b' sa sb va vb
 obtain ⟨x0, x1, x2, x3, x4, rfl, h0, h1, h2, h3, h4⟩ := sa
 obtain ⟨y0, y1, y2, y3, y4, rfl, k0, k1, k2, k3, k4⟩ := sb
 simp only [List.getD_cons_zero, List.getD_cons_succ]
 have f : ∀ x y : Int, 0 ≤ x ∧ x < M51 → 0 ≤ y ∧ y < M51 → ibin .add .u64 x y = x + y := fun x y hx hy => by simp only [u_add, M51] at *; omega
 rw [f _ _ h0 k0, f _ _ h1 k1, f _ _ h2 k2, f _ _ h3 k3, f _ _ h4 k4]
 have w : ∀ x y : Int, 0 ≤ x ∧ x < M51 → 0 ≤ y ∧ y < M51 → W54 (x + y) := fun x y hx hy => by simp only [W54, M51] at *; omega
 obtain ⟨c, hc⟩ := Zq9 (w _ _ h0 k0) (w _ _ h1 k1) (w _ _ h2 k2) (w _ _ h3 k3) (w _ _ h4 k4)
 refine ⟨c, ?_⟩
 rw [hc, show val [x0 + y0, x1 + y1, x2 + y2, x3 + y3, x4 + y4] = val [x0, x1, x2, x3, x4] + val [y0, y1, y2, y3, y4] by simp only [val]; omega, Int.add_emod, va, vb, ← Int.add_emod]
theorem ZyE {a b:LI} (ha:L5 a) (hb:L5 b) : Can (Zax a b) ∧ val (Zax a b) = (val a - val b) % pF := by
 refine slim2 ha hb (fun a b => Zbg (ibin .sub .u64 (ibin .add .u64 (List.getD a 0 0) 4503599627370458) (List.getD b 0 0)) (ibin .sub .u64 (ibin .add .u64 (List.getD a 1 0) 4503599627370494) (List.getD b 1 0)) (ibin .sub .u64 (ibin .add .u64 (List.getD a 2 0) 4503599627370494) (List.getD b 2 0)) (ibin .sub .u64 (ibin .add .u64 (List.getD a 3 0) 4503599627370494) (List.getD b 3 0)) (ibin .sub .u64 (ibin .add .u64 (List.getD a 4 0) 4503599627370494) (List.getD b 4 0)))
  (fun r => Can r ∧ val r = (val a - val b) % pF) ?_
 intro a' b' sa sb va vb
 obtain ⟨x0, x1, x2, x3, x4, rfl, h0, h1, h2, h3, h4⟩ := sa
 obtain ⟨y0, y1, y2, y3, y4, rfl, k0, k1, k2, k3, k4⟩ := sb
 simp only [List.getD_cons_zero, List.getD_cons_succ]
 have f : ∀ x y c : Int, 0 ≤ x ∧ x < M51 → 0 ≤ y ∧ y < M51 → 4503599627370458 ≤ c ∧ c ≤ 4503599627370494 → ibin .sub .u64 (ibin .add .u64 x c) y = x + c - y := fun x y c hx hy hc => by simp only [u_add, u_sub, M51] at *; omega
 rw [f _ _ 4503599627370458 h0 k0 (by decide), f _ _ 4503599627370494 h1 k1 (by decide), f _ _ 4503599627370494 h2 k2 (by decide), f _ _ 4503599627370494 h3 k3 (by decide), f _ _ 4503599627370494 h4 k4 (by decide)]
 have w : ∀ x y c : Int, 0 ≤ x ∧ x < M51 → 0 ≤ y ∧ y < M51 → 4503599627370458 ≤ c ∧ c ≤ 4503599627370494 → W54 (x + c - y) := fun x y c hx hy hc => by simp only [W54, M51] at *; omega
 obtain ⟨c, hc⟩ := Zq9 (w _ _ 4503599627370458 h0 k0 (by decide)) (w _ _ 4503599627370494 h1 k1 (by decide)) (w _ _ 4503599627370494 h2 k2 (by decide)) (w _ _ 4503599627370494 h3 k3 (by decide)) (w _ _ 4503599627370494 h4 k4 (by decide))
 refine ⟨c, ?_⟩
 rw [hc, show val [x0 + 4503599627370458 - y0, x1 + 4503599627370494 - y1, x2 + 4503599627370494 - y2, x3 + 4503599627370494 - y3, x4 + 4503599627370494 - y4] = val [x0, x1, x2, x3, x4] - val [y0, y1, y2, y3, y4] + pF * 2 by simp only [val, pF]; omega, Int.add_mul_emod_self_left, Int.sub_emod, va, vb, ← Int.sub_emod]
theorem zeroL5 : L5 [0, 0, 0, 0, 0] := ⟨rfl, by decide⟩
theorem ZFH : Can [0, 0, 0, 0, 0] := ⟨0, 0, 0, 0, 0, rfl, by decide, by decide, by decide, by decide, by decide, by decide⟩
theorem ZpY {a:LI} (ha:L5 a) : Can (ZaN a) ∧ val (ZaN a) = (- val a) % pF := by
 unfold ZaN
 obtain ⟨c, h⟩ := ZyE zeroL5 ha
 refine ⟨c, ?_⟩
 rw [h, show val [0, 0, 0, 0, 0] = 0 from rfl, Int.zero_sub]
theorem ZzV {a:LI} (h:Can a) : Zaa a = a := by
 obtain ⟨c, hv⟩ := Zeg h.L5
 refine c.inj h ?_
 rw [hv, Int.emod_eq_of_lt h.nonneg.1 h.nonneg.2]
theorem ZAP {a:LI} (ha:L5 a) : ZcH a = decide (val a % pF = 0) := by
 unfold ZcH
 obtain ⟨c, h⟩ := Zeg ha
 have : Zaa a = [0, 0, 0, 0, 0] ↔ val a % pF = 0 := by
  constructor
  ·intro e; rw [← h, e]; rfl
  ·intro e; exact c.inj ZFH (by rw [h, e]; rfl)
 simp [this]
theorem ZGo {a:Int} (a0 : 0 ≤ a) (a1:a < 18446744073709551616) : ibin .and .u64 a 1 = a % 2 := by
 rw [u_and a0 a1 (by decide) (by decide)]
 have : a.toNat &&& (2 ^ 1 - 1) = a.toNat % 2 ^ 1 := Nat.and_two_pow_sub_one_eq_mod _ _
 rw [show (1 : Int).toNat = 2 ^ 1 - 1 from rfl, this]
 omega
theorem ZzW {a:LI} (h:Can a) : U (List.getD a 0 0) ∧ (List.getD a 0 0) % 2 = val a % 2 := by
 obtain ⟨x0, x1, x2, x3, x4, rfl, h0, h1, h2, h3, h4, -⟩ := h
 simp only [List.getD_cons_zero, val, U, M51] at *
 omega
theorem Zx7 {a:LI} (ha:L5 a) : Zb9 a = decide (val a % pF % 2 = 1) := by
 unfold Zb9
 obtain ⟨c, h⟩ := Zeg ha
 obtain ⟨u, p⟩ := ZzW c
 rw [ZGo u.1 u.2, p, h]
 show (val a % pF % 2 == 1) = _
 rw [Bool.eq_iff_iff]; simp
theorem ZBt (a:Int) : ibin .and .i64 a 1 = a % 2 := by
 show IntKind.wrap .i64 ((BitVec.ofInt 64 a &&& BitVec.ofInt 64 1).toNat : Int) = _
 have e : (BitVec.ofInt 64 a &&& BitVec.ofInt 64 1).toNat = (a % 2).toNat := by
  rw [BitVec.toNat_and, BitVec.toNat_ofInt, show (BitVec.ofInt 64 1).toNat = 2 ^ 1 - 1 from rfl, Nat.and_two_pow_sub_one_eq_mod]
  omega
 rw [e]
 simp only [IntKind.wrap, IntKind.signed, IntKind.bits]
 rcases Int.emod_two_eq a with h | h <;> rw [h] <;> decide
theorem ZyF {x:Int} (h:U x) : x.toNat &&& 18446744073709551615 = x.toNat := by
 have := Nat.and_two_pow_sub_one_eq_mod x.toNat 64
 simp only [U] at h
 rw [show (18446744073709551615 : Nat) = 2 ^ 64 - 1 from rfl, this]
 exact Nat.mod_eq_of_lt (by omega)
theorem ZCz (y:Int) : ibin .andNot .u64 y 18446744073709551615 = 0 := by
 show IntKind.wrap .u64 ((BitVec.ofInt 64 y &&& ~~~(BitVec.ofInt 64 18446744073709551615)).toNat : Int) = 0
 rw [show ~~~(BitVec.ofInt 64 18446744073709551615) = 0#64 from by decide]
 simp [wrap64]
theorem ZAQ {y:Int} (h:U y) : ibin .andNot .u64 y 0 = y := by
 show IntKind.wrap .u64 ((BitVec.ofInt 64 y &&& ~~~(BitVec.ofInt 64 0)).toNat : Int) = y
 rw [show ~~~(BitVec.ofInt 64 0) = BitVec.allOnes 64 from by decide, BitVec.and_allOnes, ofInt64 h.1 h.2, wrap64]
 simp only [U] at h
 omega
theorem Zmc {x y:Int} (hx:U x) : ibin .or .u64 (ibin .and .u64 x 18446744073709551615) (ibin .andNot .u64 y 18446744073709551615) = x := by
 rw [ZCz, u_and hx.1 hx.2 (by decide) (by decide), show (18446744073709551615 : Int).toNat = 18446744073709551615 from rfl, ZyF hx]
 have hx' := hx
 simp only [U] at hx'
 rw [u_or (by omega) (by omega) (by decide) (by decide)]
 simp
 omega
theorem Zkd {x y:Int} (hx:U x) (hy:U y) : ibin .or .u64 (ibin .and .u64 x 0) (ibin .andNot .u64 y 0) = y := by
 rw [ZAQ hy, u_and hx.1 hx.2 (by decide) (by decide)]
 have hy' := hy
 simp only [U] at hy'
 simp only [Int.toNat_zero, Nat.and_zero]
 rw [u_or (by decide) (by decide) hy.1 hy.2]
 simp
 omega
theorem ZAR {pick:Int} {a b:LI} (ha:L5 a) (hb:L5 b) : ZiW pick a b = if pick % 2 = 1 then Zaa a else Zaa b := by
 obtain ⟨x0, x1, x2, x3, x4, rfl, h0, h1, h2, h3, h4⟩ := ha.get
 obtain ⟨y0, y1, y2, y3, y4, rfl, k0, k1, k2, k3, k4⟩ := hb.get
 unfold ZiW
 rw [ZBt]
 simp only [List.getD_cons_zero, List.getD_cons_succ, List.set_cons_zero, List.set_cons_succ]
 rcases Int.emod_two_eq pick with h | h
 ·rw [h, show ineg .u64 (IntKind.wrap .u64 0) = 0 from by decide]
  rw [Zkd h0 k0, Zkd h1 k1, Zkd h2 k2, Zkd h3 k3, Zkd h4 k4]
  simp
 ·rw [h, show ineg .u64 (IntKind.wrap .u64 1) = 18446744073709551615 from by decide]
  rw [Zmc h0, Zmc h1, Zmc h2, Zmc h3, Zmc h4]
  simp
theorem ZFI {a:LI} (ha:L5 a) : ZaV a = if val a % pF % 2 = 1 then ZaN a else Zaa a := by
 unfold ZaV
 obtain ⟨c, h⟩ := Zeg ha
 obtain ⟨u, p⟩ := ZzW c
 rw [ZGo u.1 u.2, p, h]
 have e : IntKind.wrap .i64 (val a % pF % 2) = val a % pF % 2 := by
  rcases Int.emod_two_eq (val a % pF) with h | h <;> rw [h] <;> decide
 rw [e, ZAR (ZpY ha).1.L5 ha, Int.emod_emod_of_dvd _ (Int.dvd_refl _), ZzV (ZpY ha).1]
end Go.Vx
