/- Numbers, part D: Add, Sub, Neg; IsZero, Same, Negative, Select, Abs. -/
import Derived.Test.YtmoiobmpeohgnaaDoorVyC
set_option autoImplicit false
namespace Go.Vx
open Go
def Sm (a:List Int) : Prop := ∃ x0 x1 x2 x3 x4, a = [x0, x1, x2, x3, x4] ∧ (0 ≤ x0 ∧ x0 < M51) ∧ (0 ≤ x1 ∧ x1 < M51) ∧ (0 ≤ x2 ∧ x2 < M51) ∧ (0 ≤ x3 ∧ x3 < M51) ∧ (0 ≤ x4 ∧ x4 < M51)
theorem Can.sm {a:List Int} (h:Can a) : Sm a := by
  obtain ⟨x0, x1, x2, x3, x4, rfl, h0, h1, h2, h3, h4, -⟩ := h
  exact ⟨_, _, _, _, _, rfl, h0, h1, h2, h3, h4⟩
theorem Zr1 {a:List Int} (h:L5 a) (hs:ZaD a = true) : Sm a := by
  obtain ⟨x0, x1, x2, x3, x4, rfl, h0, h1, h2, h3, h4⟩ := h.get
  rw [ZBR h0 h1 h2 h3 h4] at hs
  simp only [decide_eq_true_eq] at hs
  exact ⟨_, _, _, _, _, rfl, ⟨h0.1, hs.1⟩, ⟨h1.1, hs.2.1⟩, ⟨h2.1, hs.2.2.1⟩, ⟨h3.1, hs.2.2.2.1⟩, ⟨h4.1, hs.2.2.2.2⟩⟩
theorem slim2 {R:Type} {a b:List Int} (ha:L5 a) (hb:L5 b) (f:List Int → List Int → R) (Q:R → Prop) (h:∀ a' b', Sm a' → Sm b' → val a' % pF = val a % pF → val b' % pF = val b % pF → Q (f a' b')) :
    Q (cond (!(ZaD a)) (f (Zaa a) (Zaa b)) (cond (!(ZaD b)) (f (Zaa a) (Zaa b)) (f a b))) := by
  have la := Zfb ha
  have lb := Zfb hb
  have hl : Q (f (Zaa a) (Zaa b)) := h _ _ la.1.sm lb.1.sm (by rw [la.2, Int.emod_emod_of_dvd _ (Int.dvd_refl _)]) (by rw [lb.2, Int.emod_emod_of_dvd _ (Int.dvd_refl _)])
  cases h1 : ZaD a
  · exact hl
  · cases h2 : ZaD b
    · exact hl
    · exact h a b (Zr1 ha h1) (Zr1 hb h2) rfl rfl
theorem slim1 {R:Type} {a:List Int} (ha:L5 a) (f:List Int → R) (Q:R → Prop) (h:∀ a', Sm a' → val a' % pF = val a % pF → Q (f a')) :
    Q (cond (!(ZaD a)) (f (Zaa a)) (f a)) := by
  have la := Zfb ha
  cases h1 : ZaD a
  · exact h _ la.1.sm (by rw [la.2, Int.emod_emod_of_dvd _ (Int.dvd_refl _)])
  · exact h a (Zr1 ha h1) rfl
theorem Zzz {a b:List Int} (ha:L5 a) (hb:L5 b) : Can (ZaK a b) ∧ val (ZaK a b) = (val a + val b) % pF := by
  refine slim2 ha hb (fun a b => Za8 (ibin .add .u64 (List.getD a 0 0) (List.getD b 0 0)) (ibin .add .u64 (List.getD a 1 0) (List.getD b 1 0)) (ibin .add .u64 (List.getD a 2 0) (List.getD b 2 0)) (ibin .add .u64 (List.getD a 3 0) (List.getD b 3 0)) (ibin .add .u64 (List.getD a 4 0) (List.getD b 4 0)))
    (fun r => Can r ∧ val r = (val a + val b) % pF) ?_
  intro a' b' sa sb va vb
  obtain ⟨x0, x1, x2, x3, x4, rfl, h0, h1, h2, h3, h4⟩ := sa
  obtain ⟨y0, y1, y2, y3, y4, rfl, k0, k1, k2, k3, k4⟩ := sb
  simp only [List.getD_cons_zero, List.getD_cons_succ]
  have f : ∀ x y : Int, 0 ≤ x ∧ x < M51 → 0 ≤ y ∧ y < M51 → ibin .add .u64 x y = x + y := fun x y hx hy => by simp only [u_add, M51] at *; omega
  rw [f _ _ h0 k0, f _ _ h1 k1, f _ _ h2 k2, f _ _ h3 k3, f _ _ h4 k4]
  have w : ∀ x y : Int, 0 ≤ x ∧ x < M51 → 0 ≤ y ∧ y < M51 → W54 (x + y) := fun x y hx hy => by simp only [W54, M51] at *; omega
  obtain ⟨c, hc⟩ := Zpq (w _ _ h0 k0) (w _ _ h1 k1) (w _ _ h2 k2) (w _ _ h3 k3) (w _ _ h4 k4)
  refine ⟨c, ?_⟩
  rw [hc, show val [x0 + y0, x1 + y1, x2 + y2, x3 + y3, x4 + y4] = val [x0, x1, x2, x3, x4] + val [y0, y1, y2, y3, y4] by simp only [val]; omega, Int.add_emod, va, vb, ← Int.add_emod]
theorem Zww {a b:List Int} (ha:L5 a) (hb:L5 b) : Can (Zav a b) ∧ val (Zav a b) = (val a - val b) % pF := by
  refine slim2 ha hb (fun a b => Za8 (ibin .sub .u64 (ibin .add .u64 (List.getD a 0 0) 4503599627370458) (List.getD b 0 0)) (ibin .sub .u64 (ibin .add .u64 (List.getD a 1 0) 4503599627370494) (List.getD b 1 0)) (ibin .sub .u64 (ibin .add .u64 (List.getD a 2 0) 4503599627370494) (List.getD b 2 0)) (ibin .sub .u64 (ibin .add .u64 (List.getD a 3 0) 4503599627370494) (List.getD b 3 0)) (ibin .sub .u64 (ibin .add .u64 (List.getD a 4 0) 4503599627370494) (List.getD b 4 0)))
    (fun r => Can r ∧ val r = (val a - val b) % pF) ?_
  intro a' b' sa sb va vb
  obtain ⟨x0, x1, x2, x3, x4, rfl, h0, h1, h2, h3, h4⟩ := sa
  obtain ⟨y0, y1, y2, y3, y4, rfl, k0, k1, k2, k3, k4⟩ := sb
  simp only [List.getD_cons_zero, List.getD_cons_succ]
  have f : ∀ x y c : Int, 0 ≤ x ∧ x < M51 → 0 ≤ y ∧ y < M51 → 4503599627370458 ≤ c ∧ c ≤ 4503599627370494 → ibin .sub .u64 (ibin .add .u64 x c) y = x + c - y := fun x y c hx hy hc => by simp only [u_add, u_sub, M51] at *; omega
  rw [f _ _ 4503599627370458 h0 k0 (by decide), f _ _ 4503599627370494 h1 k1 (by decide), f _ _ 4503599627370494 h2 k2 (by decide), f _ _ 4503599627370494 h3 k3 (by decide), f _ _ 4503599627370494 h4 k4 (by decide)]
  have w : ∀ x y c : Int, 0 ≤ x ∧ x < M51 → 0 ≤ y ∧ y < M51 → 4503599627370458 ≤ c ∧ c ≤ 4503599627370494 → W54 (x + c - y) := fun x y c hx hy hc => by simp only [W54, M51] at *; omega
  obtain ⟨c, hc⟩ := Zpq (w _ _ 4503599627370458 h0 k0 (by decide)) (w _ _ 4503599627370494 h1 k1 (by decide)) (w _ _ 4503599627370494 h2 k2 (by decide)) (w _ _ 4503599627370494 h3 k3 (by decide)) (w _ _ 4503599627370494 h4 k4 (by decide))
  refine ⟨c, ?_⟩
  rw [hc, show val [x0 + 4503599627370458 - y0, x1 + 4503599627370494 - y1, x2 + 4503599627370494 - y2, x3 + 4503599627370494 - y3, x4 + 4503599627370494 - y4] = val [x0, x1, x2, x3, x4] - val [y0, y1, y2, y3, y4] + pF * 2 by simp only [val, pF]; omega, Int.add_mul_emod_self_left, Int.sub_emod, va, vb, ← Int.sub_emod]
theorem zeroL5 : L5 [0, 0, 0, 0, 0] := ⟨rfl, by decide⟩
theorem ZDj : Can [0, 0, 0, 0, 0] := ⟨0, 0, 0, 0, 0, rfl, by decide, by decide, by decide, by decide, by decide, by decide⟩
theorem Zog {a:List Int} (ha:L5 a) : Can (ZaJ a) ∧ val (ZaJ a) = (- val a) % pF := by
  unfold ZaJ
  obtain ⟨c, h⟩ := Zww zeroL5 ha
  refine ⟨c, ?_⟩
  rw [h, show val [0, 0, 0, 0, 0] = 0 from rfl, Int.zero_sub]
theorem ZxM {a:List Int} (h:Can a) : Zaa a = a := by
  obtain ⟨c, hv⟩ := Zfb h.L5
  refine c.inj h ?_
  rw [hv, Int.emod_eq_of_lt h.nonneg.1 h.nonneg.2]
theorem ZyC {a:List Int} (ha:L5 a) : Zcs a = decide (val a % pF = 0) := by
  unfold Zcs
  obtain ⟨c, h⟩ := Zfb ha
  have : Zaa a = [0, 0, 0, 0, 0] ↔ val a % pF = 0 := by
    constructor
    · intro e; rw [← h, e]; rfl
    · intro e; exact c.inj ZDj (by rw [h, e]; rfl)
  simp [this]
theorem u_and1 {a:Int} (a0 : 0 ≤ a) (a1:a < 18446744073709551616) : ibin .and .u64 a 1 = a % 2 := by
  rw [u_and a0 a1 (by decide) (by decide)]
  have : a.toNat &&& (2 ^ 1 - 1) = a.toNat % 2 ^ 1 := Nat.and_two_pow_sub_one_eq_mod _ _
  rw [show (1 : Int).toNat = 2 ^ 1 - 1 from rfl, this]
  omega
theorem ZBS {a:List Int} (h:Can a) : U (List.getD a 0 0) ∧ (List.getD a 0 0) % 2 = val a % 2 := by
  obtain ⟨x0, x1, x2, x3, x4, rfl, h0, h1, h2, h3, h4, -⟩ := h
  simp only [List.getD_cons_zero, val, U, M51] at *
  omega
theorem Zze (a:Int) : ibin .and .i64 a 1 = a % 2 := by
  show IntKind.wrap .i64 ((BitVec.ofInt 64 a &&& BitVec.ofInt 64 1).toNat : Int) = _
  have e : (BitVec.ofInt 64 a &&& BitVec.ofInt 64 1).toNat = (a % 2).toNat := by
    rw [BitVec.toNat_and, BitVec.toNat_ofInt, show (BitVec.ofInt 64 1).toNat = 2 ^ 1 - 1 from rfl, Nat.and_two_pow_sub_one_eq_mod]
    omega
  rw [e]
  simp only [IntKind.wrap, IntKind.signed, IntKind.bits]
  rcases Int.emod_two_eq a with h | h <;> rw [h] <;> decide
theorem Zwx {x:Int} (h:U x) : x.toNat &&& 18446744073709551615 = x.toNat := by
  have := Nat.and_two_pow_sub_one_eq_mod x.toNat 64
  simp only [U] at h
  rw [show (18446744073709551615 : Nat) = 2 ^ 64 - 1 from rfl, this]
  exact Nat.mod_eq_of_lt (by omega)
theorem ZAo (y:Int) : ibin .andNot .u64 y 18446744073709551615 = 0 := by
  show IntKind.wrap .u64 ((BitVec.ofInt 64 y &&& ~~~(BitVec.ofInt 64 18446744073709551615)).toNat : Int) = 0
  rw [show ~~~(BitVec.ofInt 64 18446744073709551615) = 0#64 from by decide]
  simp [wrap64]
theorem ZyD {y:Int} (h:U y) : ibin .andNot .u64 y 0 = y := by
  show IntKind.wrap .u64 ((BitVec.ofInt 64 y &&& ~~~(BitVec.ofInt 64 0)).toNat : Int) = y
  rw [show ~~~(BitVec.ofInt 64 0) = BitVec.allOnes 64 from by decide, BitVec.and_allOnes, ofInt64 h.1 h.2, wrap64]
  simp only [U] at h
  omega
theorem ZkU {x y:Int} (hx:U x) : ibin .or .u64 (ibin .and .u64 x 18446744073709551615) (ibin .andNot .u64 y 18446744073709551615) = x := by
  rw [ZAo, u_and hx.1 hx.2 (by decide) (by decide), show (18446744073709551615 : Int).toNat = 18446744073709551615 from rfl, Zwx hx]
  have hx' := hx
  simp only [U] at hx'
  rw [u_or (by omega) (by omega) (by decide) (by decide)]
  simp
  omega
theorem Zjf {x y:Int} (hx:U x) (hy:U y) : ibin .or .u64 (ibin .and .u64 x 0) (ibin .andNot .u64 y 0) = y := by
  rw [ZyD hy, u_and hx.1 hx.2 (by decide) (by decide)]
  have hy' := hy
  simp only [U] at hy'
  simp only [Int.toNat_zero, Nat.and_zero]
  rw [u_or (by decide) (by decide) hy.1 hy.2]
  simp
  omega
theorem ZyE {pick:Int} {a b:List Int} (ha:L5 a) (hb:L5 b) : Zh5 pick a b = if pick % 2 = 1 then Zaa a else Zaa b := by
  obtain ⟨x0, x1, x2, x3, x4, rfl, h0, h1, h2, h3, h4⟩ := ha.get
  obtain ⟨y0, y1, y2, y3, y4, rfl, k0, k1, k2, k3, k4⟩ := hb.get
  unfold Zh5
  rw [Zze]
  simp only [List.getD_cons_zero, List.getD_cons_succ, List.set_cons_zero, List.set_cons_succ]
  rcases Int.emod_two_eq pick with h | h
  · rw [h, show ineg .u64 (IntKind.wrap .u64 0) = 0 from by decide]
    rw [Zjf h0 k0, Zjf h1 k1, Zjf h2 k2, Zjf h3 k3, Zjf h4 k4]
    simp
  · rw [h, show ineg .u64 (IntKind.wrap .u64 1) = 18446744073709551615 from by decide]
    rw [ZkU h0, ZkU h1, ZkU h2, ZkU h3, ZkU h4]
    simp
theorem ZDk {a:List Int} (ha:L5 a) : ZaP a = if val a % pF % 2 = 1 then ZaJ a else Zaa a := by
  unfold ZaP
  obtain ⟨c, h⟩ := Zfb ha
  obtain ⟨u, p⟩ := ZBS c
  rw [u_and1 u.1 u.2, p, h]
  have e : IntKind.wrap .i64 (val a % pF % 2) = val a % pF % 2 := by
    rcases Int.emod_two_eq (val a % pF) with h | h <;> rw [h] <;> decide
  rw [e, ZyE (Zog ha).1.L5 ha, Int.emod_emod_of_dvd _ (Int.dvd_refl _), ZxM (Zog ha).1]
end Go.Vx
