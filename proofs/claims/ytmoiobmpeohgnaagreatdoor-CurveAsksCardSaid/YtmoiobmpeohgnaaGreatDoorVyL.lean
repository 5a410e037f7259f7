/- Numbers, part L: elements as members of the field K; SqrtRatio. -/
import Derived.Test.YtmoiobmpeohgnaaGreatDoorVyH
import Derived.Test.YtmoiobmpeohgnaaGreatDoorVyR
set_option autoImplicit false
set_option linter.unusedSimpArgs false
namespace Go.Vx
open Go
def kv (a:LI) : K := K.of (val a)
theorem kv_of {r:LI} {x:Int} (h:val r = x % pF) : kv r = K.of x := by unfold kv; rw [h, K.of_mod]
theorem can_k {a b:LI} (ha:Can a) (hb:Can b) (h:kv a = kv b) : a = b := by
 refine ha.inj hb ?_
 have h1 := K.of_eq.1 h
 rwa [Int.emod_eq_of_lt ha.nonneg.1 ha.nonneg.2, Int.emod_eq_of_lt hb.nonneg.1 hb.nonneg.2] at h1
theorem mul_k {a b:LI} (ha:L5 a) (hb:L5 b) : ∃ r, Zap a b = some r ∧ Can r ∧ kv r = kv a * kv b := by
 obtain ⟨r, h1, h2, h3⟩ := Zyj ha hb
 exact ⟨r, h1, h2, by rw [kv_of h3, K.of_mul]; rfl⟩
theorem sq_k {a:LI} (ha:L5 a) : ∃ r, ZaK a = some r ∧ Can r ∧ kv r = kv a * kv a := by
 obtain ⟨r, h1, h2, h3⟩ := ZAv ha
 exact ⟨r, h1, h2, by rw [kv_of h3, K.of_mul]; rfl⟩
theorem ZtJ {a:LI} (ha:L5 a) : Can (Zaa a) ∧ kv (Zaa a) = kv a := ⟨(Zeg ha).1, kv_of (Zeg ha).2⟩
theorem neg_k {a:LI} (ha:L5 a) : Can (ZaN a) ∧ kv (ZaN a) = - kv a := ⟨(ZpY ha).1, by rw [kv_of (ZpY ha).2, K.of_neg]; rfl⟩
theorem add_k {a b:LI} (ha:L5 a) (hb:L5 b) : Can (ZaO a b) ∧ kv (ZaO a b) = kv a + kv b := ⟨(ZBO ha hb).1, by rw [kv_of (ZBO ha hb).2, K.of_add]; rfl⟩
theorem sub_k {a b:LI} (ha:L5 a) (hb:L5 b) : Can (Zax a b) ∧ kv (Zax a b) = kv a - kv b := ⟨(ZyE ha hb).1, by rw [kv_of (ZyE ha hb).2, K.of_sub]; rfl⟩
theorem pow_k {a r:LI} {e:Nat} (h:PowOf (val a) e r) : kv r = kv a ^ e := by rw [kv_of h.2, K.of_pow]; rfl
theorem root_k {a:LI} (ha:L5 a) : ∃ r, Zf8 300 a = some r ∧ Can r ∧ kv r = kv a ^ eR := by
 unfold Zf8
 obtain ⟨r, s, h1, p1, -⟩ := Zzg ha
 obtain ⟨t, h2, p2⟩ := ZdJ p1 2 (by decide)
 obtain ⟨u, h3, p3⟩ := p2.mulr ha rfl
 replace p3 := p3.cast (f := eR) (by decide)
 refine ⟨u, ?_, p3.1, pow_k p3⟩
 simp only [h1, mo, show ZaC 300 r 2 = some t from h2, h3]
theorem ZBk {a:LI} (ha:L5 a) : ZcH a = true ↔ kv a = 0 := by
 rw [ZAP ha, decide_eq_true_eq, show (0 : K) = K.of 0 from rfl]
 exact ⟨fun h => K.of_eq.2 (by rw [h]; rfl), fun h => by have := K.of_eq.1 h; rw [this]; rfl⟩
theorem abs_k {a:LI} (ha:L5 a) : Can (ZaV a) ∧ val (ZaV a) % 2 = 0 ∧ (kv (ZaV a) = kv a ∨ kv (ZaV a) = - kv a) := by
 have hn := ZpY ha
 have hl := Zeg ha
 have v0 : 0 ≤ val a % pF := Int.emod_nonneg _ (by decide)
 have v1 : val a % pF < pF := Int.emod_lt_of_pos _ ZxI
 rw [ZFI ha]
 split
 ·rename_i h
  refine ⟨hn.1, ?_, .inr (neg_k ha).2⟩
  rw [neg_val ha, if_neg (by omega)]
  simp only [pF] at *
  omega
 ·rename_i h
  refine ⟨hl.1, ?_, .inl (ZtJ ha).2⟩
  rw [hl.2]
  omega
theorem ZBQ : Can (Zc7 1) := ⟨_, _, _, _, _, rfl, by decide, by decide, by decide, by decide, by decide, by decide⟩
theorem tab1_k : kv (Zc7 1) = kI := by
 unfold kv kI
 rfl
theorem sqrt_k {a b:LI} (ha:L5 a) (hb:L5 b) : ∃ r ok, Zdl 300 a b = some (r, ok) ∧ Can r ∧ val r % 2 = 0 ∧
  (kv a = 0 → ok = true ∧ kv r = 0) ∧ (kv a ≠ 0 → kv b = 0 → ok = false ∧ kv r = 0) ∧
  (kv a ≠ 0 → kv b ≠ 0 → (ok = true ↔ (kv a * kv b ^ 7) ^ eQ = 1 ∨ (kv a * kv b ^ 7) ^ eQ = -1) ∧ (ok = true → kv b * kv r ^ 2 = kv a) ∧ (ok = false → kv b * kv r ^ 2 = kv a * kI)) := by
 unfold Zdl
 obtain ⟨r1, h1, c1, e1⟩ := sq_k hb
 obtain ⟨r2, h2, c2, e2⟩ := mul_k c1.L5 hb
 obtain ⟨r3, h3, c3, e3⟩ := sq_k c2.L5
 obtain ⟨r4, h4, c4, e4⟩ := mul_k c3.L5 hb
 have l := ZtJ ha
 obtain ⟨r5, h5, c5, e5⟩ := mul_k l.1.L5 c2.L5
 obtain ⟨r6, h6, c6, e6⟩ := mul_k l.1.L5 c4.L5
 obtain ⟨r7, h7, c7, e7⟩ := root_k c6.L5
 obtain ⟨r8, h8, c8, e8⟩ := mul_k c5.L5 c7.L5
 obtain ⟨r9, h9, c9, e9⟩ := sq_k c8.L5
 obtain ⟨r10, h10, c10, e10⟩ := mul_k hb c9.L5
 have n := neg_k l.1.L5
 obtain ⟨r11, h11, c11, e11⟩ := mul_k c8.L5 ZBQ.L5
 obtain ⟨r12, h12, c12, e12⟩ := mul_k n.1.L5 ZBQ.L5
 rw [tab1_k] at e11 e12
 simp only [h1, h2, h3, h4, h5, h6, h7, h8, h9, h10, h11, h12, mo]
 have l1 := (ZtJ ha).1
 have lk := (ZtJ ha).2
 have nk := n.2
 rw [lk] at nk e5 e6
 have d1 : (r10 = ZaN (Zaa a)) ↔ kv r10 = - kv a := ⟨fun h => by rw [h, nk], fun h => can_k c10 n.1 (by rw [h, nk])⟩
 have d2 : (r10 = Zaa a) ↔ kv r10 = kv a := ⟨fun h => by rw [h, lk], fun h => can_k c10 l1 (by rw [h, lk])⟩
 have d3 : (r10 = r12) ↔ kv r10 = - kv a * kI := ⟨fun h => by rw [h, e12, nk], fun h => can_k c10 c12 (by rw [h, e12, nk])⟩
 have a11 := abs_k c11.L5
 have a8 := abs_k c8.L5
 have hw := fun h1 h2 => K.quarter (K.mul_ne (a := kv a) (b := kv b ^ 7) h1 (K.pow_ne h2 7))
 have hr := K.ratio (kv a) (kv b)
 have es : kv r8 = (kv a * kv b ^ 3) * (kv a * kv b ^ 7) ^ eR := by
  have q1 : kv r5 = kv a * kv b ^ 3 := by rw [e5, e2, e1]; grind
  have q2 : kv r6 = kv a * kv b ^ 7 := by rw [e6, e4, e3, e2, e1]; grind
  rw [e8, e7, q1, q2]
 rw [← es] at hr
 have ec : kv r10 = kv b * kv r8 ^ 2 := by rw [e10, e9]; grind
 rw [← ec] at hr
 have hi := kI_sq
 have one := K.one_ne
 have two := K.two_ne
 generalize (kv a * kv b ^ 7) ^ eQ = w at *
 generalize (kv a * kv b ^ 7) ^ eR = t at *
 generalize hu : kv a = u at *
 generalize hv : kv b = v at *
 generalize hs : kv r8 = s at *
 generalize hc : kv r10 = c at *
 -- the squares of what is handed back
 have sq11 : kv (ZaV r11) ^ 2 = s ^ 2 * -1 := by rcases a11.2.2 with h | h <;> rw [h, e11] <;> grind
 have sq8 : kv (ZaV r8) ^ 2 = s ^ 2 := by rcases a8.2.2 with h | h <;> rw [h] <;> grind
 have z11 : s = 0 → kv (ZaV r11) = 0 := fun h0 => by rcases a11.2.2 with h | h <;> rw [h, e11, h0] <;> grind
 have z8 : s = 0 → kv (ZaV r8) = 0 := fun h0 => by rcases a8.2.2 with h | h <;> rw [h] <;> grind
 have zs : u = 0 → s = 0 := fun h0 => by rw [es, h0]; grind
 have zs2 : v = 0 → s = 0 := fun h0 => by rw [es, h0]; grind
 have ine : kI ≠ 0 := fun h => by rw [h] at hi; exact one (by grind)
 have cancel : ∀ {x y:K}, u ≠ 0 → u * x = u * y → x = y := fun {x y} h0 h => by
  have : u * (x - y) = 0 := by grind
  rcases K.mul_zero' this with h1 | h1
  ·exact absurd h1 h0
  ·grind
 have i1 : kI ≠ 1 := fun h => by rw [h] at hi; exact two (by grind)
 have i2 : kI ≠ -1 := fun h => by rw [h] at hi; exact two (by grind)
 have o2 : (1 : K) ≠ -1 := fun h => two (by grind)
 by_cases hd1 : c = -u
 ·refine ⟨ZaV r11, true, ?_, a11.1, a11.2.1, fun h0 => ⟨rfl, z11 (zs h0)⟩, fun h0 h1 => ?_, fun h0 h1 => ⟨?_, fun _ => ?_, fun h => by simp at h⟩⟩
  ·rw [decide_eq_true (d1.2 hd1)]
   cases decide (r10 = Zaa a) <;> rfl
  ·exfalso
   refine h0 ?_
   have : c = 0 := by rw [ec, h1]; grind
   grind
  ·refine ⟨fun _ => .inr (cancel h0 (by grind)), fun _ => rfl⟩
  ·rw [sq11]; grind
 ·by_cases hd3 : c = -u * kI
  ·have hk : decide (r10 = Zaa a) = true → u = 0 := fun h => by
    have h1 := d2.1 (of_decide_eq_true h)
    refine Classical.byContradiction fun h0 => ?_
    have : kI = -1 := cancel h0 (by grind)
    exact i2 this
   have u0 : u ≠ 0 := fun h0 => hd1 (by rw [ec, zs h0, h0]; grind)
   have d2f : decide (r10 = Zaa a) = false := by
    cases hq : decide (r10 = Zaa a)
    ·rfl
    ·exact absurd (hk hq) u0
   refine ⟨ZaV r11, false, ?_, a11.1, a11.2.1, fun h0 => absurd h0 u0, fun h0 h1 => ⟨rfl, z11 (zs2 h1)⟩, fun h0 h1 => ⟨?_, fun h => by simp at h, fun _ => ?_⟩⟩
   ·rw [decide_eq_false (fun h => hd1 (d1.1 h)), decide_eq_true (d3.2 hd3), d2f]
    rfl
   ·refine ⟨fun h => by simp at h, fun h => ?_⟩
    exfalso
    have hwk : w = -kI := cancel h0 (by grind)
    rcases h with h | h
    ·exact i2 (by grind)
    ·exact i1 (by grind)
   ·rw [sq11]; grind
  ·have u0 : u ≠ 0 := fun h0 => hd1 (by rw [ec, zs h0, h0]; grind)
   by_cases hd2 : c = u
   ·refine ⟨ZaV r8, true, ?_, a8.1, a8.2.1, fun h0 => absurd h0 u0, fun h0 h1 => ?_, fun h0 h1 => ⟨⟨fun _ => .inl (cancel h0 (by grind)), fun _ => rfl⟩, fun _ => ?_, fun h => by simp at h⟩⟩
    ·rw [decide_eq_false (fun h => hd1 (d1.1 h)), decide_eq_false (fun h => hd3 (d3.1 h)), decide_eq_true (d2.2 hd2)]
     rfl
    ·exfalso
     refine h0 ?_
     have : c = 0 := by rw [ec, h1]; grind
     grind
    ·rw [sq8]; grind
   ·refine ⟨ZaV r8, false, ?_, a8.1, a8.2.1, fun h0 => absurd h0 u0, fun h0 h1 => ⟨rfl, z8 (zs2 h1)⟩, fun h0 h1 => ⟨?_, fun h => by simp at h, fun _ => ?_⟩⟩
    ·rw [decide_eq_false (fun h => hd1 (d1.1 h)), decide_eq_false (fun h => hd3 (d3.1 h)), decide_eq_false (fun h => hd2 (d2.1 h))]
     rfl
    ·refine ⟨fun h => by simp at h, fun h => ?_⟩
     exfalso
     rcases h with h | h
     ·exact hd2 (by grind)
     ·exact hd1 (by grind)
    ·rw [sq8]
     rcases hw h0 h1 with h | h | h | h
     ·exact absurd (show c = u by grind) hd2
     ·exact absurd (show c = -u by grind) hd1
     ·grind
     ·exact absurd (show c = -u * kI by grind) hd3
end Go.Vx
