import Derived.Test.YtmoiobmpeohgnaaGreatDoorVyL2
import Derived.Test.YtmoiobmpeohgnaaGreatDoorVyK0
import Derived.Test.YtmoiobmpeohgnaaGreatDoorVyZ2
import Derived.Test.YtmoiobmpeohgnaaGreatDoorVyS
import Derived.Test.YtmoiobmpeohgnaaGreatDoorVyL7
set_option autoImplicit false
set_option linter.unusedSimpArgs false
namespace Go.Vx
open Go
theorem can_v {a:LI} (h:Can a) : (kv a).v = val a := by
 have := h.nonneg
 show val a % pF = val a
 exact Int.emod_eq_of_lt this.1 this.2
theorem ZF3 {a:LI} (h:Can a) : (kv a).ev ↔ val a % 2 = 0 := by
 unfold K.ev; rw [can_v h]
theorem ZF4 {a:LI} (h:Can a) : Zb9 a = true ↔ ¬ (kv a).ev := by
 rw [Zx7 h.L5, ZF3 h, Int.emod_eq_of_lt h.nonneg.1 h.nonneg.2, decide_eq_true_eq]
 omega
theorem ZEV {a:LI} (h:Can a) (e:(kv a).ev) : Zb9 a = false := by
 cases hq : Zb9 a
 ·rfl
 ·exact absurd e ((ZF4 h).1 hq)
theorem sqrt_sr {a b:LI} (ha:L5 a) (hb:L5 b) : ∃ r ok, Zdl 300 a b = some (r, ok) ∧ Can r ∧ SR (kv a) (kv b) (kv r) ok := by
 obtain ⟨r, ok, h1, h2, h3, h4, h5, h6⟩ := sqrt_k ha hb
 exact ⟨r, ok, h1, h2, ⟨(ZF3 h2).2 h3, h4, h5, h6⟩⟩
theorem ZBg : Can (Zc7 2) := ⟨_, _, _, _, _, rfl, by decide, by decide, by decide, by decide, by decide, by decide⟩
theorem ZF5 : kv (Zc7 2) = kD := by unfold kv kD; rfl
theorem const2' : Zj4 2 = some (Zc7 2) := rfl
end Go.Vx
set_option autoImplicit false
set_option linter.unusedSimpArgs false
namespace Go.Vx
open Go
theorem inv_k {a:LI} (ha:L5 a) : ∃ r, ZdK 300 a = some r ∧ Can r ∧ kv r = kv a ^ eI := by
 obtain ⟨r, h1, p1⟩ := ZAo ha
 exact ⟨r, h1, p1.1, pow_k p1⟩
theorem k_sq (a:K) : a * a = a ^ 2 := by grind
end Go.Vx
set_option autoImplicit false
set_option linter.unusedSimpArgs false
namespace Go.Vx
open Go
abbrev P4 := LI × LI × LI × LI
abbrev o5 : LI := [1, 0, 0, 0, 0]
abbrev z5 : LI := [0, 0, 0, 0, 0]
theorem ZF6 : Can z5 := ⟨_, _, _, _, _, rfl, by decide, by decide, by decide, by decide, by decide, by decide⟩
structure Rep0 (p:P4) (X Y:K) : Prop where
 cx : Can p.1
 cy : Can p.2.1
 cz : Can p.2.2.1
 ct : Can p.2.2.2
 z : kv p.2.2.1 ≠ 0
 x : kv p.1 = X * kv p.2.2.1
 y : kv p.2.1 = Y * kv p.2.2.1
 t : kv p.2.2.2 = X * Y * kv p.2.2.1
def Rep (p:P4) (X Y:K) : Prop := Rep0 p X Y ∨ (p.2.2.1 = z5 ∧ X = 0 ∧ Y = 1)
theorem Rep.whole {p:P4} {X Y:K} (h:Rep p X Y) : Rep0 (Zan p) X Y := by
 unfold Zan
 rcases h with h | ⟨h, rfl, rfl⟩
 ·have : decide (p.2.2.1 = [0, 0, 0, 0, 0]) = false := decide_eq_false fun e => h.z (by rw [e]; rfl)
  rw [this]
  exact h
 ·rw [h]
  exact ⟨ZF6, ZtI, ZtI, ZF6, K.one_ne, by show (0 : K) = 0 * 1; grind, by show (1 : K) = 1 * 1; grind, by show (0 : K) = 0 * 1 * 1; grind⟩
theorem Zx5 {x y t:LI} (hx:Can x) (hy:Can y) (ht:Can t) (h:kv t = kv x * kv y) : Rep (x, y, o5, t) (kv x) (kv y) :=
 .inl ⟨hx, hy, ZtI, ht, K.one_ne, by show _ = _ * (1 : K); grind, by show _ = _ * (1 : K); grind, by show _ = _ * (1 : K); rw [h]; grind⟩
theorem ZvT : Rep (z5, z5, z5, z5) 0 1 := .inr ⟨rfl, rfl, rfl⟩
theorem Rep.affine {p:P4} {X Y:K} (h:Rep p X Y) : ∃ x y, ZcO 300 p = some (x, y) ∧ Can x ∧ Can y ∧ kv x = X ∧ kv y = Y := by
 have w := h.whole
 unfold ZcO
 generalize Zan (p.1, p.2.1, p.2.2.1, p.2.2.2) = q at *
 obtain ⟨r1, h1, c1, e1⟩ := inv_k w.cz.L5
 obtain ⟨r2, h2, c2, e2⟩ := mul_k w.cx.L5 c1.L5
 obtain ⟨r3, h3, c3, e3⟩ := mul_k w.cy.L5 c1.L5
 have hi := k_inv w.z
 have hx := w.x
 have hy := w.y
 refine ⟨r2, r3, by simp only [h1, h2, h3, mo], c2, c3, ?_, ?_⟩
 ·rw [e2, e1, hx]; generalize kv q.2.2.1 ^ eI = i at *; grind
 ·rw [e3, e1, hy]; generalize kv q.2.2.1 ^ eI = i at *; grind
theorem d2_can : Can [1859910466990425, 932731440258426, 1072319116312658, 1815898335770999, 633789495995903] := ⟨_, _, _, _, _, rfl, by decide, by decide, by decide, by decide, by decide, by decide⟩
theorem d2_k : kv [1859910466990425, 932731440258426, 1072319116312658, 1815898335770999, 633789495995903] = kD + kD := by
 unfold kv kD
 rw [← K.of_add, K.of_eq]
 decide
theorem ZF7 {a b c d:LI} (ha:Can a) (hb:Can b) (hc:Can c) (hd:Can d) : ∃ x y z t, Zj0 a b c d = some (x, y, z, t) ∧ Can x ∧ Can y ∧ Can z ∧ Can t ∧ kv x = kv a * kv b ∧ kv y = kv c * kv d ∧ kv z = kv b * kv c ∧ kv t = kv a * kv d := by
 obtain ⟨r1, h1, c1, e1⟩ := mul_k ha.L5 hb.L5
 obtain ⟨r2, h2, c2, e2⟩ := mul_k hc.L5 hd.L5
 obtain ⟨r3, h3, c3, e3⟩ := mul_k hb.L5 hc.L5
 obtain ⟨r4, h4, c4, e4⟩ := mul_k ha.L5 hd.L5
 exact ⟨r1, r2, r3, r4, by unfold Zj0; simp only [h1, h2, h3, h4, mo], c1, c2, c3, c4, e1, e2, e3, e4⟩
theorem add_fin {a b x y z w d X Y:K} (hX:X * (1 + d * a * x * b * y) = a * y + b * x) (hY:Y * (1 - d * a * x * b * y) = b * y + a * x) :
  ∃ E F G H : K, E = (b * z + a * z) * (y * w + x * w) - (b * z - a * z) * (y * w - x * w) ∧ H = (b * z + a * z) * (y * w + x * w) + (b * z - a * z) * (y * w - x * w) ∧ F = (z * w + z * w) - (a * b * z) * (d + d) * (x * y * w) ∧ G = (z * w + z * w) + (a * b * z) * (d + d) * (x * y * w) ∧
   F = 2 * (z * w) * (1 - d * a * x * b * y) ∧ G = 2 * (z * w) * (1 + d * a * x * b * y) ∧ E * F = X * (F * G) ∧ G * H = Y * (F * G) ∧ E * H = X * Y * (F * G) := by
 have hE : (b * z + a * z) * (y * w + x * w) - (b * z - a * z) * (y * w - x * w) = X * (2 * (z * w) * (1 + d * a * x * b * y)) := by
  rw [show X * (2 * (z * w) * (1 + d * a * x * b * y)) = 2 * (z * w) * (X * (1 + d * a * x * b * y)) by grind, hX]; grind
 have hH : (b * z + a * z) * (y * w + x * w) + (b * z - a * z) * (y * w - x * w) = Y * (2 * (z * w) * (1 - d * a * x * b * y)) := by
  rw [show Y * (2 * (z * w) * (1 - d * a * x * b * y)) = 2 * (z * w) * (Y * (1 - d * a * x * b * y)) by grind, hY]; grind
 have hF : (z * w + z * w) - (a * b * z) * (d + d) * (x * y * w) = 2 * (z * w) * (1 - d * a * x * b * y) := by clear hX hY hE hH; grind
 have hG : (z * w + z * w) + (a * b * z) * (d + d) * (x * y * w) = 2 * (z * w) * (1 + d * a * x * b * y) := by clear hX hY hE hH; grind
 refine ⟨_, _, _, _, rfl, rfl, rfl, rfl, hF, hG, ?_, ?_, ?_⟩
 ·rw [hE, hF, hG]; generalize 1 - d * a * x * b * y = u; generalize 1 + d * a * x * b * y = v; clear hX hY hE hH hF hG; grind
 ·rw [hH, hF, hG]; generalize 1 - d * a * x * b * y = u; generalize 1 + d * a * x * b * y = v; clear hX hY hE hH hF hG; grind
 ·rw [hE, hH, hF, hG]; generalize 1 - d * a * x * b * y = u; generalize 1 + d * a * x * b * y = v; clear hX hY hE hH hF hG; grind
theorem Rep.add {p q:P4} {a b x y:K} (hp:Rep p a b) (hq:Rep q x y) (h1:On a b) (h2:On x y) : ∃ r, ZaA p q = some r ∧ Rep r (ax a b x y) (ay a b x y) := by
 have u := hp.whole
 have v := hq.whole
 unfold ZaA
 generalize Zan (p.1, p.2.1, p.2.2.1, p.2.2.2) = p at *
 generalize Zan (q.1, q.2.1, q.2.2.1, q.2.2.2) = q at *
 have s1 := sub_k u.cy.L5 u.cx.L5
 have s2 := sub_k v.cy.L5 v.cx.L5
 have a1 := add_k u.cy.L5 u.cx.L5
 have a2 := add_k v.cy.L5 v.cx.L5
 obtain ⟨r1, k1, c1, e1⟩ := mul_k s1.1.L5 s2.1.L5
 obtain ⟨r2, k2, c2, e2⟩ := mul_k a1.1.L5 a2.1.L5
 obtain ⟨r3, k3, c3, e3⟩ := mul_k u.ct.L5 d2_can.L5
 obtain ⟨r4, k4, c4, e4⟩ := mul_k c3.L5 v.ct.L5
 obtain ⟨r5, k5, c5, e5⟩ := mul_k u.cz.L5 v.cz.L5
 have f1 := sub_k c2.L5 c1.L5
 have f2 := add_k c5.L5 c5.L5
 have f3 := sub_k f2.1.L5 c4.L5
 have f4 := add_k f2.1.L5 c4.L5
 have f5 := add_k c2.L5 c1.L5
 obtain ⟨X, Y, Z, T, k6, g1, g2, g3, g4, g5, g6, g7, g8⟩ := ZF7 f1.1 f3.1 f4.1 f5.1
 refine ⟨(X, Y, Z, T), by simp only [k1, k2, k3, k4, k5, k6, mo], .inl ?_⟩
 obtain ⟨E, F, G, H, m1, m2, m3, m4, m5, m6, m7, m8, m9⟩ := add_fin (z := kv p.2.2.1) (w := kv q.2.2.1) (ZqD h1 h2) (ZqE h1 h2)
 have eE : kv (Zax r2 r1) = E := by rw [f1.2, e2, e1, a1.2, a2.2, s1.2, s2.2, u.x, u.y, v.x, v.y, m1]
 have eH : kv (ZaO r2 r1) = H := by rw [f5.2, e2, e1, a1.2, a2.2, s1.2, s2.2, u.x, u.y, v.x, v.y, m2]
 have eF : kv (Zax (ZaO r5 r5) r4) = F := by rw [f3.2, f2.2, e5, e4, e3, d2_k, u.t, v.t, m3]
 have eG : kv (ZaO (ZaO r5 r5) r4) = G := by rw [f4.2, f2.2, e5, e4, e3, d2_k, u.t, v.t, m4]
 rw [eE, eF] at g5
 rw [eG, eH] at g6
 rw [eF, eG] at g7
 rw [eE, eH] at g8
 obtain ⟨w1, w2⟩ := ZdP h1 h2
 have zz : 2 * (kv p.2.2.1 * kv q.2.2.1) ≠ 0 := K.mul_ne K.two_ne (K.mul_ne u.z v.z)
 refine ⟨g1, g2, g3, g4, ?_, ?_, ?_, ?_⟩
 ·show kv Z ≠ 0
  rw [g7, m5, m6]; exact K.mul_ne (K.mul_ne zz w2) (K.mul_ne zz w1)
 ·show kv X = _ * kv Z
  rw [g5, g7]; exact m7
 ·show kv Y = _ * kv Z
  rw [g6, g7]; exact m8
 ·show kv T = _ * kv Z
  rw [g8, g7]; exact m9
end Go.Vx
set_option autoImplicit false
set_option linter.unusedSimpArgs false
namespace Go.Vx
open Go
abbrev RepP (p:P4) (q:KP) : Prop := Rep p q.1 q.2
theorem ZpN {p q:P4} {a b:KP} (h1:RepP p a) (h2:RepP q b) (o1:OnP a) (o2:OnP b) : ∃ r, ZaA p q = some r ∧ RepP r (kadd a b) := Rep.add h1 h2 o1 o2
theorem ZBh {p:P4} {a:KP} (h:RepP p a) : RepP (ZaU p) (kneg a) := by
 have w := h.whole
 unfold ZaU
 generalize Zan (p.1, p.2.1, p.2.2.1, p.2.2.2) = q at *
 have n1 := neg_k w.cx.L5
 have n2 := neg_k w.ct.L5
 refine .inl ⟨n1.1, w.cy, w.cz, n2.1, w.z, ?_, w.y, ?_⟩
 ·show kv (ZaN q.1) = -a.1 * _
  rw [n1.2, w.x]; grind
 ·show kv (ZaN q.2.2.2) = -a.1 * a.2 * _
  rw [n2.2, w.t]; grind
theorem ZEW {p q:P4} {a b:KP} (h1:RepP p a) (h2:RepP q b) (o1:OnP a) (o2:OnP b) : ∃ r, Zex p q = some r ∧ RepP r (kadd a (kneg b)) := by
 obtain ⟨r, k1, k2⟩ := ZpN h1 (ZBh h2) o1 (Zx8 o2)
 refine ⟨r, ?_, k2⟩
 unfold Zex
 have : ZaA (p.1, p.2.1, p.2.2.1, p.2.2.2) ((ZaU (q.1, q.2.1, q.2.2.1, q.2.2.2)).1, (ZaU (q.1, q.2.1, q.2.2.1, q.2.2.2)).2.1, (ZaU (q.1, q.2.1, q.2.2.1, q.2.2.2)).2.2.1, (ZaU (q.1, q.2.1, q.2.2.1, q.2.2.2)).2.2.2) = some r := k1
 simp only [this, mo]
theorem dbl_fin {x y z d X Y:K} (on:y ^ 2 - x ^ 2 = 1 + d * x ^ 2 * y ^ 2) (hX:X * (1 + d * x * x * y * y) = x * y + y * x) (hY:Y * (1 - d * x * x * y * y) = y * y + x * x) :
  ∃ E F G H : K, E = (x * z + y * z) * (x * z + y * z) - x * z * (x * z) - y * z * (y * z) ∧ H = -(x * z * (x * z)) - y * z * (y * z) ∧ F = y * z * (y * z) - x * z * (x * z) - z * z - z * z ∧ G = y * z * (y * z) - x * z * (x * z) ∧
   F = -(z * z) * (1 - d * x * x * y * y) ∧ G = z * z * (1 + d * x * x * y * y) ∧ E * F = X * (F * G) ∧ G * H = Y * (F * G) ∧ E * H = X * Y * (F * G) := by
 have hE : (x * z + y * z) * (x * z + y * z) - x * z * (x * z) - y * z * (y * z) = X * (z * z * (1 + d * x * x * y * y)) := by
  rw [show X * (z * z * (1 + d * x * x * y * y)) = z * z * (X * (1 + d * x * x * y * y)) by grind, hX]; grind
 have hH : -(x * z * (x * z)) - y * z * (y * z) = Y * (-(z * z) * (1 - d * x * x * y * y)) := by
  rw [show Y * (-(z * z) * (1 - d * x * x * y * y)) = -(z * z) * (Y * (1 - d * x * x * y * y)) by grind, hY]; grind
 have hG : y * z * (y * z) - x * z * (x * z) = z * z * (1 + d * x * x * y * y) := by
  rw [show y * z * (y * z) - x * z * (x * z) = z * z * (y ^ 2 - x ^ 2) by grind, on]; grind
 have hF : y * z * (y * z) - x * z * (x * z) - z * z - z * z = -(z * z) * (1 - d * x * x * y * y) := by rw [hG]; grind
 refine ⟨_, _, _, _, rfl, rfl, rfl, rfl, hF, hG, ?_, ?_, ?_⟩
 ·rw [hE, hF, hG]; generalize 1 - d * x * x * y * y = u; generalize 1 + d * x * x * y * y = v; clear hX hY hE hH hF hG on; grind
 ·rw [hH, hF, hG]; generalize 1 - d * x * x * y * y = u; generalize 1 + d * x * x * y * y = v; clear hX hY hE hH hF hG on; grind
 ·rw [hE, hH, hF, hG]; generalize 1 - d * x * x * y * y = u; generalize 1 + d * x * x * y * y = v; clear hX hY hE hH hF hG on; grind
theorem ZrZ {p:P4} {a:KP} (h:RepP p a) (o:OnP a) : ∃ r, ZbL p = some r ∧ RepP r (kdbl a) := by
 have w := h.whole
 unfold ZbL
 generalize Zan (p.1, p.2.1, p.2.2.1, p.2.2.2) = q at *
 obtain ⟨r1, k1, c1, e1⟩ := sq_k w.cx.L5
 obtain ⟨r2, k2, c2, e2⟩ := sq_k w.cy.L5
 obtain ⟨r3, k3, c3, e3⟩ := sq_k w.cz.L5
 have a1 := add_k w.cx.L5 w.cy.L5
 obtain ⟨r4, k4, c4, e4⟩ := sq_k a1.1.L5
 have s1 := sub_k c4.L5 c1.L5
 have s2 := sub_k s1.1.L5 c2.L5
 have s3 := sub_k c2.L5 c1.L5
 have s4 := sub_k s3.1.L5 c3.L5
 have s5 := sub_k s4.1.L5 c3.L5
 have n1 := neg_k c1.L5
 have s6 := sub_k n1.1.L5 c2.L5
 obtain ⟨X, Y, Z, T, k6, g1, g2, g3, g4, g5, g6, g7, g8⟩ := ZF7 s2.1 s5.1 s3.1 s6.1
 refine ⟨(X, Y, Z, T), by simp only [k1, k2, k3, k4, k6, mo], .inl ?_⟩
 obtain ⟨E, F, G, H, m1, m2, m3, m4, m5, m6, m7, m8, m9⟩ := dbl_fin (z := kv q.2.2.1) o (ZqD o o) (ZqE o o)
 have eE : kv (Zax (Zax r4 r1) r2) = E := by rw [s2.2, s1.2, e4, e1, e2, a1.2, w.x, w.y, m1]
 have eF : kv (Zax (Zax (Zax r2 r1) r3) r3) = F := by rw [s5.2, s4.2, s3.2, e3, e2, e1, w.x, w.y, m3]
 have eG : kv (Zax r2 r1) = G := by rw [s3.2, e2, e1, w.x, w.y, m4]
 have eH : kv (Zax (ZaN r1) r2) = H := by rw [s6.2, n1.2, e1, e2, w.x, w.y, m2]
 rw [eE, eF] at g5
 rw [eG, eH] at g6
 rw [eF, eG] at g7
 rw [eE, eH] at g8
 obtain ⟨w1, w2⟩ := ZdP o o
 have zz : kv q.2.2.1 * kv q.2.2.1 ≠ 0 := K.mul_ne w.z w.z
 have zn : -(kv q.2.2.1 * kv q.2.2.1) ≠ 0 := fun h => zz (by rw [show kv q.2.2.1 * kv q.2.2.1 = - -(kv q.2.2.1 * kv q.2.2.1) by grind, h]; grind)
 refine ⟨g1, g2, g3, g4, ?_, ?_, ?_, ?_⟩
 ·show kv Z ≠ 0
  rw [g7, m5, m6]; exact K.mul_ne (K.mul_ne zn w2) (K.mul_ne zz w1)
 ·show kv X = _ * kv Z
  rw [g5, g7]; exact m7
 ·show kv Y = _ * kv Z
  rw [g6, g7]; exact m8
 ·show kv T = _ * kv Z
  rw [g8, g7]; exact m9
theorem ZBi {X Y z w:K} (hz:z ≠ 0) (hw:w ≠ 0) : X * z * w = Y * w * z ↔ X = Y := by
 constructor
 ·intro h
  refine K.cancel (K.mul_ne hz hw) ?_
  rw [show z * w * X = X * z * w by grind, h]; grind
 ·rintro rfl; grind
theorem Zy9 {p q:P4} {a b:KP} (h1:RepP p a) (h2:RepP q b) : ∃ c, Zc5 p q = some c ∧ (c = true ↔ a = b) := by
 have u := h1.whole
 have v := h2.whole
 unfold Zc5
 generalize Zan (p.1, p.2.1, p.2.2.1, p.2.2.2) = p at *
 generalize Zan (q.1, q.2.1, q.2.2.1, q.2.2.2) = q at *
 obtain ⟨r1, k1, c1, e1⟩ := mul_k u.cx.L5 v.cz.L5
 obtain ⟨r2, k2, c2, e2⟩ := mul_k v.cx.L5 u.cz.L5
 obtain ⟨r3, k3, c3, e3⟩ := mul_k u.cy.L5 v.cz.L5
 obtain ⟨r4, k4, c4, e4⟩ := mul_k v.cy.L5 u.cz.L5
 rw [u.x] at e1
 rw [v.x] at e2
 rw [u.y] at e3
 rw [v.y] at e4
 have x : r1 = r2 ↔ a.1 = b.1 := by
  rw [← ZBi u.z v.z, ← e1, ← e2]
  exact ⟨fun h => by rw [h], fun h => can_k c1 c2 h⟩
 have y : r3 = r4 ↔ a.2 = b.2 := by
  rw [← ZBi u.z v.z, ← e3, ← e4]
  exact ⟨fun h => by rw [h], fun h => can_k c3 c4 h⟩
 by_cases hx : r1 = r2
 ·refine ⟨decide (r3 = r4), by simp only [k1, k2, k3, k4, mo, decide_eq_true hx, cond_true], ?_⟩
  rw [decide_eq_true_eq, y]
  exact ⟨fun h => Prod.ext (x.1 hx) h, fun h => by rw [h]⟩
 ·refine ⟨false, by simp only [k1, k2, mo, decide_eq_false hx, cond_false], ?_⟩
  constructor
  ·intro h; cases h
  ·intro h; exact absurd (x.2 (by rw [h])) hx
def nib (b:LI) (i:Nat) : Nat := (List.getD b (i / 2) 0).toNat / 16 ^ (i % 2) % 16
def digs (b:LI) : Nat → List Nat
 | 0 => []
 | n + 1 => nib b n :: digs b n
theorem b_nib {y:Int} (h : 0 ≤ y ∧ y ≤ 255) (r:Nat) (hr:r < 2) : ibin .and .u8 (ibin .shr .u8 y ((4 * r : Nat) : Int)) 15 = ((y.toNat / 16 ^ r % 16 : Nat) : Int) := by
 have hp : (2 : Nat) ^ (4 * r) = 16 ^ r := by rw [Nat.pow_mul]
 have e1 : ibin .shr .u8 y ((4 * r : Nat) : Int) = ((y.toNat / 16 ^ r : Nat) : Int) := by
  show y.fdiv (2 ^ (min ((4 * r : Nat) : Int).toNat 8)) = _
  rw [Int.toNat_natCast, Nat.min_eq_left (by omega), Int.fdiv_eq_ediv_of_nonneg _ (Int.le_of_lt (Int.pow_pos (by decide)))]
  have : y = (y.toNat : Int) := by omega
  conv => lhs; rw [this]
  rw [← hp, Int.natCast_ediv, Int.natCast_pow]; rfl
 rw [e1]
 generalize hz : y.toNat / 16 ^ r = z
 have hz2 : z ≤ 255 := by
  rw [← hz]
  exact Nat.le_trans (Nat.div_le_self _ _) (by omega)
 show IntKind.wrap .u8 ((BitVec.ofInt 8 (z:Int) &&& BitVec.ofInt 8 15).toNat : Int) = _
 have : (BitVec.ofInt 8 (z:Int) &&& BitVec.ofInt 8 15).toNat = z % 16 := by
  rw [BitVec.toNat_and, BitVec.toNat_ofInt, show (BitVec.ofInt 8 15).toNat = 2 ^ 4 - 1 from rfl, Nat.and_two_pow_sub_one_eq_mod]
  omega
 rw [this, wrap8]
 omega
theorem ZEX (p:KP) : rnd p kzero 0 = kzero := by
 unfold rnd kdbl nmul
 rw [Zl6, Zl6, Zl6, Zl6, Zl6]
theorem ZBj (p:KP) (b:LI) : (n m:Nat) → (∀ j, n ≤ j → j < m → nib b j = 0) → n ≤ m → (digs b m).foldl (rnd p) kzero = (digs b n).foldl (rnd p) kzero
 | n, 0, _, h => by
  obtain rfl : n = 0 := by omega
  rfl
 | n, m + 1, hz, h => by
  rcases Nat.lt_or_ge m n with hm | hm
  ·obtain rfl : n = m + 1 := by omega
   rfl
  ·rw [← ZBj p b n m (fun j h1 h2 => hz j h1 (by omega)) hm, digs, List.foldl_cons, hz m hm (by omega), ZEX]
abbrev T16 (t:Nat → P4) : P4 × P4 × P4 × P4 × P4 × P4 × P4 × P4 × P4 × P4 × P4 × P4 × P4 × P4 × P4 × P4 := (t 0, t 1, t 2, t 3, t 4, t 5, t 6, t 7, t 8, t 9, t 10, t 11, t 12, t 13, t 14, t 15)
theorem sel16 {Q:P4 → Nat → Prop} {t:Nat → P4} (ht:∀ i, i < 16 → Q (t i) i) (d:Nat) (hd:d < 16) :
  Q (List.getD [(t 0).1, (t 1).1, (t 2).1, (t 3).1, (t 4).1, (t 5).1, (t 6).1, (t 7).1, (t 8).1, (t 9).1, (t 10).1, (t 11).1, (t 12).1, (t 13).1, (t 14).1, (t 15).1] d [],
   List.getD [(t 0).2.1, (t 1).2.1, (t 2).2.1, (t 3).2.1, (t 4).2.1, (t 5).2.1, (t 6).2.1, (t 7).2.1, (t 8).2.1, (t 9).2.1, (t 10).2.1, (t 11).2.1, (t 12).2.1, (t 13).2.1, (t 14).2.1, (t 15).2.1] d [],
   List.getD [(t 0).2.2.1, (t 1).2.2.1, (t 2).2.2.1, (t 3).2.2.1, (t 4).2.2.1, (t 5).2.2.1, (t 6).2.2.1, (t 7).2.2.1, (t 8).2.2.1, (t 9).2.2.1, (t 10).2.2.1, (t 11).2.2.1, (t 12).2.2.1, (t 13).2.2.1, (t 14).2.2.1, (t 15).2.2.1] d [],
   List.getD [(t 0).2.2.2, (t 1).2.2.2, (t 2).2.2.2, (t 3).2.2.2, (t 4).2.2.2, (t 5).2.2.2, (t 6).2.2.2, (t 7).2.2.2, (t 8).2.2.2, (t 9).2.2.2, (t 10).2.2.2, (t 11).2.2.2, (t 12).2.2.2, (t 13).2.2.2, (t 14).2.2.2, (t 15).2.2.2] d []) d := by
 match d, hd with
 | 0, _ => exact ht 0 (by decide)
 | 1, _ => exact ht 1 (by decide)
 | 2, _ => exact ht 2 (by decide)
 | 3, _ => exact ht 3 (by decide)
 | 4, _ => exact ht 4 (by decide)
 | 5, _ => exact ht 5 (by decide)
 | 6, _ => exact ht 6 (by decide)
 | 7, _ => exact ht 7 (by decide)
 | 8, _ => exact ht 8 (by decide)
 | 9, _ => exact ht 9 (by decide)
 | 10, _ => exact ht 10 (by decide)
 | 11, _ => exact ht 11 (by decide)
 | 12, _ => exact ht 12 (by decide)
 | 13, _ => exact ht 13 (by decide)
 | 14, _ => exact ht 14 (by decide)
 | 15, _ => exact ht 15 (by decide)
 | n + 16, h => exact absurd h (by omega)
theorem ZoH {n:Nat} {i:Nat} (h:i < n) : decide (0 ≤ (i:Int) ∧ (i:Int) < ((n:Nat) : Int)) = true := decide_eq_true ⟨by omega, by omega⟩
theorem dec_nn (i:Nat) : decide (0 ≤ (i:Int)) = true := decide_eq_true (by omega)
theorem ZpO (i:Nat) : icmp .geq (i:Int) 0 = true := by
 have h : (i:Int) ≥ 0 := by omega
 simp [icmp]
theorem Zv0 {b:LI} (hb:L32 b) (i:Nat) : 0 ≤ List.getD b i 0 ∧ List.getD b i 0 ≤ 255 := by
 rw [List.getD_eq_getElem?_getD]
 rcases Nat.lt_or_ge i b.length with h | h
 ·rw [List.getElem?_eq_getElem h]
  exact hb.2 _ (List.getElem_mem h)
 ·rw [List.getElem?_eq_none h]; exact ⟨by decide, by decide⟩
theorem l6_step (N:Nat) {t:Nat → P4} {p:KP} (hp:OnP p) (ht:∀ i, i < 16 → RepP (t i) (nmul p i)) {b:LI} (hb:L32 b) {acc:P4} {q:KP} (ha:RepP acc q) (hq:OnP q) {i:Nat} (hi:i < 64) :
  ∃ r, Zbf N (((), (), (), (), (i:Int)), (b, (), T16 t, acc)) = some (.inl (((), (), (), (), (i:Int) - 1), (b, (), T16 t, r))) ∧ RepP r (rnd p q (nib b i)) := by
 obtain ⟨r1, k1, h1⟩ := ZrZ ha hq
 have o1 := Zjk hq
 obtain ⟨r2, k2, h2⟩ := ZrZ h1 o1
 have o2 := Zjk o1
 obtain ⟨r3, k3, h3⟩ := ZrZ h2 o2
 have o3 := Zjk o2
 obtain ⟨r4, k4, h4⟩ := ZrZ h3 o3
 have o4 := Zjk o3
 have hlt : nib b i < 16 := Nat.mod_lt _ (by decide)
 obtain ⟨r5, k5, h5⟩ := ZpN h4 (sel16 (Q := fun x d => RepP x (nmul p d)) ht (nib b i) hlt) o4 (ZoI hp _)
 have e1 : ibin .quo .i64 (i:Int) 2 = ((i / 2 : Nat) : Int) := Ref.i_quo 2 (by omega)
 have e2 : ibin .rem .i64 (i:Int) 2 = ((i % 2 : Nat) : Int) := Ref.i_rem 2
 have e3 : ibin .mul .i64 4 ((i % 2 : Nat) : Int) = ((4 * (i % 2) : Nat) : Int) := by rw [Ref.i_mul (by omega) (by omega)]; omega
 have e4 : ibin .and .u8 (ibin .shr .u8 (List.getD b (i / 2) 0) ((4 * (i % 2) : Nat) : Int)) 15 = ((nib b i:Nat) : Int) := b_nib (Zv0 hb _) _ (Nat.mod_lt _ (by decide))
 have e5 : ibin .sub .i64 (i:Int) 1 = (i:Int) - 1 := Ref.i_sub (by omega) (by omega)
 refine ⟨r5, ?_, h5⟩
 obtain ⟨a1, a2, a3, a4⟩ := acc
 obtain ⟨b1, b2, b3, b4⟩ := r1
 obtain ⟨c1, c2, c3, c4⟩ := r2
 obtain ⟨d1, d2, d3, d4⟩ := r3
 obtain ⟨f1, f2, f3, f4⟩ := r4
 unfold Zbf
 simp only [ZpO, cond_true, k1, k2, k3, k4, mo, e1, ZoH (show i / 2 < 32 by omega), e2, e3, dec_nn, Int.toNat_natCast, e4, ZoH hlt, k5, e5]
theorem ZC4 (N:Nat) {t:Nat → P4} {p:KP} (hp:OnP p) (ht:∀ i, i < 16 → RepP (t i) (nmul p i)) {b:LI} (hb:L32 b) : (k:Nat) → k ≤ 64 → (fuel:Nat) → k < fuel → (acc:P4) → (q:KP) → RepP acc q → OnP q →
  ∃ r, loopF (Zbf N) fuel (((), (), (), (), (k:Int) - 1), (b, (), T16 t, acc)) = some (.inl (((), ()), ((), r))) ∧ RepP r ((digs b k).foldl (rnd p) q)
 | 0, _, fuel + 1, _, acc, q, ha, hq => by
  refine ⟨acc, ?_, ha⟩
  rw [Zbh]
  have : icmp .geq (((0 : Nat) : Int) - 1) 0 = false := by decide
  unfold Zbf
  simp only [this, cond_false, mo]
 | k + 1, hk, fuel + 1, hf, acc, q, ha, hq => by
  obtain ⟨r, h1, h2⟩ := l6_step N hp ht hb ha hq (show k < 64 by omega)
  obtain ⟨r', g1, g2⟩ := ZC4 N hp ht hb k (by omega) fuel (by omega) r _ h2 (ZF8 hp hq _)
  refine ⟨r', ?_, g2⟩
  rw [Zbh, show (((k + 1 : Nat) : Int) - 1) = (k:Int) by omega, h1]
  exact g1
theorem Zx9 (n:Nat) : icmp .neq (n:Int) 0 = !decide (n = 0) := by
 by_cases h : n = 0
 ·subst h; rfl
 ·have h' : (n:Int) ≠ 0 := by omega
  simp only [icmp, h, h', decide_false]
  simp [h]
theorem ZC5 (N:Nat) {b:LI} (hb:L32 b) (x y z u:LI) : (k:Nat) → k ≤ 32 → (fuel:Nat) → k < fuel →
  ∃ n : Nat, n ≤ 2 * k ∧ loopF (ZaX N) fuel (((), (), (), (), (k:Int) - 1), ((x, y, z, u), b, ())) = some (.inl (((), (), (), (n:Int) - 1), ((x, y, z, u), b, ()))) ∧ ∀ j, n ≤ j → j < 2 * k → nib b j = 0
 | 0, _, fuel + 1, _ => by
  refine ⟨0, by omega, ?_, fun j h1 h2 => by omega⟩
  rw [Zbh]
  have : icmp .geq (((0 : Nat) : Int) - 1) 0 = false := by decide
  unfold ZaX
  simp only [this, cond_false, mo]
  rfl
 | k + 1, hk, fuel + 1, hf => by
  have e0 : (((k + 1 : Nat) : Int) - 1) = (k:Int) := by omega
  have n1 : ibin .and .u8 (ibin .shr .u8 (List.getD b k 0) 4) 15 = ((nib b (2 * k + 1) : Nat) : Int) := by
   have := b_nib (Zv0 hb k) 1 (by decide)
   rw [show ((4 * 1 : Nat) : Int) = 4 from rfl] at this
   rw [this]; unfold nib
   rw [show (2 * k + 1) / 2 = k by omega, show (2 * k + 1) % 2 = 1 by omega]
  have n0 : ibin .and .u8 (ibin .shr .u8 (List.getD b k 0) 0) 15 = ((nib b (2 * k) : Nat) : Int) := by
   have := b_nib (Zv0 hb k) 0 (by decide)
   rw [show ((4 * 0 : Nat) : Int) = 0 from rfl] at this
   rw [this]; unfold nib
   rw [show (2 * k) / 2 = k by omega, show (2 * k) % 2 = 0 by omega]
  have m2 : ibin .mul .i64 2 (k:Int) = ((2 * k : Nat) : Int) := by rw [Ref.i_mul (by omega) (by omega)]; omega
  have a1 : ibin .add .i64 ((2 * k : Nat) : Int) 1 = ((2 * k + 2 : Nat) : Int) - 1 := by rw [Ref.i_add (by omega) (by omega)]; omega
  have a0 : ibin .add .i64 ((2 * k : Nat) : Int) 0 = ((2 * k + 1 : Nat) : Int) - 1 := by rw [Ref.i_add (by omega) (by omega)]; omega
  have s1 : ibin .sub .i64 (k:Int) 1 = (k:Int) - 1 := Ref.i_sub (by omega) (by omega)
  by_cases h1 : nib b (2 * k + 1) = 0
  ·by_cases h0 : nib b (2 * k) = 0
   ·obtain ⟨n, g1, g2, g3⟩ := ZC5 N hb x y z u k (by omega) fuel (by omega)
    refine ⟨n, by omega, ?_, fun j j1 j2 => ?_⟩
    ·rw [Zbh, e0]
     unfold ZaX
     simp only [ZpO, ZoH (show k < 32 by omega), Int.toNat_natCast, n1, n0, Zx9, h1, h0, decide_true, Bool.not_true, cond_true, cond_false, s1, mo]
     exact g2
    ·rcases Nat.lt_or_ge j (2 * k) with h | h
     ·exact g3 j j1 h
     ·rcases Nat.lt_or_ge j (2 * k + 1) with h' | h'
      ·rw [show j = 2 * k by omega]; exact h0
      ·rw [show j = 2 * k + 1 by omega]; exact h1
   ·refine ⟨2 * k + 1, by omega, ?_, fun j j1 j2 => by rw [show j = 2 * k + 1 by omega]; exact h1⟩
    rw [Zbh, e0]
    unfold ZaX
    simp only [ZpO, ZoH (show k < 32 by omega), Int.toNat_natCast, n1, n0, Zx9, h1, decide_eq_false h0, decide_true, Bool.not_true, Bool.not_false, cond_true, cond_false, m2, a0, mo]
  ·refine ⟨2 * k + 2, by omega, ?_, fun j j1 j2 => by omega⟩
   rw [Zbh, e0]
   unfold ZaX
   simp only [ZpO, ZoH (show k < 32 by omega), Int.toNat_natCast, n1, Zx9, decide_eq_false h1, Bool.not_false, cond_true, m2, a1, mo]
theorem ZC6 {x:P4} {p:KP} (h:RepP x p) (hp:OnP p) : ∃ t : Nat → P4, t 0 = (z5, z5, z5, z5) ∧ (∀ i, i < 15 → ZaA (t i) x = some (t (i + 1))) ∧ ∀ i, RepP (t i) (nmul p i) := by
 let step : P4 → P4 := fun a => (ZaA a x).getD a
 let t : Nat → P4 := fun n => n.rec (z5, z5, z5, z5) fun _ a => step a
 have key : ∀ i, RepP (t i) (nmul p i) ∧ ZaA (t i) x = some (t (i + 1)) := by
  intro i
  induction i with
  | zero =>
   have h0 : RepP (t 0) (nmul p 0) := ZvT
   obtain ⟨r, k1, k2⟩ := ZpN h0 h (ZoI hp 0) hp
   refine ⟨h0, ?_⟩
   show _ = some (step (t 0))
   show _ = some ((ZaA (t 0) x).getD (t 0))
   rw [k1]; rfl
  | succ i ih =>
   obtain ⟨h1, h2⟩ := ih
   have h3 : RepP (t (i + 1)) (nmul p (i + 1)) := by
    obtain ⟨r, k1, k2⟩ := ZpN h1 h (ZoI hp i) hp
    rw [h2] at k1
    rw [Option.some.inj k1]; exact k2
   obtain ⟨r, k1, k2⟩ := ZpN h3 h (ZoI hp (i + 1)) hp
   refine ⟨h3, ?_⟩
   show _ = some ((ZaA (t (i + 1)) x).getD (t (i + 1)))
   rw [k1]; rfl
 exact ⟨t, rfl, fun i _ => (key i).2, fun i => (key i).1⟩
theorem ZxC (N:Nat) (hN : 65 ≤ N) {x:P4} {p:KP} (h:RepP x p) (hp:OnP p) {b:LI} (hb:L32 b) : ∃ r, ZbG N x b = some r ∧ RepP r (horn p (digs b 64)) := by
 obtain ⟨x1, x2, x3, x4⟩ := x
 obtain ⟨n, n1, n2, n3⟩ := ZC5 N hb x1 x2 x3 x4 32 (by decide) N (by omega)
 obtain ⟨t, t1, t2, t3⟩ := ZC6 h hp
 obtain ⟨r, k1, k2⟩ := ZC4 N hp (fun i _ => t3 i) hb n (by omega) N (by omega) (z5, z5, z5, z5) kzero ZvT Zv1
 rw [← ZBj p b n 64 (fun j j1 j2 => n3 j j1 (by omega)) (by omega)] at k2
 refine ⟨r, ?_, k2⟩
 have a0 := t2 0 (by decide)
 rw [t1] at a0
 have a1 := t2 1 (by decide)
 have a2 := t2 2 (by decide)
 have a3 := t2 3 (by decide)
 have a4 := t2 4 (by decide)
 have a5 := t2 5 (by decide)
 have a6 := t2 6 (by decide)
 have a7 := t2 7 (by decide)
 have a8 := t2 8 (by decide)
 have a9 := t2 9 (by decide)
 have a10 := t2 10 (by decide)
 have a11 := t2 11 (by decide)
 have a12 := t2 12 (by decide)
 have a13 := t2 13 (by decide)
 have a14 := t2 14 (by decide)
 unfold T16 at k1
 rw [t1] at k1
 have n2' : loopF (ZaX N) N (((), (), (), (), 31), ((x1, x2, x3, x4), b, ())) = some (.inl (((), (), (), (n:Int) - 1), ((x1, x2, x3, x4), b, ()))) := n2
 unfold ZbG
 simp only [n2', mo, a0, a1, a2, a3, a4, a5, a6, a7, a8, a9, a10, a11, a12, a13, a14, k1]
end Go.Vx
set_option autoImplicit false
set_option linter.unusedSimpArgs false
namespace Go.Vx
open Go
theorem Zza : RepP (z5, z5, z5, z5) kzero := ZvT
theorem Zk4 {l:LI} {n:Nat} (h:val l % pF = (n:Int) % pF) : kv l = kn n := K.of_eq.2 h
theorem pt_of {x y t:LI} (hx:Can x) (hy:Can y) (ht:Can t) (h:val t % pF = val x * val y % pF)
  (hon:(val y * val y - val x * val x) % pF = (1 + 37095705934669439343138083508754565189542113879843219016388785533085940283555 * (val x * val x) * (val y * val y)) % pF) : RepP (x, y, o5, t) (kv x, kv y) ∧ OnP (kv x, kv y) := by
 refine ⟨Zx5 hx hy ht ?_, ?_⟩
 ·show K.of (val t) = K.of (val x) * K.of (val y)
  rw [← K.of_mul, K.of_eq]; exact h
 ·have h1 := K.of_eq.2 hon
  rw [K.of_sub, K.of_add, K.of_mul, K.of_mul, K.of_mul, K.of_mul, K.of_mul, K.of_mul] at h1
  show On (K.of (val x)) (K.of (val y))
  unfold On
  have hd : K.of 37095705934669439343138083508754565189542113879843219016388785533085940283555 = kD := rfl
  have h1' : K.of 1 = 1 := rfl
  rw [hd, h1'] at h1
  generalize K.of (val x) = a at *
  generalize K.of (val y) = b at *
  generalize kD = d at *
  grind
theorem ZEY : RepP (Zay.1, Zay.2.1, Zay.2.2.1, Zay.2.2.2) kB := by
 have h := (pt_of (x := Zay.1) (y := Zay.2.1) (t := Zay.2.2.2) ⟨_, _, _, _, _, rfl, by decide, by decide, by decide, by decide, by decide, by decide⟩ ⟨_, _, _, _, _, rfl, by decide, by decide, by decide, by decide, by decide, by decide⟩ ⟨_, _, _, _, _, rfl, by decide, by decide, by decide, by decide, by decide, by decide⟩ (by decide) (by decide)).1
 have e1 : kv Zay.1 = kB.1 := K.of_eq.2 (by decide)
 have e2 : kv Zay.2.1 = kB.2 := K.of_eq.2 (by decide)
 rw [e1, e2] at h
 exact h
def torX : Nat → LI
 | 0 => [0, 0, 0, 0, 0]
 | 1 => [358744748052810, 1691584618240980, 977650209285361, 1429865912637724, 560044844278676]
 | 2 => [1718705420411056, 234908883556509, 2233514472574048, 2117202627021982, 765476049583133]
 | 3 => [358744748052810, 1691584618240980, 977650209285361, 1429865912637724, 560044844278676]
 | 4 => [0, 0, 0, 0, 0]
 | 5 => [1893055065632419, 560215195444267, 1274149604399886, 821933901047523, 1691754969406571]
 | 6 => [533094393274173, 2016890930128738, 18285341111199, 134597186663265, 1486323764102114]
 | _ => [1893055065632419, 560215195444267, 1274149604399886, 821933901047523, 1691754969406571]
def torY : Nat → LI
 | 0 => [0, 0, 0, 0, 0]
 | 1 => [2166873539340326, 1778179147085316, 1886209374839743, 1223329526802818, 105300633354275]
 | 2 => [0, 0, 0, 0, 0]
 | 3 => [84926274344903, 473620666599931, 365590438845504, 1028470286882429, 2146499180330972]
 | 4 => [2251799813685228, 2251799813685247, 2251799813685247, 2251799813685247, 2251799813685247]
 | 5 => [84926274344903, 473620666599931, 365590438845504, 1028470286882429, 2146499180330972]
 | 6 => [0, 0, 0, 0, 0]
 | _ => [2166873539340326, 1778179147085316, 1886209374839743, 1223329526802818, 105300633354275]
def torT : Nat → LI
 | 0 => [0, 0, 0, 0, 0]
 | 1 => [803472979097708, 393902981724766, 1158077081819914, 574391322974006, 336294660666841]
 | 2 => [0, 0, 0, 0, 0]
 | 3 => [1448326834587521, 1857896831960481, 1093722731865333, 1677408490711241, 1915505153018406]
 | 4 => [0, 0, 0, 0, 0]
 | 5 => [803472979097708, 393902981724766, 1158077081819914, 574391322974006, 336294660666841]
 | 6 => [0, 0, 0, 0, 0]
 | _ => [1448326834587521, 1857896831960481, 1093722731865333, 1677408490711241, 1915505153018406]
def torK : Nat → KP
 | 0 => kzero
 | n + 1 => (kv (torX (n + 1)), kv (torY (n + 1)))
theorem and7 {a:Int} (h : -9223372036854775808 ≤ a ∧ a ≤ 9223372036854775807) : ibin .and .i64 a 7 = a % 8 := by
 show IntKind.wrap .i64 ((BitVec.ofInt 64 a &&& BitVec.ofInt 64 7).toNat : Int) = _
 have : (BitVec.ofInt 64 a &&& BitVec.ofInt 64 7).toNat = (a % 18446744073709551616).toNat % 8 := by
  rw [BitVec.toNat_and, BitVec.toNat_ofInt, show (BitVec.ofInt 64 7).toNat = 2 ^ 3 - 1 from rfl, Nat.and_two_pow_sub_one_eq_mod]
  rfl
 rw [this]
 have e := Ref.wrapi (n := (((a % 18446744073709551616).toNat % 8 : Nat) : Int)) (by omega) (by omega)
 rw [e]
 omega
theorem ZC7 (j:Nat) (h:j < 8) : RepP (torX j, torY j, (if j = 0 then z5 else o5), torT j) (torK j) ∧ OnP (torK j) := by
 match j, h with
 | 0, _ => exact ⟨ZvT, Zv1⟩
 | 1, _ => exact pt_of ⟨_, _, _, _, _, rfl, by decide, by decide, by decide, by decide, by decide, by decide⟩ ⟨_, _, _, _, _, rfl, by decide, by decide, by decide, by decide, by decide, by decide⟩ ⟨_, _, _, _, _, rfl, by decide, by decide, by decide, by decide, by decide, by decide⟩ (by decide) (by decide)
 | 2, _ => exact pt_of ⟨_, _, _, _, _, rfl, by decide, by decide, by decide, by decide, by decide, by decide⟩ ⟨_, _, _, _, _, rfl, by decide, by decide, by decide, by decide, by decide, by decide⟩ ⟨_, _, _, _, _, rfl, by decide, by decide, by decide, by decide, by decide, by decide⟩ (by decide) (by decide)
 | 3, _ => exact pt_of ⟨_, _, _, _, _, rfl, by decide, by decide, by decide, by decide, by decide, by decide⟩ ⟨_, _, _, _, _, rfl, by decide, by decide, by decide, by decide, by decide, by decide⟩ ⟨_, _, _, _, _, rfl, by decide, by decide, by decide, by decide, by decide, by decide⟩ (by decide) (by decide)
 | 4, _ => exact pt_of ⟨_, _, _, _, _, rfl, by decide, by decide, by decide, by decide, by decide, by decide⟩ ⟨_, _, _, _, _, rfl, by decide, by decide, by decide, by decide, by decide, by decide⟩ ⟨_, _, _, _, _, rfl, by decide, by decide, by decide, by decide, by decide, by decide⟩ (by decide) (by decide)
 | 5, _ => exact pt_of ⟨_, _, _, _, _, rfl, by decide, by decide, by decide, by decide, by decide, by decide⟩ ⟨_, _, _, _, _, rfl, by decide, by decide, by decide, by decide, by decide, by decide⟩ ⟨_, _, _, _, _, rfl, by decide, by decide, by decide, by decide, by decide, by decide⟩ (by decide) (by decide)
 | 6, _ => exact pt_of ⟨_, _, _, _, _, rfl, by decide, by decide, by decide, by decide, by decide, by decide⟩ ⟨_, _, _, _, _, rfl, by decide, by decide, by decide, by decide, by decide, by decide⟩ ⟨_, _, _, _, _, rfl, by decide, by decide, by decide, by decide, by decide, by decide⟩ (by decide) (by decide)
 | 7, _ => exact pt_of ⟨_, _, _, _, _, rfl, by decide, by decide, by decide, by decide, by decide, by decide⟩ ⟨_, _, _, _, _, rfl, by decide, by decide, by decide, by decide, by decide, by decide⟩ ⟨_, _, _, _, _, rfl, by decide, by decide, by decide, by decide, by decide, by decide⟩ (by decide) (by decide)
 | n + 8, h => exact absurd h (by omega)
theorem ZC8 {a:Int} (h : -9223372036854775808 ≤ a ∧ a ≤ 9223372036854775807) : ∃ x y z t, ZgG a = some (x, y, z, t) ∧ RepP (x, y, z, t) (torK (a % 8).toNat) ∧ OnP (torK (a % 8).toNat) := by
 have hj : (a % 8).toNat < 8 := by omega
 have hd : decide (0 ≤ a % 8 ∧ a % 8 < ((8 : Nat) : Int)) = true := decide_eq_true ⟨by omega, by omega⟩
 refine ⟨_, _, _, _, ?_, (ZC7 _ hj).1, (ZC7 _ hj).2⟩
 unfold ZgG
 rw [and7 h, hd, cond_true]
 generalize (a % 8).toNat = j at *
 match j, hj with
 | 0, _ => rfl
 | 1, _ => rfl
 | 2, _ => rfl
 | 3, _ => rfl
 | 4, _ => rfl
 | 5, _ => rfl
 | 6, _ => rfl
 | 7, _ => rfl
 | n + 8, h => exact absurd h (by omega)
theorem Zv2 : L32 [237, 211, 245, 92, 26, 99, 18, 88, 214, 156, 247, 162, 222, 249, 222, 20, 0, 0, 0, 0, 0, 0, 0, 0, 0, 0, 0, 0, 0, 0, 0, 16] := ⟨rfl, by decide⟩
theorem ZC9 : digs [237, 211, 245, 92, 26, 99, 18, 88, 214, 156, 247, 162, 222, 249, 222, 20, 0, 0, 0, 0, 0, 0, 0, 0, 0, 0, 0, 0, 0, 0, 0, 16] 64 = ordD := by decide
theorem ZDa (N:Nat) (hN : 65 ≤ N) {x:P4} {p:KP} (h:RepP x p) (hp:OnP p) : ∃ c, ZdA N x = some c ∧ (c = true ↔ horn p ordD = kzero) := by
 obtain ⟨r, k1, k2⟩ := ZxC N hN h hp Zv2
 rw [ZC9] at k2
 obtain ⟨c, g1, g2⟩ := Zy9 k2 Zza
 refine ⟨c, ?_, g2⟩
 obtain ⟨x1, x2, x3, x4⟩ := x
 obtain ⟨r1, r2, r3, r4⟩ := r
 unfold ZdA
 simp only [k1, mo, g1]
theorem RepN.same {a b:N4} {p:KP} (ha:RepN a p) (hb:RepN b p) : a.1 * b.2.2.1 % pN = b.1 * a.2.2.1 % pN := by
 have h : kn (a.1 * b.2.2.1) = kn (b.1 * a.2.2.1) := by
  rw [ZhK, ZhK]
  have xa : kn a.1 = p.1 * kn a.2.2.1 := ha.x
  have xb : kn b.1 = p.1 * kn b.2.2.1 := hb.x
  rw [xa, xb]; grind
 have := K.of_eq.1 h
 have e : ∀ n : Nat, ((n % pN : Nat) : Int) = (n:Int) % pF := fun n => by rw [Int.natCast_emod]; rfl
 rw [← e, ← e] at this
 exact Int.ofNat.inj this
end Go.Vx
set_option autoImplicit false
set_option linter.unusedSimpArgs false
namespace Go.Vx
open Go
theorem Zya : (l:LI) → Bs l → (numB l:Int) = Ref.numW 8 l
 | [], _ => rfl
 | x :: l, h => by
  have h1 := h x (by simp)
  have h2 := Zya l (fun y hy => h y (by simp [hy]))
  simp only [numB, Ref.numW]
  rw [← h2]
  show ((x.toNat + 256 * numB l : Nat) : Int) = x + 256 * (numB l:Int)
  omega
theorem Zx4 {l:LI} (hl:L32 l) : (numB l:Int) < 115792089237316195423570985008687907853269984665640564039457584007913129639936 := by
 have := ZAp l hl.2
 rw [hl.1] at this
 have e : (256 : Nat) ^ 32 = 115792089237316195423570985008687907853269984665640564039457584007913129639936 := by decide
 rw [e] at this
 omega
abbrev lowB (b:LI) : LI := List.set b 31 (ibin .and .u8 (List.getD b 31 0) 127)
theorem ZAq {b:LI} (hb:L32 b) : lowB b = List.set b 31 (List.getD b 31 0 % 128) := by
 unfold lowB
 rw [ZEZ (Zyb hb).1]
theorem ZDb {b:LI} (hb:L32 b) {v:Int} (hv : 0 ≤ v ∧ v ≤ 255) : L32 (List.set b 31 v) := by
 refine ⟨by rw [List.length_set]; exact hb.1, fun x hx => ?_⟩
 rcases List.mem_or_eq_of_mem_set hx with h | h
 ·exact hb.2 x h
 ·rw [h]; exact hv
theorem ZCN {b:LI} (hb:L32 b) : L32 (lowB b) := by
 rw [ZAq hb]
 exact ZDb hb (by omega)
theorem ZDc {b:LI} (hb:L32 b) (v:Int) : List.getD (List.set b 31 v) 31 0 = v := by
 rw [List.getD_eq_getElem?_getD, List.getElem?_set_self (by rw [hb.1]; decide)]; rfl
theorem ZDd {b:LI} (hb:L32 b) : List.set b 31 (List.getD b 31 0) = b := by
 have h : 31 < b.length := by rw [hb.1]; decide
 rw [List.getD_eq_getElem?_getD, List.getElem?_eq_getElem h]
 exact List.set_getElem_self h
theorem or128 {y:Int} (h : 0 ≤ y ∧ y < 128) : ibin .or .u8 y 128 = y + 128 := by
 have : ∀ n : Fin 128, ibin .or .u8 (n.1 : Int) 128 = (n.1 : Int) + 128 := by decide +kernel
 have := this ⟨y.toNat, by omega⟩
 simp only at this
 rwa [Int.toNat_of_nonneg h.1] at this
theorem ZAn {y:LI} (hy:Can y) : L32 (Zau y) ∧ ZaQ (Zau y) = (y, 0) ∧ 0 ≤ List.getD (Zau y) 31 0 ∧ List.getD (Zau y) 31 0 < 128 := by
 obtain ⟨l, e⟩ := ZvZ hy.L5
 have n := hy.nonneg
 rw [Int.emod_eq_of_lt n.1 n.2] at e
 have t := Zyb l
 refine ⟨l, ?_, t.1.1, ?_⟩
 ·rcases ZqZ l with ⟨g1, g2, g3, g4⟩ | ⟨g1, g2⟩
  ·have : (ZaQ (Zau y)).1 = y := g3.inj hy (by rw [g4, e])
   exact Prod.ext this g2
  ·have := n.2
   rw [← e] at this
   exact absurd this (by omega)
 ·have : ¬ 127 < List.getD (Zau y) 31 0 := fun h => by
   have := t.2.1 h
   rw [e] at this
   have := n.2
   simp only [pF] at this
   omega
  omega
theorem low_enc {y:LI} (hy:Can y) : lowB (Zau y) = Zau y := by
 obtain ⟨l, -, h0, h1⟩ := ZAn hy
 rw [ZAq l, Int.emod_eq_of_lt h0 h1, ZDd l]
theorem faff {x y:LI} (hx:L5 x) (hy:L5 y) :
  (∃ t, Zc2 x y = some ((Zaa x, Zaa y, o5, t), 0) ∧ RepP (Zaa x, Zaa y, o5, t) (kv x, kv y) ∧ OnP (kv x, kv y)) ∨
  (Zc2 x y = some ((z5, z5, z5, z5), 40) ∧ ¬ OnP (kv x, kv y)) := by
 have la := ZtJ hx
 have lb := ZtJ hy
 obtain ⟨r1, h1, c1, e1⟩ := sq_k la.1.L5
 obtain ⟨r2, h2, c2, e2⟩ := sq_k lb.1.L5
 obtain ⟨r4, h4, c4, e4⟩ := mul_k ZBg.L5 c1.L5
 obtain ⟨r5, h5, c5, e5⟩ := mul_k c4.L5 c2.L5
 obtain ⟨r6, h6, c6, e6⟩ := mul_k la.1.L5 lb.1.L5
 have k1 := sub_k c2.L5 c1.L5
 have k2 := add_k ZtI.L5 c5.L5
 have hiff : Zax r2 r1 = ZaO [1, 0, 0, 0, 0] r5 ↔ OnP (kv x, kv y) := by
  have : kv (Zax r2 r1) = kv (ZaO [1, 0, 0, 0, 0] r5) ↔ OnP (kv x, kv y) := by
   rw [k1.2, k2.2, e5, e4, e1, e2, ZF5, la.2, lb.2, show kv [1, 0, 0, 0, 0] = 1 from rfl]
   show _ ↔ On (kv x) (kv y)
   unfold On
   generalize kv x = a
   generalize kv y = b
   generalize kD = d
   constructor <;> (intro h; grind)
  rw [← this]
  exact ⟨fun h => by rw [h], fun h => can_k k1.1 k2.1 h⟩
 have hr := Zx5 la.1 lb.1 c6 e6
 rw [la.2, lb.2] at hr
 by_cases hc : Zax r2 r1 = ZaO [1, 0, 0, 0, 0] r5
 ·left
  refine ⟨r6, ?_, hr, hiff.1 hc⟩
  unfold Zc2 ZiK
  simp only [h1, h2, const2', h4, h5, mo, decide_eq_true hc, Bool.not_true, cond_false, h6]
 ·right
  refine ⟨?_, fun h => hc (hiff.2 h)⟩
  unfold Zc2
  simp only [h1, h2, const2', h4, h5, mo, decide_eq_false hc, Bool.not_false, cond_true]
theorem den_ne (y:K) : kD * y ^ 2 + 1 ≠ 0 := fun h => by
 have hi := kI_sq
 have := (d_sq (a := y) (b := kI) (by generalize kD = d at *; grind)).2
 exact kI_ne this
theorem xof_k {y:LI} (hy:Can y) : ∃ s ok r1 r3, ZoJ 300 y = some (s, ok) ∧ Can s ∧ SR (kv y ^ 2 - 1) (kD * kv y ^ 2 + 1) (kv s) ok ∧
  ZaK y = some r1 ∧ Can r1 ∧ kv r1 = kv y ^ 2 ∧ Zap (Zc7 2) r1 = some r3 ∧ Zdl 300 (Zax r1 [1, 0, 0, 0, 0]) (ZaO r3 [1, 0, 0, 0, 0]) = some (s, ok) := by
 obtain ⟨r1, h1, c1, e1⟩ := sq_k hy.L5
 obtain ⟨r3, h3, c3, e3⟩ := mul_k ZBg.L5 c1.L5
 have k1 := sub_k c1.L5 ZtI.L5
 have k2 := add_k c3.L5 ZtI.L5
 obtain ⟨s, ok, h4, c4, sr⟩ := sqrt_sr k1.1.L5 k2.1.L5
 rw [k1.2, k2.2, e3, e1, ZF5, show kv [1, 0, 0, 0, 0] = 1 from rfl, k_sq] at sr
 refine ⟨s, ok, r1, r3, ?_, c4, sr, h1, c1, by rw [e1, k_sq], h3, h4⟩
 unfold ZoJ
 simp only [h1, const2', h3, h4, mo]
theorem on_x {x y:K} : On x y ↔ (kD * y ^ 2 + 1) * x ^ 2 = y ^ 2 - 1 := by
 unfold On
 generalize kD = d
 constructor <;> (intro h; grind)
theorem ZEN {b:LI} (hb:L32 b) :
  (ZaQ (lowB b) = (z5, 3) ∧ Zbl 300 b = some ((z5, z5, z5, z5), 3)) ∨
  (∃ y s ok r1 r3, ZaQ (lowB b) = (y, 0) ∧ Can y ∧ val y = numB (lowB b) ∧ Can s ∧ SR (kv y ^ 2 - 1) (kD * kv y ^ 2 + 1) (kv s) ok ∧
   ZaK y = some r1 ∧ Can r1 ∧ kv r1 = kv y ^ 2 ∧ Zap (Zc7 2) r1 = some r3 ∧ Zdl 300 (Zax r1 [1, 0, 0, 0, 0]) (ZaO r3 [1, 0, 0, 0, 0]) = some (s, ok) ∧
   ((ok = false ∧ Zbl 300 b = some ((z5, z5, z5, z5), 40)) ∨
    (ok = true ∧ 127 < List.getD b 31 0 ∧ kv s = 0 ∧ Zbl 300 b = some ((z5, z5, z5, z5), 3)) ∨
    (ok = true ∧ 127 < List.getD b 31 0 ∧ kv s ≠ 0 ∧ ∃ t, Zbl 300 b = some ((ZaN s, y, o5, t), 0) ∧ Can t ∧ kv t = kv (ZaN s) * kv y) ∨
    (ok = true ∧ ¬ 127 < List.getD b 31 0 ∧ ∃ t, Zbl 300 b = some ((s, y, o5, t), 0) ∧ Can t ∧ kv t = kv s * kv y))) := by
 have hl := ZCN hb
 rcases ZqZ hl with ⟨g1, g2, g3, g4⟩ | ⟨g1, g2⟩
 ·right
  have hp : ZaQ (lowB b) = ((ZaQ (lowB b)).1, 0) := Prod.ext rfl g2
  generalize (ZaQ (lowB b)).1 = y at *
  obtain ⟨s, ok, r1, r3, k1, k2, k3, k4, k5, k6, k7, k8⟩ := xof_k g3
  refine ⟨y, s, ok, r1, r3, hp, g3, g4, k2, k3, k4, k5, k6, k7, k8, ?_⟩
  have hp' : ZaQ (List.set b 31 (ibin .and .u8 (List.getD b 31 0) 127)) = (y, 0) := hp
  cases ok with
  | false =>
   left
   refine ⟨rfl, ?_⟩
   unfold Zbl
   simp only [hp', show icmp .neq 0 0 = false from rfl, cond_false, k1, mo, Bool.not_false, cond_true]
  | true =>
   right
   by_cases hs : 127 < List.getD b 31 0
   ·have hg : icmp .gtr (List.getD b 31 0) 127 = true := by
     show decide (List.getD b 31 0 > 127) = true
     exact decide_eq_true hs
    by_cases hz : kv s = 0
    ·left
     refine ⟨rfl, hs, hz, ?_⟩
     unfold Zbl
     simp only [hp', show icmp .neq 0 0 = false from rfl, cond_false, k1, mo, Bool.not_true, hg, cond_true, (ZBk k2.L5).2 hz]
    ·right; left
     have n := neg_k k2.L5
     obtain ⟨t, h1, h2, h3⟩ := mul_k n.1.L5 g3.L5
     refine ⟨rfl, hs, hz, t, ?_, h2, h3⟩
     unfold Zbl ZiK
     simp only [hp', show icmp .neq 0 0 = false from rfl, cond_false, k1, mo, Bool.not_true, hg, cond_true, ZE0 k2.L5 hz, h1]
   ·right; right
    have hg : icmp .gtr (List.getD b 31 0) 127 = false := by
     show decide (List.getD b 31 0 > 127) = false
     exact decide_eq_false hs
    obtain ⟨t, h1, h2, h3⟩ := mul_k k2.L5 g3.L5
    refine ⟨rfl, hs, t, ?_, h2, h3⟩
    unfold Zbl ZiK
    simp only [hp', show icmp .neq 0 0 = false from rfl, cond_false, k1, mo, Bool.not_true, hg, h1]
 ·left
  refine ⟨g2, ?_⟩
  have g2' : ZaQ (List.set b 31 (ibin .and .u8 (List.getD b 31 0) 127)) = ([0, 0, 0, 0, 0], 3) := g2
  unfold Zbl
  simp only [g2', show icmp .neq 3 0 = true from rfl, cond_true]
theorem comp_k {x:P4} {xl yl:LI} (ha:ZcO 300 x = some (xl, yl)) (hx:Can xl) (hy:Can yl) : ∃ c, Zcl 300 x = some c ∧ L32 c ∧ lowB c = Zau yl ∧ (127 < List.getD c 31 0 ↔ ¬ (kv xl).ev) ∧
  ((kv xl).ev → c = Zau yl) ∧ (¬ (kv xl).ev → c = List.set (Zau yl) 31 (List.getD (Zau yl) 31 0 + 128)) := by
 obtain ⟨l, -, h0, h1⟩ := ZAn hy
 obtain ⟨x1, x2, x3, x4⟩ := x
 by_cases hn : (kv xl).ev
 ·refine ⟨Zau yl, ?_, l, low_enc hy, ?_, fun _ => rfl, fun h => absurd hn h⟩
  ·unfold Zcl
   simp only [ha, mo, ZEV hx hn, cond_false]
  ·constructor
   ·intro h; omega
   ·intro h; exact absurd hn h
 ·have e : ibin .or .u8 (List.getD (Zau yl) 31 0) 128 = List.getD (Zau yl) 31 0 + 128 := or128 ⟨h0, h1⟩
  have l2 := ZDb l (v := List.getD (Zau yl) 31 0 + 128) (by omega)
  refine ⟨_, ?_, l2, ?_, ?_, fun h => absurd h hn, fun _ => rfl⟩
  ·unfold Zcl
   simp only [ha, mo, (ZF4 hx).2 hn, cond_true, e]
  ·rw [ZAq l2, ZDc l, List.set_set, show (List.getD (Zau yl) 31 0 + 128) % 128 = List.getD (Zau yl) 31 0 by omega, ZDd l]
  ·rw [ZDc l]
   exact ⟨fun _ => hn, fun _ => by omega⟩
theorem sr_on {y s:K} (sr:SR (y ^ 2 - 1) (kD * y ^ 2 + 1) s true) : On s y := by
 rw [on_x]
 by_cases hu : y ^ 2 - 1 = 0
 ·rw [(sr.z hu).2, hu]; grind
 ·exact (sr.q hu (den_ne y)).2.1 rfl
theorem on_negx {x y:K} (h:On x y) : On (-x) y := Zx8 (p := (x, y)) h
end Go.Vx
set_option autoImplicit false
set_option linter.unusedSimpArgs false
namespace Go.Vx
open Go
end Go.Vx
set_option autoImplicit false
namespace Go.Vx
open Go
end Go.Vx
set_option autoImplicit false
set_option linter.unusedSimpArgs false
namespace Go.Vx
open Go
abbrev RepE (x:P4) (e:E) : Prop := RepP x e.p
theorem ZBd {p q:P4} {a b:E} (h1:RepE p a) (h2:RepE q b) : ∃ r, ZaA p q = some r ∧ RepE r (a + b) := ZpN h1 h2 a.on b.on
theorem ZES {p:P4} {a:E} (h:RepE p a) : ∃ r, ZbL p = some r ∧ RepE r (a + a) := ZrZ h a.on
theorem ZC1 {p q:P4} {a b:E} (h1:RepE p a) (h2:RepE q b) : ∃ c, Zc5 p q = some c ∧ (c = true ↔ a = b) := by
 obtain ⟨c, k1, k2⟩ := Zy9 h1 h2
 exact ⟨c, k1, k2.trans ⟨E.ext, fun h => by rw [h]⟩⟩
theorem ZCL : RepE (z5, z5, z5, z5) 0 := Zza
theorem ZCZ (N:Nat) (hN : 65 ≤ N) {x:P4} {a:E} (h:RepE x a) : ∃ c, ZdA N x = some c ∧ (c = true ↔ ordl • a = 0) := by
 obtain ⟨c, k1, k2⟩ := ZDa N hN h a.on
 refine ⟨c, k1, k2.trans ?_⟩
 rw [ZDe, ZE1]
 exact ⟨fun h => E.ext h, fun h => by rw [h]; rfl⟩
theorem yes {c:Bool} {p:Prop} (h:c = true ↔ p) (hp:p) : c = true := h.2 hp
theorem no {c:Bool} {p:Prop} (h:c = true ↔ p) (hp:¬ p) : c = false := Bool.eq_false_iff.2 fun e => hp (h.1 e)
theorem Zv3 (k x y:Nat) {a:N4} (ha:mulN natT k = a) (hx:x * a.2.2.1 % pN = a.1 % pN) (hy:y * a.2.2.1 % pN = a.2.1 % pN) : nmul kT k = (kn x, kn y) := by
 have h := ZvU ZBl kT_on k
 rw [ha] at h
 have hz : kn a.2.2.1 ≠ 0 := h.z
 have h1 : kn a.1 = (nmul kT k).1 * kn a.2.2.1 := h.x
 have h2 : kn a.2.1 = (nmul kT k).2 * kn a.2.2.1 := h.y
 have e1 := congrArg kn hx
 have e2 := congrArg kn hy
 rw [Zj5, Zj5, ZhK, h1] at e1
 rw [Zj5, Zj5, ZhK, h2] at e2
 refine Prod.ext (K.cancel hz ?_) (K.cancel hz ?_)
 ·show kn a.2.2.1 * (nmul kT k).1 = kn a.2.2.1 * kn x
  rw [Lean.Grind.CommRing.mul_comm, ← e1, Lean.Grind.CommRing.mul_comm]
 ·show kn a.2.2.1 * (nmul kT k).2 = kn a.2.2.1 * kn y
  rw [Lean.Grind.CommRing.mul_comm, ← e2, Lean.Grind.CommRing.mul_comm]
theorem tor_ns (k:Nat) (h:k < 8) : torK k = (k • eT).p := by
 rw [E.ns_p]
 show torK k = nmul kT k
 rcases (by omega:k = 0 ∨ k = 1 ∨ k = 2 ∨ k = 3 ∨ k = 4 ∨ k = 5 ∨ k = 6 ∨ k = 7) with rfl | rfl | rfl | rfl | rfl | rfl | rfl | rfl
 ·rfl
 ·rw [Zv3 1 14399317868200118260347934320527232580618823971194345261214217575416788799818 2707385501144840649318225287225658788936804267575313519463743609750303402022 ZF9 (by decide) (by decide)]
  exact Prod.ext (Zk4 (by decide)) (Zk4 (by decide))
 ·rw [Zv3 2 19681161376707505956807079304988542015446066515923890162744021073123829784752 0 ZGa (by decide) (by decide)]
  exact Prod.ext (Zk4 (by decide)) (Zk4 (by decide))
 ·rw [Zv3 3 14399317868200118260347934320527232580618823971194345261214217575416788799818 55188659117513257062467267217118295137698188065244968500265048394206261417927 ZGb (by decide) (by decide)]
  exact Prod.ext (Zk4 (by decide)) (Zk4 (by decide))
 ·rw [Zv3 4 0 57896044618658097711785492504343953926634992332820282019728792003956564819948 ZGc (by decide) (by decide)]
  exact Prod.ext (Zk4 (by decide)) (Zk4 (by decide))
 ·rw [Zv3 5 43496726750457979451437558183816721346016168361625936758514574428539776020131 55188659117513257062467267217118295137698188065244968500265048394206261417927 ZGd (by decide) (by decide)]
  exact Prod.ext (Zk4 (by decide)) (Zk4 (by decide))
 ·rw [Zv3 6 38214883241950591754978413199355411911188925816896391856984770930832735035197 0 ZGe (by decide) (by decide)]
  exact Prod.ext (Zk4 (by decide)) (Zk4 (by decide))
 ·rw [Zv3 7 43496726750457979451437558183816721346016168361625936758514574428539776020131 2707385501144840649318225287225658788936804267575313519463743609750303402022 ZGf (by decide) (by decide)]
  exact Prod.ext (Zk4 (by decide)) (Zk4 (by decide))
theorem tor_E {a:Int} (h : -9223372036854775808 ≤ a ∧ a ≤ 9223372036854775807) : ∃ x y z t, ZgG a = some (x, y, z, t) ∧ RepE (x, y, z, t) ((a % 8).toNat • eT) := by
 obtain ⟨x, y, z, t, h1, h2, -⟩ := ZC8 h
 rw [tor_ns _ (by omega)] at h2
 exact ⟨x, y, z, t, h1, h2⟩
theorem around8 {a:Int} (h : -9223372036854775808 ≤ a ∧ a ≤ 9223372036854775807) : Zc3 8 a = some (a % 8) := by
 have hr : ibin .rem .i64 a 8 = Int.tmod a 8 := rfl
 have hm : Int.tmod a 8 = if 0 ≤ a then a % 8 else -((-a) % 8) := by
  by_cases h0 : 0 ≤ a
  ·rw [if_pos h0, Int.tmod_eq_emod_of_nonneg h0]
  ·rw [if_neg h0]
   have : Int.tmod (- -a) 8 = -((-a) % 8) := by rw [Int.neg_tmod, Int.tmod_eq_emod_of_nonneg (by omega)]
   rwa [Int.neg_neg] at this
 unfold Zc3
 simp only [show icmp .eql 8 0 = false from rfl, show ((8 : Int) == 0) = false from rfl, cond_false, hr]
 by_cases hl : Int.tmod a 8 < 0
 ·have : icmp .lss (Int.tmod a 8) 0 = true := decide_eq_true hl
  rw [this, cond_true]
  refine congrArg some ?_
  rw [Ref.i_add (by split at hm <;> omega) (by omega)]
  split at hm <;> omega
 ·have : icmp .lss (Int.tmod a 8) 0 = false := decide_eq_false hl
  rw [this, cond_false]
  refine congrArg some ?_
  split at hm <;> omega
end Go.Vx
set_option autoImplicit false
namespace Go.Vx
open Go
end Go.Vx
set_option autoImplicit false
set_option linter.unusedSimpArgs false
namespace Go.Vx
open Go
theorem ZER {x:P4} {a:E} (h:RepE x a) : RepE (ZaU x) (-a) := ZBh h
theorem ZEQ {x y:P4} {a b:E} (h1:RepE x a) (h2:RepE y b) : ∃ r, Zex x y = some r ∧ RepE r (a + -b) := ZEW h1 h2 a.on b.on
end Go.Vx
set_option autoImplicit false
set_option linter.unusedSimpArgs false
namespace Go.Vx
open Go
def lowV (b:LI) : Nat → Nat
 | 0 => 0
 | n + 1 => lowV b n + nib b n * 16 ^ n
theorem ZBm (b:LI) : (n s:Nat) → (digs b n).foldl (fun s d => 16 * s + d) s = s * 16 ^ n + lowV b n
 | 0, s => by simp [digs, lowV]
 | n + 1, s => by
  rw [digs, List.foldl_cons, ZBm b n, lowV, Nat.pow_succ, Nat.add_mul]
  have : 16 * s * 16 ^ n = s * (16 ^ n * 16) := by rw [Nat.mul_comm 16 s, Nat.mul_assoc, Nat.mul_comm 16]
  omega
theorem ZE2 (x:Int) (l:LI) (i:Nat) : nib (x :: l) (i + 2) = nib l i := by
 unfold nib
 rw [show (i + 2) / 2 = i / 2 + 1 by omega, show (i + 2) % 2 = i % 2 by omega, List.getD_cons_succ]
theorem Zzb (x:Int) (l:LI) : (n:Nat) → lowV (x :: l) (n + 2) = nib (x :: l) 0 + 16 * nib (x :: l) 1 + 256 * lowV l n
 | 0 => by simp only [lowV]; omega
 | n + 1 => by
  have h := Zzb x l n
  rw [show n + 1 + 2 = (n + 2) + 1 from rfl, lowV, h, ZE2, lowV, Nat.pow_add]
  rw [Nat.mul_add]
  have : nib l n * (16 ^ n * 16 ^ 2) = 256 * (nib l n * 16 ^ n) := by
   rw [show (16 : Nat) ^ 2 = 256 from rfl, ← Nat.mul_assoc, Nat.mul_comm _ 256]
  omega
theorem ZBn : (l:LI) → (∀ x ∈ l, 0 ≤ x ∧ x ≤ 255) → lowV l (2 * l.length) = numB l
 | [], _ => rfl
 | x :: l, h => by
  have hx := h x (by simp)
  have ih := ZBn l (fun y hy => h y (by simp [hy]))
  rw [List.length_cons, show 2 * (l.length + 1) = 2 * l.length + 2 by omega, Zzb, ih, numB]
  have e0 : nib (x :: l) 0 = x.toNat / 1 % 16 := rfl
  have e1 : nib (x :: l) 1 = x.toNat / 16 % 16 := rfl
  rw [e0, e1]
  omega
theorem ZE3 {b:LI} (hb:L32 b) : (digs b 64).foldl (fun s d => 16 * s + d) 0 = numB b := by
 rw [ZBm, Nat.zero_mul, Nat.zero_add]
 have := ZBn b hb.2
 rw [hb.1] at this
 exact this
theorem ZxB (N:Nat) (hN : 65 ≤ N) {x:P4} {a:E} (h:RepE x a) {b:LI} (hb:L32 b) : ∃ r, ZbG N x b = some r ∧ RepE r (numB b • a) := by
 obtain ⟨r, k1, k2⟩ := ZxC N hN h a.on hb
 rw [ZDe, ZE3 hb] at k2
 exact ⟨r, k1, k2⟩
end Go.Vx
set_option autoImplicit false
set_option linter.unusedSimpArgs false
namespace Go.Vx
open Go
def U4 (a:LI) : Prop := ∃ x0 x1 x2 x3, a = [x0, x1, x2, x3] ∧ U x0 ∧ U x1 ∧ U x2 ∧ U x3
def v4 (a:LI) : Int := List.getD a 0 0 + List.getD a 1 0 * 18446744073709551616 + List.getD a 2 0 * 340282366920938463463374607431768211456 + List.getD a 3 0 * 6277101735386680763835789423207666416102355444464034512896
theorem ZpP {x y c:Int} (hx:U x) (hy:U y) (hc:c = 0 ∨ c = 1) : ∃ r d, ZfC x y c = some (r, d) ∧ U r ∧ (d = 0 ∨ d = 1) ∧ r = x - y - c + d * 18446744073709551616 := by
 have hd : decide (c ≤ 1) = true := decide_eq_true (by omega)
 unfold U at hx hy
 by_cases h : x < y + c
 ·refine ⟨_, 1, by unfold ZfC; rw [hd, cond_true, decide_eq_true h, cond_true], ?_, .inr rfl, ?_⟩
  ·unfold U; omega
  ·omega
 ·refine ⟨_, 0, by unfold ZfC; rw [hd, cond_true, decide_eq_false h, cond_false], ?_, .inl rfl, ?_⟩
  ·unfold U; omega
  ·omega
theorem Zl7 {x y c:Int} (hx:U x) (hy:U y) (hc:c = 0 ∨ c = 1) : ∃ r d, ZdL x y c = some (r, d) ∧ U r ∧ (d = 0 ∨ d = 1) ∧ r + d * 18446744073709551616 = x + y + c := by
 have hd : decide (c ≤ 1) = true := decide_eq_true (by omega)
 unfold U at hx hy
 refine ⟨_, _, by unfold ZdL; rw [hd, cond_true], ?_, ?_, ?_⟩
 ·unfold U; omega
 ·omega
 ·omega
theorem v4_mk (x0 x1 x2 x3:Int) : v4 [x0, x1, x2, x3] = x0 + x1 * 18446744073709551616 + x2 * 340282366920938463463374607431768211456 + x3 * 6277101735386680763835789423207666416102355444464034512896 := rfl
theorem U4.rng {a:LI} (h:U4 a) : 0 ≤ v4 a ∧ v4 a < 115792089237316195423570985008687907853269984665640564039457584007913129639936 := by
 obtain ⟨x0, x1, x2, x3, rfl, h0, h1, h2, h3⟩ := h
 unfold U at *
 rw [v4_mk]
 omega
theorem ZDf {a b:LI} (ha:U4 a) (hb:U4 b) : ∃ r c, ZhB a b = some (r, c) ∧ U4 r ∧ ((c = 0 ∧ v4 b ≤ v4 a ∧ v4 r = v4 a - v4 b) ∨ (c = 1 ∧ v4 a < v4 b ∧ v4 r = v4 a - v4 b + 115792089237316195423570985008687907853269984665640564039457584007913129639936)) := by
 obtain ⟨x0, x1, x2, x3, rfl, a0, a1, a2, a3⟩ := ha
 obtain ⟨y0, y1, y2, y3, rfl, b0, b1, b2, b3⟩ := hb
 obtain ⟨r0, c0, h0, u0, d0, e0⟩ := ZpP a0 b0 (.inl rfl)
 obtain ⟨r1, c1, h1, u1, d1, e1⟩ := ZpP a1 b1 d0
 obtain ⟨r2, c2, h2, u2, d2, e2⟩ := ZpP a2 b2 d1
 obtain ⟨r3, c3, h3, u3, d3, e3⟩ := ZpP a3 b3 d2
 refine ⟨[r0, r1, r2, r3], c3, ?_, ⟨_, _, _, _, rfl, u0, u1, u2, u3⟩, ?_⟩
 ·unfold ZhB
  simp only [List.getD_cons_zero, List.getD_cons_succ, h0, h1, h2, h3, mo]
 ·have hr : U4 [r0, r1, r2, r3] := ⟨_, _, _, _, rfl, u0, u1, u2, u3⟩
  have rr := hr.rng
  rw [v4_mk] at rr ⊢
  rw [v4_mk, v4_mk]
  rcases d3 with rfl | rfl
  ·left
   refine ⟨rfl, ?_, ?_⟩ <;> omega
  ·right
   refine ⟨rfl, ?_, ?_⟩ <;> omega
theorem plus_k {a b:LI} (ha:U4 a) (hb:U4 b) : ∃ r c, Zj6 a b = some (r, c) ∧ U4 r ∧ (c = 0 ∨ c = 1) ∧ v4 r + c * 115792089237316195423570985008687907853269984665640564039457584007913129639936 = v4 a + v4 b := by
 obtain ⟨x0, x1, x2, x3, rfl, a0, a1, a2, a3⟩ := ha
 obtain ⟨y0, y1, y2, y3, rfl, b0, b1, b2, b3⟩ := hb
 obtain ⟨r0, c0, h0, u0, d0, e0⟩ := Zl7 a0 b0 (.inl rfl)
 obtain ⟨r1, c1, h1, u1, d1, e1⟩ := Zl7 a1 b1 d0
 obtain ⟨r2, c2, h2, u2, d2, e2⟩ := Zl7 a2 b2 d1
 obtain ⟨r3, c3, h3, u3, d3, e3⟩ := Zl7 a3 b3 d2
 refine ⟨[r0, r1, r2, r3], c3, ?_, ⟨_, _, _, _, rfl, u0, u1, u2, u3⟩, d3, ?_⟩
 ·unfold Zj6
  simp only [List.getD_cons_zero, List.getD_cons_succ, h0, h1, h2, h3, mo]
 ·rw [v4_mk, v4_mk, v4_mk]
  omega
theorem Zyc {x:Int} (h:U x) : ibin .and .u64 x 18446744073709551615 = x := by
 unfold U at h
 rw [u_and h.1 (by omega) (by decide) (by decide), show (18446744073709551615 : Int).toNat = 2 ^ 64 - 1 from rfl, Nat.and_two_pow_sub_one_eq_mod]
 omega
theorem ZBo {x:Int} (h:U x) : ibin .and .u64 x 0 = 0 := by
 unfold U at h
 rw [u_and h.1 (by omega) (by decide) (by decide)]
 simp
theorem or_no {x:Int} (h:U x) : ibin .or .u64 x 0 = x := by
 unfold U at h
 show IntKind.wrap .u64 ((BitVec.ofInt 64 x ||| BitVec.ofInt 64 0).toNat : Int) = x
 rw [show BitVec.ofInt 64 0 = 0#64 from rfl, BitVec.or_zero, ofInt64 h.1 (by omega), wrap64]
 omega
theorem no_or {x:Int} (h:U x) : ibin .or .u64 0 x = x := by
 unfold U at h
 show IntKind.wrap .u64 ((BitVec.ofInt 64 0 ||| BitVec.ofInt 64 x).toNat : Int) = x
 rw [show BitVec.ofInt 64 0 = 0#64 from rfl, BitVec.zero_or, ofInt64 h.1 (by omega), wrap64]
 omega
theorem ZB6 (x:Int) : ibin .andNot .u64 x 18446744073709551615 = 0 := by
 show IntKind.wrap .u64 ((BitVec.ofInt 64 x &&& ~~~(BitVec.ofInt 64 18446744073709551615)).toNat : Int) = 0
 rw [show ~~~(BitVec.ofInt 64 18446744073709551615) = 0#64 by decide, BitVec.and_zero]
 rfl
theorem Zr0 {x:Int} (h:U x) : ibin .andNot .u64 x 0 = x := by
 unfold U at h
 show IntKind.wrap .u64 ((BitVec.ofInt 64 x &&& ~~~(BitVec.ofInt 64 0)).toNat : Int) = x
 rw [show ~~~(BitVec.ofInt 64 0) = BitVec.allOnes 64 by decide, BitVec.and_allOnes, ofInt64 h.1 (by omega), wrap64]
 omega
theorem ZBp {a b:LI} (ha:U4 a) (hb:U4 b) : Zei (ineg .u64 0) a b = b ∧ Zei (ineg .u64 1) a b = a := by
 obtain ⟨x0, x1, x2, x3, rfl, a0, a1, a2, a3⟩ := ha
 obtain ⟨y0, y1, y2, y3, rfl, b0, b1, b2, b3⟩ := hb
 have z : U 0 := ⟨by decide, by decide⟩
 constructor
 ·rw [show ineg .u64 0 = 0 from rfl]
  unfold Zei
  simp only [List.getD_cons_zero, List.getD_cons_succ, List.set_cons_zero, List.set_cons_succ, ZBo a0, ZBo a1, ZBo a2, ZBo a3, Zr0 b0, Zr0 b1, Zr0 b2, Zr0 b3, no_or b0, no_or b1, no_or b2, no_or b3]
 ·rw [show ineg .u64 1 = 18446744073709551615 from rfl]
  unfold Zei
  simp only [List.getD_cons_zero, List.getD_cons_succ, List.set_cons_zero, List.set_cons_succ, Zyc a0, Zyc a1, Zyc a2, Zyc a3, ZB6, or_no a0, or_no a1, or_no a2, or_no a3]
abbrev lL : LI := [6346243789798364141, 1503914060200516822, 0, 1152921504606846976]
theorem lL_U : U4 lL := ⟨_, _, _, _, rfl, ⟨by decide, by decide⟩, ⟨by decide, by decide⟩, ⟨by decide, by decide⟩, ⟨by decide, by decide⟩⟩
theorem lL_v : v4 lL = 7237005577332262213973186563042994240857116359379907606001950938285454250989 := by decide
theorem ZDg {a:LI} (ha:U4 a) (h:v4 a < 2 * 7237005577332262213973186563042994240857116359379907606001950938285454250989) : ∃ r, ZiQ a = some r ∧ U4 r ∧ 0 ≤ v4 r ∧ v4 r < 7237005577332262213973186563042994240857116359379907606001950938285454250989 ∧ (v4 r = v4 a ∨ v4 r = v4 a - 7237005577332262213973186563042994240857116359379907606001950938285454250989) := by
 obtain ⟨r, c, h1, u, hc⟩ := ZDf ha lL_U
 rw [lL_v] at hc
 have ra := ha.rng
 obtain ⟨k0, k1⟩ := ZBp ha u
 unfold ZiQ
 rcases hc with ⟨rfl, g1, g2⟩ | ⟨rfl, g1, g2⟩
 ·exact ⟨r, by simp only [h1, mo, k0], u, by omega, by omega, .inr g2⟩
 ·exact ⟨a, by simp only [h1, mo, k1], ha, ra.1, g1, .inl rfl⟩
theorem sleast {a:LI} (ha:U4 a) : ∃ r, ZdR a = some r ∧ U4 r ∧ 0 ≤ v4 r ∧ v4 r < 7237005577332262213973186563042994240857116359379907606001950938285454250989 ∧ ∃ k : Int, 0 ≤ k ∧ k < 16 ∧ v4 a = v4 r + k * 7237005577332262213973186563042994240857116359379907606001950938285454250989 := by
 have rng := ha.rng
 obtain ⟨x0, x1, x2, x3, rfl, a0, a1, a2, a3⟩ := ha
 unfold ZdR
 by_cases hs : x3 < 1152921504606846976
 ·have hc : icmp .lss (List.getD [x0, x1, x2, x3] 3 0) 1152921504606846976 = true := decide_eq_true hs
  refine ⟨_, by rw [hc, cond_true], ⟨_, _, _, _, rfl, a0, a1, a2, a3⟩, rng.1, ?_, 0, by decide, by decide, by omega⟩
  rw [v4_mk]
  unfold U at *
  omega
 ·have hc : icmp .lss (List.getD [x0, x1, x2, x3] 3 0) 1152921504606846976 = false := decide_eq_false hs
  rw [hc, cond_false]
  have hq : ibin .shr .u64 (List.getD [x0, x1, x2, x3] 3 0) 60 = x3 / 1152921504606846976 := u_shr (a := x3) 60 (by decide)
  have hm : ibin .and .u64 (List.getD [x0, x1, x2, x3] 3 0) 1152921504606846975 = x3 % 1152921504606846976 := by
   unfold U at a3
   show ibin .and .u64 x3 1152921504606846975 = _
   rw [u_and a3.1 (by omega) (by decide) (by decide), show (1152921504606846975 : Int).toNat = 2 ^ 60 - 1 from rfl, Nat.and_two_pow_sub_one_eq_mod]
   omega
  rw [hq, hm]
  generalize hQ : x3 / 1152921504606846976 = q
  generalize hL : x3 % 1152921504606846976 = m
  have q16 : 0 ≤ q ∧ q < 16 := by unfold U at a3; omega
  have hm60 : 0 ≤ m ∧ m < 1152921504606846976 := by omega
  have hx3 : x3 = q * 1152921504606846976 + m := by omega
  have uq : U q := ⟨q16.1, by omega⟩
  have t0 : U 6346243789798364141 := ⟨by decide, by decide⟩
  have t1 : U 1503914060200516822 := ⟨by decide, by decide⟩
  rw [ZtK uq t0, ZtK uq t1]
  simp only
  have p0 : U (q * 6346243789798364141 % 18446744073709551616) := ⟨by omega, by omega⟩
  have p1 : U (q * 1503914060200516822 % 18446744073709551616) := ⟨by omega, by omega⟩
  have p2 : U (q * 6346243789798364141 / 18446744073709551616) := ⟨by omega, by omega⟩
  obtain ⟨s1, d1, h1, u1, e1, f1⟩ := Zl7 p1 p2 (.inl rfl)
  have hset : List.set [x0, x1, x2, x3] 3 m = [x0, x1, x2, m] := rfl
  rw [hset]
  have um : U m := ⟨hm60.1, by omega⟩
  have hadd : ibin .add .u64 (q * 1503914060200516822 / 18446744073709551616) d1 = q * 1503914060200516822 / 18446744073709551616 + d1 := by
   rw [u_add]
   omega
  have u2 : U (q * 1503914060200516822 / 18446744073709551616 + d1) := ⟨by omega, by omega⟩
  have z : U 0 := ⟨by decide, by decide⟩
  have lowU : U4 [x0, x1, x2, m] := ⟨_, _, _, _, rfl, a0, a1, a2, um⟩
  have cU : U4 [q * 6346243789798364141 % 18446744073709551616, s1, q * 1503914060200516822 / 18446744073709551616 + d1, 0] := ⟨_, _, _, _, rfl, p0, u1, u2, z⟩
  have cv : v4 [q * 6346243789798364141 % 18446744073709551616, s1, q * 1503914060200516822 / 18446744073709551616 + d1, 0] = q * 27742317777372353535851937790883648493 := by
   rw [v4_mk]
   omega
  have lv : v4 [x0, x1, x2, x3] = q * 7237005577332262213973186563042994240829374041602535252466099000494570602496 + v4 [x0, x1, x2, m] := by
   rw [v4_mk, v4_mk, hx3]
   omega
  have lr : 0 ≤ v4 [x0, x1, x2, m] ∧ v4 [x0, x1, x2, m] < 7237005577332262213973186563042994240829374041602535252466099000494570602496 := by
   rw [v4_mk]
   unfold U at a0 a1 a2
   omega
  obtain ⟨r, c, h2, ur, hcr⟩ := ZDf lowU cU
  rw [cv] at hcr
  obtain ⟨e, g, h3, ue, hg, heq⟩ := plus_k ur lL_U
  rw [lL_v] at heq
  obtain ⟨k0, k1⟩ := ZBp ue ur
  have re := ue.rng
  have rr := ur.rng
  rw [lv]
  generalize v4 [x0, x1, x2, m] = low at *
  simp only [h1, hadd, h2, h3, mo]
  rcases hcr with ⟨rfl, g1, g2⟩ | ⟨rfl, g1, g2⟩
  ·rw [k0]
   obtain ⟨w, j1, j2, j3, j4, j5⟩ := ZDg ur (by omega)
   refine ⟨w, by rw [j1], j2, j3, j4, q, q16.1, q16.2, ?_⟩
   rcases j5 with j5 | j5 <;> omega
  ·rw [k1]
   obtain ⟨w, j1, j2, j3, j4, j5⟩ := ZDg ue (by omega)
   refine ⟨w, by rw [j1], j2, j3, j4, q - 1, by omega, by omega, ?_⟩
   rcases j5 with j5 | j5 <;> omega
end Go.Vx
set_option autoImplicit false
set_option linter.unusedSimpArgs false
namespace Go.Vx
open Go
abbrev tk (l:LI) (i:Nat) : Int := Ref.numW 8 (l.take i)
theorem Zyd : (l:LI) → (i:Nat) → i < l.length → tk l (i + 1) = tk l i + List.getD l i 0 * 2 ^ (8 * i)
 | [], i, h => by simp at h
 | x :: l, 0, _ => by simp [tk, Ref.numW]
 | x :: l, i + 1, h => by
  have ih := Zyd l i (by simpa using h)
  simp only [tk, List.take_succ_cons, Ref.numW, List.getD_cons_succ] at ih ⊢
  rw [ih, show 8 * (i + 1) = 8 * i + 8 by omega, Int.pow_add, show (2 : Int) ^ 8 = 256 from rfl, Int.mul_add, ← Int.mul_assoc, Int.mul_comm 256 (List.getD l i 0), Int.mul_assoc, Int.mul_comm 256 ((2 : Int) ^ (8 * i))]
  omega
theorem ZDh {l:LI} (h:L32 l) : tk l 32 = numB l := by
 have : l.take 32 = l := List.take_of_length_le (by rw [h.1]; exact Nat.le_refl _)
 unfold tk
 rw [this, Zya l h.2]
theorem and255 {a:Int} : ibin .and .i64 a 255 = a % 256 := by
 show IntKind.wrap .i64 ((BitVec.ofInt 64 a &&& BitVec.ofInt 64 255).toNat : Int) = _
 have : (BitVec.ofInt 64 a &&& BitVec.ofInt 64 255).toNat = (a % 18446744073709551616).toNat % 256 := by
  rw [BitVec.toNat_and, BitVec.toNat_ofInt, show (BitVec.ofInt 64 255).toNat = 2 ^ 8 - 1 from rfl, Nat.and_two_pow_sub_one_eq_mod]
  rfl
 rw [this]
 have e := Ref.wrapi (n := (((a % 18446744073709551616).toNat % 256 : Nat) : Int)) (by omega) (by omega)
 rw [e]
 omega
theorem shr8 (a:Int) : ibin .shr .i64 a 8 = a / 256 := Ref.i_shr (a := a) 8 (by decide)
theorem ZGg {y:Int} (h : 0 ≤ y ∧ y ≤ 255) : IntKind.wrap .i64 y = y := Ref.wrapi (by omega) (by omega)
theorem lss32 {k:Nat} (h:k < 32) : icmp .lss (k:Int) 32 = true := decide_eq_true (by omega)
theorem inc32 {k:Nat} (h:k < 32) : ibin .add .i64 (k:Int) 1 = ((k + 1 : Nat) : Int) := by rw [Ref.i_add (by omega) (by omega)]; omega
theorem ZE4 {b:LI} (hb:L32 b) (i:Nat) {v:Int} (hv : 0 ≤ v ∧ v ≤ 255) : L32 (List.set b i v) := by
 refine ⟨by rw [List.length_set]; exact hb.1, fun x hx => ?_⟩
 rcases List.mem_or_eq_of_mem_set hx with h | h
 ·exact hb.2 x h
 ·rw [h]; exact hv
theorem num_set {l:LI} (hl:L32 l) {i:Nat} (hi:i < 32) (v:Int) : Ref.numW 8 (l.set i v) = Ref.numW 8 l + (v - List.getD l i 0) * 2 ^ (8 * i) := by
 have := Ref.Zr1 (w := 8) i l (v - List.getD l i 0) (by rw [hl.1]; exact hi)
 rw [show List.getD l i 0 + (v - List.getD l i 0) = v by omega] at this
 exact this
theorem ZE5 (i:Nat) : (2 : Int) ^ (8 * (i + 1)) = 256 * 2 ^ (8 * i) := by
 rw [show 8 * (i + 1) = 8 * i + 8 by omega, Int.pow_add, show (2 : Int) ^ 8 = 256 from rfl, Int.mul_comm]
abbrev oB : LI := [237, 211, 245, 92, 26, 99, 18, 88, 214, 156, 247, 162, 222, 249, 222, 20, 0, 0, 0, 0, 0, 0, 0, 0, 0, 0, 0, 0, 0, 0, 0, 16]
theorem ZGh : numB oB = ordl := by decide
theorem lt_top {x y o p P:Int} (hx : 0 ≤ x ∧ x < P) (hy : 0 ≤ y ∧ y < P) : (o < p → x + o * P < y + p * P) ∧ (p < o → y + p * P < x + o * P) := by
 have hP : 0 < P := by omega
 constructor
 ·intro h
  have : (o + 1) * P ≤ p * P := Int.mul_le_mul_of_nonneg_right (by omega) (by omega)
  rw [Int.add_mul, Int.one_mul] at this
  omega
 ·intro h
  have : (p + 1) * P ≤ o * P := Int.mul_le_mul_of_nonneg_right (by omega) (by omega)
  rw [Int.add_mul, Int.one_mul] at this
  omega
theorem ZGi {l:LI} (h:L32 l) (i:Nat) (hi:i ≤ 32) : 0 ≤ tk l i ∧ tk l i < 2 ^ (8 * i) := by
 have hd : Ref.Dg 8 (l.take i) := fun x hx => by
  have := h.2 x (List.mem_of_mem_take hx)
  show 0 ≤ x ∧ x < 256
  omega
 refine ⟨hd.nonneg, ?_⟩
 have := Ref.Zye (l.take i) hd
 rw [List.length_take, h.1, Nat.min_eq_left hi, ← Int.pow_mul] at this
 exact this
theorem ZxD (N:Nat) {b:LI} (hb:L32 b) : (k:Nat) → k ≤ 32 → (fuel:Nat) → k < fuel →
  (∃ w, loopF (ZbA N) fuel (((), (), (k:Int) - 1), ((), b)) = some (.inr (w, ())) ∧ (w = true ↔ tk b k < tk oB k)) ∨ (loopF (ZbA N) fuel (((), (), (k:Int) - 1), ((), b)) = some (.inl ((), ())) ∧ ¬ tk b k < tk oB k)
 | 0, _, fuel + 1, _ => by
  right
  refine ⟨?_, by simp [tk, Ref.numW]⟩
  have : icmp .geq (((0 : Nat) : Int) - 1) 0 = false := by decide
  rw [Zbh]
  unfold ZbA
  simp only [this, cond_false, mo]
 | k + 1, hk, fuel + 1, hf => by
  have k32 : k < 32 := by omega
  have e0 : (((k + 1 : Nat) : Int) - 1) = (k:Int) := by omega
  have e1 : ibin .sub .i64 (k:Int) 1 = (k:Int) - 1 := Ref.i_sub (by omega) (by omega)
  have oL : L32 oB := Zv2
  have t1 := Zyd b k (by rw [hb.1]; exact k32)
  have t2 := Zyd oB k (by rw [oL.1]; exact k32)
  have r1 := ZGi hb k (by omega)
  have r2 := ZGi oL k (by omega)
  rw [e0]
  by_cases hne : List.getD b k 0 = List.getD oB k 0
  ·have hn : icmp .neq (List.getD b k 0) (List.getD oB k 0) = false := by rw [hne]; simp [icmp]
   have hstep : ZbA N (((), (), (k:Int)), ((), b)) = some (.inl (((), (), (k:Int) - 1), ((), b))) := by
    unfold ZbA
    simp only [ZpO, cond_true, ZoH k32, Int.toNat_natCast, hn, cond_false, e1]
   rw [Zbh, hstep]
   have hiff : tk b (k + 1) < tk oB (k + 1) ↔ tk b k < tk oB k := by rw [t1, t2, hne]; omega
   rw [hiff]
   exact ZxD N hb k (by omega) fuel (by omega)
  ·left
   have hn : icmp .neq (List.getD b k 0) (List.getD oB k 0) = true := by simp [icmp]; exact hne
   have hstep : ZbA N (((), (), (k:Int)), ((), b)) = some (.inr (.inr (icmp .lss (List.getD b k 0) (List.getD oB k 0), ()))) := by
    unfold ZbA
    simp only [ZpO, cond_true, ZoH k32, Int.toNat_natCast, hn]
   refine ⟨_, by rw [Zbh, hstep]; rfl, ?_⟩
   have lt := lt_top r1 r2 (o := List.getD b k 0) (p := List.getD oB k 0)
   rw [← t1, ← t2] at lt
   show decide (List.getD b k 0 < List.getD oB k 0) = true ↔ _
   rw [decide_eq_true_eq]
   constructor
   ·exact lt.1
   ·intro h
    rcases Int.lt_trichotomy (List.getD b k 0) (List.getD oB k 0) with h1 | h1 | h1
    ·exact h1
    ·exact absurd h1 hne
    ·have := lt.2 h1; omega
theorem bbelow (N:Nat) (hN : 33 ≤ N) {b:LI} (hb:L32 b) : Zf2 N b = some (decide (numB b < ordl)) := by
 have h := ZxD N hb 32 (by decide) N (by omega)
 have e : tk b 32 < tk oB 32 ↔ numB b < ordl := by
  rw [ZDh hb, ZDh Zv2, ZGh]; omega
 rw [e] at h
 have s : (((32 : Nat) : Int) - 1) = 31 := rfl
 rw [s] at h
 unfold Zf2
 rcases h with ⟨w, h1, h2⟩ | ⟨h1, h2⟩
 ·simp only [h1, mo]
  refine congrArg some ?_
  cases w with
  | true => exact (decide_eq_true (h2.1 rfl)).symm
  | false => exact (decide_eq_false fun h => by cases h2.2 h).symm
 ·simp only [h1, mo]
  exact congrArg some (decide_eq_false h2).symm
theorem ZAr {n c s P t z o:Int} (h:n = t - c * P) (hs:s = c + z - o) : n + (s % 256 - z) * P = t - o * P - s / 256 * (256 * P) := by
 have : s = 256 * (s / 256) + s % 256 := (Int.mul_ediv_add_emod s 256).symm
 generalize s / 256 = q at *
 generalize s % 256 = r at *
 have hr : r - z = c - o - 256 * q := by omega
 rw [hr, h, Int.sub_mul, Int.sub_mul, ← Int.mul_assoc q 256 P, Int.mul_comm q 256]
 omega
theorem Zzc (N:Nat) {b0:LI} (hb0:L32 b0) : (k i:Nat) → i + k = 32 → (fuel:Nat) → k < fuel → (c:Int) → (-1 ≤ c ∧ c ≤ 0) → (b:LI) → L32 b → Ref.numW 8 b = numB b0 - tk oB i - c * 2 ^ (8 * i) →
  ∃ out c', loopF (ZbP N) fuel (((), (), c, (i:Int)), ((), (), b)) = some (.inl (((), ()), ((), (), out))) ∧ L32 out ∧ (-1 ≤ c' ∧ c' ≤ 0) ∧ (numB out:Int) = numB b0 - ordl - c' * 115792089237316195423570985008687907853269984665640564039457584007913129639936
 | 0, i, hi, fuel + 1, _, c, hc, b, hb, hv => by
  obtain rfl : i = 32 := by omega
  rw [ZDh Zv2, ZGh, ← Zya b hb.2, show (2 : Int) ^ (8 * 32) = 115792089237316195423570985008687907853269984665640564039457584007913129639936 by decide] at hv
  refine ⟨b, c, ?_, hb, hc, hv⟩
  rw [Zbh]
  unfold ZbP
  simp only [show icmp .lss ((32 : Nat) : Int) 32 = false from rfl, cond_false, mo]
 | k + 1, i, hi, fuel + 1, hf, c, hc, b, hb, hv => by
  have i32 : i < 32 := by omega
  have oL : L32 oB := Zv2
  have ba := Zv0 oL i
  have bb := Zv0 hb i
  have e1 : ibin .sub .i64 (ibin .add .i64 c (List.getD b i 0)) (List.getD oB i 0) = c + List.getD b i 0 - List.getD oB i 0 := by rw [show ibin .add .i64 c (List.getD b i 0) = c + List.getD b i 0 from Ref.i_add (by omega) (by omega), Ref.i_sub (by omega) (by omega)]
  have hs : -256 ≤ c + List.getD b i 0 - List.getD oB i 0 ∧ c + List.getD b i 0 - List.getD oB i 0 ≤ 255 := by omega
  have w1 : (c + List.getD b i 0 - List.getD oB i 0) % 256 % 256 = (c + List.getD b i 0 - List.getD oB i 0) % 256 := by omega
  have step := ZAr (z := List.getD b i 0) (o := List.getD oB i 0) hv rfl
  rw [← num_set hb i32, ← ZE5] at step
  obtain ⟨out, c', g1, g2, g3, g4⟩ := Zzc N hb0 k (i + 1) (by omega) fuel (by omega) ((c + List.getD b i 0 - List.getD oB i 0) / 256) (by omega) (List.set b i ((c + List.getD b i 0 - List.getD oB i 0) % 256)) (ZE4 hb i (by omega)) (by
    rw [step, Zyd oB i (by rw [oL.1]; exact i32)]
    omega)
  have hstep : ZbP N (((), (), c, (i:Int)), ((), (), b)) = some (.inl (((), (), (c + List.getD b i 0 - List.getD oB i 0) / 256, ((i + 1 : Nat) : Int)), ((), (), List.set b i ((c + List.getD b i 0 - List.getD oB i 0) % 256)))) := by
   unfold ZbP
   simp only [lss32 i32, cond_true, ZoH i32, Int.toNat_natCast, ZGg ba, ZGg bb, e1, shr8, and255, wrap8, w1, inc32 i32]
  refine ⟨out, c', ?_, g2, g3, g4⟩
  rw [Zbh, hstep]
  exact g1
theorem ZDi (N:Nat) (hN : 33 ≤ N) {b:LI} (hb:L32 b) (h:numB b < ordl) (fuel:Nat) : loopF (Zbb N) (fuel + 1) (((), ()), ((), (), b)) = some (.inl (((), ()), ((), (), b))) := by
 have hstep : Zbb N (((), ()), ((), (), b)) = some (.inr (.inl (((), ()), ((), (), b)))) := by
  unfold Zbb
  simp only [bbelow N hN hb, decide_eq_true h, mo, Bool.not_true, cond_false]
 rw [Zbh, hstep]; rfl
theorem ZE6 (N:Nat) (hN : 33 ≤ N) {b:LI} (hb:L32 b) (h:¬ numB b < ordl) (fuel:Nat) : ∃ b', L32 b' ∧ numB b = numB b' + ordl ∧ loopF (Zbb N) (fuel + 1) (((), ()), ((), (), b)) = loopF (Zbb N) fuel (((), ()), ((), (), b')) := by
 obtain ⟨b', c', g1, g2, g3, g4⟩ := Zzc N hb 32 0 rfl N (by omega) 0 (by omega) b hb (by
  rw [Zya b hb.2]
  show _ = _ - 0 - 0 * _
  omega)
 have r := Zx4 hb
 have r' := Zx4 g2
 have c0 : c' = 0 := by
  rcases (by omega:c' = 0 ∨ c' = -1) with h' | h'
  ·exact h'
  ·subst h'; omega
 subst c0
 refine ⟨b', g2, by omega, ?_⟩
 have g1' : loopF (ZbP N) N (((), (), 0, 0), ((), (), b)) = some (.inl (((), ()), ((), (), b'))) := g1
 have hstep : Zbb N (((), ()), ((), (), b)) = some (.inl (((), ()), ((), (), b'))) := by
  unfold Zbb
  simp only [bbelow N hN hb, decide_eq_false h, mo, Bool.not_false, cond_true, g1']
 rw [Zbh, hstep]; rfl
theorem ZE7 (N:Nat) (hN : 33 ≤ N) (L:Nat) (hL:L = ordl) (k:Nat) : ∀ (b:LI), L32 b → numB b < (k + 1) * L → ∀ fuel, k < fuel → ∃ out q, loopF (Zbb N) fuel (((), ()), ((), (), b)) = some (.inl (((), ()), ((), (), out))) ∧ L32 out ∧ numB out < L ∧ numB b = numB out + q * L := by
 induction k with
 | zero =>
  intro b hb hlt fuel hf
  obtain ⟨f, rfl⟩ : ∃ f, fuel = f + 1 := ⟨fuel - 1, by omega⟩
  have h : numB b < L := by rw [Nat.zero_add, Nat.one_mul] at hlt; exact hlt
  exact ⟨b, 0, ZDi N hN hb (by rw [← hL]; exact h) f, hb, h, by rw [Nat.zero_mul, Nat.add_zero]⟩
 | succ k ih =>
  intro b hb hlt fuel hf
  obtain ⟨f, rfl⟩ : ∃ f, fuel = f + 1 := ⟨fuel - 1, by omega⟩
  by_cases h : numB b < L
  ·exact ⟨b, 0, ZDi N hN hb (by rw [← hL]; exact h) f, hb, h, by rw [Nat.zero_mul, Nat.add_zero]⟩
  ·obtain ⟨b', g1, g2, g3⟩ := ZE6 N hN hb (by rw [← hL]; exact h) f
   rw [← hL] at g2
   obtain ⟨out, q, f1, f2, f3, f4⟩ := ih b' g1 (by rw [Nat.add_mul, Nat.one_mul] at hlt; omega) f (by omega)
   exact ⟨out, q + 1, by rw [g3]; exact f1, f2, f3, by rw [Nat.add_mul, Nat.one_mul]; omega⟩
end Go.Vx
set_option autoImplicit false
set_option linter.unusedSimpArgs false
namespace Go.Vx
open Go
abbrev enc4 (x0 x1 x2 x3:Int) : LI := [IntKind.wrap .u8 (ibin .shr .u64 x0 0), IntKind.wrap .u8 (ibin .shr .u64 x0 8), IntKind.wrap .u8 (ibin .shr .u64 x0 16), IntKind.wrap .u8 (ibin .shr .u64 x0 24), IntKind.wrap .u8 (ibin .shr .u64 x0 32), IntKind.wrap .u8 (ibin .shr .u64 x0 40), IntKind.wrap .u8 (ibin .shr .u64 x0 48), IntKind.wrap .u8 (ibin .shr .u64 x0 56),
 IntKind.wrap .u8 (ibin .shr .u64 x1 0), IntKind.wrap .u8 (ibin .shr .u64 x1 8), IntKind.wrap .u8 (ibin .shr .u64 x1 16), IntKind.wrap .u8 (ibin .shr .u64 x1 24), IntKind.wrap .u8 (ibin .shr .u64 x1 32), IntKind.wrap .u8 (ibin .shr .u64 x1 40), IntKind.wrap .u8 (ibin .shr .u64 x1 48), IntKind.wrap .u8 (ibin .shr .u64 x1 56),
 IntKind.wrap .u8 (ibin .shr .u64 x2 0), IntKind.wrap .u8 (ibin .shr .u64 x2 8), IntKind.wrap .u8 (ibin .shr .u64 x2 16), IntKind.wrap .u8 (ibin .shr .u64 x2 24), IntKind.wrap .u8 (ibin .shr .u64 x2 32), IntKind.wrap .u8 (ibin .shr .u64 x2 40), IntKind.wrap .u8 (ibin .shr .u64 x2 48), IntKind.wrap .u8 (ibin .shr .u64 x2 56),
 IntKind.wrap .u8 (ibin .shr .u64 x3 0), IntKind.wrap .u8 (ibin .shr .u64 x3 8), IntKind.wrap .u8 (ibin .shr .u64 x3 16), IntKind.wrap .u8 (ibin .shr .u64 x3 24), IntKind.wrap .u8 (ibin .shr .u64 x3 32), IntKind.wrap .u8 (ibin .shr .u64 x3 40), IntKind.wrap .u8 (ibin .shr .u64 x3 48), IntKind.wrap .u8 (ibin .shr .u64 x3 56)]
theorem ZDj {x0 x1 x2 x3:Int} (h0:U x0) (h1:U x1) (h2:U x2) (h3:U x3) : L32 (enc4 x0 x1 x2 x3) ∧ (numB (enc4 x0 x1 x2 x3) : Int) = v4 [x0, x1, x2, x3] := by
 constructor
 ·refine ⟨rfl, fun y hy => ?_⟩
  simp only [enc4, List.mem_cons, List.not_mem_nil, or_false] at hy
  rcases hy with rfl | rfl | rfl | rfl | rfl | rfl | rfl | rfl | rfl | rfl | rfl | rfl | rfl | rfl | rfl | rfl | rfl | rfl | rfl | rfl | rfl | rfl | rfl | rfl | rfl | rfl | rfl | rfl | rfl | rfl | rfl | rfl <;> exact ZxE _
 ·rw [bytes8 h0, bytes8 h1, bytes8 h2, bytes8 h3, v4_mk]
  simp only [numB]
  omega
theorem ZE8 (N f:Nat) (x0 x1 x2 x3:Int) : loopF (ZcP N) (f + 33) (((), (), (), 0), ([x0, x1, x2, x3], (), [0, 0, 0, 0, 0, 0, 0, 0, 0, 0, 0, 0, 0, 0, 0, 0, 0, 0, 0, 0, 0, 0, 0, 0, 0, 0, 0, 0, 0, 0, 0, 0])) = some (.inl (((), ()), ((), enc4 x0 x1 x2 x3))) := by kernel_rfl
theorem ZDk (N f:Nat) (x0 x1 x2 x3:Int) : loopF (ZdS N) (f + 33) (((), (), (), 0), ((), [x0, x1, x2, x3], (), [0, 0, 0, 0, 0, 0, 0, 0, 0, 0, 0, 0, 0, 0, 0, 0, 0, 0, 0, 0, 0, 0, 0, 0, 0, 0, 0, 0, 0, 0, 0, 0])) = some (.inl (((), ()), ((), (), enc4 x0 x1 x2 x3))) := by kernel_rfl
theorem ZBq {x r q L:Nat} (h:x = r + q * L) (hr:r < L) : r = x % L := by rw [h, Nat.add_mul_mod_self_right, Nat.mod_eq_of_lt hr]
abbrev sc (a:LI) : Nat := (v4 a).toNat % ordl
theorem ZE9 (N:Nat) (hN : 33 ≤ N) {a:LI} (ha:U4 a) : ∃ b, ZdC N a = some b ∧ L32 b ∧ numB b = sc a := by
 obtain ⟨r, h1, hr, h2, h3, k, k0, k16, hk⟩ := sleast ha
 obtain ⟨x0, x1, x2, x3, rfl, u0, u1, u2, u3⟩ := hr
 obtain ⟨f, rfl⟩ : ∃ f, N = f + 33 := ⟨N - 33, by omega⟩
 obtain ⟨e1, e2⟩ := ZDj u0 u1 u2 u3
 refine ⟨enc4 x0 x1 x2 x3, ?_, e1, ?_⟩
 ·unfold ZdC
  simp only [h1, ZE8, mo]
 ·have ra := ha.rng
  refine ZBq (q := k.toNat) ?_ ?_
  ·unfold ordl
   omega
  ·unfold ordl
   omega
theorem ZET (N:Nat) (hN : 33 ≤ N) {a:LI} (ha:U4 a) : ∃ b, Zfx N a = some b ∧ L32 b ∧ numB b = sc a := by
 have rng := ha.rng
 obtain ⟨x0, x1, x2, x3, rfl, u0, u1, u2, u3⟩ := ha
 obtain ⟨e1, e2⟩ := ZDj u0 u1 u2 u3
 have hb : numB (enc4 x0 x1 x2 x3) < (15 + 1) * ordl := by unfold ordl; omega
 obtain ⟨out, q, h1, h2, h3, h4⟩ := ZE7 N hN ordl rfl 15 _ e1 hb N (by omega)
 refine ⟨out, ?_, h2, ?_⟩
 ·obtain ⟨f, rfl⟩ : ∃ f, N = f + 33 := ⟨N - 33, by omega⟩
  unfold Zfx
  simp only [ZDk, h1, mo]
 ·refine ZBq (q := q) ?_ h3
  rw [← h4]
  omega
theorem ZCT (N:Nat) (hN : 65 ≤ N) {x:P4} {e:E} (h:RepE x e) {a:LI} (ha:U4 a) : ∃ r, Zey N x a = some r ∧ RepE r (sc a • e) := by
 obtain ⟨b, h1, h2, h3⟩ := ZE9 N (by omega) ha
 obtain ⟨⟨r1, r2, r3, r4⟩, h4, h5⟩ := ZxB N hN h h2
 rw [h3] at h5
 refine ⟨(r1, r2, r3, r4), ?_, h5⟩
 obtain ⟨x1, x2, x3, x4⟩ := x
 unfold Zey
 simp only [h1, h4, mo]
theorem u4_of {f:LI} (hf:f.length = 4 ∧ ∀ x ∈ f, IntKind.u64.min ≤ x ∧ x ≤ IntKind.u64.max) : U4 f := by
 obtain ⟨h1, h2⟩ := hf
 match f, h1 with
 | [x0, x1, x2, x3], _ =>
  have g (x:Int) (h:IntKind.u64.min ≤ x ∧ x ≤ IntKind.u64.max) : U x := by
   have h3 : (0 : Int) ≤ x := h.1
   have h4 : x ≤ 18446744073709551615 := h.2
   unfold U; omega
  exact ⟨x0, x1, x2, x3, rfl, g _ (h2 x0 (by simp)), g _ (h2 x1 (by simp)), g _ (h2 x2 (by simp)), g _ (h2 x3 (by simp))⟩
end Go.Vx
set_option autoImplicit false
set_option linter.unusedSimpArgs false
namespace Go.Vx
open Go
structure Lm (r:LI) (n:Nat) : Prop where
 u : U4 r
 v : v4 r = n
 lt : n < ordl
theorem Lm.uniq {r s:LI} {n:Nat} (h:Lm r n) (g:Lm s n) : r = s := by
 obtain ⟨⟨x0, x1, x2, x3, rfl, a0, a1, a2, a3⟩, hv, -⟩ := h
 obtain ⟨⟨y0, y1, y2, y3, rfl, b0, b1, b2, b3⟩, gv, -⟩ := g
 rw [v4_mk] at hv gv
 unfold U at *
 have e0 : x0 = y0 := by omega
 have e1 : x1 = y1 := by omega
 have e2 : x2 = y2 := by omega
 have e3 : x3 = y3 := by omega
 rw [e0, e1, e2, e3]
theorem Lm.sc {r:LI} {n:Nat} (h:Lm r n) : sc r = n := by
 show (v4 r).toNat % ordl = n
 rw [h.v, Int.toNat_natCast, Nat.mod_eq_of_lt h.lt]
def v5 (t:LI) : Int := List.getD t 0 0 + List.getD t 1 0 * 18446744073709551616 + List.getD t 2 0 * 340282366920938463463374607431768211456 + List.getD t 3 0 * 6277101735386680763835789423207666416102355444464034512896 + List.getD t 4 0 * 115792089237316195423570985008687907853269984665640564039457584007913129639936
theorem Zng {α β γ:Type} {b : α → Option (α ⊕ (β ⊕ γ))} {v w : α} (h:b v = some (.inl w)) (f:Nat) : loopF b (f + 1) v = loopF b f w := by rw [Zbh, h]; rfl
theorem Zk3 {α β γ:Type} {b : α → Option (α ⊕ (β ⊕ γ))} {v : α} {x : β ⊕ γ} (h:b v = some (.inr x)) (f:Nat) : loopF b (f + 1) v = some x := by rw [Zbh, h]; rfl
end Go.Vx
set_option autoImplicit false
set_option linter.unusedSimpArgs false
namespace Go.Vx
open Go
instance : Std.Associative (α := E) (· + ·) := ⟨E.add_assoc⟩
instance : Std.Commutative (α := E) (· + ·) := ⟨E.add_comm⟩
theorem ZBc : RepE (Zay.1, Zay.2.1, Zay.2.2.1, Zay.2.2.2) eB := ZEY
end Go.Vx
set_option autoImplicit false
set_option linter.unusedSimpArgs false
namespace Go.Vx
open Go
end Go.Vx
set_option autoImplicit false
set_option linter.unusedSimpArgs false
namespace Go.Vx.Ref
open Go
theorem cf_v {a:LI} (h:CF a) : (kf a).v = num a := by
 show num a % pF = num a
 exact Int.emod_eq_of_lt h.2.1.nonneg h.2.2
theorem cf_ev {a:LI} (h:CF a) : (kf a).ev ↔ num a % 2 = 0 := by unfold K.ev; rw [cf_v h]
theorem ZCW {a:LI} (h:CF a) : Zbw a = true ↔ ¬ (kf a).ev := by
 rw [Zw9 h, cf_ev h, decide_eq_true_eq]; omega
theorem ZCV {a:LI} (h:CF a) (e:(kf a).ev) : Zbw a = false := by
 cases hq : Zbw a
 ·rfl
 ·exact absurd e ((ZCW h).1 hq)
theorem ZBb {a b:LI} (ha:CF a) (hb:CF b) : ∃ s ok, Zdc 300 a b = some (s, ok) ∧ CF s ∧ SR (kf a) (kf b) (kf s) ok := by
 obtain ⟨s, ok, h1, h2, h3, h4, h5, h6⟩ := rsqrt_k ha hb
 exact ⟨s, ok, h1, h2, ⟨(cf_ev h2).2 h3, h4, h5, h6⟩⟩
theorem ZqC {a b:LI} (ha:CF a) (hb:CF b) : ∃ r, Zad 300 a b = some r ∧ CF r ∧ kf r = kf a + kf b := by
 obtain ⟨r, h1, h2, h3⟩ := Zzd ha hb
 exact ⟨r, h1, h2, by rw [kf_of h3, K.of_add]; rfl⟩
theorem D_k : kf Zcj = kD := by unfold kf kD; rfl
theorem ZCI {a:LI} (ha:CF a) (h:kf a ≠ 0) : ∃ r, Zb3 300 a = some r ∧ CF r ∧ kf r * kf a = 1 := by
 obtain ⟨r, h1, h2, h3⟩ := Zze ha
 refine ⟨r, h1, h2, ?_⟩
 rw [h3]
 have := K.fermat h
 rw [show eP1 = eInv + 1 from rfl, K.pow_add, kpow1] at this
 exact this
end Go.Vx.Ref
set_option autoImplicit false
set_option linter.unusedSimpArgs false
namespace Go.Vx.Ref
open Go
end Go.Vx.Ref
set_option autoImplicit false
set_option linter.unusedSimpArgs false
namespace Go.Vx.Ref
open Go
theorem dv1 {s u v i:K} (h:i * (v * u) = 1) : s * u * i * v = s := by
 rw [show s * u * i * v = s * (i * (v * u)) by grind, h]; grind
theorem dv2 {s u v i:K} (h:i * (v * u) = 1) : s * v * i * u = s := by
 rw [show s * v * i * u = s * (i * (v * u)) by grind, h]; grind
theorem radd4 {a b x y:LI} (ha:CF a) (hb:CF b) (hx:CF x) (hy:CF y) (h1:On (kf a) (kf b)) (h2:On (kf x) (kf y)) :
  ∃ u v, ZbC 300 (a, b) (x, y) = some (u, v) ∧ CF u ∧ CF v ∧ kf u = ax (kf a) (kf b) (kf x) (kf y) ∧ kf v = ay (kf a) (kf b) (kf x) (kf y) := by
 obtain ⟨r1, k1, c1, e1⟩ := Zbz ha hy
 obtain ⟨r2, k2, c2, e2⟩ := Zbz hb hx
 obtain ⟨r3, k3, c3, e3⟩ := Zbz ha hx
 obtain ⟨r4, k4, c4, e4⟩ := Zbz hb hy
 obtain ⟨r5, k5, c5, e5⟩ := Zbz D_cf c3
 obtain ⟨r6, k6, c6, e6⟩ := Zbz c5 c4
 obtain ⟨r7, k7, c7, e7⟩ := ZqC Zj3 c6
 obtain ⟨r8, k8, c8, e8⟩ := Zy4 Zj3 c6
 obtain ⟨r9, k9, c9, e9⟩ := Zbz c7 c8
 obtain ⟨w1, w2⟩ := ZdP h1 h2
 have E6 : kf r6 = kD * kf a * kf x * kf b * kf y := by rw [e6, e5, e4, e3, D_k]; generalize kD = d; grind
 rw [ZrY, E6] at e7 e8
 have z9 : kf r9 ≠ 0 := by rw [e9, e7, e8]; exact K.mul_ne w1 w2
 obtain ⟨r10, k10, c10, e10⟩ := ZCI c9 z9
 obtain ⟨r11, k11, c11, e11⟩ := ZqC c1 c2
 obtain ⟨r12, k12, c12, e12⟩ := Zbz c11 c8
 obtain ⟨r13, k13, c13, e13⟩ := Zbz c12 c10
 obtain ⟨r14, k14, c14, e14⟩ := ZqC c4 c3
 obtain ⟨r15, k15, c15, e15⟩ := Zbz c14 c7
 obtain ⟨r16, k16, c16, e16⟩ := Zbz c15 c10
 refine ⟨r13, r16, ?_, c13, c16, ax_of h1 h2 ?_, ay_of h1 h2 ?_⟩
 ·unfold ZbC
  simp only [k1, k2, k3, k4, k5, k6, k7, k8, k9, k10, k11, k12, k13, k14, k15, k16, mo]
 ·rw [e9, e7, e8] at e10
  rw [e13, e12, e11, e8, e1, e2]
  exact dv1 e10
 ·rw [e9, e7, e8] at e10
  rw [e16, e15, e14, e7, e4, e3]
  exact dv2 e10
end Go.Vx.Ref
set_option autoImplicit false
set_option linter.unusedSimpArgs false
namespace Go.Vx.Ref
open Go
theorem Zy6 {b:LI} (hb:L32 b) :
  (∃ r, Zed 300 b = some (r, 0) ∧ CF r ∧ (ZaQ b).2 = 0 ∧ Can (ZaQ b).1 ∧ kf r = kv (ZaQ b).1 ∧ val (ZaQ b).1 = numB b) ∨
  (Zed 300 b = some ([0, 0, 0, 0, 0, 0, 0, 0, 0, 0], 3) ∧ ZaQ b = ([0, 0, 0, 0, 0], 3)) := by
 obtain ⟨r, h1, c1, e1⟩ := ZAs hb
 obtain ⟨z, h2, lz, ez⟩ := ZBf c1
 unfold Zed
 simp only [h1, h2, mo]
 rcases ZqZ hb with ⟨g1, g2, g3, g4⟩ | ⟨g1, g2⟩
 ·left
  have hz : z = b := lz.inj hb (by rw [ez, e1, Int.emod_eq_of_lt (by omega) g1])
  rw [decide_eq_true hz]
  refine ⟨r, rfl, c1, g2, g3, ?_, g4⟩
  show K.of (num r) = K.of (val (ZaQ b).1)
  rw [g4, e1, K.of_eq, Int.emod_emod]
 ·right
  have hz : z ≠ b := fun h => by
   have := c1.2.2
   rw [h] at ez
   rw [← ez] at this
   exact absurd this (by omega)
  rw [decide_eq_false hz]
  exact ⟨rfl, g2⟩
def kX : K := K.of 15112221349535400772501151409588531511454012693041857206046113283949847762202
def kY : K := K.of 46316835694926478169428394003475163141307993866256225615783033603165251855960
theorem kY_5 : K.of 5 * kY = K.of 4 := by
 unfold kY
 rw [← K.of_mul, K.of_eq]
 decide
theorem base_on : On kX kY := by
 have h : kY * kY - kX * kX = 1 + kD * (kX * kX) * (kY * kY) := by
  unfold kX kY kD
  rw [show (1 : K) = K.of 1 from rfl, ← K.of_mul, ← K.of_mul, ← K.of_mul, ← K.of_mul, ← K.of_sub, ← K.of_add, K.of_eq]
  decide
 unfold On
 generalize kD = d at *
 generalize kX = x at *
 generalize kY = y at *
 grind
theorem kX_ev : kX.ev := by unfold K.ev; decide
theorem base_d : kD * kY ^ 2 + 1 ≠ 0 := by
 intro h
 have h1 : kD * kY ^ 2 + 1 = K.of (37095705934669439343138083508754565189542113879843219016388785533085940283555 * (46316835694926478169428394003475163141307993866256225615783033603165251855960 * 46316835694926478169428394003475163141307993866256225615783033603165251855960) + 1) := by
  rw [K.of_add, K.of_mul, K.of_mul, ← k_sq]
  rfl
 rw [h1] at h
 have := K.of_eq.1 (show _ = K.of 0 from h)
 revert this
 decide
theorem rsmall (n:Int) (h : 0 ≤ n ∧ n < 1000) : ∃ r, Zae 300 n = some r ∧ CF r ∧ kf r = K.of n := by
 obtain ⟨r, h1, h2, h3⟩ := ZB7 (n := n) ⟨h.1, by omega⟩
 refine ⟨r, h1, h2, ?_⟩
 show K.of (num r) = K.of n
 rw [h3, K.of_eq, Int.emod_emod]
end Go.Vx.Ref
