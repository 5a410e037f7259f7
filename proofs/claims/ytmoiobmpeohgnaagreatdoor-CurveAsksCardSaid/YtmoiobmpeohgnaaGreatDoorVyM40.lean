import Derived.Test.YtmoiobmpeohgnaaGreatDoorVyM8
set_option autoImplicit false
namespace Go.Vx
open Go Ref
structure RR (q:LI × LI) (a:E) : Prop where
 x : CF q.1
 y : CF q.2
 ex : kf q.1 = a.p.1
 ey : kf q.2 = a.p.2
end Go.Vx
set_option autoImplicit false
set_option linter.unusedSimpArgs false
namespace Go.Vx
open Go Ref
theorem Zy3 {x y u v:LI} {a b:E} (h:RR (x, y) a) (g:RR (u, v) b) : ∃ s t, ZbC 300 (x, y) (u, v) = some (s, t) ∧ RR (s, t) (a + b) := by
 have ex : kf x = a.p.1 := h.ex
 have ey : kf y = a.p.2 := h.ey
 have eu : kf u = b.p.1 := g.ex
 have ev : kf v = b.p.2 := g.ey
 obtain ⟨s, t, k, c1, c2, e1, e2⟩ := radd4 h.x h.y g.x g.y (by rw [ex, ey]; exact a.on) (by rw [eu, ev]; exact b.on)
 rw [ex, ey, eu, ev] at e1 e2
 exact ⟨s, t, k, c1, c2, e1, e2⟩
theorem ZFZ {x y:LI} {a:E} (h:RR (x, y) a) : RR (Za4 (x, y)) (-a) := by
 have n := ZF0 h.x
 exact ⟨n.1, h.y, n.2.trans (by rw [show kf (x, y).1 = a.p.1 from h.ex]; rfl), h.ey⟩
theorem ZrX : CF [0, 0, 0, 0, 0, 0, 0, 0, 0, 0] := ⟨rfl, (fun x hx => by
 have hx : x ∈ List.replicate 10 (0 : Int) := hx
 obtain rfl := List.eq_of_mem_replicate hx
 decide), by decide⟩
theorem ZA9 : kf [0, 0, 0, 0, 0, 0, 0, 0, 0, 0] = 0 := (ZtG ZrX).1 rfl
theorem ZEI (t p q X:K) : t * (t * t * p) * (t * (X * q)) = X * (t * t * p * (t * t * q)) := by grind
theorem ZCG (t p q X:K) : t * (t * t * q) * (t * (X * p)) = X * (t * t * p * (t * t * q)) := by grind
theorem ZAm : RR Zak 0 := ⟨ZrX, Zj3, ZA9, ZrY⟩
theorem ZCH {x y u v:LI} {a b:E} (h:RR (x, y) a) (g:RR (u, v) b) : (x = u ∧ y = v) ↔ a = b := by
 constructor
 ·rintro ⟨rfl, rfl⟩
  exact E.ext (Prod.ext (h.ex.symm.trans g.ex) (h.ey.symm.trans g.ey))
 ·rintro rfl
  exact ⟨cf_k h.x g.x (h.ex.trans g.ex.symm), cf_k h.y g.y (h.ey.trans g.ey.symm)⟩
structure RQ (q:LI × LI × LI) (a:E) : Prop where
 x : CF q.1
 y : CF q.2.1
 z : CF q.2.2
 nz : kf q.2.2 ≠ 0
 ex : kf q.1 = a.p.1 * kf q.2.2
 ey : kf q.2.1 = a.p.2 * kf q.2.2
theorem frac {a1 a2 b1 b2 z w d X Y r1 r2 r3 r4 r5 r6 r7 r8 r9 r10 r11 r12 r13 r14 r15 r16 r17:K} (hX:X * (1 + d * a1 * b1 * a2 * b2) = a1 * b2 + a2 * b1) (hY:Y * (1 - d * a1 * b1 * a2 * b2) = a2 * b2 + a1 * b1)
  (e1:r1 = z * w) (e2:r2 = r1 * r1) (e3:r3 = a1 * z * (b1 * w)) (e4:r4 = a2 * z * (b2 * w)) (e5:r5 = d * r3) (e6:r6 = r5 * r4) (e7:r7 = r2 - r6) (e8:r8 = r2 + r6)
  (e9:r9 = a1 * z * (b2 * w)) (e10:r10 = a2 * z * (b1 * w)) (e11:r11 = r9 + r10) (e12:r12 = r4 + r3) (e13:r13 = r1 * r7) (e14:r14 = r13 * r11) (e15:r15 = r1 * r8) (e16:r16 = r15 * r12) (e17:r17 = r7 * r8) :
  r14 = X * r17 ∧ r16 = Y * r17 ∧ r7 = (z * w) * (z * w) * (1 - d * a1 * b1 * a2 * b2) ∧ r8 = (z * w) * (z * w) * (1 + d * a1 * b1 * a2 * b2) := by
 have h7 : r7 = (z * w) * (z * w) * (1 - d * a1 * b1 * a2 * b2) := by subst e7 e6 e5 e4 e3 e2 e1; clear hX hY; grind
 have h8 : r8 = (z * w) * (z * w) * (1 + d * a1 * b1 * a2 * b2) := by subst e8 e6 e5 e4 e3 e2 e1; clear hX hY; grind
 have h11 : r11 = z * w * (X * (1 + d * a1 * b1 * a2 * b2)) := by rw [hX, e11, e9, e10]; clear hX hY; grind
 have h12 : r12 = z * w * (Y * (1 - d * a1 * b1 * a2 * b2)) := by rw [hY, e12, e4, e3]; clear hX hY; grind
 generalize 1 - d * a1 * b1 * a2 * b2 = p at *
 generalize 1 + d * a1 * b1 * a2 * b2 = q at *
 refine ⟨?_, ?_, h7, h8⟩
 ·rw [e14, e13, e17, h7, h8, h11, e1]; exact ZEI _ _ _ _
 ·rw [e16, e15, e17, h7, h8, h12, e1]; exact ZCG _ _ _ _
theorem ZF1 {q r:LI × LI × LI} {a b:E} (h:RQ q a) (g:RQ r b) : ∃ s, ZbD 300 (q.1, q.2.1, q.2.2) (r.1, r.2.1, r.2.2) Zcj = some s ∧ RQ s (a + b) := by
 obtain ⟨r1, k1, c1, e1⟩ := Zbz h.z g.z
 obtain ⟨r2, k2, c2, e2⟩ := Zbz c1 c1
 obtain ⟨r3, k3, c3, e3⟩ := Zbz h.x g.x
 obtain ⟨r4, k4, c4, e4⟩ := Zbz h.y g.y
 obtain ⟨r5, k5, c5, e5⟩ := Zbz D_cf c3
 obtain ⟨r6, k6, c6, e6⟩ := Zbz c5 c4
 obtain ⟨r7, k7, c7, e7⟩ := Zy4 c2 c6
 obtain ⟨r8, k8, c8, e8⟩ := ZqC c2 c6
 obtain ⟨r9, k9, c9, e9⟩ := Zbz h.x g.y
 obtain ⟨r10, k10, c10, e10⟩ := Zbz h.y g.x
 obtain ⟨r11, k11, c11, e11⟩ := ZqC c9 c10
 obtain ⟨r12, k12, c12, e12⟩ := ZqC c4 c3
 obtain ⟨r13, k13, c13, e13⟩ := Zbz c1 c7
 obtain ⟨r14, k14, c14, e14⟩ := Zbz c13 c11
 obtain ⟨r15, k15, c15, e15⟩ := Zbz c1 c8
 obtain ⟨r16, k16, c16, e16⟩ := Zbz c15 c12
 obtain ⟨r17, k17, c17, e17⟩ := Zbz c7 c8
 rw [h.ex, g.ex] at e3
 rw [h.ey, g.ey] at e4
 rw [h.ex, g.ey] at e9
 rw [h.ey, g.ex] at e10
 rw [D_k] at e5
 obtain ⟨f1, f2, f3, f4⟩ := frac (ZqD a.on b.on) (ZqE a.on b.on) e1 e2 e3 e4 e5 e6 e7 e8 e9 e10 e11 e12 e13 e14 e15 e16 e17
 obtain ⟨w1, w2⟩ := ZdP a.on b.on
 have hzw := K.mul_ne h.nz g.nz
 refine ⟨(r14, r16, r17), ?_, c14, c16, c17, ?_, f1, f2⟩
 ·unfold ZbD
  simp only [k1, k2, k3, k4, k5, k6, k7, k8, k9, k10, k11, k12, k13, k14, k15, k16, k17, mo]
 ·show kf r17 ≠ 0
  rw [e17, f3, f4]
  exact K.mul_ne (K.mul_ne (K.mul_ne hzw hzw) w2) (K.mul_ne (K.mul_ne hzw hzw) w1)
theorem i_dec {j:Nat} (h:j < 1000) : ibin .sub .i64 (j:Int) 1 = (j:Int) - 1 := by
 have : ibin .sub .i64 (j:Int) 1 = IntKind.wrap .i64 ((j:Int) - 1) := rfl
 rw [this]
 exact wrapi (by omega) (by omega)
theorem ZtH (N:Nat) (hN:N = 300) {k:LI} (hk:L32 k) {one:LI × LI × LI} {a:E} (ho:RQ one a) : (j:Nat) → j ≤ 256 → (fuel:Nat) → j < fuel → (begun:Bool) → (out:LI × LI × LI) → (m:Nat) → RQ out (m • a) → m = numB k / 2 ^ j → (begun = false → m = 0) →
  ∃ s, loopF (Za0 N) fuel (((), (), (), (), (), begun, (j:Int) - 1), ((), k, (), Zcj, one, out)) = some (.inl (((), ()), ((), (), s))) ∧ RQ s (numB k • a)
 | 0, hj, fuel, hf, begun, out, m, ro, hm, hb => by
  obtain ⟨f, rfl⟩ : ∃ f, fuel = f + 1 := ⟨fuel - 1, by omega⟩
  have hs : Za0 N (((), (), (), (), (), begun, ((0 : Nat) : Int) - 1), ((), k, (), Zcj, one, out)) = some (.inr (.inl (((), ()), ((), (), out)))) := by
   unfold Za0
   have hge : icmp .geq (((0 : Nat) : Int) - 1) 0 = false := by decide
   simp only [hge, cond_false]
  refine ⟨out, Zk3 hs f, ?_⟩
  rw [hm, Nat.pow_zero, Nat.div_one] at ro
  exact ro
 | j + 1, hj, fuel, hf, begun, out, m, ro, hm, hb => by
  obtain ⟨f, rfl⟩ : ∃ f, fuel = f + 1 := ⟨fuel - 1, by omega⟩
  have h0 : ((j + 1 : Nat) : Int) - 1 = (j:Int) := by omega
  rw [h0]
  have hge : icmp .geq (j:Int) 0 = true := decide_eq_true (by omega:(j:Int) ≥ 0)
  have hq : ibin .quo .i64 (j:Int) 8 = ((j / 8 : Nat) : Int) := i_quo 8 (by omega)
  have hr : ibin .rem .i64 (j:Int) 8 = ((j % 8 : Nat) : Int) := i_rem 8
  have hq1 : decide (0 ≤ ((j / 8 : Nat) : Int) ∧ ((j / 8 : Nat) : Int) < ((32 : Nat) : Int)) = true := decide_eq_true (by omega)
  have hr1 : decide (0 ≤ ((j % 8 : Nat) : Int)) = true := decide_eq_true (by omega)
  have hby : 0 ≤ List.getD k (j / 8) 0 ∧ List.getD k (j / 8) 0 ≤ 255 := by
   have hlt : j / 8 < k.length := by rw [hk.1]; omega
   rw [List.getD_eq_getElem?_getD, List.getElem?_eq_getElem hlt]
   exact hk.2 _ (List.getElem_mem hlt)
  have hbit := b_bit hby (j % 8) (by omega)
  rw [ZF2 k hk.2 j] at hbit
  have hd := i_dec (j := j) (by omega)
  have hstep : numB k / 2 ^ j = 2 * m + numB k / 2 ^ j % 2 := by
   rw [hm, Nat.pow_succ, ← Nat.div_div_eq_div_mul]
   omega
  -- twice what there is
  have dbl : ∃ o2, (cond begun (ZbD N (out.1, out.2.1, out.2.2) (out.1, out.2.1, out.2.2) Zcj) (some out)) = some o2 ∧ RQ o2 ((2 * m) • a) := by
   cases begun with
   | true =>
    obtain ⟨s, k1, k2⟩ := ZF1 ro ro
    rw [← hN] at k1
    refine ⟨s, k1, ?_⟩
    rw [Nat.two_mul, E.ns_add]; exact k2
   | false =>
    obtain rfl := hb rfl
    exact ⟨out, rfl, ro⟩
  obtain ⟨o2, d1, d2⟩ := dbl
  have ho1 : RQ (one.1, one.2.1, one.2.2) a := ho
  rcases Nat.mod_two_eq_zero_or_one (numB k / 2 ^ j) with hb0 | hb1
  ·rw [hb0] at hbit hstep
   have he : icmp .eql (ibin .and .u8 (ibin .shr .u8 (List.getD k (j / 8) 0) ((j % 8 : Nat) : Int)) 1) 1 = false := by rw [hbit]; rfl
   obtain ⟨s, l1, l2⟩ := ZtH N hN hk ho j (by omega) f (by omega) begun o2 (2 * m) d2 (by omega) (fun hb' => by rw [hb hb'])
   refine ⟨s, (Zng ?_ f).trans l1, l2⟩
   unfold Za0
   cases begun with
   | true =>
    have d1' : ZbD N (out.1, out.2.1, out.2.2) (out.1, out.2.1, out.2.2) Zcj = some o2 := d1
    simp only [hge, hq, hr, hq1, hr1, cond_true, cond_false, Int.toNat_natCast, he, d1', mo, hd]
   | false =>
    have d1' : out = o2 := Option.some.inj d1
    subst d1'
    simp only [hge, hq, hr, hq1, hr1, cond_true, cond_false, Int.toNat_natCast, he, mo, hd]
  ·rw [hb1] at hbit hstep
   have he : icmp .eql (ibin .and .u8 (ibin .shr .u8 (List.getD k (j / 8) 0) ((j % 8 : Nat) : Int)) 1) 1 = true := by rw [hbit]; rfl
   obtain ⟨o3, t1, t2⟩ := ZF1 d2 ho
   rw [← hN] at t1
   obtain ⟨s, l1, l2⟩ := ZtH N hN hk ho j (by omega) f (by omega) true o3 (2 * m + 1) t2 (by omega) (fun hb' => by cases hb')
   refine ⟨s, (Zng ?_ f).trans l1, l2⟩
   unfold Za0
   cases begun with
   | true =>
    have d1' : ZbD N (out.1, out.2.1, out.2.2) (out.1, out.2.1, out.2.2) Zcj = some o2 := d1
    simp only [hge, hq, hr, hq1, hr1, cond_true, cond_false, Int.toNat_natCast, he, d1', mo, hd, t1]
   | false =>
    have d1' : out = o2 := Option.some.inj d1
    subst d1'
    simp only [hge, hq, hr, hq1, hr1, cond_true, cond_false, Int.toNat_natCast, he, mo, hd, t1]
theorem numB_hi {k:LI} (hk:L32 k) : numB k / 2 ^ 256 = 0 := by
 have := Zx4 hk
 refine Nat.div_eq_of_lt ?_
 have e : (2 : Nat) ^ 256 = 115792089237316195423570985008687907853269984665640564039457584007913129639936 := by decide
 rw [e]
 omega
theorem rtimes (N:Nat) (hN:N = 300) {x y k:LI} {a:E} (h:RR (x, y) a) (hk:L32 k) : ∃ s t, Zb6 N (x, y) k = some (s, t) ∧ RR (s, t) (numB k • a) := by
 have ho : RQ (x, y, [1, 0, 0, 0, 0, 0, 0, 0, 0, 0]) a := ⟨h.x, h.y, Zj3, by show kf [1, 0, 0, 0, 0, 0, 0, 0, 0, 0] ≠ 0; rw [ZrY]; exact K.one_ne, by show kf x = _ * kf [1, 0, 0, 0, 0, 0, 0, 0, 0, 0]; rw [ZrY, show kf x = a.p.1 from h.ex]; grind, by show kf y = _ * kf [1, 0, 0, 0, 0, 0, 0, 0, 0, 0]; rw [ZrY, show kf y = a.p.2 from h.ey]; grind⟩
 have hz : RQ ([0, 0, 0, 0, 0, 0, 0, 0, 0, 0], [1, 0, 0, 0, 0, 0, 0, 0, 0, 0], [1, 0, 0, 0, 0, 0, 0, 0, 0, 0]) ((0 : Nat) • a) := ⟨ZrX, Zj3, Zj3, by show kf [1, 0, 0, 0, 0, 0, 0, 0, 0, 0] ≠ 0; rw [ZrY]; exact K.one_ne, by show kf [0, 0, 0, 0, 0, 0, 0, 0, 0, 0] = 0 * _; rw [ZA9]; grind, by show kf [1, 0, 0, 0, 0, 0, 0, 0, 0, 0] = 1 * kf [1, 0, 0, 0, 0, 0, 0, 0, 0, 0]; grind⟩
 obtain ⟨s, l1, l2⟩ := ZtH N hN hk ho 256 (by omega) N (by omega) false _ 0 hz (numB_hi hk).symm (fun _ => rfl)
 obtain ⟨i, i1, i2, i3⟩ := ZCI l2.z l2.nz
 obtain ⟨u, u1, u2, u3⟩ := Zbz l2.x i2
 obtain ⟨v, v1, v2, v3⟩ := Zbz l2.y i2
 rw [← hN] at i1 u1 v1
 have l1' : loopF (Za0 N) N (((), (), (), (), (), false, 255), ((), k, (), Zcj, (x, y, [1, 0, 0, 0, 0, 0, 0, 0, 0, 0]), ([0, 0, 0, 0, 0, 0, 0, 0, 0, 0], [1, 0, 0, 0, 0, 0, 0, 0, 0, 0], [1, 0, 0, 0, 0, 0, 0, 0, 0, 0]))) = _ := l1
 refine ⟨u, v, ?_, u2, v2, ?_, ?_⟩
 ·unfold Zb6
  simp only [l1', mo, i1, u1, v1]
 ·show kf u = _
  rw [u3, l2.ex, show (numB k • a).p.1 * kf s.2.2 * kf i = (numB k • a).p.1 * (kf i * kf s.2.2) by generalize (numB k • a).p.1 = q; grind, i3]
  generalize (numB k • a).p.1 = q; grind
 ·show kf v = _
  rw [v3, l2.ey, show (numB k • a).p.2 * kf s.2.2 * kf i = (numB k • a).p.2 * (kf i * kf s.2.2) by generalize (numB k • a).p.2 = q; grind, i3]
  generalize (numB k • a).p.2 = q; grind
theorem ZEJ : L32 Zf1 := ⟨rfl, by decide⟩
theorem ZCJ : numB Zf1 = ordl := by decide
theorem rfree (N:Nat) (hN:N = 300) {x y:LI} {a:E} (h:RR (x, y) a) : ∃ c, ZcZ N (x, y) = some c ∧ (c = true ↔ ordl • a = 0) := by
 obtain ⟨s, t, k1, k2⟩ := rtimes N hN h ZEJ
 rw [ZCJ] at k2
 have u := ZCH k2 (ZAm:RR (Zak.1, Zak.2) 0)
 refine ⟨(decide (s = Zak.1)) && ((decide (t = Zak.2)) && true), ?_, ?_⟩
 ·unfold ZcZ
  simp only [k1, mo]
 ·rw [Bool.and_true, Bool.and_eq_true, decide_eq_true_eq, decide_eq_true_eq]
  exact u
end Go.Vx
set_option autoImplicit false
set_option linter.unusedSimpArgs false
namespace Go.Vx
open Go Ref
theorem mo_go {α R:Type} (a : α) (f:R) (k : α → R) : mo (some a) f k = k a := rfl
def decF {α:Type} (N:Nat) (ten:LI) (K:LI → Option α) : LI → LI → Option α
 | [], r => K r
 | d :: ds, r => mo (Zab N r ten) none fun r1 => mo (Zae N d) none fun r2 => mo (Zad N r1 r2) none fun r3 => decF N ten K ds r3
theorem ZCK {α:Type} (N:Nat) (hN:N = 300) {ten:LI} (ht:CF ten) (et:kf ten = K.of 10) (C:LI → Option α) : (ds:LI) → (∀ d ∈ ds, 0 ≤ d ∧ d < 10) → (r:LI) → (n:Int) → CF r → kf r = K.of n →
  ∃ s, decF N ten C ds r = C s ∧ CF s ∧ kf s = K.of (ds.foldl (fun n d => n * 10 + d) n)
 | [], _, r, n, hr, er => ⟨r, rfl, hr, er⟩
 | d :: ds, hd, r, n, hr, er => by
  obtain ⟨r1, k1, c1, e1⟩ := Zbz hr ht
  obtain ⟨r2, k2, c2, e2⟩ := rsmall d ⟨(hd d (by simp)).1, by have := (hd d (by simp)).2; omega⟩
  obtain ⟨r3, k3, c3, e3⟩ := ZqC c1 c2
  rw [← hN] at k1 k2 k3
  obtain ⟨s, h1, h2, h3⟩ := ZCK N hN ht et C ds (fun x hx => hd x (by simp [hx])) r3 (n * 10 + d) c3 (by rw [e3, e1, e2, er, et, K.of_add, K.of_mul])
  refine ⟨s, ?_, h2, h3⟩
  rw [← h1]
  show mo _ _ _ = _
  simp only [k1, k2, k3, mo]
abbrev tX : LI := [1, 4, 3, 9, 9, 3, 1, 7, 8, 6, 8, 2, 0, 0, 1, 1, 8, 2, 6, 0, 3, 4, 7, 9, 3, 4, 3, 2, 0, 5, 2, 7, 2, 3, 2, 5, 8, 0, 6, 1, 8, 8, 2, 3, 9, 7, 1, 1, 9, 4, 3, 4, 5, 2, 6, 1, 2, 1, 4, 2, 1, 7, 5, 7, 5, 4, 1, 6, 7, 8, 8, 7, 9, 9, 8, 1, 8]
abbrev tY : LI := [2, 7, 0, 7, 3, 8, 5, 5, 0, 1, 1, 4, 4, 8, 4, 0, 6, 4, 9, 3, 1, 8, 2, 2, 5, 2, 8, 7, 2, 2, 5, 6, 5, 8, 7, 8, 8, 9, 3, 6, 8, 0, 4, 2, 6, 7, 5, 7, 5, 3, 1, 3, 5, 1, 9, 4, 6, 3, 7, 4, 3, 6, 0, 9, 7, 5, 0, 3, 0, 3, 4, 0, 2, 0, 2, 2]
def torEnd (N:Nat) (a:Int) (x y:LI) : Option (LI × LI) := mo (loopF (Zbc N) N ((a, (), (), (), 0), ((), (), (x, y), (Zak.1, Zak.2)))) none fun r => match r with
   | .inl u => some (u.2.2.2.1, u.2.2.2.2)
   | .inr _ => none
def torMid (N:Nat) (a:Int) (x:LI) : Option (LI × LI) := mo (Zae N 10) none fun t2 => decF N t2 (torEnd N a x) tY [0, 0, 0, 0, 0, 0, 0, 0, 0, 0]
set_option maxRecDepth 100000 in
theorem ZEK (N:Nat) (a:Int) : Zew N a = mo (Zae N 10) none fun t1 => decF N t1 (torMid N a) tX [0, 0, 0, 0, 0, 0, 0, 0, 0, 0] := by kernel_rfl
theorem eT_x : eT.p.1 = K.of ((14399317868200118260347934320527232580618823971194345261214217575416788799818 : Nat) : Int) := rfl
theorem eT_y : eT.p.2 = K.of ((2707385501144840649318225287225658788936804267575313519463743609750303402022 : Nat) : Int) := rfl
theorem rem8 {a:Int} (h : -9223372036854775808 ≤ a ∧ a ≤ 9223372036854775807) : ibin .rem .i64 (ibin .add .i64 (ibin .rem .i64 a 8) 8) 8 = a % 8 := by
 have e1 : ibin .rem .i64 a 8 = a.tmod 8 := rfl
 have h1 := Int.mul_tdiv_add_tmod a 8
 have h2 := Int.tmod_lt_of_pos a (b := 8) (by decide)
 have h3 : -8 < a.tmod 8 := by
  have := Int.tmod_lt_of_pos (-a) (b := 8) (by decide)
  rw [Int.neg_tmod] at this
  omega
 rw [e1, show ibin .add .i64 (a.tmod 8) 8 = a.tmod 8 + 8 from wrapi (by omega) (by omega)]
 have e2 : ibin .rem .i64 (a.tmod 8 + 8) 8 = (a.tmod 8 + 8).tmod 8 := rfl
 rw [e2, Int.tmod_eq_emod_of_nonneg (by omega)]
 omega
theorem ZBa (N:Nat) (hN:N = 300) {a:Int} (h : -9223372036854775808 ≤ a ∧ a ≤ 9223372036854775807) {x y:LI} (hT:RR (x, y) eT) : (k i:Nat) → i + k = (a % 8).toNat → (fuel:Nat) → k < fuel → (u v:LI) → RR (u, v) (i • eT) →
  ∃ s t, loopF (Zbc N) fuel ((a, (), (), (), (i:Int)), ((), (), (x, y), (u, v))) = some (.inl (((), ()), ((), (), (s, t)))) ∧ RR (s, t) ((a % 8).toNat • eT)
 | 0, i, hi, fuel, hf, u, v, hu => by
  obtain ⟨f, rfl⟩ : ∃ f, fuel = f + 1 := ⟨fuel - 1, by omega⟩
  obtain rfl : i = (a % 8).toNat := by omega
  have hs : Zbc N ((a, (), (), (), (((a % 8).toNat : Nat) : Int)), ((), (), (x, y), (u, v))) = some (.inr (.inl (((), ()), ((), (), (u, v))))) := by
   unfold Zbc
   have : icmp .lss (((a % 8).toNat : Nat) : Int) (a % 8) = false := decide_eq_false (by omega)
   simp only [rem8 h, this, cond_false]
  exact ⟨u, v, Zk3 hs f, hu⟩
 | k + 1, i, hi, fuel, hf, u, v, hu => by
  obtain ⟨f, rfl⟩ : ∃ f, fuel = f + 1 := ⟨fuel - 1, by omega⟩
  obtain ⟨s, t, k1, k2⟩ := Zy3 hu hT
  rw [← hN] at k1
  have hs : Zbc N ((a, (), (), (), (i:Int)), ((), (), (x, y), (u, v))) = some (.inl ((a, (), (), (), ((i + 1 : Nat) : Int)), ((), (), (x, y), (s, t)))) := by
   unfold Zbc
   have : icmp .lss (i:Int) (a % 8) = true := decide_eq_true (by omega)
   simp only [rem8 h, this, cond_true, k1, mo, inc32 (k := i) (by omega)]
  obtain ⟨s', t', l1, l2⟩ := ZBa N hN h hT k (i + 1) (by omega) f (by omega) s t k2
  exact ⟨s', t', (Zng hs f).trans l1, l2⟩
theorem tX_sum : tX.foldl (fun n d => n * 10 + d) (0 : Int) = ((14399317868200118260347934320527232580618823971194345261214217575416788799818 : Nat) : Int) := by decide +kernel
theorem tY_sum : tY.foldl (fun n d => n * 10 + d) (0 : Int) = ((2707385501144840649318225287225658788936804267575313519463743609750303402022 : Nat) : Int) := by decide +kernel
theorem tX_all : ∀ d ∈ tX, (0 : Int) ≤ d ∧ d < 10 := by decide
theorem tY_all : ∀ d ∈ tY, (0 : Int) ≤ d ∧ d < 10 := by decide
theorem decX {α:Type} (N:Nat) (hN:N = 300) {ten:LI} (ht:CF ten) (et:kf ten = K.of 10) (C:LI → Option α) : ∃ s, decF N ten C tX [0, 0, 0, 0, 0, 0, 0, 0, 0, 0] = C s ∧ CF s ∧ kf s = eT.p.1 := by
 obtain ⟨x, x1, x2, x3⟩ := ZCK N hN ht et C tX tX_all _ 0 ZrX (ZA9.trans (show (0 : K) = K.of 0 from rfl))
 exact ⟨x, x1, x2, x3.trans ((congrArg K.of tX_sum).trans eT_x.symm)⟩
theorem decY {α:Type} (N:Nat) (hN:N = 300) {ten:LI} (ht:CF ten) (et:kf ten = K.of 10) (C:LI → Option α) : ∃ s, decF N ten C tY [0, 0, 0, 0, 0, 0, 0, 0, 0, 0] = C s ∧ CF s ∧ kf s = eT.p.2 := by
 obtain ⟨x, x1, x2, x3⟩ := ZCK N hN ht et C tY tY_all _ 0 ZrX (ZA9.trans (show (0 : K) = K.of 0 from rfl))
 exact ⟨x, x1, x2, x3.trans ((congrArg K.of tY_sum).trans eT_y.symm)⟩
theorem rtorsion (N:Nat) (hN:N = 300) {a:Int} (h : -9223372036854775808 ≤ a ∧ a ≤ 9223372036854775807) : ∃ s t, Zew N a = some (s, t) ∧ RR (s, t) ((a % 8).toNat • eT) := by
 obtain ⟨t1, h1, c1, e1⟩ := rsmall 10 (by decide)
 rw [← hN] at h1
 obtain ⟨x, x1, x2, x3⟩ := decX N hN c1 e1 (torMid N a)
 obtain ⟨y, y1, y2, y3⟩ := decY N hN c1 e1 (torEnd N a x)
 have hT : RR (x, y) eT := ⟨x2, y2, x3, y3⟩
 obtain ⟨s, t, l1, l2⟩ := ZBa N hN h hT (a % 8).toNat 0 (by omega) N (by omega) Zak.1 Zak.2 ZAm
 have l1' : loopF (Zbc N) N ((a, (), (), (), 0), ((), (), (x, y), (Zak.1, Zak.2))) = _ := l1
 have hend : torEnd N a x y = some (s, t) := by
  unfold torEnd
  simp only [l1', mo]
 have hmid : torMid N a x = some (s, t) := by
  unfold torMid
  rw [h1, mo_go]
  exact y1.trans hend
 refine ⟨s, t, ?_, l2⟩
 rw [ZEK, h1, mo_go]
 exact x1.trans hmid
end Go.Vx
set_option autoImplicit false
set_option linter.unusedSimpArgs false
namespace Go.Vx
open Go Ref
theorem Zdk (N:Nat) (hN:N = 300) {p:P4} {x y:LI} {a:E} (g:RepE p a) (h:RR (x, y) a) : ZaG N p (x, y) = some true := by
 obtain ⟨xl, yl, k1, k2, k3, k4, k5⟩ := Rep.affine g
 obtain ⟨m, m1, m2, m3⟩ := Zy5 h.x
 obtain ⟨n, n1, n2, n3⟩ := Zy5 h.y
 have e1 : xl = m := can_k k2 m2 (by rw [k4, ← show kf x = a.p.1 from h.ex]; exact kf_of (by rw [m3, Int.emod_eq_of_lt (by rw [← m3]; exact m2.nonneg.1) (by rw [← m3]; exact m2.nonneg.2)]))
 have e2 : yl = n := can_k k3 n2 (by rw [k5, ← show kf y = a.p.2 from h.ey]; exact kf_of (by rw [n3, Int.emod_eq_of_lt (by rw [← n3]; exact n2.nonneg.1) (by rw [← n3]; exact n2.nonneg.2)]))
 subst e1 e2
 obtain ⟨p1, p2, p3, p4⟩ := p
 have m1' : Zch 300 (x, y).1 = some xl := m1
 have n1' : Zch 300 (x, y).2 = some yl := n1
 subst hN
 unfold ZaG
 simp only [k1, m1', n1', mo, decide_true, cond_true]
theorem ron_k {x y:LI} (hx:CF x) (hy:CF y) : ∃ c, ZiO 300 x y = some c ∧ (c = true ↔ On (kf x) (kf y)) := by
 obtain ⟨r1, k1, c1, e1⟩ := Zbz hx hx
 obtain ⟨r2, k2, c2, e2⟩ := Zbz hy hy
 obtain ⟨r3, k3, c3, e3⟩ := Zy4 c2 c1
 obtain ⟨r4, k4, c4, e4⟩ := Zbz D_cf c1
 obtain ⟨r5, k5, c5, e5⟩ := Zbz c4 c2
 obtain ⟨r6, k6, c6, e6⟩ := ZqC Zj3 c5
 refine ⟨decide (r3 = r6), ?_, ?_⟩
 ·unfold ZiO
  simp only [k1, k2, k3, k4, k5, k6, mo]
 ·rw [decide_eq_true_eq]
  have : r3 = r6 ↔ kf r3 = kf r6 := ⟨fun h => by rw [h], fun h => cf_k c3 c6 h⟩
  rw [this, e3, e6, e5, e4, e2, e1, ZrY, D_k]
  unfold On
  generalize kf x = u
  generalize kf y = v
  generalize kD = d
  constructor
  ·intro h; grind
  ·intro h; grind
theorem Zd5 : RepE (z5, z5, z5, z5) 0 ∧ RR Zak 0 := ⟨ZCL, ZAm⟩
theorem ZEL (N:Nat) (hN:N = 300) {x y:LI} (hx:L5 x) (hy:L5 y) : ∃ p q e n m a, Zc2 x y = some (p, e) ∧ Ze0 N x = some n ∧ Ze0 N y = some m ∧ Zc0 N n m = some (q, e) ∧ RepE p a ∧ RR q a := by
 obtain ⟨n, n1, n2, n3⟩ := ZCM hx
 obtain ⟨m, m1, m2, m3⟩ := ZCM hy
 have en := kf_of n3
 have em := kf_of m3
 obtain ⟨c, c1, c2⟩ := ron_k n2 m2
 rw [en, em] at c2
 rw [← hN] at n1 m1 c1
 rcases faff hx hy with ⟨t, h1, h2, h3⟩ | ⟨h1, h2⟩
 ·have hc : c = true := c2.2 h3
  subst hc
  refine ⟨_, (n, m), 0, n, m, ⟨(kv x, kv y), h3⟩, h1, n1, m1, ?_, h2, ⟨n2, m2, en, em⟩⟩
  unfold Zc0
  simp only [c1, mo, Bool.not_true, cond_false]
 ·have hc : c = false := Bool.eq_false_iff.2 fun q => h2 (c2.1 q)
  subst hc
  refine ⟨_, Zak, 40, n, m, 0, h1, n1, m1, ?_, Zd5.1, Zd5.2⟩
  unfold Zc0
  simp only [c1, mo, Bool.not_false, cond_true]
theorem rxof_k {y:LI} (hy:CF y) : ∃ s ok, Ze4 300 y = some (s, ok) ∧ CF s ∧ SR (kf y ^ 2 - 1) (kD * kf y ^ 2 + 1) (kf s) ok := by
 obtain ⟨s1, k1, d1, f1⟩ := Zbz hy hy
 obtain ⟨s2, k2, d2, f2⟩ := Zy4 d1 Zj3
 obtain ⟨s3, k3, d3, f3⟩ := Zbz D_cf d1
 obtain ⟨s4, k4, d4, f4⟩ := ZqC d3 Zj3
 obtain ⟨s5, ok, k5, d5, sr⟩ := ZBb d2 d4
 rw [ZrY] at f2 f4
 rw [f2, f4, f3, f1, D_k, k_sq] at sr
 refine ⟨s5, ok, ?_, d5, sr⟩
 unfold Ze4
 simp only [k1, k2, k3, k4, k5, mo]
theorem ZEM (N:Nat) (hN:N = 300) {b:LI} (hb:L32 b) : ∃ p q e a, Zbl N b = some (p, e) ∧ Zck N b = some (q, e) ∧ RepE p a ∧ RR q a := by
 have hl := ZCN hb
 have hset : List.set b 31 (ibin .and .u8 (List.getD b 31 0) 127) = lowB b := rfl
 have hge : icmp .geq (List.getD b 31 0) 128 = decide (127 < List.getD b 31 0) := by
  show decide (List.getD b 31 0 ≥ 128) = _
  exact decide_eq_decide.2 (by omega)
 rcases ZEN hb with ⟨h1, h2⟩ | ⟨y, s, ok, r1, r3, h1, hy, hv, hs, sr, -, -, -, -, -, h⟩
 ·rcases Zy6 hl with ⟨r, -, -, g, -⟩ | ⟨g1, -⟩
  ·rw [h1] at g; simp at g
  ·rw [← hN] at h2 g1
   refine ⟨_, Zak, 3, 0, h2, ?_, Zd5.1, Zd5.2⟩
   unfold Zck
   simp only [hset, g1, mo, show icmp .neq 3 0 = true from rfl, cond_true]
 ·rcases Zy6 hl with ⟨r, g1, g2, g3, g4, g5, -⟩ | ⟨-, g2⟩
  ·rw [h1] at g4 g5
   have g5 : kf r = kv y := g5
   obtain ⟨t, ok', x1, x2, x3⟩ := rxof_k g2
   rw [g5] at x3
   obtain ⟨e1, e2⟩ := x3.uniq sr
   subst e2
   rw [← hN] at g1 x1
   have hz : t = [0, 0, 0, 0, 0, 0, 0, 0, 0, 0] ↔ kv s = 0 := by rw [ZtG x2, e1]
   have base : Zck N b = cond (!ok') (some ((Zak.1, Zak.2), 40)) (cond (decide (127 < List.getD b 31 0)) (cond (decide (t = [0, 0, 0, 0, 0, 0, 0, 0, 0, 0])) (some ((Zak.1, Zak.2), 3)) (some ((ZaY t, r), 0))) (some ((t, r), 0))) := by
    unfold Zck
    simp only [hset, g1, mo, show icmp .neq 0 0 = false from rfl, cond_false, x1, hge]
    cases ok' <;> cases decide (127 < List.getD b 31 0) <;> rfl
   rw [base]
   rw [← hN] at h
   rcases h with ⟨rfl, h⟩ | ⟨rfl, hb1, hz1, h⟩ | ⟨rfl, hb1, hz1, w, h, hw, ew⟩ | ⟨rfl, hb1, w, h, hw, ew⟩
   ·exact ⟨_, Zak, 40, 0, h, rfl, Zd5.1, Zd5.2⟩
   ·rw [decide_eq_true hb1, decide_eq_true (hz.2 hz1)]
    exact ⟨_, Zak, 3, 0, h, rfl, Zd5.1, Zd5.2⟩
   ·rw [decide_eq_true hb1, decide_eq_false (fun q => hz1 (hz.1 q))]
    have n := neg_k hs.L5
    have m := ZF0 x2
    refine ⟨_, (ZaY t, r), 0, ⟨(kv (ZaN s), kv y), by rw [n.2]; exact on_negx (sr_on sr)⟩, h, rfl, Zx5 n.1 hy hw ew, ⟨m.1, g2, ?_, g5⟩⟩
    show kf (ZaY t) = kv (ZaN s)
    rw [m.2, n.2, e1]
   ·rw [decide_eq_false hb1]
    exact ⟨_, (t, r), 0, ⟨(kv s, kv y), sr_on sr⟩, h, rfl, Zx5 hs hy hw ew, ⟨x2, g2, e1, g5⟩⟩
  ·rw [h1] at g2
   have := (Prod.mk.inj g2).2
   simp at this
abbrev St8 : Type := Int × Int × Int × Int × LI × LI × LI × LI
structure CsOK (s:St8) : Prop where
 n : -9223372036854775808 ≤ s.2.2.2.1 ∧ s.2.2.2.1 ≤ 9223372036854775807
 k : L32 s.2.2.2.2.1
 x : L5 s.2.2.2.2.2.2.1
 y : L5 s.2.2.2.2.2.2.2
theorem rbase4 (N:Nat) (hN:N = 300) : ∃ x y, Zdi N = some (x, y) ∧ CF x ∧ CF y ∧ kf x = kX ∧ kf y = kY := by
 obtain ⟨r1, h1, c1, e1⟩ := rsmall 4 (by decide)
 obtain ⟨r2, h2, c2, e2⟩ := rsmall 5 (by decide)
 have five : K.of 5 ≠ 0 := fun h => by
  have := K.of_eq.1 (show K.of 5 = K.of 0 from h)
  revert this; decide
 obtain ⟨r3, h3, c3, e3⟩ := ZCI c2 (by rw [e2]; exact five)
 obtain ⟨r4, h4, c4, e4⟩ := Zbz c1 c3
 have Y : kf r4 = kY := by
  refine K.cancel five ?_
  rw [kY_5, e4, e1, ← e2]
  rw [show kf r2 * (K.of 4 * kf r3) = (kf r3 * kf r2) * K.of 4 by generalize K.of 4 = k; grind, e3]
  generalize K.of 4 = k; grind
 obtain ⟨s1, k1, d1, f1⟩ := Zbz c4 c4
 obtain ⟨s2, k2, d2, f2⟩ := Zy4 d1 Zj3
 obtain ⟨s3, k3, d3, f3⟩ := Zbz D_cf d1
 obtain ⟨s4, k4, d4, f4⟩ := ZqC d3 Zj3
 obtain ⟨s5, ok, k5, d5, sr⟩ := ZBb d2 d4
 rw [ZrY] at f2 f4
 rw [f2, f4, f3, f1, Y, D_k, k_sq] at sr
 have on := base_on
 have := (sr.found (r := kX) base_d (by unfold On at on; generalize kX = x at *; generalize kY = y at *; generalize kD = d at *; grind)).2
 have X : kf s5 = kX := K.ev_root sr.ev kX_ev this
 rw [← hN] at h1 h2 h3 h4 k1 k2 k3 k4 k5
 have hb : Zdi N = some (s5, r4) := by
  unfold Zdi Ze4
  simp only [h1, h2, h3, h4, k1, k2, k3, k4, k5, mo]
 exact ⟨s5, r4, hb, d5, c4, X, Y⟩
theorem base_ok (N:Nat) (hN:N = 300) : ∃ x y, Zdi N = some (x, y) ∧ ZaG N (Zay.1, Zay.2.1, Zay.2.2.1, Zay.2.2.2) (x, y) = some true := by
 obtain ⟨bx, by_, h4, cx, cy, ex, ey⟩ := rbase4 N hN
 have rb : RR (bx, by_) eB := ⟨cx, cy, ex, ey⟩
 exact ⟨bx, by_, h4, Zdk N hN ZBc rb⟩
theorem ZCO (N:Nat) (hN:N = 300) : ZaG N (z5, z5, z5, z5) (Zak.1, Zak.2) = some true := Zdk N hN Zd5.1 Zd5.2
theorem mbase_k (N:Nat) (hN:N = 300) : Zg9 N = some true := by
 obtain ⟨x, y, h1, h2⟩ := base_ok N hN
 have h3 := ZCO N hN
 unfold Zg9
 simp only [h1, h2, h3, mo, cond_true]
theorem fit160 {n m:Nat} (h:n < m) (hm:m * 176 ≤ 140737488355328) : decide ((n + 1) * 160 ≤ 140737488355328 ∧ n + 1 ≤ 9223372036854775807) = true := decide_eq_true (by omega)
end Go.Vx
set_option autoImplicit false
set_option linter.unusedSimpArgs false
namespace Go.Vx
open Go Ref
abbrev Rp : Type := LI × LI
abbrev z4 : P4 := ([0, 0, 0, 0, 0], [0, 0, 0, 0, 0], [0, 0, 0, 0, 0], [0, 0, 0, 0, 0])
abbrev zr : Rp := ([0, 0, 0, 0, 0, 0, 0, 0, 0, 0], [0, 0, 0, 0, 0, 0, 0, 0, 0, 0])
structure Pairs (P:List P4) (R:List Rp) : Prop where
 len : R.length = P.length
 at' : ∀ i, i < P.length → ∃ a : E, RepE (List.getD P i z4) a ∧ RR (List.getD R i zr) a
theorem ZvS {α:Type} {l:List α} {x d : α} {i:Nat} : List.getD (l ++ [x]) i d = if i < l.length then List.getD l i d else if i = l.length then x else d := by
 simp only [List.getD_eq_getElem?_getD]
 by_cases h : i < l.length
 ·rw [if_pos h, List.getElem?_append_left h]
 ·rw [if_neg h, List.getElem?_append_right (by omega)]
  by_cases h2 : i = l.length
  ·rw [if_pos h2, h2]; simp
  ·rw [if_neg h2, List.getElem?_eq_none (by simp; omega)]; rfl
theorem Pairs.push {P:List P4} {R:List Rp} (h:Pairs P R) {p:P4} {q:Rp} {a:E} (h1:RepE p a) (h2:RR q a) : Pairs (P ++ [p]) (R ++ [q]) := by
 refine ⟨by simp [h.len], fun i hi => ?_⟩
 simp only [List.length_append, List.length_singleton] at hi
 rw [ZvS, ZvS, h.len]
 by_cases hq : i < P.length
 ·rw [if_pos hq, if_pos hq]; exact h.at' i hq
 ·rw [if_neg hq, if_neg hq, if_pos (by omega), if_pos (by omega)]; exact ⟨a, h1, h2⟩
theorem Pairs.nil : Pairs [] [] := ⟨rfl, fun i hi => by simp at hi⟩
theorem ZCP {x:Int} (h : -9223372036854775808 ≤ x ∧ x ≤ 9223372036854775807) : IntKind.wrap .i64 x = x := Ref.wrapi h.1 h.2
theorem ZEO {n:Nat} (h : 0 < n) (hn:(n:Int) ≤ 9223372036854775807) (i:Int) : ∃ r : Nat, Zc3 (n:Int) i = some (r:Int) ∧ r < n := by
 have g1 : icmp .eql (n:Int) 0 = false := decide_eq_false (by omega)
 have g2 : ((n:Int) == 0) = false := beq_eq_false_iff_ne.2 (by omega)
 have e : ibin .rem .i64 i (n:Int) = i.tmod n := rfl
 have b1 : -(n:Int) < i.tmod n := Int.lt_tmod_of_pos i (by omega)
 have b2 : i.tmod n < (n:Int) := Int.tmod_lt_of_pos i (by omega)
 unfold Zc3
 rw [g1, g2, cond_false, cond_false, e]
 generalize i.tmod n = t at *
 by_cases ht : t < 0
 ·have g3 : icmp .lss t 0 = true := decide_eq_true ht
  rw [g3, cond_true]
  refine ⟨(t + n).toNat, ?_, by omega⟩
  show some (IntKind.wrap .i64 (t + n)) = _
  rw [ZCP (by omega)]
  congr 1
  omega
 ·have g3 : icmp .lss t 0 = false := decide_eq_false ht
  rw [g3, cond_false]
  exact ⟨t.toNat, by congr 1; omega, by omega⟩
theorem at_ok {P:List P4} {R:List Rp} (h:Pairs P R) (hn:(P.length : Int) ≤ 9223372036854775807) (i:Int) : ∃ p q a, Zcp ((), i) ((P.length, R.length), P, R) () = some ((p, q), ()) ∧ RepE p a ∧ RR q a := by
 by_cases h0 : P.length = 0
 ·have g : icmp .eql ((P.length : Nat) : Int) 0 = true := decide_eq_true (by omega)
  refine ⟨z4, Zak, 0, ?_, Zd5.1, Zd5.2⟩
  unfold Zcp
  simp only [g, cond_true]
 ·have g : icmp .eql ((P.length : Nat) : Int) 0 = false := decide_eq_false (by omega)
  obtain ⟨r, h1, h2⟩ := ZEO (n := P.length) (by omega) hn i
  obtain ⟨a, h3, h4⟩ := h.at' r h2
  have g1 : decide ((0 : Int) ≤ (r:Int) ∧ (r:Int) < ((P.length : Nat) : Int)) = true := decide_eq_true (by omega)
  refine ⟨List.getD P r z4, List.getD R r zr, a, ?_, h3, h4⟩
  unfold Zcp
  simp only [g, h1, h.len, g1, mo, cond_true, cond_false, Int.toNat_natCast]
theorem ZCQ (N:Nat) (hN:N = 300) {P:List P4} {R:List Rp} (h:Pairs P R) {m:Nat} (hm:P.length < m) (hsz:m * 176 ≤ 140737488355328) {s:St8} (so:CsOK s) :
  ∃ p q a, Zb7 N ((), s) () ((P.length, R.length), P, R) = some (true, ((P.length + 1, P.length + 1), P ++ [p], R ++ [q])) ∧ RepE p a ∧ RR q a := by
 have w1 := fit160 (n := P.length) hm hsz
 have l1 : ∀ p, (P ++ [p]).length = P.length + 1 := fun p => by simp
 have l2 : ∀ q, (R ++ [q]).length = P.length + 1 := fun q => by simp [h.len]
 unfold Zb7
 cases c1 : icmp .eql s.1 1 with
 | true =>
  obtain ⟨bx, by_, h4, cx, cy, ex, ey⟩ := rbase4 N hN
  have rb : RR (bx, by_) eB := ⟨cx, cy, ex, ey⟩
  have b2 := Zdk N hN ZBc rb
  refine ⟨_, (bx, by_), eB, ?_, ZBc, rb⟩
  simp only [c1, cond_true, h4, b2, mo, l1, l2, w1]
 | false =>
  cases c2 : icmp .eql s.1 2 with
  | true =>
   obtain ⟨t1, t2, t3, t4, b1, b2⟩ := tor_E so.n
   obtain ⟨x, y, b3, b4⟩ := rtorsion N hN so.n
   have b5 := Zdk N hN b2 b4
   refine ⟨(t1, t2, t3, t4), (x, y), _, ?_, b2, b4⟩
   simp only [c1, c2, cond_true, cond_false, b1, b3, b5, mo, l1, l2, w1]
  | false =>
   cases c3 : icmp .eql s.1 3 with
   | true =>
    obtain ⟨⟨p1, p2, p3, p4⟩, ⟨x, y⟩, e, n, m, a, b1, b2, b3, b4, b5, b6⟩ := ZEL N hN so.x so.y
    have b7 := Zdk N hN b5 b6
    have ee : icmp .eql e e = true := beq_self_eq_true e
    refine ⟨(p1, p2, p3, p4), (x, y), a, ?_, b5, b6⟩
    simp only [c1, c2, c3, cond_true, cond_false, b1, b2, b3, b4, b7, ee, mo, l1, l2, w1]
   | false =>
    cases c4 : icmp .eql s.1 4 with
    | true =>
     obtain ⟨⟨p1, p2, p3, p4⟩, ⟨x, y⟩, e, a, b1, b2, b5, b6⟩ := ZEM N hN so.k
     have b7 := Zdk N hN b5 b6
     have ee : icmp .eql e e = true := beq_self_eq_true e
     refine ⟨(p1, p2, p3, p4), (x, y), a, ?_, b5, b6⟩
     simp only [c1, c2, c3, c4, cond_true, cond_false, b1, b2, b7, ee, mo, l1, l2, w1]
    | false =>
     have b7 := ZCO N hN
     refine ⟨z4, Zak, 0, ?_, Zd5.1, Zd5.2⟩
     simp only [c1, c2, c3, c4, cond_true, cond_false, b7, mo, l1, l2, w1]
theorem Zy7 (N:Nat) {P:List P4} {R:List Rp} (h:Pairs P R) (hn:(P.length : Int) < 1000) : (k i:Nat) → i + k = P.length → (fuel:Nat) → k < fuel → (s:P4) → (t:Rp) → (a:E) → RepE s a → RR t a →
  ∃ s' t' a', loopF (Ze1 N) fuel (((), (), P.length, ((P.length : Nat) : Int), (i:Int)), (P, (), s)) = some (.inl (((), ()), ((), s'))) ∧ loopF (Zc4 300) fuel ((R.length, (), (), (i:Int)), (R, (), t)) = some (.inl (((), ()), ((), t'))) ∧ RepE s' a' ∧ RR t' a'
 | 0, i, hi, fuel, hf, s, t, a, h1, h2 => by
  obtain ⟨f, rfl⟩ : ∃ f, fuel = f + 1 := ⟨fuel - 1, by omega⟩
  have g0 : icmp .lss (i:Int) ((P.length : Nat) : Int) = false := decide_eq_false (by omega)
  refine ⟨s, t, a, Zk3 ?_ f, Zk3 ?_ f, h1, h2⟩
  ·unfold Ze1
   simp only [g0, cond_false]
  ·unfold Zc4
   simp only [h.len, g0, cond_false]
 | k + 1, i, hi, fuel, hf, s, t, a, h1, h2 => by
  obtain ⟨f, rfl⟩ : ∃ f, fuel = f + 1 := ⟨fuel - 1, by omega⟩
  have g0 : icmp .lss (i:Int) ((P.length : Nat) : Int) = true := decide_eq_true (by omega)
  have g1 : decide ((0 : Int) ≤ (i:Int) ∧ (i:Int) < ((P.length : Nat) : Int)) = true := decide_eq_true (by omega)
  have inc : ibin .add .i64 (i:Int) 1 = ((i + 1 : Nat) : Int) := by rw [Ref.i_add (by omega) (by omega)]; omega
  obtain ⟨b, h3, h4⟩ := h.at' i (by omega)
  obtain ⟨r, k1, k2⟩ := ZBd h1 h3
  obtain ⟨x, y, k3, k4⟩ := Zy3 (x := t.1) (y := t.2) (u := (List.getD R i zr).1) (v := (List.getD R i zr).2) h2 h4
  obtain ⟨s', t', a', e1, e2, e3, e4⟩ := Zy7 N h hn k (i + 1) (by omega) f (by omega) r (x, y) (a + b) k2 k4
  refine ⟨s', t', a', (Zng ?_ f).trans e1, (Zng ?_ f).trans e2, e3, e4⟩
  ·unfold Ze1
   simp only [g0, g1, cond_true, Int.toNat_natCast]
   rw [k1]
   simp only [mo, inc]
  ·unfold Zc4
   simp only [h.len, g0, g1, cond_true, Int.toNat_natCast]
   rw [k3]
   simp only [mo, inc]
theorem ZEP (N:Nat) (hN:N = 300) {P:List P4} {R:List Rp} (h:Pairs P R) (hn:P.length < 100) : ∃ s t a, ZiP N (P, ()) = some s ∧ Zeh N (R, ()) = some t ∧ RepE s a ∧ RR t a := by
 obtain ⟨s', t', a', e1, e2, e3, e4⟩ := Zy7 N h (by omega) P.length 0 (by omega) N (by omega) z4 Zak 0 Zd5.1 Zd5.2
 have e1 : loopF (Ze1 N) N (((), (), P.length, ((P.length : Nat) : Int), 0), (P, (), z4)) = some (.inl (((), ()), ((), s'))) := e1
 have e2 : loopF (Zc4 300) N ((R.length, (), (), 0), (R, (), (Zak.1, Zak.2))) = some (.inl (((), ()), ((), t'))) := e2
 rw [← hN] at e2
 refine ⟨s', t', a', ?_, ?_, e3, e4⟩
 ·unfold ZiP
  simp only [e1, mo]
 ·unfold Zeh
  simp only [e2, mo]
theorem ZB5 {P:List P4} {R:List Rp} (h:Pairs P R) (d:Nat) : Pairs (P.drop d) (R.drop d) := by
 refine ⟨by simp [h.len], fun i hi => ?_⟩
 simp only [List.length_drop] at hi
 have e1 : List.getD (P.drop d) i z4 = List.getD P (d + i) z4 := by simp [List.getD_eq_getElem?_getD]
 have e2 : List.getD (R.drop d) i zr = List.getD R (d + i) zr := by simp [List.getD_eq_getElem?_getD]
 rw [e1, e2]
 exact h.at' (d + i) (by omega)
theorem Zx6 {α:Type} {l:List α} {n k:Nat} (hl:l.length = n) (hk:k ≤ n) : List.take (n - (n - k)) (List.drop (n - k) l) = l.drop (n - k) := List.take_of_length_le (by simp [hl])
theorem ZCR {T:List P4} {k:Nat} (hT:T.length = k) (p:P4) : List.set (List.take (k + 1) T ++ List.drop k (List.replicate (k + 1) z4)) k p = T ++ [p] := by
 rw [List.take_of_length_le (by omega), List.drop_replicate, show k + 1 - k = 1 by omega]
 simp only [List.replicate_one]
 rw [List.set_append]
 simp [hT]
theorem ZBe (N:Nat) (hN:N = 300) {P:List P4} {R:List Rp} (h:Pairs P R) {n k:Nat} (hn:P.length = n) (hk:k ≤ n) (hnn:(n:Int) ≤ 1000000000000000) (p1 s:P4) (t:Rp) : (j i:Nat) → i + j = k → (fuel:Nat) → j < fuel →
  loopF (Za7 N) fuel (((), (), (), (), (k:Int), ((n - k : Nat) : Int), k + 1, (i:Int)), ((n, n), P, R, P.drop (n - k) ++ [p1], s, t)) = some (.inl (((), (), ()), ((n, n), P, R, s, t)))
 | 0, i, hi, fuel, hf => by
  obtain ⟨f, rfl⟩ : ∃ f, fuel = f + 1 := ⟨fuel - 1, by omega⟩
  have g0 : icmp .lss (i:Int) (k:Int) = false := decide_eq_false (by omega)
  refine Zk3 ?_ f
  unfold Za7
  simp only [g0, cond_false]
 | j + 1, i, hi, fuel, hf => by
  obtain ⟨f, rfl⟩ : ∃ f, fuel = f + 1 := ⟨fuel - 1, by omega⟩
  have g0 : icmp .lss (i:Int) (k:Int) = true := decide_eq_true (by omega)
  have g1 : decide ((0 : Int) ≤ (i:Int) ∧ (i:Int) < ((k + 1 : Nat) : Int)) = true := decide_eq_true (by omega)
  have e1 : ibin .add .i64 ((n - k : Nat) : Int) (i:Int) = ((n - k + i : Nat) : Int) := by rw [Ref.i_add (by omega) (by omega)]; omega
  have g2 : decide ((0 : Int) ≤ ((n - k + i : Nat) : Int) ∧ ((n - k + i : Nat) : Int) < (n:Int)) = true := decide_eq_true (by omega)
  have inc : ibin .add .i64 (i:Int) 1 = ((i + 1 : Nat) : Int) := by rw [Ref.i_add (by omega) (by omega)]; omega
  have e2 : List.getD (P.drop (n - k) ++ [p1]) i z4 = List.getD P (n - k + i) z4 := by
   rw [ZvS, if_pos (by simp [hn]; omega)]
   simp [List.getD_eq_getElem?_getD]
  obtain ⟨b, h3, h4⟩ := h.at' (n - k + i) (by omega)
  have hc := Zdk N hN h3 (x := (List.getD R (n - k + i) zr).1) (y := (List.getD R (n - k + i) zr).2) h4
  refine (Zng ?_ f).trans (ZBe N hN h hn hk hnn p1 s t j (i + 1) (by omega) f (by omega))
  unfold Za7
  simp only [g0, g1, e1, g2, cond_true, Int.toNat_natCast, e2]
  rw [hc]
  simp only [mo, Bool.not_true, cond_false, inc]
structure CrOK (s:St8) : Prop where
 c : CsOK s
 sc : U4 s.2.2.2.2.2.1
set_option maxHeartbeats 1000000 in
theorem ZCS (N:Nat) (hN:N = 300) {P:List P4} {R:List Rp} (h:Pairs P R) {m:Nat} (hm:P.length < m) (hsz:m * 176 ≤ 140737488355328) {s:St8} (so:CrOK s) :
  ∃ p q a, ZcD N ((), s) () ((P.length, R.length), P, R) = some (true, ((P.length + 1, P.length + 1), P ++ [p], R ++ [q])) ∧ RepE p a ∧ RR q a := by
 have w1 := fit160 (n := P.length) hm hsz
 have l1 : ∀ p, (P ++ [p]).length = P.length + 1 := fun p => by simp
 have l2 : ∀ q, (R ++ [q]).length = P.length + 1 := fun q => by simp [h.len]
 obtain ⟨⟨p1, p2, p3, p4⟩, ⟨x1, y1⟩, a, t1, r1, v1⟩ := at_ok h (by omega) s.2.1
 obtain ⟨⟨q1, q2, q3, q4⟩, ⟨x2, y2⟩, b, t2, r2, v2⟩ := at_ok h (by omega) s.2.2.1
 rw [h.len] at t1 t2
 have e65 : 65 ≤ N := by omega
 unfold ZcD
 simp only [h.len, t1, t2, mo_go]
 cases c1 : icmp .eql s.1 5 with
 | true =>
  obtain ⟨⟨u1, u2, u3, u4⟩, k1, k2⟩ := ZBd r1 r2
  obtain ⟨x, y, k3, k4⟩ := Zy3 v1 v2
  rw [← hN] at k3
  have hc := Zdk N hN k2 k4
  refine ⟨(u1, u2, u3, u4), (x, y), _, ?_, k2, k4⟩
  simp only [cond_true, k1, k3, hc, mo, l1, l2, w1]
 | false =>
  cases c2 : icmp .eql s.1 6 with
  | true =>
   obtain ⟨⟨u1, u2, u3, u4⟩, k1, k2⟩ := ZEQ r1 r2
   obtain ⟨x, y, k3, k4⟩ := Zy3 v1 (u := (Za4 (x2, y2)).1) (v := (Za4 (x2, y2)).2) (ZFZ v2)
   rw [← hN] at k3
   have hc := Zdk N hN k2 k4
   refine ⟨(u1, u2, u3, u4), (x, y), _, ?_, k2, k4⟩
   simp only [cond_true, cond_false, k1, k3, hc, mo, l1, l2, w1]
  | false =>
   cases c3 : icmp .eql s.1 7 with
   | true =>
    have k2 := ZER r1
    have k4 := ZFZ v1
    have hc := Zdk N hN k2 (x := (Za4 (x1, y1)).1) (y := (Za4 (x1, y1)).2) k4
    refine ⟨_, _, _, ?_, k2, k4⟩
    simp only [cond_true, cond_false, l1, l2, w1]
    rw [hc]
    rfl
   | false =>
    cases c4 : icmp .eql s.1 8 with
    | true =>
     obtain ⟨⟨u1, u2, u3, u4⟩, k1, k2⟩ := ZES r1
     obtain ⟨x, y, k3, k4⟩ := Zy3 v1 v1
     rw [← hN] at k3
     have hc := Zdk N hN k2 k4
     refine ⟨(u1, u2, u3, u4), (x, y), _, ?_, k2, k4⟩
     simp only [cond_true, cond_false, k1, k3, hc, mo, l1, l2, w1]
    | false =>
     cases c5 : icmp .eql s.1 9 with
     | true =>
      obtain ⟨⟨u1, u2, u3, u4⟩, k1, k2⟩ := ZCT N e65 r1 so.sc
      obtain ⟨nb, j1, j2, j3⟩ := ZET N (by omega) so.sc
      obtain ⟨x, y, k3, k4⟩ := rtimes N hN v1 j2
      rw [j3] at k4
      have hc := Zdk N hN k2 k4
      refine ⟨(u1, u2, u3, u4), (x, y), _, ?_, k2, k4⟩
      simp only [cond_true, cond_false, k1, j1, k3, hc, mo, l1, l2, w1]
     | false =>
      cases c6 : icmp .eql s.1 10 with
      | true =>
       obtain ⟨⟨u1, u2, u3, u4⟩, k1, k2⟩ := ZxB N e65 r1 so.c.k
       obtain ⟨x, y, k3, k4⟩ := rtimes N hN v1 so.c.k
       have hc := Zdk N hN k2 k4
       refine ⟨(u1, u2, u3, u4), (x, y), _, ?_, k2, k4⟩
       simp only [cond_true, cond_false, k1, k3, hc, mo, l1, l2, w1]
      | false =>
       cases c7 : icmp .eql s.1 11 with
       | true =>
        have ar := around8 so.c.n
        obtain ⟨κ, hκ⟩ := Int.eq_ofNat_of_zero_le (show 0 ≤ s.2.2.2.1 % 8 by omega)
        rw [hκ] at ar
        have hκ8 : κ < 8 := by omega
        have hc0 := Zdk N hN r1 v1
        -- what both ways need
        have facts : ∀ k, k ≤ P.length → k < 8 → ∃ s4 t2 e, ZiP N (P.drop (P.length - k), ()) = some s4 ∧ Zeh N (R.drop (P.length - k), ()) = some t2 ∧ RepE s4 e ∧ RR t2 e := by
         intro k hk hk8
         exact ZEP N hN (ZB5 h (P.length - k)) (by simp; omega)
        have go : ∀ k, k ≤ P.length → k < 8 → ∃ S T e, ZiP N (List.take k (List.drop 0 (P.drop (P.length - k) ++ [(p1, p2, p3, p4)])), ()) = some S ∧ Zeh N (R.drop (P.length - k), ()) = some T ∧ RepE S e ∧ RR T e ∧
          loopF (Za7 N) N (((), (), (), (), (k:Int), ((P.length - k : Nat) : Int), k + 1, 0), ((P.length, P.length), P, R, P.drop (P.length - k) ++ [(p1, p2, p3, p4)], S, T)) = some (.inl (((), (), ()), ((P.length, P.length), P, R, S, T))) := by
         intro k hk hk8
         obtain ⟨S, T, e, f1, f2, f3, f4⟩ := facts k hk hk8
         have ed : List.take k (List.drop 0 (P.drop (P.length - k) ++ [(p1, p2, p3, p4)])) = P.drop (P.length - k) := by
          rw [List.drop_zero, List.take_append_of_le_length (by simp; omega), List.take_of_length_le (by simp; omega)]
         rw [ed]
         exact ⟨S, T, e, f1, f2, f3, f4, ZBe N hN h rfl hk (by omega) (p1, p2, p3, p4) S T k 0 (by omega) N (by omega)⟩
        have lst : ∀ k, k ≤ P.length → List.getD (P.drop (P.length - k) ++ [(p1, p2, p3, p4)]) k z4 = (p1, p2, p3, p4) := by
         intro k hk
         have hl : (P.drop (P.length - k)).length = k := by simp; omega
         rw [ZvS, hl, if_neg (by omega), if_pos rfl]
        have dl : ∀ k, k ≤ P.length → (P.drop (P.length - k)).length = k := fun k hk => by simp; omega
        simp only [cond_true, cond_false, ar, mo_go]
        by_cases hg : P.length < κ
        ·have g : icmp .gtr ((κ:Nat) : Int) ((P.length : Nat) : Int) = true := decide_eq_true (by omega)
         obtain ⟨⟨u1, u2, u3, u4⟩, ⟨x, y⟩, e, f1, f2, f3, f4, f5⟩ := go P.length (Nat.le_refl _) (by omega)
         have pe := Zx6 (l := P) rfl (Nat.le_refl P.length)
         have re := Zx6 (l := R) h.len (Nat.le_refl P.length)
         have se := ZCR (dl P.length (Nat.le_refl _)) (p1, p2, p3, p4)
         have le := lst P.length (Nat.le_refl _)
         have de := dl P.length (Nat.le_refl _)
         have n0 : P.length - P.length = 0 := by omega
         simp only [n0] at f1 f2 f5 pe re se le de
         have i1 : ibin .add .i64 ((P.length : Nat) : Int) 1 = ((P.length + 1 : Nat) : Int) := by rw [Ref.i_add (by omega) (by omega)]; omega
         have i2 : ibin .sub .i64 ((P.length : Nat) : Int) ((P.length : Nat) : Int) = ((0 : Nat) : Int) := by
          show IntKind.wrap .i64 _ = _
          rw [ZCP (by omega)]; omega
         have d1 : decide ((0 : Int) ≤ ((P.length + 1 : Nat) : Int) ∧ ((P.length + 1 : Nat) : Int) ≤ ((P.length + 1 : Nat) : Int)) = true := decide_eq_true (by omega)
         have d2 : decide ((0 : Int) ≤ ((0 : Nat) : Int) ∧ ((0 : Nat) : Int) ≤ ((P.length : Nat) : Int)) = true := decide_eq_true (by omega)
         have d3 : decide ((0 : Int) ≤ ((P.length : Nat) : Int) ∧ ((P.length : Nat) : Int) < ((P.length + 1 : Nat) : Int)) = true := decide_eq_true (by omega)
         have d4 : decide ((0 : Int) ≤ ((P.length : Nat) : Int) ∧ ((P.length : Nat) : Int) ≤ ((P.length + 1 : Nat) : Int)) = true := decide_eq_true (by omega)
         have hc := Zdk N hN f3 f4
         refine ⟨(u1, u2, u3, u4), (x, y), e, ?_, f3, f4⟩
         simp only [g, i1, i2, d1, d2, d3, d4, w1, cond_true, Int.toNat_natCast, Bool.and_true, Bool.and_self, List.length_replicate, pe, re, de, se, le, f1, f2, hc0, mo_go, Bool.not_true, cond_false]
         rw [f5]
         simp only [mo_go, l1, l2, w1, cond_true, hc]
        ·have g : icmp .gtr ((κ:Nat) : Int) ((P.length : Nat) : Int) = false := decide_eq_false (by omega)
         have hk : κ ≤ P.length := by omega
         obtain ⟨⟨u1, u2, u3, u4⟩, ⟨x, y⟩, e, f1, f2, f3, f4, f5⟩ := go κ hk hκ8
         have pe := Zx6 (l := P) rfl hk
         have re := Zx6 (l := R) h.len hk
         have se := ZCR (dl κ hk) (p1, p2, p3, p4)
         have le := lst κ hk
         have de := dl κ hk
         have i1 : ibin .add .i64 ((κ:Nat) : Int) 1 = ((κ + 1 : Nat) : Int) := by rw [Ref.i_add (by omega) (by omega)]; omega
         have i2 : ibin .sub .i64 ((P.length : Nat) : Int) ((κ:Nat) : Int) = ((P.length - κ : Nat) : Int) := by
          show IntKind.wrap .i64 _ = _
          rw [ZCP (by omega)]; omega
         have d1 : decide ((0 : Int) ≤ ((κ + 1 : Nat) : Int) ∧ ((κ + 1 : Nat) : Int) ≤ ((κ + 1 : Nat) : Int)) = true := decide_eq_true (by omega)
         have d1' : decide ((κ + 1) * 160 ≤ 140737488355328 ∧ κ + 1 ≤ 9223372036854775807) = true := decide_eq_true (by omega)
         have d2 : decide ((0 : Int) ≤ ((P.length - κ : Nat) : Int) ∧ ((P.length - κ : Nat) : Int) ≤ ((P.length : Nat) : Int)) = true := decide_eq_true (by omega)
         have d3 : decide ((0 : Int) ≤ ((κ:Nat) : Int) ∧ ((κ:Nat) : Int) < ((κ + 1 : Nat) : Int)) = true := decide_eq_true (by omega)
         have d4 : decide ((0 : Int) ≤ ((κ:Nat) : Int) ∧ ((κ:Nat) : Int) ≤ ((κ + 1 : Nat) : Int)) = true := decide_eq_true (by omega)
         have hc := Zdk N hN f3 f4
         refine ⟨(u1, u2, u3, u4), (x, y), e, ?_, f3, f4⟩
         simp only [g, i1, i2, d1, d1', d2, d3, d4, cond_true, Int.toNat_natCast, Bool.and_true, Bool.and_self, List.length_replicate, pe, re, de, se, le, f1, f2, hc0, mo_go, Bool.not_true, cond_false]
         rw [f5]
         simp only [mo_go, l1, l2, w1, cond_true, hc]
       | false =>
        have hc := Zdk N hN r1 v1
        refine ⟨(p1, p2, p3, p4), (x1, y1), a, ?_, r1, v1⟩
        simp only [cond_false, cond_true, hc, mo, l1, l2, w1]
theorem ZEU (N:Nat) (hN:N = 300) {P:List P4} {R:List Rp} (h:Pairs P R) {m:Nat} (hm:P.length < m) (hsz:m * 176 ≤ 140737488355328) {s:St8} (so:CrOK s) :
  ∃ p q a, Zc1 N ((), s) () ((P.length, R.length), P, R) = some (true, ((P.length + 1, P.length + 1), P ++ [p], R ++ [q])) ∧ RepE p a ∧ RR q a := by
 obtain ⟨p, q, a, h1, h2, h3⟩ := ZCQ N hN h hm hsz so.c
 obtain ⟨p', q', a', k1, k2, k3⟩ := ZCS N hN h hm hsz so
 unfold Zc1
 cases c1 : icmp .geq s.1 5 with
 | true =>
  cases c2 : icmp .leq s.1 11 with
  | true => exact ⟨p', q', a', by simp only [cond_true, k1, mo_go], k2, k3⟩
  | false => exact ⟨p, q, a, by simp only [cond_true, cond_false, h1, mo_go], h2, h3⟩
 | false => exact ⟨p, q, a, by simp only [cond_false, h1, mo_go], h2, h3⟩
end Go.Vx
set_option autoImplicit false
set_option linter.unusedSimpArgs false
set_option linter.unusedVariables false
namespace Go.Vx
open Go Ref
theorem add128' {y:Int} (h : 0 ≤ y ∧ y < 128) : ibin .add .u8 y 128 = y + 128 := by
 have : ∀ n : Fin 128, ibin .add .u8 (n.1 : Int) 128 = (n.1 : Int) + 128 := by decide +kernel
 have := this ⟨y.toNat, by omega⟩
 simp only at this
 rwa [Int.toNat_of_nonneg h.1] at this
theorem ZCU (N:Nat) (hN:N = 300) {x y:LI} {p:P4} {a:E} (h:RR (x, y) a) (g:RepE p a) : ∃ c, Zcl N p = some c ∧ ZcE N (x, y) = some c := by
 obtain ⟨xl, yl, k1, k2, k3, k4, k5⟩ := Rep.affine g
 obtain ⟨c, c1, -, -, -, c4, c5⟩ := comp_k k1 k2 k3
 obtain ⟨b, b1, b2, b3⟩ := ZBf h.y
 have e := ZvZ k3.L5
 have hb : b = Zau yl := b2.inj e.1 (by
  have v1 : num y = val yl := by rw [← cf_v h.y, h.ey, ← k5, can_v k3]
  rw [b3, e.2, v1, Int.emod_eq_of_lt k3.nonneg.1 k3.nonneg.2])
 subst hb
 have ev : (kv xl).ev ↔ (kf x).ev := by rw [k4, show kf x = a.p.1 from h.ex]
 obtain ⟨-, -, d0, d1⟩ := ZAn k3
 subst hN
 refine ⟨c, c1, ?_⟩
 unfold ZcE
 have b1' : Zcq 300 (x, y).2 = some (Zau yl) := b1
 simp only [b1', mo]
 by_cases hn : (kv xl).ev
 ·have : Zbw (x, y).1 = false := ZCV h.x (ev.1 hn)
  simp only [this, cond_false]
  rw [c4 hn]
 ·have : Zbw (x, y).1 = true := (ZCW h.x).2 fun q => hn (ev.2 q)
  simp only [this, cond_true]
  rw [c5 hn, add128' ⟨d0, d1⟩]
theorem ZCX {c d:Bool} {p:Prop} (h:c = true ↔ p) (k:d = true ↔ p) : c = d := by
 cases c <;> cases d <;> simp_all
theorem ZCY (N:Nat) (hN:N = 300) {x y:LI} {p:P4} {a:E} (h:RR (x, y) a) (g:RepE p a) : ∃ c, ZdA N p = some c ∧ ZcZ N (x, y) = some c := by
 obtain ⟨c, h1, h2⟩ := ZCZ N (by omega) g
 obtain ⟨d, k1, k2⟩ := rfree N hN h
 obtain rfl := ZCX h2 k2
 exact ⟨c, h1, k1⟩
theorem ZC0 {p q:P4} {r t:Rp} {a b:E} (h1:RepE p a) (h2:RepE q b) (k1:RR r a) (k2:RR t b) : Zc5 p q = some ((decide (r.1 = t.1)) && ((decide (r.2 = t.2)) && true)) := by
 obtain ⟨c, e1, e2⟩ := ZC1 h1 h2
 have e3 := ZCH (x := r.1) (y := r.2) (u := t.1) (v := t.2) k1 k2
 have : c = ((decide (r.1 = t.1)) && ((decide (r.2 = t.2)) && true)) := ZCX e2 (by rw [← e3]; simp)
 rw [e1, this]
theorem Zy8 (N M:Nat) (hN:N = 300) (sc:List St8) (hsc:∀ s ∈ sc, CrOK s) (hsz:sc.length * 176 ≤ 140737488355328) : (k i:Nat) → i + k = sc.length → (fuel:Nat) → k < fuel → (P:List P4) → (R:List Rp) → Pairs P R → P.length = i →
  ∃ P' R', Pairs P' R' ∧ P'.length = sc.length ∧ loopF (Zb8 N M) fuel ((sc.length, (), (), (i:Int)), (sc, P, R, (P.length, R.length))) = some (.inl ((), (P', R', (P'.length, R'.length))))
 | 0, i, hi, fuel, hf, P, R, h, hp => by
  obtain ⟨f, rfl⟩ : ∃ f, fuel = f + 1 := ⟨fuel - 1, by omega⟩
  have g0 : icmp .lss (i:Int) ((sc.length : Nat) : Int) = false := decide_eq_false (by omega)
  refine ⟨P, R, h, by omega, Zk3 ?_ f⟩
  unfold Zb8
  simp only [g0, cond_false]
 | k + 1, i, hi, fuel, hf, P, R, h, hp => by
  obtain ⟨f, rfl⟩ : ∃ f, fuel = f + 1 := ⟨fuel - 1, by omega⟩
  have hlt : i < sc.length := by omega
  have g0 : icmp .lss (i:Int) ((sc.length : Nat) : Int) = true := decide_eq_true (by omega)
  have g1 : decide ((0 : Int) ≤ (i:Int) ∧ (i:Int) < ((sc.length : Nat) : Int)) = true := decide_eq_true (by omega)
  have inc : ibin .add .i64 (i:Int) 1 = ((i + 1 : Nat) : Int) := by rw [Ref.i_add (by omega) (by omega)]; omega
  have so : CrOK (List.getD sc i (0, 0, 0, 0, List.replicate 32 0, [0, 0, 0, 0], [0, 0, 0, 0, 0], [0, 0, 0, 0, 0])) := hsc _ (by
   rw [List.getD_eq_getElem?_getD, List.getElem?_eq_getElem hlt]
   exact List.getElem_mem hlt)
  obtain ⟨p, q, a, h1, h2, h3⟩ := ZEU N hN h (m := sc.length) (by omega) hsz so
  have hp' := h.push h2 h3
  obtain ⟨P', R', e1, e2, e3⟩ := Zy8 N M hN sc hsc hsz k (i + 1) (by omega) f (by omega) (P ++ [p]) (R ++ [q]) hp' (by simp [hp])
  refine ⟨P', R', e1, e2, (Zng ?_ f).trans e3⟩
  unfold Zb8
  simp only [g0, g1, cond_true, Int.toNat_natCast]
  rw [h1]
  simp only [mo_go, inc, hp'.len, show (P ++ [p]).length = P.length + 1 by simp]
theorem ZC2 (N M:Nat) {P:List P4} {R:List Rp} (h:Pairs P R) (hsz:(P.length : Int) ≤ 1000000000000000) {i:Nat} (hi:i < P.length) : (k j:Nat) → j + k = P.length → (fuel:Nat) → k < fuel →
  loopF (ZbF N M) fuel (((), (i:Int), (j:Int)), ((P.length, P.length), P, R)) = some (.inl (((), (i:Int)), ((P.length, P.length), P, R)))
 | 0, j, hj, fuel, hf => by
  obtain ⟨f, rfl⟩ : ∃ f, fuel = f + 1 := ⟨fuel - 1, by omega⟩
  have g0 : icmp .lss (j:Int) ((P.length : Nat) : Int) = false := decide_eq_false (by omega)
  refine Zk3 ?_ f
  unfold ZbF
  simp only [g0, cond_false]
 | k + 1, j, hj, fuel, hf => by
  obtain ⟨f, rfl⟩ : ∃ f, fuel = f + 1 := ⟨fuel - 1, by omega⟩
  have g0 : icmp .lss (j:Int) ((P.length : Nat) : Int) = true := decide_eq_true (by omega)
  have g1 : decide ((0 : Int) ≤ (j:Int) ∧ (j:Int) < ((P.length : Nat) : Int)) = true := decide_eq_true (by omega)
  have g2 : decide ((0 : Int) ≤ (i:Int) ∧ (i:Int) < ((P.length : Nat) : Int)) = true := decide_eq_true (by omega)
  have inc : ibin .add .i64 (j:Int) 1 = ((j + 1 : Nat) : Int) := by rw [Ref.i_add (by omega) (by omega)]; omega
  obtain ⟨a, h1, h2⟩ := h.at' i hi
  obtain ⟨b, h3, h4⟩ := h.at' j (by omega)
  have hs := ZC0 h1 h3 h2 h4
  refine (Zng ?_ f).trans (ZC2 N M h hsz hi k (j + 1) (by omega) f (by omega))
  unfold ZbF
  simp only [g0, g1, g2, cond_true, Int.toNat_natCast]
  rw [hs]
  simp only [mo_go, beq_self_eq_true, Bool.not_true, cond_false, inc]
theorem ZC3 (N M:Nat) (hN:N = 300) {P:List P4} {R:List Rp} (h:Pairs P R) (hsz:(P.length : Int) ≤ 1000000000000000) (hM:P.length < M) : (k i:Nat) → i + k = P.length → (fuel:Nat) → k < fuel →
  loopF (Zbt N M) fuel (((), (i:Int)), ((P.length, P.length), P, R)) = some (.inl ((), ()))
 | 0, i, hi, fuel, hf => by
  obtain ⟨f, rfl⟩ : ∃ f, fuel = f + 1 := ⟨fuel - 1, by omega⟩
  have g0 : icmp .lss (i:Int) ((P.length : Nat) : Int) = false := decide_eq_false (by omega)
  refine Zk3 ?_ f
  unfold Zbt
  simp only [g0, cond_false]
 | k + 1, i, hi, fuel, hf => by
  obtain ⟨f, rfl⟩ : ∃ f, fuel = f + 1 := ⟨fuel - 1, by omega⟩
  have g0 : icmp .lss (i:Int) ((P.length : Nat) : Int) = true := decide_eq_true (by omega)
  have g1 : decide ((0 : Int) ≤ (i:Int) ∧ (i:Int) < ((P.length : Nat) : Int)) = true := decide_eq_true (by omega)
  have inc : ibin .add .i64 (i:Int) 1 = ((i + 1 : Nat) : Int) := by rw [Ref.i_add (by omega) (by omega)]; omega
  obtain ⟨a, h1, h2⟩ := h.at' i (by omega)
  have l2 : loopF (ZbF N M) M (((), (i:Int), 0), ((P.length, P.length), P, R)) = some (.inl (((), (i:Int)), ((P.length, P.length), P, R))) := ZC2 N M h hsz (by omega) P.length 0 (by omega) M hM
  obtain ⟨c, c1, c2⟩ := ZCU N hN (x := (List.getD R i zr).1) (y := (List.getD R i zr).2) h2 h1
  obtain ⟨d, d1, d2⟩ := ZCY N hN (x := (List.getD R i zr).1) (y := (List.getD R i zr).2) h2 h1
  refine (Zng ?_ f).trans (ZC3 N M hN h hsz hM k (i + 1) (by omega) f (by omega))
  unfold Zbt
  simp only [g0, cond_true, l2, mo_go, g1, Int.toNat_natCast]
  rw [c1, c2, d1, d2]
  simp only [mo_go, beq_self_eq_true, Bool.not_true, cond_false, inc, decide_true]
theorem asks_N (N M:Nat) (hN:N = 300) (sc:List St8) (hM:M = sc.length + 3) (hsc:∀ s ∈ sc, CrOK s) (hsz:sc.length * 176 ≤ 140737488355328) : ZdQ N M (sc, ()) = some true := by
 have h1 := mbase_k N hN
 obtain ⟨P, R, e1, e2, e3⟩ := Zy8 N M hN sc hsc hsz sc.length 0 (by omega) M (by omega) [] [] Pairs.nil rfl
 have e3 : loopF (Zb8 N M) M ((sc.length, (), (), 0), (sc, [], [], (0, 0))) = some (.inl ((), (P, R, (P.length, R.length)))) := e3
 have h2 : Zec N M sc.length sc () = some ((), ((P.length, R.length), P, R)) := by
  unfold Zec
  simp only [e3, mo_go]
 obtain ⟨bx, by_, h4, cx, cy, ex, ey⟩ := rbase4 N hN
 have rb : RR (bx, by_) eB := ⟨cx, cy, ex, ey⟩
 have p2 := (e1.push Zd5.1 Zd5.2).push (ZBc) rb
 rw [List.append_assoc, List.append_assoc] at p2
 have n1 : (P ++ [z4, (Zay.1, Zay.2.1, Zay.2.2.1, Zay.2.2.2)]).length = sc.length + 2 := by simp [e2]
 have n2 : (R ++ [(Zak.1, Zak.2), (bx, by_)]).length = sc.length + 2 := by simp [e1.len, e2]
 have w : decide ((sc.length + 2) * 160 ≤ 140737488355328 ∧ sc.length + 2 ≤ 9223372036854775807) = true := decide_eq_true (by omega)
 have p2' : Pairs (P ++ [z4, (Zay.1, Zay.2.1, Zay.2.2.1, Zay.2.2.2)]) (R ++ [(Zak.1, Zak.2), (bx, by_)]) := p2
 have l0 : loopF (Zbt N M) M (((), ((0 : Nat) : Int)), (((P ++ [z4, (Zay.1, Zay.2.1, Zay.2.2.1, Zay.2.2.2)]).length, (P ++ [z4, (Zay.1, Zay.2.1, Zay.2.2.1, Zay.2.2.2)]).length), _, _)) = some (.inl ((), ())) :=
  ZC3 N M hN p2' (by rw [n1]; omega) (by rw [n1]; omega) (sc.length + 2) 0 (by rw [n1]; omega) M (by omega)
 rw [n1] at l0
 have l0' : loopF (Zbt N M) M (((), 0), ((sc.length + 2, sc.length + 2), P ++ [z4, (Zay.1, Zay.2.1, Zay.2.2.1, Zay.2.2.2)], R ++ [(Zak.1, Zak.2), (bx, by_)])) = some (.inl ((), ())) := l0
 unfold ZdQ
 simp only [h1, h2, h4, n1, n2, w, l0', mo_go, Bool.not_true, cond_false, cond_true]
theorem ZEH (M:Nat) (sc:List St8) (hM:M = sc.length + 3) (h:∀ s ∈ sc, (-9223372036854775808 ≤ s.2.2.2.1 ∧ s.2.2.2.1 ≤ 9223372036854775807) ∧ (s.2.2.2.2.1.length = 32 ∧ ∀ x ∈ s.2.2.2.2.1, IntKind.u8.min ≤ x ∧ x ≤ IntKind.u8.max) ∧ (s.2.2.2.2.2.1.length = 4 ∧ ∀ x ∈ s.2.2.2.2.2.1, IntKind.u64.min ≤ x ∧ x ≤ IntKind.u64.max) ∧ (s.2.2.2.2.2.2.1.length = 5 ∧ ∀ x ∈ s.2.2.2.2.2.2.1, IntKind.u64.min ≤ x ∧ x ≤ IntKind.u64.max) ∧ (s.2.2.2.2.2.2.2.length = 5 ∧ ∀ x ∈ s.2.2.2.2.2.2.2, IntKind.u64.min ≤ x ∧ x ≤ IntKind.u64.max)) (hsz:sc.length * 176 ≤ 140737488355328) : ZdQ 300 M (sc, ()) = some true :=
 asks_N 300 M rfl sc hM (fun s hs => by
  obtain ⟨h1, h2, h3, h4, h5⟩ := h s hs
  exact ⟨⟨h1, h2, h4, h5⟩, u4_of h3⟩) hsz
end Go.Vx
