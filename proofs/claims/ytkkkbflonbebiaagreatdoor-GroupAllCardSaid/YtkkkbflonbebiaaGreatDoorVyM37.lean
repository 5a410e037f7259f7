import Derived.Test.YtkkkbflonbebiaaGreatDoorVyM8
set_option autoImplicit false
set_option linter.unusedSimpArgs false
namespace Go.Vx
open Go Ref
structure RR (q : List Int × List Int) (a : E) : Prop where
  x : CF q.1
  y : CF q.2
  ex : kf q.1 = a.p.1
  ey : kf q.2 = a.p.2
theorem two_T : ((2 : Nat) • eT).p = (kI, 0) := by
  rw [E.ns_p]
  have h := ZzA 2 19681161376707505956807079304988542015446066515923890162744021073123829784752 0 ZIt (by decide) (by decide)
  show nmul kT 2 = _
  rw [h]
  rfl
theorem cp_p1 (a : E) : (cp a 1).p = (a.p.2 * kI, a.p.1 * kI) := by
  show kadd a.p ((2 : Nat) • eT).p = _
  rw [two_T, Zeq (by show kI * 0 = 0; grind)]
  refine Prod.ext ?_ ?_
  · show a.p.1 * 0 + a.p.2 * kI = a.p.2 * kI; grind
  · show a.p.2 * 0 + a.p.1 * kI = a.p.1 * kI; grind
theorem ZIu : ((4 : Nat) • eT).p = (0, -1) := by
  rw [show (4 : Nat) = 2 + 2 from rfl, E.ns_add]
  show kadd ((2 : Nat) • eT).p ((2 : Nat) • eT).p = _
  rw [two_T, Zeq (by show kI * 0 = 0; grind)]
  refine Prod.ext ?_ ?_
  · show kI * 0 + 0 * kI = 0; grind
  · show (0 : K) * 0 + kI * kI = -1; rw [kI_sq]; grind
theorem six_T : ((6 : Nat) • eT).p = (-kI, 0) := by
  rw [show (6 : Nat) = 4 + 2 from rfl, E.ns_add]
  show kadd ((4 : Nat) • eT).p ((2 : Nat) • eT).p = _
  rw [two_T, ZIu, Zeq (by show kI * 0 = 0; grind)]
  refine Prod.ext ?_ ?_
  · show (0 : K) * 0 + (-1) * kI = -kI; grind
  · show (-1 : K) * 0 + 0 * kI = 0; grind
theorem cp_p2 (a : E) : (cp a 2).p = (-a.p.1, -a.p.2) := by
  show kadd a.p ((4 : Nat) • eT).p = _
  rw [ZIu, Zeq (by show (0 : K) * -1 = 0; grind)]
  refine Prod.ext ?_ ?_
  · show a.p.1 * -1 + a.p.2 * 0 = -a.p.1; grind
  · show a.p.2 * -1 + a.p.1 * 0 = -a.p.2; grind
theorem cp_p3 (a : E) : (cp a 3).p = (-(a.p.2 * kI), -(a.p.1 * kI)) := by
  show kadd a.p ((6 : Nat) • eT).p = _
  rw [six_T, Zeq (by show -kI * 0 = 0; grind)]
  refine Prod.ext ?_ ?_
  · show a.p.1 * 0 + a.p.2 * -kI = -(a.p.2 * kI); grind
  · show a.p.2 * 0 + a.p.1 * -kI = -(a.p.1 * kI); grind
theorem rcos {x y : List Int} {a : E} (h : RR (x, y) a) : ∃ q1 q2 q3, Zcy 300 (x, y) = some ((x, y), q1, q2, q3) ∧ RR q1 (cp a 1) ∧ RR q2 (cp a 2) ∧ RR q3 (cp a 3) := by
  obtain ⟨u, v, k1, cu, cv, eu, ev⟩ := ZFT h.x h.y
  have nx := ZkS h.x
  have ny := ZkS h.y
  have nu := ZkS cu
  have nv := ZkS cv
  have ex : kf x = a.p.1 := h.ex
  have ey : kf y = a.p.2 := h.ey
  rw [ey] at eu
  rw [ex] at ev
  refine ⟨_, _, _, k1, ⟨cu, cv, ?_, ?_⟩, ⟨nx.1, ny.1, ?_, ?_⟩, ⟨nu.1, nv.1, ?_, ?_⟩⟩
  · rw [cp_p1]; exact eu
  · rw [cp_p1]; exact ev
  · rw [cp_p2]; exact nx.2.trans (by rw [show kf (x, y).1 = a.p.1 from ex])
  · rw [cp_p2]; exact ny.2.trans (by rw [show kf (x, y).2 = a.p.2 from ey])
  · rw [cp_p3]; exact nu.2.trans (by rw [eu])
  · rw [cp_p3]; exact nv.2.trans (by rw [ev])
theorem add128 {y : Int} (h : 0 ≤ y ∧ y < 128) : ibin .add .u8 y 128 = y + 128 := by
  have : ∀ n : Fin 128, ibin .add .u8 (n.1 : Int) 128 = (n.1 : Int) + 128 := by decide +kernel
  have := this ⟨y.toNat, by omega⟩
  simp only at this
  rwa [Int.toNat_of_nonneg h.1] at this
theorem rcomp {x y : List Int} {p : P4} {a : E} (h : RR (x, y) a) (g : RepE p a) : ZaV 300 (x, y) = some (keyE a) := by
  have hk := Zob g
  obtain ⟨xl, yl, k1, k2, k3, k4, k5⟩ := Rep.affine g
  obtain ⟨c, c1, -, -, -, c4, c5⟩ := ZCU k1 k2 k3
  rw [hk] at c1
  obtain rfl := Option.some.inj c1
  obtain ⟨b, b1, b2, b3⟩ := ZDt h.y
  have e := ZpL k3.L5
  have hb : b = ZaB yl := b2.inj e.1 (by
    have v1 : num y = val yl := by rw [← cf_v h.y, h.ey, ← k5, can_v k3]
    rw [b3, e.2, v1, Int.emod_eq_of_lt k3.nonneg.1 k3.nonneg.2])
  subst hb
  have ev : (kv xl).ev ↔ (kf x).ev := by rw [k4, show kf x = a.p.1 from h.ex]
  obtain ⟨-, -, d0, d1⟩ := Zum k3
  unfold ZaV
  have b1' : Zbb 300 (x, y).2 = some (ZaB yl) := b1
  simp only [b1', mo]
  by_cases hn : (kv xl).ev
  · have : Zbc (x, y).1 = false := ZAZ h.x (ev.1 hn)
    simp only [this, cond_false]
    rw [c4 hn]
  · have : Zbc (x, y).1 = true := (ZDu h.x).2 fun q => hn (ev.2 q)
    simp only [this, cond_true]
    rw [c5 hn, add128 ⟨d0, d1⟩]
theorem ZA0 (N : Nat) {a b : List Int} (la : a.length = 32) (lb : b.length = 32) : (k i : Nat) → i + k = 32 → (fuel : Nat) → k < fuel →
    ∃ r, loopF (ZbR N) fuel (((), (), (), (i : Int)), (a, b)) = some r ∧ ((r = .inl ((), ()) ∧ cmpI (a.drop i) (b.drop i) = 0) ∨ r = .inr (icmp .lss (cmpI (a.drop i) (b.drop i)) 0, ()))
  | 0, i, hi, fuel, hf => by
    obtain ⟨f, rfl⟩ : ∃ f, fuel = f + 1 := ⟨fuel - 1, by omega⟩
    obtain rfl : i = 32 := by omega
    refine ⟨_, Zhg (b := ZbR N) rfl f, .inl ⟨rfl, ?_⟩⟩
    rw [List.drop_eq_nil_of_le (by omega), List.drop_eq_nil_of_le (by omega)]
    rfl
  | k + 1, i, hi, fuel, hf => by
    obtain ⟨f, rfl⟩ : ∃ f, fuel = f + 1 := ⟨fuel - 1, by omega⟩
    have h1 : icmp .lss (i : Int) 32 = true := decide_eq_true (by omega : (i : Int) < 32)
    have h2 : decide (0 ≤ (i : Int) ∧ (i : Int) < ((32 : Nat) : Int)) = true := decide_eq_true (by omega)
    have da : a.drop i = List.getD a i 0 :: a.drop (i + 1) := by
      rw [List.drop_eq_getElem_cons (by omega), List.getD_eq_getElem?_getD, List.getElem?_eq_getElem (by omega)]; rfl
    have db : b.drop i = List.getD b i 0 :: b.drop (i + 1) := by
      rw [List.drop_eq_getElem_cons (by omega), List.getD_eq_getElem?_getD, List.getElem?_eq_getElem (by omega)]; rfl
    by_cases e : List.getD a i 0 = List.getD b i 0
    · have hs : ZbR N (((), (), (), (i : Int)), (a, b)) = some (.inl (((), (), (), ((i + 1 : Nat) : Int)), (a, b))) := by
        unfold ZbR
        have h3 : icmp .neq (List.getD a i 0) (List.getD b i 0) = false := by
          show (!decide (List.getD a i 0 = List.getD b i 0)) = false
          rw [decide_eq_true e]; rfl
        simp only [h1, h2, cond_true, Int.toNat_natCast, h3, cond_false, inc32 (k := i) (by omega)]
      obtain ⟨r, r1, r2⟩ := ZA0 N la lb k (i + 1) (by omega) f (by omega)
      refine ⟨r, (ZeK hs f).trans r1, ?_⟩
      have : cmpI (a.drop i) (b.drop i) = cmpI (a.drop (i + 1)) (b.drop (i + 1)) := by
        rw [da, db]
        conv => lhs; unfold cmpI
        rw [if_neg (by omega), if_neg (by omega)]
      rw [this]
      exact r2
    · have hs : ZbR N (((), (), (), (i : Int)), (a, b)) = some (.inr (.inr (icmp .lss (List.getD a i 0) (List.getD b i 0), ()))) := by
        unfold ZbR
        have h3 : icmp .neq (List.getD a i 0) (List.getD b i 0) = true := by
          show (!decide (List.getD a i 0 = List.getD b i 0)) = true
          rw [decide_eq_false e]; rfl
        simp only [h1, h2, cond_true, Int.toNat_natCast, h3]
      refine ⟨_, Zhg hs f, .inr ?_⟩
      have : icmp .lss (cmpI (a.drop i) (b.drop i)) 0 = icmp .lss (List.getD a i 0) (List.getD b i 0) := by
        rw [da, db]
        generalize List.getD a i 0 = u at *
        generalize List.getD b i 0 = v at *
        show decide (_ < _) = decide (_ < _)
        unfold cmpI
        rcases Int.lt_trichotomy u v with h | h | h
        · rw [show (decide (u < v)) = true from decide_eq_true h, if_pos h]
          rfl
        · exact absurd h e
        · rw [show (decide (u < v)) = false from decide_eq_false (by omega), if_neg (by omega), if_pos h]
          rfl
      rw [this]
theorem ZsX (N : Nat) (hN : 33 ≤ N) {a b : List Int} (la : a.length = 32) (lb : b.length = 32) : ZaN N a b = some (icmp .lss (cmpI a b) 0) := by
  obtain ⟨r, h1, h2⟩ := ZA0 N la lb 32 0 rfl N (by omega)
  have h1' : loopF (ZbR N) N (((), (), (), 0), (a, b)) = some r := h1
  unfold ZaN
  simp only [h1', mo]
  simp only [List.drop_zero] at h2
  rcases h2 with ⟨rfl, h⟩ | rfl
  · simp only [h]; rfl
  · rfl
theorem ZGQ {p : P4} {a : E} (g : RepE p a) : (keyE a).length = 32 := by
  have hk := Zob g
  obtain ⟨xl, yl, k1, k2, k3, k4, k5⟩ := Rep.affine g
  obtain ⟨c, c1, c2, -⟩ := ZCU k1 k2 k3
  rw [hk] at c1
  obtain rfl := Option.some.inj c1
  exact c2.1
structure RCos (a : E) (q0 q1 q2 q3 : List Int × List Int) (i j k l : Nat) : Prop where
  perm : [i, j, k, l].Perm [0, 1, 2, 3]
  r0 : RR q0 (cp a i)
  r1 : RR q1 (cp a j)
  r2 : RR q2 (cp a k)
  r3 : RR q3 (cp a l)
  o : [keyE (cp a i), keyE (cp a j), keyE (cp a k), keyE (cp a l)].Pairwise leI
theorem ZFU (a : E) : cp a 0 = a := by
  show a + (2 * 0) • eT = a
  exact E.add_zero a
theorem ZA1 {p : P4} {a : E} (h : RepE p a) (k : Nat) (hk : k < 4) : ∃ q, RepE q (cp a k) := by
  obtain ⟨u, v, z, t, k1, k2⟩ := ZIv (k := 2 * k) (by omega)
  obtain ⟨q, -, k4⟩ := ZAN h k2
  exact ⟨q, k4⟩
theorem ZGR (N : Nat) (hN : N = 300) {p : P4} {x y : List Int} {a : E} (h : RR (x, y) a) (g : RepE p a) :
    ∃ q0 q1 q2 q3 i j k l, ZbH N (x, y) = some (q0, q1, q2, q3) ∧ RCos a q0 q1 q2 q3 i j k l := by
  obtain ⟨f1, f2, f3, hc, R1, R2, R3⟩ := rcos h
  have R0 : RR (x, y) (cp a 0) := by rw [ZFU]; exact h
  obtain ⟨p0, g0⟩ := ZA1 g 0 (by decide)
  obtain ⟨p1, g1⟩ := ZA1 g 1 (by decide)
  obtain ⟨p2, g2⟩ := ZA1 g 2 (by decide)
  obtain ⟨p3, g3⟩ := ZA1 g 3 (by decide)
  obtain ⟨x1, y1⟩ := f1
  obtain ⟨x2, y2⟩ := f2
  obtain ⟨x3, y3⟩ := f3
  let f : Nat → List Int × List Int := fun n => match n with
    | 0 => (x, y)
    | 1 => (x1, y1)
    | 2 => (x2, y2)
    | _ => (x3, y3)
  let B : Nat → Nat → Bool := fun i j => icmp .lss (cmpI (keyE (cp a i)) (keyE (cp a j))) 0
  obtain ⟨i, j, k, l, hp, hs, b1, b2, b3⟩ := ZA2 f B fun i j => ZGS
  have hf : ∀ n, n < 4 → RR (f n) (cp a n) := by
    intro n hn
    match n, hn with
    | 0, _ => exact R0
    | 1, _ => exact R1
    | 2, _ => exact R2
    | 3, _ => exact R3
  have hm : ∀ n, n ∈ [i, j, k, l] → n < 4 := by
    intro n hn
    have := hp.subset hn
    simp only [List.mem_cons, List.not_mem_nil, or_false] at this
    omega
  refine ⟨f i, f j, f k, f l, i, j, k, l, ?_, hp, hf i (hm i (by simp)), hf j (hm j (by simp)), hf k (hm k (by simp)), hf l (hm l (by simp)), pair4 (ZCV b1) (ZCV b2) (ZCV b3)⟩
  rw [← hs]
  have hon : kf x ≠ 0 ∨ kf y ≠ 0 := by
    have := on_ne (x := a.p.1) (y := a.p.2) a.on
    rwa [← show kf x = a.p.1 from h.ex, ← show kf y = a.p.2 from h.ey] at this
  have hat := at_k h.x h.y hon
  have c0 := rcomp R0 g0
  have c1 := rcomp R1 g1
  have c2 := rcomp R2 g2
  have c3 := rcomp R3 g3
  have l0 := ZGQ g0
  have l1 := ZGQ g1
  have l2 := ZGQ g2
  have l3 := ZGQ g3
  have hc' : Zcy N (x, y) = some ((x, y), (x1, y1), (x2, y2), (x3, y3)) := by rw [hN]; exact hc
  rw [← hN] at c0 c1 c2 c3
  have e10 := ZsX N (by omega) l1 l0
  have e20 := ZsX N (by omega) l2 l0
  have e21 := ZsX N (by omega) l2 l1
  have e30 := ZsX N (by omega) l3 l0
  have e31 := ZsX N (by omega) l3 l1
  have e32 := ZsX N (by omega) l3 l2
  have hat' : Zap ((x, y).1, (x, y).2) = (x, y) := hat
  unfold ZbH
  simp only [hat, hat', hc', mo, c0, c1, c2, c3, e10, e20, e21, e30, e31, e32]
  rfl
theorem ZvK (N : Nat) (hN : N = 300) {p : P4} {x y : List Int} {a : E} (g : RepE p a) (h : RR (x, y) a) : Zdm N p (x, y) = some true := by
  obtain ⟨xl, yl, k1, k2, k3, k4, k5⟩ := Rep.affine g
  obtain ⟨m, m1, m2, m3⟩ := ZEr h.x
  obtain ⟨n, n1, n2, n3⟩ := ZEr h.y
  have e1 : xl = m := can_k k2 m2 (by rw [k4, ← show kf x = a.p.1 from h.ex]; exact kf_of (by rw [m3, Int.emod_eq_of_lt (by rw [← m3]; exact m2.nonneg.1) (by rw [← m3]; exact m2.nonneg.2)]))
  have e2 : yl = n := can_k k3 n2 (by rw [k5, ← show kf y = a.p.2 from h.ey]; exact kf_of (by rw [n3, Int.emod_eq_of_lt (by rw [← n3]; exact n2.nonneg.1) (by rw [← n3]; exact n2.nonneg.2)]))
  subst e1 e2
  obtain ⟨p1, p2, p3, p4⟩ := p
  have m1' : ZcM 300 (x, y).1 = some xl := m1
  have n1' : ZcM 300 (x, y).2 = some yl := n1
  subst hN
  unfold Zdm
  simp only [k1, m1', n1', mo, decide_true, cond_true]
end Go.Vx
set_option autoImplicit false
set_option linter.unusedSimpArgs false
namespace Go.Vx
open Go Ref
theorem ZEs {x y u v : List Int} {a b : E} (h : RR (x, y) a) (g : RR (u, v) b) : ∃ s t, Zbw 300 (x, y) (u, v) = some (s, t) ∧ RR (s, t) (a + b) := by
  have ex : kf x = a.p.1 := h.ex
  have ey : kf y = a.p.2 := h.ey
  have eu : kf u = b.p.1 := g.ex
  have ev : kf v = b.p.2 := g.ey
  obtain ⟨s, t, k, c1, c2, e1, e2⟩ := radd4 h.x h.y g.x g.y (by rw [ex, ey]; exact a.on) (by rw [eu, ev]; exact b.on)
  rw [ex, ey, eu, ev] at e1 e2
  exact ⟨s, t, k, c1, c2, e1, e2⟩
theorem rr_neg {x y : List Int} {a : E} (h : RR (x, y) a) : RR (Zer (x, y)) (-a) := by
  have n := ZkS h.x
  exact ⟨n.1, h.y, n.2.trans (by rw [show kf (x, y).1 = a.p.1 from h.ex]; rfl), h.ey⟩
theorem ZvL : CF [0, 0, 0, 0, 0, 0, 0, 0, 0, 0] := ⟨rfl, (fun x hx => by
  have hx : x ∈ List.replicate 10 (0 : Int) := hx
  obtain rfl := List.eq_of_mem_replicate hx
  decide), by decide⟩
theorem ZGT : kf [0, 0, 0, 0, 0, 0, 0, 0, 0, 0] = 0 := (ZpM ZvL).1 rfl
theorem ZKt (t p q X : K) : t * (t * t * p) * (t * (X * q)) = X * (t * t * p * (t * t * q)) := by grind
theorem ZIw (t p q X : K) : t * (t * t * q) * (t * (X * p)) = X * (t * t * p * (t * t * q)) := by grind
theorem Zrt : RR Zam 0 := ⟨ZvL, Zfe, ZGT, ZlE⟩
theorem rr_uniq {x y u v : List Int} {a b : E} (h : RR (x, y) a) (g : RR (u, v) b) : (x = u ∧ y = v) ↔ a = b := by
  constructor
  · rintro ⟨rfl, rfl⟩
    exact E.ext (Prod.ext (h.ex.symm.trans g.ex) (h.ey.symm.trans g.ey))
  · rintro rfl
    exact ⟨cf_k h.x g.x (h.ex.trans g.ex.symm), cf_k h.y g.y (h.ey.trans g.ey.symm)⟩
structure RQ (q : List Int × List Int × List Int) (a : E) : Prop where
  x : CF q.1
  y : CF q.2.1
  z : CF q.2.2
  nz : kf q.2.2 ≠ 0
  ex : kf q.1 = a.p.1 * kf q.2.2
  ey : kf q.2.1 = a.p.2 * kf q.2.2
theorem frac {a1 a2 b1 b2 z w d X Y r1 r2 r3 r4 r5 r6 r7 r8 r9 r10 r11 r12 r13 r14 r15 r16 r17 : K} (hX : X * (1 + d * a1 * b1 * a2 * b2) = a1 * b2 + a2 * b1) (hY : Y * (1 - d * a1 * b1 * a2 * b2) = a2 * b2 + a1 * b1)
    (e1 : r1 = z * w) (e2 : r2 = r1 * r1) (e3 : r3 = a1 * z * (b1 * w)) (e4 : r4 = a2 * z * (b2 * w)) (e5 : r5 = d * r3) (e6 : r6 = r5 * r4) (e7 : r7 = r2 - r6) (e8 : r8 = r2 + r6)
    (e9 : r9 = a1 * z * (b2 * w)) (e10 : r10 = a2 * z * (b1 * w)) (e11 : r11 = r9 + r10) (e12 : r12 = r4 + r3) (e13 : r13 = r1 * r7) (e14 : r14 = r13 * r11) (e15 : r15 = r1 * r8) (e16 : r16 = r15 * r12) (e17 : r17 = r7 * r8) :
    r14 = X * r17 ∧ r16 = Y * r17 ∧ r7 = (z * w) * (z * w) * (1 - d * a1 * b1 * a2 * b2) ∧ r8 = (z * w) * (z * w) * (1 + d * a1 * b1 * a2 * b2) := by
  have h7 : r7 = (z * w) * (z * w) * (1 - d * a1 * b1 * a2 * b2) := by subst e7 e6 e5 e4 e3 e2 e1; clear hX hY; grind
  have h8 : r8 = (z * w) * (z * w) * (1 + d * a1 * b1 * a2 * b2) := by subst e8 e6 e5 e4 e3 e2 e1; clear hX hY; grind
  have h11 : r11 = z * w * (X * (1 + d * a1 * b1 * a2 * b2)) := by rw [hX, e11, e9, e10]; clear hX hY; grind
  have h12 : r12 = z * w * (Y * (1 - d * a1 * b1 * a2 * b2)) := by rw [hY, e12, e4, e3]; clear hX hY; grind
  generalize 1 - d * a1 * b1 * a2 * b2 = p at *
  generalize 1 + d * a1 * b1 * a2 * b2 = q at *
  refine ⟨?_, ?_, h7, h8⟩
  · rw [e14, e13, e17, h7, h8, h11, e1]; exact ZKt _ _ _ _
  · rw [e16, e15, e17, h7, h8, h12, e1]; exact ZIw _ _ _ _
theorem ZLF {q r : List Int × List Int × List Int} {a b : E} (h : RQ q a) (g : RQ r b) : ∃ s, Zb3 300 (q.1, q.2.1, q.2.2) (r.1, r.2.1, r.2.2) Za0 = some s ∧ RQ s (a + b) := by
  obtain ⟨r1, k1, c1, e1⟩ := Zbq h.z g.z
  obtain ⟨r2, k2, c2, e2⟩ := Zbq c1 c1
  obtain ⟨r3, k3, c3, e3⟩ := Zbq h.x g.x
  obtain ⟨r4, k4, c4, e4⟩ := Zbq h.y g.y
  obtain ⟨r5, k5, c5, e5⟩ := Zbq D_cf c3
  obtain ⟨r6, k6, c6, e6⟩ := Zbq c5 c4
  obtain ⟨r7, k7, c7, e7⟩ := Zoc c2 c6
  obtain ⟨r8, k8, c8, e8⟩ := Zj3 c2 c6
  obtain ⟨r9, k9, c9, e9⟩ := Zbq h.x g.y
  obtain ⟨r10, k10, c10, e10⟩ := Zbq h.y g.x
  obtain ⟨r11, k11, c11, e11⟩ := Zj3 c9 c10
  obtain ⟨r12, k12, c12, e12⟩ := Zj3 c4 c3
  obtain ⟨r13, k13, c13, e13⟩ := Zbq c1 c7
  obtain ⟨r14, k14, c14, e14⟩ := Zbq c13 c11
  obtain ⟨r15, k15, c15, e15⟩ := Zbq c1 c8
  obtain ⟨r16, k16, c16, e16⟩ := Zbq c15 c12
  obtain ⟨r17, k17, c17, e17⟩ := Zbq c7 c8
  rw [h.ex, g.ex] at e3
  rw [h.ey, g.ey] at e4
  rw [h.ex, g.ey] at e9
  rw [h.ey, g.ex] at e10
  rw [D_k] at e5
  obtain ⟨f1, f2, f3, f4⟩ := frac (Zqi a.on b.on) (Zqj a.on b.on) e1 e2 e3 e4 e5 e6 e7 e8 e9 e10 e11 e12 e13 e14 e15 e16 e17
  obtain ⟨w1, w2⟩ := Zd5 a.on b.on
  have hzw := K.mul_ne h.nz g.nz
  refine ⟨(r14, r16, r17), ?_, c14, c16, c17, ?_, f1, f2⟩
  · unfold Zb3
    simp only [k1, k2, k3, k4, k5, k6, k7, k8, k9, k10, k11, k12, k13, k14, k15, k16, k17, mo]
  · show kf r17 ≠ 0
    rw [e17, f3, f4]
    exact K.mul_ne (K.mul_ne (K.mul_ne hzw hzw) w2) (K.mul_ne (K.mul_ne hzw hzw) w1)
theorem i_dec {j : Nat} (h : j < 1000) : ibin .sub .i64 (j : Int) 1 = (j : Int) - 1 := by
  have : ibin .sub .i64 (j : Int) 1 = IntKind.wrap .i64 ((j : Int) - 1) := rfl
  rw [this]
  exact wrapi (by omega) (by omega)
theorem ZxR (N : Nat) (hN : N = 300) {k : List Int} (hk : L32 k) {one : List Int × List Int × List Int} {a : E} (ho : RQ one a) : (j : Nat) → j ≤ 256 → (fuel : Nat) → j < fuel → (begun : Bool) → (out : List Int × List Int × List Int) → (m : Nat) → RQ out (m • a) → m = numB k / 2 ^ j → (begun = false → m = 0) →
    ∃ s, loopF (Zbr N) fuel (((), (), (), (), (), begun, (j : Int) - 1), ((), k, (), Za0, one, out)) = some (.inl (((), ()), ((), (), s))) ∧ RQ s (numB k • a)
  | 0, hj, fuel, hf, begun, out, m, ro, hm, hb => by
    obtain ⟨f, rfl⟩ : ∃ f, fuel = f + 1 := ⟨fuel - 1, by omega⟩
    have hs : Zbr N (((), (), (), (), (), begun, ((0 : Nat) : Int) - 1), ((), k, (), Za0, one, out)) = some (.inr (.inl (((), ()), ((), (), out)))) := by
      unfold Zbr
      have hge : icmp .geq (((0 : Nat) : Int) - 1) 0 = false := by decide
      simp only [hge, cond_false]
    refine ⟨out, Zhg hs f, ?_⟩
    rw [hm, Nat.pow_zero, Nat.div_one] at ro
    exact ro
  | j + 1, hj, fuel, hf, begun, out, m, ro, hm, hb => by
    obtain ⟨f, rfl⟩ : ∃ f, fuel = f + 1 := ⟨fuel - 1, by omega⟩
    have h0 : ((j + 1 : Nat) : Int) - 1 = (j : Int) := by omega
    rw [h0]
    have hge : icmp .geq (j : Int) 0 = true := decide_eq_true (by omega : (j : Int) ≥ 0)
    have hq : ibin .quo .i64 (j : Int) 8 = ((j / 8 : Nat) : Int) := i_quo 8 (by omega)
    have hr : ibin .rem .i64 (j : Int) 8 = ((j % 8 : Nat) : Int) := i_rem 8
    have hq1 : decide (0 ≤ ((j / 8 : Nat) : Int) ∧ ((j / 8 : Nat) : Int) < ((32 : Nat) : Int)) = true := decide_eq_true (by omega)
    have hr1 : decide (0 ≤ ((j % 8 : Nat) : Int)) = true := decide_eq_true (by omega)
    have hby : 0 ≤ List.getD k (j / 8) 0 ∧ List.getD k (j / 8) 0 ≤ 255 := by
      have hlt : j / 8 < k.length := by rw [hk.1]; omega
      rw [List.getD_eq_getElem?_getD, List.getElem?_eq_getElem hlt]
      exact hk.2 _ (List.getElem_mem hlt)
    have hbit := b_bit hby (j % 8) (by omega)
    rw [ZLG k hk.2 j] at hbit
    have hd := i_dec (j := j) (by omega)
    have hstep : numB k / 2 ^ j = 2 * m + numB k / 2 ^ j % 2 := by
      rw [hm, Nat.pow_succ, ← Nat.div_div_eq_div_mul]
      omega
    -- twice what there is
    have dbl : ∃ o2, (cond begun (Zb3 N (out.1, out.2.1, out.2.2) (out.1, out.2.1, out.2.2) Za0) (some out)) = some o2 ∧ RQ o2 ((2 * m) • a) := by
      cases begun with
      | true =>
        obtain ⟨s, k1, k2⟩ := ZLF ro ro
        rw [← hN] at k1
        refine ⟨s, k1, ?_⟩
        rw [Nat.two_mul, E.ns_add]; exact k2
      | false =>
        obtain rfl := hb rfl
        exact ⟨out, rfl, ro⟩
    obtain ⟨o2, d1, d2⟩ := dbl
    have ho1 : RQ (one.1, one.2.1, one.2.2) a := ho
    rcases Nat.mod_two_eq_zero_or_one (numB k / 2 ^ j) with hb0 | hb1
    · rw [hb0] at hbit hstep
      have he : icmp .eql (ibin .and .u8 (ibin .shr .u8 (List.getD k (j / 8) 0) ((j % 8 : Nat) : Int)) 1) 1 = false := by rw [hbit]; rfl
      obtain ⟨s, l1, l2⟩ := ZxR N hN hk ho j (by omega) f (by omega) begun o2 (2 * m) d2 (by omega) (fun hb' => by rw [hb hb'])
      refine ⟨s, (ZeK ?_ f).trans l1, l2⟩
      unfold Zbr
      cases begun with
      | true =>
        have d1' : Zb3 N (out.1, out.2.1, out.2.2) (out.1, out.2.1, out.2.2) Za0 = some o2 := d1
        simp only [hge, hq, hr, hq1, hr1, cond_true, cond_false, Int.toNat_natCast, he, d1', mo, hd]
      | false =>
        have d1' : out = o2 := Option.some.inj d1
        subst d1'
        simp only [hge, hq, hr, hq1, hr1, cond_true, cond_false, Int.toNat_natCast, he, mo, hd]
    · rw [hb1] at hbit hstep
      have he : icmp .eql (ibin .and .u8 (ibin .shr .u8 (List.getD k (j / 8) 0) ((j % 8 : Nat) : Int)) 1) 1 = true := by rw [hbit]; rfl
      obtain ⟨o3, t1, t2⟩ := ZLF d2 ho
      rw [← hN] at t1
      obtain ⟨s, l1, l2⟩ := ZxR N hN hk ho j (by omega) f (by omega) true o3 (2 * m + 1) t2 (by omega) (fun hb' => by cases hb')
      refine ⟨s, (ZeK ?_ f).trans l1, l2⟩
      unfold Zbr
      cases begun with
      | true =>
        have d1' : Zb3 N (out.1, out.2.1, out.2.2) (out.1, out.2.1, out.2.2) Za0 = some o2 := d1
        simp only [hge, hq, hr, hq1, hr1, cond_true, cond_false, Int.toNat_natCast, he, d1', mo, hd, t1]
      | false =>
        have d1' : out = o2 := Option.some.inj d1
        subst d1'
        simp only [hge, hq, hr, hq1, hr1, cond_true, cond_false, Int.toNat_natCast, he, mo, hd, t1]
theorem numB_hi {k : List Int} (hk : L32 k) : numB k / 2 ^ 256 = 0 := by
  have := ZKu hk
  refine Nat.div_eq_of_lt ?_
  have e : (2 : Nat) ^ 256 = 115792089237316195423570985008687907853269984665640564039457584007913129639936 := by decide
  rw [e]
  omega
theorem rtimes (N : Nat) (hN : N = 300) {x y k : List Int} {a : E} (h : RR (x, y) a) (hk : L32 k) : ∃ s t, Zcg N (x, y) k = some (s, t) ∧ RR (s, t) (numB k • a) := by
  have ho : RQ (x, y, [1, 0, 0, 0, 0, 0, 0, 0, 0, 0]) a := ⟨h.x, h.y, Zfe, by show kf [1, 0, 0, 0, 0, 0, 0, 0, 0, 0] ≠ 0; rw [ZlE]; exact K.one_ne, by show kf x = _ * kf [1, 0, 0, 0, 0, 0, 0, 0, 0, 0]; rw [ZlE, show kf x = a.p.1 from h.ex]; grind, by show kf y = _ * kf [1, 0, 0, 0, 0, 0, 0, 0, 0, 0]; rw [ZlE, show kf y = a.p.2 from h.ey]; grind⟩
  have hz : RQ ([0, 0, 0, 0, 0, 0, 0, 0, 0, 0], [1, 0, 0, 0, 0, 0, 0, 0, 0, 0], [1, 0, 0, 0, 0, 0, 0, 0, 0, 0]) ((0 : Nat) • a) := ⟨ZvL, Zfe, Zfe, by show kf [1, 0, 0, 0, 0, 0, 0, 0, 0, 0] ≠ 0; rw [ZlE]; exact K.one_ne, by show kf [0, 0, 0, 0, 0, 0, 0, 0, 0, 0] = 0 * _; rw [ZGT]; grind, by show kf [1, 0, 0, 0, 0, 0, 0, 0, 0, 0] = 1 * kf [1, 0, 0, 0, 0, 0, 0, 0, 0, 0]; grind⟩
  obtain ⟨s, l1, l2⟩ := ZxR N hN hk ho 256 (by omega) N (by omega) false _ 0 hz (numB_hi hk).symm (fun _ => rfl)
  obtain ⟨i, i1, i2, i3⟩ := ZGU l2.z l2.nz
  obtain ⟨u, u1, u2, u3⟩ := Zbq l2.x i2
  obtain ⟨v, v1, v2, v3⟩ := Zbq l2.y i2
  rw [← hN] at i1 u1 v1
  have l1' : loopF (Zbr N) N (((), (), (), (), (), false, 255), ((), k, (), Za0, (x, y, [1, 0, 0, 0, 0, 0, 0, 0, 0, 0]), ([0, 0, 0, 0, 0, 0, 0, 0, 0, 0], [1, 0, 0, 0, 0, 0, 0, 0, 0, 0], [1, 0, 0, 0, 0, 0, 0, 0, 0, 0]))) = _ := l1
  refine ⟨u, v, ?_, u2, v2, ?_, ?_⟩
  · unfold Zcg
    simp only [l1', mo, i1, u1, v1]
  · show kf u = _
    rw [u3, l2.ex, show (numB k • a).p.1 * kf s.2.2 * kf i = (numB k • a).p.1 * (kf i * kf s.2.2) by generalize (numB k • a).p.1 = q; grind, i3]
    generalize (numB k • a).p.1 = q; grind
  · show kf v = _
    rw [v3, l2.ey, show (numB k • a).p.2 * kf s.2.2 * kf i = (numB k • a).p.2 * (kf i * kf s.2.2) by generalize (numB k • a).p.2 = q; grind, i3]
    generalize (numB k • a).p.2 = q; grind
theorem ZKv : L32 ZgM := ⟨rfl, by decide⟩
theorem ZIx : numB ZgM = ordl := by decide
theorem rfree (N : Nat) (hN : N = 300) {x y : List Int} {a : E} (h : RR (x, y) a) : ∃ c, Zdy N (x, y) = some c ∧ (c = true ↔ ordl • a = 0) := by
  obtain ⟨s, t, k1, k2⟩ := rtimes N hN h ZKv
  rw [ZIx] at k2
  have u := rr_uniq k2 (Zrt : RR (Zam.1, Zam.2) 0)
  refine ⟨(decide (s = Zam.1)) && ((decide (t = Zam.2)) && true), ?_, ?_⟩
  · unfold Zdy
    simp only [k1, mo]
  · rw [Bool.and_true, Bool.and_eq_true, decide_eq_true_eq, decide_eq_true_eq]
    exact u
theorem ZEt (N : Nat) (hN : N = 300) {x y : List Int} {a : E} (h : RR (x, y) a) : (∃ u v, Zbw N (x, y) (x, y) = some (u, v) ∧ ∃ s t, Zbw N (u, v) (u, v) = some (s, t) ∧ ∃ c, Zdy N (s, t) = some c ∧ (c = true ↔ (4 * ordl) • a = 0)) := by
  obtain ⟨u, v, k1, k2⟩ := ZEs h h
  obtain ⟨s, t, j1, j2⟩ := ZEs k2 k2
  rw [← hN] at k1 j1
  obtain ⟨c, c1, c2⟩ := rfree N hN j2
  refine ⟨u, v, k1, s, t, j1, c, c1, c2.trans ?_⟩
  rw [four, Nat.mul_comm, E.ns_mul]
theorem ZGV (N : Nat) (hN : N = 300) {x y : List Int} {a : E} (h : RR (x, y) a) (h4 : (4 * ordl) • a = 0) : Zb4 N (x, y) = some ((x, y), 0) := by
  obtain ⟨u, v, k1, s, t, k2, c, k3, k4⟩ := ZEt N hN h
  have hc := k4.2 h4
  unfold Zb4
  simp only [k1, k2, k3, hc, mo, Bool.not_true, cond_false]
theorem ZKw (N : Nat) (hN : N = 300) {x y : List Int} {a : E} (h : RR (x, y) a) (h4 : (4 * ordl) • a ≠ 0) : Zb4 N (x, y) = some (Zam, 50) := by
  obtain ⟨u, v, k1, s, t, k2, c, k3, k4⟩ := ZEt N hN h
  have hc : c = false := Bool.eq_false_iff.2 fun q => h4 (k4.1 q)
  unfold Zb4
  simp only [k1, k2, k3, hc, mo, Bool.not_false, cond_true]
  rfl
end Go.Vx
set_option autoImplicit false
set_option linter.unusedSimpArgs false
namespace Go.Vx
open Go Ref
theorem mo_go {α R : Type} (a : α) (f : R) (k : α → R) : mo (some a) f k = k a := rfl
def decF {α : Type} (N : Nat) (ten : List Int) (K : List Int → Option α) : List Int → List Int → Option α
  | [], r => K r
  | d :: ds, r => mo (Zab N r ten) none fun r1 => mo (Zaf N d) none fun r2 => mo (Zac N r1 r2) none fun r3 => decF N ten K ds r3
theorem ZIy {α : Type} (N : Nat) (hN : N = 300) {ten : List Int} (ht : CF ten) (et : kf ten = K.of 10) (C : List Int → Option α) : (ds : List Int) → (∀ d ∈ ds, 0 ≤ d ∧ d < 10) → (r : List Int) → (n : Int) → CF r → kf r = K.of n →
    ∃ s, decF N ten C ds r = C s ∧ CF s ∧ kf s = K.of (ds.foldl (fun n d => n * 10 + d) n)
  | [], _, r, n, hr, er => ⟨r, rfl, hr, er⟩
  | d :: ds, hd, r, n, hr, er => by
    obtain ⟨r1, k1, c1, e1⟩ := Zbq hr ht
    obtain ⟨r2, k2, c2, e2⟩ := rsmall d ⟨(hd d (by simp)).1, by have := (hd d (by simp)).2; omega⟩
    obtain ⟨r3, k3, c3, e3⟩ := Zj3 c1 c2
    rw [← hN] at k1 k2 k3
    obtain ⟨s, h1, h2, h3⟩ := ZIy N hN ht et C ds (fun x hx => hd x (by simp [hx])) r3 (n * 10 + d) c3 (by rw [e3, e1, e2, er, et, K.of_add, K.of_mul])
    refine ⟨s, ?_, h2, h3⟩
    rw [← h1]
    show mo _ _ _ = _
    simp only [k1, k2, k3, mo]
abbrev tX : List Int := [1, 4, 3, 9, 9, 3, 1, 7, 8, 6, 8, 2, 0, 0, 1, 1, 8, 2, 6, 0, 3, 4, 7, 9, 3, 4, 3, 2, 0, 5, 2, 7, 2, 3, 2, 5, 8, 0, 6, 1, 8, 8, 2, 3, 9, 7, 1, 1, 9, 4, 3, 4, 5, 2, 6, 1, 2, 1, 4, 2, 1, 7, 5, 7, 5, 4, 1, 6, 7, 8, 8, 7, 9, 9, 8, 1, 8]
abbrev tY : List Int := [2, 7, 0, 7, 3, 8, 5, 5, 0, 1, 1, 4, 4, 8, 4, 0, 6, 4, 9, 3, 1, 8, 2, 2, 5, 2, 8, 7, 2, 2, 5, 6, 5, 8, 7, 8, 8, 9, 3, 6, 8, 0, 4, 2, 6, 7, 5, 7, 5, 3, 1, 3, 5, 1, 9, 4, 6, 3, 7, 4, 3, 6, 0, 9, 7, 5, 0, 3, 0, 3, 4, 0, 2, 0, 2, 2]
def torEnd (N : Nat) (a : Int) (x y : List Int) : Option (List Int × List Int) := mo (loopF (ZbG N) N ((a, (), (), (), 0), ((), (), (x, y), (Zam.1, Zam.2)))) none fun r => match r with
      | .inl u => some (u.2.2.2.1, u.2.2.2.2)
      | .inr _ => none
def torMid (N : Nat) (a : Int) (x : List Int) : Option (List Int × List Int) := mo (Zaf N 10) none fun t2 => decF N t2 (torEnd N a x) tY [0, 0, 0, 0, 0, 0, 0, 0, 0, 0]
set_option maxRecDepth 100000 in
theorem ZKx (N : Nat) (a : Int) : Zfv N a = mo (Zaf N 10) none fun t1 => decF N t1 (torMid N a) tX [0, 0, 0, 0, 0, 0, 0, 0, 0, 0] := by kernel_rfl
theorem eT_x : eT.p.1 = K.of ((14399317868200118260347934320527232580618823971194345261214217575416788799818 : Nat) : Int) := rfl
theorem eT_y : eT.p.2 = K.of ((2707385501144840649318225287225658788936804267575313519463743609750303402022 : Nat) : Int) := rfl
theorem rem8 {a : Int} (h : -9223372036854775808 ≤ a ∧ a ≤ 9223372036854775807) : ibin .rem .i64 (ibin .add .i64 (ibin .rem .i64 a 8) 8) 8 = a % 8 := by
  have e1 : ibin .rem .i64 a 8 = a.tmod 8 := rfl
  have h1 := Int.mul_tdiv_add_tmod a 8
  have h2 := Int.tmod_lt_of_pos a (b := 8) (by decide)
  have h3 : -8 < a.tmod 8 := by
    have := Int.tmod_lt_of_pos (-a) (b := 8) (by decide)
    rw [Int.neg_tmod] at this
    omega
  rw [e1, show ibin .add .i64 (a.tmod 8) 8 = a.tmod 8 + 8 from wrapi (by omega) (by omega)]
  have e2 : ibin .rem .i64 (a.tmod 8 + 8) 8 = (a.tmod 8 + 8).tmod 8 := rfl
  rw [e2, Int.tmod_eq_emod_of_nonneg (by omega)]
  omega
theorem ZGW (N : Nat) (hN : N = 300) {a : Int} (h : -9223372036854775808 ≤ a ∧ a ≤ 9223372036854775807) {x y : List Int} (hT : RR (x, y) eT) : (k i : Nat) → i + k = (a % 8).toNat → (fuel : Nat) → k < fuel → (u v : List Int) → RR (u, v) (i • eT) →
    ∃ s t, loopF (ZbG N) fuel ((a, (), (), (), (i : Int)), ((), (), (x, y), (u, v))) = some (.inl (((), ()), ((), (), (s, t)))) ∧ RR (s, t) ((a % 8).toNat • eT)
  | 0, i, hi, fuel, hf, u, v, hu => by
    obtain ⟨f, rfl⟩ : ∃ f, fuel = f + 1 := ⟨fuel - 1, by omega⟩
    obtain rfl : i = (a % 8).toNat := by omega
    have hs : ZbG N ((a, (), (), (), (((a % 8).toNat : Nat) : Int)), ((), (), (x, y), (u, v))) = some (.inr (.inl (((), ()), ((), (), (u, v))))) := by
      unfold ZbG
      have : icmp .lss (((a % 8).toNat : Nat) : Int) (a % 8) = false := decide_eq_false (by omega)
      simp only [rem8 h, this, cond_false]
    exact ⟨u, v, Zhg hs f, hu⟩
  | k + 1, i, hi, fuel, hf, u, v, hu => by
    obtain ⟨f, rfl⟩ : ∃ f, fuel = f + 1 := ⟨fuel - 1, by omega⟩
    obtain ⟨s, t, k1, k2⟩ := ZEs hu hT
    rw [← hN] at k1
    have hs : ZbG N ((a, (), (), (), (i : Int)), ((), (), (x, y), (u, v))) = some (.inl ((a, (), (), (), ((i + 1 : Nat) : Int)), ((), (), (x, y), (s, t)))) := by
      unfold ZbG
      have : icmp .lss (i : Int) (a % 8) = true := decide_eq_true (by omega)
      simp only [rem8 h, this, cond_true, k1, mo, inc32 (k := i) (by omega)]
    obtain ⟨s', t', l1, l2⟩ := ZGW N hN h hT k (i + 1) (by omega) f (by omega) s t k2
    exact ⟨s', t', (ZeK hs f).trans l1, l2⟩
theorem tX_sum : tX.foldl (fun n d => n * 10 + d) (0 : Int) = ((14399317868200118260347934320527232580618823971194345261214217575416788799818 : Nat) : Int) := by decide +kernel
theorem tY_sum : tY.foldl (fun n d => n * 10 + d) (0 : Int) = ((2707385501144840649318225287225658788936804267575313519463743609750303402022 : Nat) : Int) := by decide +kernel
theorem tX_all : ∀ d ∈ tX, (0 : Int) ≤ d ∧ d < 10 := by decide
theorem tY_all : ∀ d ∈ tY, (0 : Int) ≤ d ∧ d < 10 := by decide
theorem decX {α : Type} (N : Nat) (hN : N = 300) {ten : List Int} (ht : CF ten) (et : kf ten = K.of 10) (C : List Int → Option α) : ∃ s, decF N ten C tX [0, 0, 0, 0, 0, 0, 0, 0, 0, 0] = C s ∧ CF s ∧ kf s = eT.p.1 := by
  obtain ⟨x, x1, x2, x3⟩ := ZIy N hN ht et C tX tX_all _ 0 ZvL (ZGT.trans (show (0 : K) = K.of 0 from rfl))
  exact ⟨x, x1, x2, x3.trans ((congrArg K.of tX_sum).trans eT_x.symm)⟩
theorem decY {α : Type} (N : Nat) (hN : N = 300) {ten : List Int} (ht : CF ten) (et : kf ten = K.of 10) (C : List Int → Option α) : ∃ s, decF N ten C tY [0, 0, 0, 0, 0, 0, 0, 0, 0, 0] = C s ∧ CF s ∧ kf s = eT.p.2 := by
  obtain ⟨x, x1, x2, x3⟩ := ZIy N hN ht et C tY tY_all _ 0 ZvL (ZGT.trans (show (0 : K) = K.of 0 from rfl))
  exact ⟨x, x1, x2, x3.trans ((congrArg K.of tY_sum).trans eT_y.symm)⟩
theorem rtorsion (N : Nat) (hN : N = 300) {a : Int} (h : -9223372036854775808 ≤ a ∧ a ≤ 9223372036854775807) : ∃ s t, Zfv N a = some (s, t) ∧ RR (s, t) ((a % 8).toNat • eT) := by
  obtain ⟨t1, h1, c1, e1⟩ := rsmall 10 (by decide)
  rw [← hN] at h1
  obtain ⟨x, x1, x2, x3⟩ := decX N hN c1 e1 (torMid N a)
  obtain ⟨y, y1, y2, y3⟩ := decY N hN c1 e1 (torEnd N a x)
  have hT : RR (x, y) eT := ⟨x2, y2, x3, y3⟩
  obtain ⟨s, t, l1, l2⟩ := ZGW N hN h hT (a % 8).toNat 0 (by omega) N (by omega) Zam.1 Zam.2 Zrt
  have l1' : loopF (ZbG N) N ((a, (), (), (), 0), ((), (), (x, y), (Zam.1, Zam.2))) = _ := l1
  have hend : torEnd N a x y = some (s, t) := by
    unfold torEnd
    simp only [l1', mo]
  have hmid : torMid N a x = some (s, t) := by
    unfold torMid
    rw [h1, mo_go]
    exact y1.trans hend
  refine ⟨s, t, ?_, l2⟩
  rw [ZKx, h1, mo_go]
  exact x1.trans hmid
theorem ZpN (N : Nat) {a b out : List Int} {c : Int} {i : Nat} (hi : i < 4) (ha : U (List.getD a i 0)) (hb : U (List.getD b i 0)) (hc : c = 0 ∨ c = 1) : ∃ t d, U t ∧ (d = 0 ∨ d = 1) ∧ t = List.getD a i 0 - List.getD b i 0 - c + d * 18446744073709551616 ∧
    ZcY N (((), (), (), (), (), c, (i : Int)), (a, b, (), out)) = some (.inl (((), (), (), (), (), d, ((i + 1 : Nat) : Int)), (a, b, (), List.set out i t))) := by
  have h1 : icmp .lss (i : Int) 4 = true := decide_eq_true (by omega)
  have h2 : decide (0 ≤ (i : Int) ∧ (i : Int) < ((4 : Nat) : Int)) = true := decide_eq_true (by omega)
  have inc := inc32 (k := i) (by omega)
  unfold ZcY
  simp only [h1, h2, cond_true, Int.toNat_natCast, u_sub, inc]
  generalize List.getD a i 0 = x at *
  generalize List.getD b i 0 = y at *
  unfold U at *
  by_cases hxy : x < y
  · have e1 : icmp .lss x y = true := decide_eq_true hxy
    have e2 : (x - y) % 18446744073709551616 = x - y + 18446744073709551616 := by omega
    rw [e1, e2, cond_true]
    refine ⟨x - y - c + 18446744073709551616, 1, by omega, .inr rfl, by omega, ?_⟩
    have e3 : (x - y + 18446744073709551616 - c) % 18446744073709551616 = x - y - c + 18446744073709551616 := by omega
    rw [e3]
    cases icmp .lss (x - y + 18446744073709551616) c <;> rfl
  · have e1 : icmp .lss x y = false := decide_eq_false hxy
    have e2 : (x - y) % 18446744073709551616 = x - y := by omega
    rw [e1, e2, cond_false]
    by_cases hc2 : x - y < c
    · have e4 : icmp .lss (x - y) c = true := decide_eq_true hc2
      have e3 : (x - y - c) % 18446744073709551616 = x - y - c + 18446744073709551616 := by omega
      rw [e3, e4]
      exact ⟨x - y - c + 18446744073709551616, 1, by omega, .inr rfl, by omega, rfl⟩
    · have e4 : icmp .lss (x - y) c = false := decide_eq_false hc2
      have e3 : (x - y - c) % 18446744073709551616 = x - y - c := by omega
      rw [e3, e4]
      exact ⟨x - y - c, 0, by omega, .inl rfl, by omega, rfl⟩
theorem ZKy (N : Nat) (hN : 5 ≤ N) {a b : List Int} (ha : U4 a) (hb : U4 b) : ∃ r c, Zes N a b = some (r, c) ∧ U4 r ∧ (c = 0 ∨ c = 1) ∧ v4 r = v4 a - v4 b + c * 115792089237316195423570985008687907853269984665640564039457584007913129639936 := by
  obtain ⟨x0, x1, x2, x3, rfl, a0, a1, a2, a3⟩ := ha
  obtain ⟨y0, y1, y2, y3, rfl, b0, b1, b2, b3⟩ := hb
  obtain ⟨f, rfl⟩ : ∃ f, N = f + 5 := ⟨N - 5, by omega⟩
  obtain ⟨r0, c0, u0, d0, e0, h0⟩ := ZpN (f + 5) (a := [x0, x1, x2, x3]) (b := [y0, y1, y2, y3]) (out := [0, 0, 0, 0]) (i := 0) (by decide) a0 b0 (.inl rfl)
  obtain ⟨r1, c1, u1, d1, e1, h1⟩ := ZpN (f + 5) (a := [x0, x1, x2, x3]) (b := [y0, y1, y2, y3]) (out := [r0, 0, 0, 0]) (i := 1) (by decide) a1 b1 d0
  obtain ⟨r2, c2, u2, d2, e2, h2⟩ := ZpN (f + 5) (a := [x0, x1, x2, x3]) (b := [y0, y1, y2, y3]) (out := [r0, r1, 0, 0]) (i := 2) (by decide) a2 b2 d1
  obtain ⟨r3, c3, u3, d3, e3, h3⟩ := ZpN (f + 5) (a := [x0, x1, x2, x3]) (b := [y0, y1, y2, y3]) (out := [r0, r1, r2, 0]) (i := 3) (by decide) a3 b3 d2
  have h4 : ZcY (f + 5) (((), (), (), (), (), c3, 4), ([x0, x1, x2, x3], [y0, y1, y2, y3], (), [r0, r1, r2, r3])) = some (.inr (.inl (((), (), c3), ((), [r0, r1, r2, r3])))) := rfl
  have hl : loopF (ZcY (f + 5)) (f + 5) (((), (), (), (), (), 0, 0), ([x0, x1, x2, x3], [y0, y1, y2, y3], (), [0, 0, 0, 0])) = some (.inl (((), (), c3), ((), [r0, r1, r2, r3]))) :=
    (ZeK h0 _).trans ((ZeK h1 _).trans ((ZeK h2 _).trans ((ZeK h3 _).trans (Zhg h4 _))))
  refine ⟨[r0, r1, r2, r3], c3, ?_, ⟨_, _, _, _, rfl, u0, u1, u2, u3⟩, d3, ?_⟩
  · unfold Zes
    simp only [hl, mo]
  · simp only [List.getD_cons_zero, List.getD_cons_succ] at e0 e1 e2 e3
    rw [v4_mk, v4_mk, v4_mk]
    omega
theorem ZsY (N : Nat) {a b out : List Int} {c : Int} {i : Nat} (hi : i < 4) (ha : U (List.getD a i 0)) (hb : U (List.getD b i 0)) (hc : c = 0 ∨ c = 1) : ∃ t d, U t ∧ (d = 0 ∨ d = 1) ∧ t + d * 18446744073709551616 = List.getD a i 0 + List.getD b i 0 + c ∧
    Zdd N (((), (), (), (), (), c, (i : Int)), (a, b, (), out)) = some (.inl (((), (), (), (), (), d, ((i + 1 : Nat) : Int)), (a, b, (), List.set out i t))) := by
  have h1 : icmp .lss (i : Int) 4 = true := decide_eq_true (by omega)
  have h2 : decide (0 ≤ (i : Int) ∧ (i : Int) < ((4 : Nat) : Int)) = true := decide_eq_true (by omega)
  have inc := inc32 (k := i) (by omega)
  unfold Zdd
  simp only [h1, h2, cond_true, Int.toNat_natCast, u_add, inc]
  generalize List.getD a i 0 = x at *
  generalize List.getD b i 0 = y at *
  unfold U at *
  by_cases hxy : x + y < 18446744073709551616
  · have e2 : (x + y) % 18446744073709551616 = x + y := by omega
    have e1 : icmp .lss (x + y) x = false := decide_eq_false (by omega)
    rw [e2, e1, cond_false]
    by_cases hc2 : x + y + c < 18446744073709551616
    · have e3 : (x + y + c) % 18446744073709551616 = x + y + c := by omega
      have e4 : icmp .lss (x + y + c) (x + y) = false := decide_eq_false (by omega)
      rw [e3, e4]
      exact ⟨x + y + c, 0, by omega, .inl rfl, by omega, rfl⟩
    · have e3 : (x + y + c) % 18446744073709551616 = x + y + c - 18446744073709551616 := by omega
      have e4 : icmp .lss (x + y + c - 18446744073709551616) (x + y) = true := decide_eq_true (by omega)
      rw [e3, e4]
      exact ⟨x + y + c - 18446744073709551616, 1, by omega, .inr rfl, by omega, rfl⟩
  · have e2 : (x + y) % 18446744073709551616 = x + y - 18446744073709551616 := by omega
    have e1 : icmp .lss (x + y - 18446744073709551616) x = true := decide_eq_true (by omega)
    rw [e2, e1, cond_true]
    have e3 : (x + y - 18446744073709551616 + c) % 18446744073709551616 = x + y + c - 18446744073709551616 := by omega
    rw [e3]
    refine ⟨x + y + c - 18446744073709551616, 1, by omega, .inr rfl, by omega, ?_⟩
    cases icmp .lss (x + y + c - 18446744073709551616) (x + y - 18446744073709551616) <;> rfl
theorem plus2_k (N : Nat) (hN : 5 ≤ N) {a b : List Int} (ha : U4 a) (hb : U4 b) : ∃ r c, ZhU N a b = some (r, c) ∧ U4 r ∧ (c = 0 ∨ c = 1) ∧ v4 r + c * 115792089237316195423570985008687907853269984665640564039457584007913129639936 = v4 a + v4 b := by
  obtain ⟨x0, x1, x2, x3, rfl, a0, a1, a2, a3⟩ := ha
  obtain ⟨y0, y1, y2, y3, rfl, b0, b1, b2, b3⟩ := hb
  obtain ⟨f, rfl⟩ : ∃ f, N = f + 5 := ⟨N - 5, by omega⟩
  obtain ⟨r0, c0, u0, d0, e0, h0⟩ := ZsY (f + 5) (a := [x0, x1, x2, x3]) (b := [y0, y1, y2, y3]) (out := [0, 0, 0, 0]) (i := 0) (by decide) a0 b0 (.inl rfl)
  obtain ⟨r1, c1, u1, d1, e1, h1⟩ := ZsY (f + 5) (a := [x0, x1, x2, x3]) (b := [y0, y1, y2, y3]) (out := [r0, 0, 0, 0]) (i := 1) (by decide) a1 b1 d0
  obtain ⟨r2, c2, u2, d2, e2, h2⟩ := ZsY (f + 5) (a := [x0, x1, x2, x3]) (b := [y0, y1, y2, y3]) (out := [r0, r1, 0, 0]) (i := 2) (by decide) a2 b2 d1
  obtain ⟨r3, c3, u3, d3, e3, h3⟩ := ZsY (f + 5) (a := [x0, x1, x2, x3]) (b := [y0, y1, y2, y3]) (out := [r0, r1, r2, 0]) (i := 3) (by decide) a3 b3 d2
  have h4 : Zdd (f + 5) (((), (), (), (), (), c3, 4), ([x0, x1, x2, x3], [y0, y1, y2, y3], (), [r0, r1, r2, r3])) = some (.inr (.inl (((), (), c3), ((), [r0, r1, r2, r3])))) := rfl
  have hl : loopF (Zdd (f + 5)) (f + 5) (((), (), (), (), (), 0, 0), ([x0, x1, x2, x3], [y0, y1, y2, y3], (), [0, 0, 0, 0])) = some (.inl (((), (), c3), ((), [r0, r1, r2, r3]))) :=
    (ZeK h0 _).trans ((ZeK h1 _).trans ((ZeK h2 _).trans ((ZeK h3 _).trans (Zhg h4 _))))
  refine ⟨[r0, r1, r2, r3], c3, ?_, ⟨_, _, _, _, rfl, u0, u1, u2, u3⟩, d3, ?_⟩
  · unfold ZhU
    simp only [hl, mo]
  · simp only [List.getD_cons_zero, List.getD_cons_succ] at e0 e1 e2 e3
    rw [v4_mk, v4_mk, v4_mk]
    omega
theorem ZGX {a b : List Int} (ha : U4 a) (hb : U4 b) : Zdo a b = true ↔ v4 a < v4 b := by
  obtain ⟨x0, x1, x2, x3, rfl, a0, a1, a2, a3⟩ := ha
  obtain ⟨y0, y1, y2, y3, rfl, b0, b1, b2, b3⟩ := hb
  rw [v4_mk, v4_mk]
  have ne : ∀ x y : Int, icmp .neq x y = !decide (x = y) := fun x y => rfl
  have ls : ∀ x y : Int, icmp .lss x y = decide (x < y) := fun x y => rfl
  unfold Zdo
  simp only [List.getD_cons_zero, List.getD_cons_succ, ne, ls]
  unfold U at *
  by_cases h3 : x3 = y3
  · by_cases h2 : x2 = y2
    · by_cases h1 : x1 = y1
      · by_cases h0 : x0 = y0
        · simp only [h3, h2, h1, h0, decide_true, Bool.not_true, cond_false]
          constructor
          · intro h; cases h
          · intro h; omega
        · simp only [h3, h2, h1, h0, decide_true, decide_false, Bool.not_true, Bool.not_false, cond_false, cond_true, decide_eq_true_eq]
          omega
      · simp only [h3, h2, h1, decide_true, decide_false, Bool.not_true, Bool.not_false, cond_false, cond_true, decide_eq_true_eq]
        omega
    · simp only [h3, h2, decide_true, decide_false, Bool.not_true, Bool.not_false, cond_false, cond_true, decide_eq_true_eq]
      omega
  · simp only [h3, decide_false, Bool.not_false, cond_true, decide_eq_true_eq]
    omega
theorem ZLH {x w : Int} (k : Nat) (hk : k ≤ 64) (hx : U x) (hw : 0 ≤ w ∧ w < 2 ^ k) (hw' : w < 18446744073709551616) : ibin .or .u64 (ibin .shl .u64 x (k : Int)) w = x * 2 ^ k % 18446744073709551616 + w := by
  rw [u_shl k hk]
  unfold U at hx
  obtain ⟨n, rfl⟩ : ∃ n : Nat, x = n := ⟨x.toNat, by omega⟩
  obtain ⟨m, rfl⟩ : ∃ m : Nat, w = m := ⟨w.toNat, by omega⟩
  have hm : m < 2 ^ k := by
    have := hw.2
    have e : ((2 : Int) ^ k) = ((2 ^ k : Nat) : Int) := by simp
    rw [e] at this
    exact Int.ofNat_lt.1 this
  have e : ((n : Int) * 2 ^ k % 18446744073709551616) = ((n * 2 ^ k % 2 ^ 64 : Nat) : Int) := by simp
  have hdvd : n * 2 ^ k % 2 ^ 64 = 2 ^ k * (n % 2 ^ (64 - k)) := by
    have : (2 : Nat) ^ 64 = 2 ^ k * 2 ^ (64 - k) := by rw [← Nat.pow_add]; congr 1; omega
    rw [this, Nat.mul_comm n, Nat.mul_mod_mul_left]
  have hlt : n * 2 ^ k % 2 ^ 64 < 2 ^ 64 := Nat.mod_lt _ (by decide)
  rw [e, u_or (by omega) (by omega) (by omega) hw', Int.toNat_natCast, Int.toNat_natCast, hdvd, ← Nat.two_pow_add_eq_or_of_lt hm, Int.natCast_add]
theorem ZGY {y : Int} (k : Nat) (hk : k ≤ 63) (h : U y) : ibin .and .u64 y (((2 ^ k - 1 : Nat) : Nat) : Int) = y % 2 ^ k := by
  unfold U at h
  obtain ⟨n, rfl⟩ : ∃ n : Nat, y = n := ⟨y.toNat, by omega⟩
  have hp : 2 ^ k - 1 < 18446744073709551616 := by
    have : (2 : Nat) ^ k ≤ 2 ^ 63 := Nat.pow_le_pow_right (by decide) hk
    have e : (2 : Nat) ^ 63 = 9223372036854775808 := by decide
    omega
  rw [u_and (by omega) (by omega) (by omega) (by omega), Int.toNat_natCast, Int.toNat_natCast, Nat.and_two_pow_sub_one_eq_mod]
  simp
end Go.Vx
set_option autoImplicit false
set_option linter.unusedSimpArgs false
namespace Go.Vx
open Go Ref
abbrev LL : Int := 7237005577332262213973186563042994240857116359379907606001950938285454250989
theorem l2_U : U4 Zcz := ⟨_, _, _, _, rfl, ⟨by decide, by decide⟩, ⟨by decide, by decide⟩, ⟨by decide, by decide⟩, ⟨by decide, by decide⟩⟩
theorem l2_v : v4 Zcz = LL := by decide
theorem pieces {q : Int} (hq : 0 ≤ q ∧ q ≤ 65536) : ∃ y0 y1 y2,
    (ibin .or .u64 (ibin .and .u64 (ibin .add .u64 (ibin .mul .u64 (ibin .and .u64 6346243789798364141 4294967295) q) 0) 4294967295) (ibin .shl .u64 (ibin .and .u64 (ibin .add .u64 (ibin .mul .u64 (ibin .shr .u64 6346243789798364141 32) q) (ibin .shr .u64 (ibin .add .u64 (ibin .mul .u64 (ibin .and .u64 6346243789798364141 4294967295) q) 0) 32)) 4294967295) 32)) = y0 ∧
    (ibin .or .u64 (ibin .and .u64 (ibin .add .u64 (ibin .mul .u64 (ibin .and .u64 1503914060200516822 4294967295) q) (ibin .shr .u64 (ibin .add .u64 (ibin .mul .u64 (ibin .shr .u64 6346243789798364141 32) q) (ibin .shr .u64 (ibin .add .u64 (ibin .mul .u64 (ibin .and .u64 6346243789798364141 4294967295) q) 0) 32)) 32)) 4294967295)
      (ibin .shl .u64 (ibin .and .u64 (ibin .add .u64 (ibin .mul .u64 (ibin .shr .u64 1503914060200516822 32) q) (ibin .shr .u64 (ibin .add .u64 (ibin .mul .u64 (ibin .and .u64 1503914060200516822 4294967295) q) (ibin .shr .u64 (ibin .add .u64 (ibin .mul .u64 (ibin .shr .u64 6346243789798364141 32) q) (ibin .shr .u64 (ibin .add .u64 (ibin .mul .u64 (ibin .and .u64 6346243789798364141 4294967295) q) 0) 32)) 32)) 32)) 4294967295) 32)) = y1 ∧
    (ibin .shr .u64 (ibin .add .u64 (ibin .mul .u64 (ibin .shr .u64 1503914060200516822 32) q) (ibin .shr .u64 (ibin .add .u64 (ibin .mul .u64 (ibin .and .u64 1503914060200516822 4294967295) q) (ibin .shr .u64 (ibin .add .u64 (ibin .mul .u64 (ibin .shr .u64 6346243789798364141 32) q) (ibin .shr .u64 (ibin .add .u64 (ibin .mul .u64 (ibin .and .u64 6346243789798364141 4294967295) q) 0) 32)) 32)) 32)) 32) = y2 ∧
    U y0 ∧ U y1 ∧ U y2 ∧ v4 [y0, y1, y2, 0] = q * 27742317777372353535851937790883648493 := by
  have c0 : ibin .and .u64 6346243789798364141 4294967295 = 1559614445 := by decide +kernel
  have c1 : ibin .shr .u64 6346243789798364141 32 = 1477600026 := by decide +kernel
  have c2 : ibin .and .u64 1503914060200516822 4294967295 = 2734136534 := by decide +kernel
  have c3 : ibin .shr .u64 1503914060200516822 32 = 350157278 := by decide +kernel
  have sh : ∀ y : Int, ibin .shr .u64 y 32 = y / 4294967296 := fun y => u_shr 32 (by decide)
  rw [c0, c1, c2, c3]
  simp only [u_mul, u_add, sh]
  have p0 : (1559614445 * q % 18446744073709551616 + 0) % 18446744073709551616 = 1559614445 * q := by omega
  rw [p0]
  have p1 : (1477600026 * q % 18446744073709551616 + 1559614445 * q / 4294967296) % 18446744073709551616 = 1477600026 * q + 1559614445 * q / 4294967296 := by omega
  rw [p1]
  generalize hx0 : 1559614445 * q = x0 at *
  generalize hx1 : 1477600026 * q + x0 / 4294967296 = x1 at *
  have p2 : (2734136534 * q % 18446744073709551616 + x1 / 4294967296) % 18446744073709551616 = 2734136534 * q + x1 / 4294967296 := by omega
  rw [p2]
  generalize hx2 : 2734136534 * q + x1 / 4294967296 = x2 at *
  have p3 : (350157278 * q % 18446744073709551616 + x2 / 4294967296) % 18446744073709551616 = 350157278 * q + x2 / 4294967296 := by omega
  rw [p3]
  generalize hx3 : 350157278 * q + x2 / 4294967296 = x3 at *
  have r0 : 0 ≤ x0 ∧ x0 < 281474976710656 := by omega
  have r1 : 0 ≤ x1 ∧ x1 < 281474976710656 := by omega
  have r2 : 0 ≤ x2 ∧ x2 < 281474976710656 := by omega
  have r3 : 0 ≤ x3 ∧ x3 < 281474976710656 := by omega
  have a : ∀ y : Int, 0 ≤ y ∧ y < 281474976710656 → ibin .and .u64 y 4294967295 = y % 4294967296 := fun y h => ZDv ⟨h.1, by omega⟩
  have o : ∀ y z : Int, 0 ≤ y ∧ y < 4294967296 → 0 ≤ z ∧ z < 4294967296 → ibin .or .u64 y (ibin .shl .u64 z 32) = z * 4294967296 + y := by
    intro y z hy hz
    have hs : ibin .shl .u64 z 32 = z * 4294967296 := by
      rw [show ibin .shl .u64 z 32 = (z * 2 ^ 32) % 18446744073709551616 from u_shl 32 (by decide), show (2 : Int) ^ 32 = 4294967296 from by decide]
      omega
    have hc : ibin .or .u64 y (ibin .shl .u64 z 32) = ibin .or .u64 (ibin .shl .u64 z 32) y := by
      rw [hs, u_or hy.1 (by omega) (by omega) (by omega), u_or (by omega) (by omega) hy.1 (by omega), Nat.or_comm]
    rw [hc, show ibin .or .u64 (ibin .shl .u64 z 32) y = _ from ZLH 32 (by decide) ⟨hz.1, by omega⟩ (by rw [show (2 : Int) ^ 32 = 4294967296 from by decide]; exact hy) (by omega), show (2 : Int) ^ 32 = 4294967296 from by decide]
    omega
  refine ⟨_, _, _, rfl, rfl, rfl, ?_⟩
  rw [a x0 r0, a x1 r1, a x2 r2, a x3 r3, o _ _ (by omega) (by omega), o _ _ (by omega) (by omega), v4_mk]
  unfold U
  refine ⟨by omega, by omega, by omega, by omega⟩
theorem lowpart {x0 x1 x2 x3 w : Int} (h0 : U x0) (h1 : U x1) (h2 : U x2) (h3 : 0 ≤ x3 ∧ x3 ≤ 1152921504606846976) (hw : 0 ≤ w ∧ w < 65536) : ∃ q y0 y1 y2 y3,
    ibin .shr .u64 x3 44 = q ∧ ibin .or .u64 (ibin .shl .u64 x0 16) w = y0 ∧ ibin .or .u64 (ibin .shl .u64 x1 16) (ibin .shr .u64 x0 48) = y1 ∧ ibin .or .u64 (ibin .shl .u64 x2 16) (ibin .shr .u64 x1 48) = y2 ∧ ibin .and .u64 (ibin .or .u64 (ibin .shl .u64 x3 16) (ibin .shr .u64 x2 48)) 1152921504606846975 = y3 ∧
    0 ≤ q ∧ q ≤ 65536 ∧ U y0 ∧ U y1 ∧ U y2 ∧ U y3 ∧ v4 [y0, y1, y2, y3] + q * 7237005577332262213973186563042994240829374041602535252466099000494570602496 = v4 [x0, x1, x2, x3] * 65536 + w ∧ v4 [y0, y1, y2, y3] < 7237005577332262213973186563042994240829374041602535252466099000494570602496 := by
  have sh44 : ∀ y : Int, ibin .shr .u64 y 44 = y / 17592186044416 := fun y => u_shr 44 (by decide)
  have sh48 : ∀ y : Int, ibin .shr .u64 y 48 = y / 281474976710656 := fun y => u_shr 48 (by decide)
  have o : ∀ x w : Int, U x → 0 ≤ w ∧ w < 65536 → ibin .or .u64 (ibin .shl .u64 x 16) w = x * 65536 % 18446744073709551616 + w := by
    intro x w hx hw
    have := ZLH (x := x) (w := w) 16 (by decide) hx (by rw [show (2 : Int) ^ 16 = 65536 from by decide]; exact hw) (by omega)
    rw [show (2 : Int) ^ 16 = 65536 from by decide] at this
    exact this
  have m : ∀ y : Int, U y → ibin .and .u64 y 1152921504606846975 = y % 1152921504606846976 := by
    intro y hy
    have := ZGY (y := y) 60 (by decide) hy
    rw [show (2 : Int) ^ 60 = 1152921504606846976 from by decide] at this
    exact this
  unfold U at h0 h1 h2
  refine ⟨_, _, _, _, _, rfl, rfl, rfl, rfl, rfl, ?_⟩
  rw [sh44, sh48, sh48, sh48, o x0 w h0 hw, o x1 _ h1 (by omega), o x2 _ h2 (by omega), o x3 _ (by unfold U; omega) (by omega), m _ (by unfold U; omega), v4_mk, v4_mk]
  unfold U
  refine ⟨by omega, by omega, by omega, by omega, by omega, by omega, by omega, by omega⟩
theorem step2_k (N : Nat) (hN : 5 ≤ N) {r : List Int} {w : Int} (hr : U4 r) (hl : v4 r < LL) (hw : 0 ≤ w ∧ w < 65536) : ∃ d, ZhV N r w = some d ∧ U4 d ∧ v4 d = (v4 r * 65536 + w) % LL := by
  obtain ⟨x0, x1, x2, x3, rfl, a0, a1, a2, a3⟩ := hr
  have h3 : 0 ≤ x3 ∧ x3 ≤ 1152921504606846976 := by
    rw [v4_mk] at hl
    unfold U at *
    unfold LL at hl
    omega
  obtain ⟨q, y0, y1, y2, y3, e0, e1, e2, e3, e4, q0, q1, u0, u1, u2, u3, hv, hlt⟩ := lowpart a0 a1 a2 h3 hw
  obtain ⟨z0, z1, z2, f0, f1, f2, v0, v1, v2, hz⟩ := pieces ⟨q0, q1⟩
  have hy : U4 [y0, y1, y2, y3] := ⟨_, _, _, _, rfl, u0, u1, u2, u3⟩
  have hzU : U4 [z0, z1, z2, 0] := ⟨_, _, _, _, rfl, v0, v1, v2, ⟨by decide, by decide⟩⟩
  obtain ⟨d, c, k1, k2, k3, k4⟩ := ZKy N hN hy hzU
  have ry := hy.rng
  have rz := hzU.rng
  have rd := k2.rng
  have g0 : List.getD Zcz 0 0 = 6346243789798364141 := rfl
  have g1 : List.getD Zcz 1 0 = 1503914060200516822 := rfl
  have fin : ∀ s, U4 s → 0 ≤ v4 s → v4 s < LL → v4 s = v4 [x0, x1, x2, x3] * 65536 + w - q * LL → v4 s = (v4 [x0, x1, x2, x3] * 65536 + w) % LL := by
    intro s _ s0 s1 hs
    rw [show v4 [x0, x1, x2, x3] * 65536 + w = v4 s + q * LL by omega, Int.add_mul_emod_self_right, Int.emod_eq_of_lt s0 s1]
  unfold ZhV
  simp only [List.getD_cons_zero, List.getD_cons_succ, g0, g1, e0, e1, e2, e3, e4, f0, f1, f2, k1, mo]
  rcases k3 with rfl | rfl
  · have hb : Zdo d Zcz = true := (ZGX k2 l2_U).2 (by rw [l2_v]; unfold LL; omega)
    simp only [show icmp .eql 0 1 = false from rfl, cond_false, hb, Bool.not_true]
    refine ⟨d, rfl, k2, fin d k2 rd.1 ?_ ?_⟩
    · unfold LL; omega
    · unfold LL; omega
  · obtain ⟨s, c', j1, j2, j3, j4⟩ := plus2_k N hN k2 l2_U
    rw [l2_v] at j4
    have rs := j2.rng
    have hs : v4 s = v4 [y0, y1, y2, y3] - v4 [z0, z1, z2, 0] + LL := by
      unfold LL at *
      omega
    have hb : Zdo s Zcz = true := (ZGX j2 l2_U).2 (by rw [l2_v, hs]; unfold LL at *; omega)
    simp only [show icmp .eql 1 1 = true from rfl, cond_true, j1, hb, Bool.not_true, cond_false]
    have e : v4 s = v4 s := rfl
    refine ⟨s, rfl, j2, ?_⟩
    have hlt' : v4 s < LL := by rw [hs]; unfold LL at *; omega
    rw [show v4 [x0, x1, x2, x3] * 65536 + w = v4 s + (q - 1) * LL by rw [hs]; unfold LL at *; omega, Int.add_mul_emod_self_right, Int.emod_eq_of_lt rs.1 hlt']
def wsum : List Int → Int
  | [] => 0
  | w :: l => w + 65536 * wsum l
theorem ZEu : (l : List Int) → (j : Nat) → j < l.length → wsum (l.drop j) = List.getD l j 0 + 65536 * wsum (l.drop (j + 1))
  | [], j, h => by simp at h
  | x :: l, 0, _ => by simp [wsum]
  | x :: l, j + 1, h => by
    have := ZEu l j (by simpa using h)
    simpa using this
theorem ZCW (N : Nat) (hN : 5 ≤ N) {ws : List Int} (hw : ∀ x ∈ ws, 0 ≤ x ∧ x < 65536) (hl : ws.length ≤ 900) : (j : Nat) → j ≤ ws.length → (fuel : Nat) → j < fuel → (r : List Int) → U4 r → v4 r < LL → v4 r = wsum (ws.drop j) % LL →
    ∃ s, loopF (ZbZ N) fuel ((ws.length, (), (), (j : Int) - 1), ((ws.length, ws), (), r)) = some (.inl (((), ()), ((), s))) ∧ U4 s ∧ v4 s < LL ∧ v4 s = wsum ws % LL
  | 0, hj, fuel, hf, r, hr, h1, h2 => by
    obtain ⟨f, rfl⟩ : ∃ f, fuel = f + 1 := ⟨fuel - 1, by omega⟩
    have hs : ZbZ N ((ws.length, (), (), ((0 : Nat) : Int) - 1), ((ws.length, ws), (), r)) = some (.inr (.inl (((), ()), ((), r)))) := by
      unfold ZbZ
      have hge : icmp .geq (((0 : Nat) : Int) - 1) 0 = false := by decide
      simp only [hge, cond_false]
    exact ⟨r, Zhg hs f, hr, h1, h2⟩
  | j + 1, hj, fuel, hf, r, hr, h1, h2 => by
    obtain ⟨f, rfl⟩ : ∃ f, fuel = f + 1 := ⟨fuel - 1, by omega⟩
    have h0 : ((j + 1 : Nat) : Int) - 1 = (j : Int) := by omega
    rw [h0]
    have hge : icmp .geq (j : Int) 0 = true := decide_eq_true (by omega : (j : Int) ≥ 0)
    have hlt : j < ws.length := by omega
    have hd : decide (0 ≤ (j : Int) ∧ (j : Int) < ((ws.length : Nat) : Int)) = true := decide_eq_true (by omega)
    have hwj : 0 ≤ List.getD ws j 0 ∧ List.getD ws j 0 < 65536 := by
      rw [List.getD_eq_getElem?_getD, List.getElem?_eq_getElem hlt]
      exact hw _ (List.getElem_mem hlt)
    obtain ⟨d, k1, k2, k3⟩ := step2_k N hN hr h1 hwj
    have hs : ZbZ N ((ws.length, (), (), (j : Int)), ((ws.length, ws), (), r)) = some (.inl ((ws.length, (), (), (j : Int) - 1), ((ws.length, ws), (), d))) := by
      unfold ZbZ
      simp only [hge, hd, cond_true, Int.toNat_natCast, k1, mo, i_dec (j := j) (by omega)]
    have hd1 : v4 d < LL := by rw [k3]; exact Int.emod_lt_of_pos _ (by decide)
    have hd2 : v4 d = wsum (ws.drop j) % LL := by
      rw [k3, h2, ZEu ws j hlt, Int.add_comm (List.getD ws j 0), Int.mul_comm 65536, Int.add_emod, Int.mul_emod, Int.emod_emod, ← Int.mul_emod, ← Int.add_emod]
    obtain ⟨s, l1, l2⟩ := ZCW N hN hw hl j (by omega) f (by omega) d k2 hd1 hd2
    exact ⟨s, (ZeK hs f).trans l1, l2⟩
theorem split16 {x : Int} (h : U x) : 0 ≤ ibin .and .u64 x 65535 ∧ ibin .and .u64 x 65535 < 65536 ∧ 0 ≤ ibin .and .u64 (ibin .shr .u64 x 16) 65535 ∧ ibin .and .u64 (ibin .shr .u64 x 16) 65535 < 65536 ∧ 0 ≤ ibin .and .u64 (ibin .shr .u64 x 32) 65535 ∧ ibin .and .u64 (ibin .shr .u64 x 32) 65535 < 65536 ∧ 0 ≤ ibin .shr .u64 x 48 ∧ ibin .shr .u64 x 48 < 65536 ∧
    x = ibin .and .u64 x 65535 + 65536 * (ibin .and .u64 (ibin .shr .u64 x 16) 65535 + 65536 * (ibin .and .u64 (ibin .shr .u64 x 32) 65535 + 65536 * ibin .shr .u64 x 48)) := by
  have s16 : ibin .shr .u64 x 16 = x / 65536 := u_shr 16 (by decide)
  have s32 : ibin .shr .u64 x 32 = x / 4294967296 := u_shr 32 (by decide)
  have s48 : ibin .shr .u64 x 48 = x / 281474976710656 := u_shr 48 (by decide)
  have m : ∀ y : Int, U y → ibin .and .u64 y 65535 = y % 65536 := by
    intro y hy
    have := ZGY (y := y) 16 (by decide) hy
    rw [show (2 : Int) ^ 16 = 65536 from by decide] at this
    exact this
  unfold U at h
  rw [s16, s32, s48, m x h, m (x / 65536) (by unfold U; omega), m (x / 4294967296) (by unfold U; omega)]
  omega
theorem ZGZ (N : Nat) (hN : 17 ≤ N) {a : List Int} (ha : U4 a) : ∃ r, Zfw N a = some r ∧ Lm r (sc a) := by
  have rng := ha.rng
  obtain ⟨x0, x1, x2, x3, rfl, u0, u1, u2, u3⟩ := ha
  have s0 := split16 u0
  have s1 := split16 u1
  have s2 := split16 u2
  have s3 := split16 u3
  unfold Zfw
  simp only [show decide ((0 + 4) * 8 ≤ 140737488355328 ∧ (0 + 4) ≤ 9223372036854775807) = true from rfl, show decide (((0 + 4) + 4) * 8 ≤ 140737488355328 ∧ ((0 + 4) + 4) ≤ 9223372036854775807) = true from rfl, show decide ((((0 + 4) + 4) + 4) * 8 ≤ 140737488355328 ∧ (((0 + 4) + 4) + 4) ≤ 9223372036854775807) = true from rfl, show decide (((((0 + 4) + 4) + 4) + 4) * 8 ≤ 140737488355328 ∧ ((((0 + 4) + 4) + 4) + 4) ≤ 9223372036854775807) = true from rfl, cond_true, List.getD_cons_zero, List.getD_cons_succ, List.cons_append, List.nil_append]
  generalize ibin .and .u64 x0 65535 = a0 at *
  generalize ibin .and .u64 (ibin .shr .u64 x0 16) 65535 = a1 at *
  generalize ibin .and .u64 (ibin .shr .u64 x0 32) 65535 = a2 at *
  generalize ibin .shr .u64 x0 48 = a3 at *
  generalize ibin .and .u64 x1 65535 = b0 at *
  generalize ibin .and .u64 (ibin .shr .u64 x1 16) 65535 = b1 at *
  generalize ibin .and .u64 (ibin .shr .u64 x1 32) 65535 = b2 at *
  generalize ibin .shr .u64 x1 48 = b3 at *
  generalize ibin .and .u64 x2 65535 = c0 at *
  generalize ibin .and .u64 (ibin .shr .u64 x2 16) 65535 = c1 at *
  generalize ibin .and .u64 (ibin .shr .u64 x2 32) 65535 = c2 at *
  generalize ibin .shr .u64 x2 48 = c3 at *
  generalize ibin .and .u64 x3 65535 = d0 at *
  generalize ibin .and .u64 (ibin .shr .u64 x3 16) 65535 = d1 at *
  generalize ibin .and .u64 (ibin .shr .u64 x3 32) 65535 = d2 at *
  generalize ibin .shr .u64 x3 48 = d3 at *
  obtain ⟨s, l1, l2, l3, l4⟩ := ZCW N (by omega) (ws := [a0, a1, a2, a3, b0, b1, b2, b3, c0, c1, c2, c3, d0, d1, d2, d3]) (by
    intro x hx
    simp only [List.mem_cons, List.not_mem_nil, or_false] at hx
    rcases hx with rfl | rfl | rfl | rfl | rfl | rfl | rfl | rfl | rfl | rfl | rfl | rfl | rfl | rfl | rfl | rfl <;> omega) (by simp) 16 (Nat.le_refl _) N (by omega) [0, 0, 0, 0] ZFV.u (by decide) (by rfl)
  have hv : wsum [a0, a1, a2, a3, b0, b1, b2, b3, c0, c1, c2, c3, d0, d1, d2, d3] = v4 [x0, x1, x2, x3] := by
    rw [v4_mk]
    simp only [wsum]
    omega
  rw [hv] at l4
  have l1' : loopF (ZbZ N) N ((16, (), (), ibin .sub .i64 ((16 : Nat) : Int) 1), ((16, [a0, a1, a2, a3, b0, b1, b2, b3, c0, c1, c2, c3, d0, d1, d2, d3]), (), [0, 0, 0, 0])) = some (.inl (((), ()), ((), s))) := l1
  refine ⟨s, ?_, l2, ?_, sc_lt _⟩
  · unfold ZiG
    show mo (mo (loopF (ZbZ N) N ((16, (), (), ibin .sub .i64 ((16 : Nat) : Int) 1), ((16, [a0, a1, a2, a3, b0, b1, b2, b3, c0, c1, c2, c3, d0, d1, d2, d3]), (), [0, 0, 0, 0]))) none _) none _ = _
    rw [l1']
    rfl
  · rw [l4]
    show _ = (((v4 [x0, x1, x2, x3]).toNat % ordl : Nat) : Int)
    rw [Int.natCast_emod, Int.toNat_of_nonneg rng.1]
    rfl
theorem ZIz (N f : Nat) (x0 x1 x2 x3 : Int) : loopF (ZcR N) (f + 33) (((), (), (), 0), ([x0, x1, x2, x3], (), [0, 0, 0, 0, 0, 0, 0, 0, 0, 0, 0, 0, 0, 0, 0, 0, 0, 0, 0, 0, 0, 0, 0, 0, 0, 0, 0, 0, 0, 0, 0, 0])) = some (.inl (((), ()), ((), enc4 x0 x1 x2 x3))) := by kernel_rfl
theorem ZEv (N : Nat) (hN : 33 ≤ N) {a : List Int} {n : Nat} (ha : Lm a n) : ∃ b, ZcN N a = some b ∧ L32 b ∧ numB b = n := by
  obtain ⟨⟨x0, x1, x2, x3, rfl, u0, u1, u2, u3⟩, hv, hlt⟩ := ha
  obtain ⟨f, rfl⟩ : ∃ f, N = f + 33 := ⟨N - 33, by omega⟩
  obtain ⟨e1, e2⟩ := ZIA u0 u1 u2 u3
  refine ⟨enc4 x0 x1 x2 x3, ?_, e1, ?_⟩
  · unfold ZcN
    simp only [ZIz, mo]
  · omega
end Go.Vx
set_option autoImplicit false
set_option linter.unusedSimpArgs false
namespace Go.Vx
open Go Ref
abbrev F2 := List Int × List Int
abbrev PP := P4 × F2
abbrev z10 : List Int := [0, 0, 0, 0, 0, 0, 0, 0, 0, 0]
def R0 (q : F2) (a : E) : Prop := RR q a ∨ (q = (z10, z10) ∧ a = 0)
theorem rr_on {q : F2} {a : E} (h : RR q a) : kf q.1 ≠ 0 ∨ kf q.2 ≠ 0 := by
  have := on_ne (x := a.p.1) (y := a.p.2) a.on
  rwa [← h.ex, ← h.ey] at this
theorem ZIB : Zap (z10, z10) = (Zam.1, Zam.2) := rfl
theorem r0_at {q : F2} {a : E} (h : R0 q a) : RR (Zap (q.1, q.2)) a := by
  rcases h with h | ⟨rfl, rfl⟩
  · rw [at_k h.x h.y (rr_on h)]; exact h
  · exact Zrt
theorem ZEw (N : Nat) (hN : N = 300) {q r : F2} {a b : E} (h : R0 q a) (g : R0 r b) : ∃ s, Zbx N (q.1, q.2) (r.1, r.2) = some s ∧ RR s (a + b) := by
  obtain ⟨s, t, k1, k2⟩ := ZEs (r0_at h) (r0_at g)
  rw [← hN] at k1
  have k1' : Zbw N ((Zap (q.1, q.2)).1, (Zap (q.1, q.2)).2) ((Zap (r.1, r.2)).1, (Zap (r.1, r.2)).2) = some (s, t) := k1
  refine ⟨(s, t), ?_, k2⟩
  unfold Zbx
  simp only [k1', mo]
theorem r5_neg {q : F2} {a : E} (h : R0 q a) : RR (Zet (q.1, q.2)) (-a) := rr_neg (r0_at h)
theorem ZKz (N : Nat) (hN : N = 300) {q : F2} {a : E} (h : R0 q a) {k : List Int} {n : Nat} (hk : Lm k n) : ∃ s, Zde N (q.1, q.2) k = some s ∧ RR s (n • a) := by
  obtain ⟨b, e1, e2, e3⟩ := ZEv N (by omega) hk
  obtain ⟨s, t, k1, k2⟩ := rtimes N hN (r0_at h) e2
  rw [e3] at k2
  have k1' : Zcg N ((Zap (q.1, q.2)).1, (Zap (q.1, q.2)).2) b = some (s, t) := k1
  refine ⟨(s, t), ?_, k2⟩
  unfold Zde
  simp only [e1, k1', mo]
def PVx (x : PP) : Prop := ∃ a b, RepE x.1 a ∧ R0 x.2 b ∧ Ev a ∧ Ev b ∧ Eqv a b
theorem ZFW (N : Nat) (hN : 5 ≤ N) : Za2 N (z10, z10) = Za2 N (Zam.1, Zam.2) := by
  have en : Zap (Zam.1, Zam.2) = (Zam.1, Zam.2) := rfl
  have hs : ∀ r : F2, ZbU N (z10, z10) r = ZbU N (Zam.1, Zam.2) r := by
    intro r
    unfold ZbU
    simp only [ZIB, en]
    first | rfl | (congr 1)
  have hc : ∀ y C, cnd N (z10, z10) y C = cnd N (Zam.1, Zam.2) y C := by
    intro y C
    unfold cnd
    simp only [hs]
  rw [Zun N hN, Zun N hN]
  simp only [ZIB, en, hc]
theorem ZIC (N : Nat) (hN : N = 300) {x : PP} (h : PVx x) : ∃ c, ZaR N (x.1.1, x.1.2.1, x.1.2.2.1, x.1.2.2.2) = some c ∧ Za2 N (x.2.1, x.2.2) = some c ∧ L32 c := by
  obtain ⟨a, b, ra, rb, va, vb, e⟩ := h
  obtain ⟨⟨p1, p2, p3, p4⟩, q⟩ := x
  subst hN
  obtain ⟨s, X, Y, k1, k2, k3, k4⟩ := enc_E ra va
  have k5 : Rel b.p.1 b.p.2 X Y := (ZxS e.symm).trans k4
  obtain ⟨n, n1, n2⟩ := cf_of k2
  obtain ⟨c, b1, b2, b3⟩ := ZDt n1
  have es := ZpL k2.L5
  have ec : c = ZaB s := b2.inj es.1 (by
    have v1 : num n = val s := by rw [← cf_v n1, n2, can_v k2]
    rw [b3, es.2, v1, Int.emod_eq_of_lt k2.nonneg.1 k2.nonneg.2])
  subst ec
  refine ⟨_, k1, ?_, es.1⟩
  have main : ∀ {u v : List Int}, RR (u, v) b → Za2 300 (u, v) = some (ZaB s) := by
    intro u v h
    rw [rencode h.x h.y n1 (rr_on h) (X := X) (Y := Y) (by rw [n2]; exact k3) (by rw [h.ex, h.ey]; exact k5), b1]
  rcases rb with rb | ⟨rfl, rfl⟩
  · exact main rb
  · show Za2 300 (z10, z10) = _
    rw [ZFW 300 (by decide)]
    exact main Zrt
theorem ZID (N : Nat) (hN : N = 300) {x y : PP} (h : PVx x) (g : PVx y) {c d : List Int} (hc : ZaR N (x.1.1, x.1.2.1, x.1.2.2.1, x.1.2.2.2) = some c) (hd : ZaR N (y.1.1, y.1.2.1, y.1.2.2.1, y.1.2.2.2) = some d) :
    ∃ b, ZdZ (x.1.1, x.1.2.1, x.1.2.2.1, x.1.2.2.2) (y.1.1, y.1.2.1, y.1.2.2.1, y.1.2.2.2) = some b ∧ (b = true ↔ c = d) := by
  obtain ⟨a, -, ra, -, va, -, -⟩ := h
  obtain ⟨b, -, rb, -, vb, -, -⟩ := g
  obtain ⟨⟨p1, p2, p3, p4⟩, q⟩ := x
  obtain ⟨⟨q1, q2, q3, q4⟩, r⟩ := y
  obtain ⟨t, h1, h2⟩ := gsame ra rb
  refine ⟨t, h1, h2.trans ?_⟩
  subst hN
  obtain ⟨c', d', k1, k2, -, -, k3⟩ := enc_iff ra rb va vb
  rw [show ZaR 300 (p1, p2, p3, p4) = some c from hc] at k1
  rw [show ZaR 300 (q1, q2, q3, q4) = some d from hd] at k2
  obtain rfl := Option.some.inj k1
  obtain rfl := Option.some.inj k2
  exact k3.symm
theorem ZFX {p : P4} {q : F2} (h : p = (z5, z5, z5, z5)) (g : R0 q 0) : PVx (p, q) := ⟨0, 0, by rw [h]; exact ZA3, g, ev_zero, ev_zero, .of_eq rfl⟩
theorem ZLI {a b : E} (h : Eqv a b) : ∃ m, m < 4 ∧ b = cp a m := by
  rcases (ZxS h).back with ⟨h1, h2⟩ | ⟨h1, h2⟩ | ⟨h1, h2⟩ | ⟨h1, h2⟩
  · exact ⟨0, by decide, by rw [ZFU]; exact E.ext (Prod.ext h1 h2)⟩
  · exact ⟨1, by decide, E.ext (by rw [cp_p1]; exact Prod.ext h1 h2)⟩
  · exact ⟨2, by decide, E.ext (by rw [cp_p2]; exact Prod.ext h1 h2)⟩
  · exact ⟨3, by decide, E.ext (by rw [cp_p3]; exact Prod.ext h1 h2)⟩
theorem cos_tie {a b : E} (e : Eqv a b) {p : P4} (ra : RepE p a) {q0 q1 q2 q3 : P4} {s0 s1 s2 s3 : F2} {i j k l i' j' k' l' : Nat} (C : Cos a q0 q1 q2 q3 i j k l) (D : RCos b s0 s1 s2 s3 i' j' k' l') :
    RR s0 (cp a i) ∧ RR s1 (cp a j) ∧ RR s2 (cp a k) ∧ RR s3 (cp a l) := by
  obtain ⟨m, hm, rfl⟩ := ZLI e
  have p1 := C.perm.map fun n => keyE (cp a n)
  have p2 := D.perm.map fun n => keyE (cp (cp a m) n)
  have p3 : ([0, 1, 2, 3].map fun n => keyE (cp (cp a m) n)).Perm ([0, 1, 2, 3].map fun n => keyE (cp a n)) := by
    have e : ([0, 1, 2, 3].map fun n => keyE (cp (cp a m) n)) = ([(m + 0) % 4, (m + 1) % 4, (m + 2) % 4, (m + 3) % 4].map fun n => keyE (cp a n)) := by
      simp only [List.map_cons, List.map_nil, cp_cp]
    rw [e]
    exact (ZG0 m hm).map fun n => keyE (cp a n)
  have e := ZIE (p1.trans (p3.symm.trans p2.symm)) C.o D.o
  simp only [List.map_cons, List.map_nil, List.cons.injEq, and_true] at e
  obtain ⟨e0, e1, e2, e3⟩ := e
  obtain ⟨pm, rm⟩ := ZA1 ra m hm
  have hl : ∀ n, n ∈ [i', j', k', l'] → n < 4 := by
    intro n hn
    have := D.perm.subset hn
    simp only [List.mem_cons, List.not_mem_nil, or_false] at this
    omega
  have tie : ∀ {q : P4} {x : Nat} {n : Nat}, RepE q (cp a x) → n < 4 → keyE (cp a x) = keyE (cp (cp a m) n) → cp a x = cp (cp a m) n := by
    intro q x n hq hn hk
    obtain ⟨r, hr⟩ := ZA1 rm n hn
    exact ZvM hq hr hk
  rw [tie C.r0 (hl i' (by simp)) e0, tie C.r1 (hl j' (by simp)) e1, tie C.r2 (hl k' (by simp)) e2, tie C.r3 (hl l' (by simp)) e3]
  exact ⟨D.r0, D.r1, D.r2, D.r3⟩
theorem rcoset0 (N : Nat) (hN : N = 300) {p : P4} {q : F2} {b : E} (h : R0 q b) (g : RepE p b) : ∃ q0 q1 q2 q3 i j k l, ZbH N (q.1, q.2) = some (q0, q1, q2, q3) ∧ RCos b q0 q1 q2 q3 i j k l := by
  rcases h with h | ⟨rfl, rfl⟩
  · exact ZGR N hN h g
  · obtain ⟨q0, q1, q2, q3, i, j, k, l, h1, h2⟩ := ZGR N hN (x := Zam.1) (y := Zam.2) Zrt g
    refine ⟨q0, q1, q2, q3, i, j, k, l, ?_, h2⟩
    rw [← h1]
    have en : Zap (Zam.1, Zam.2) = (Zam.1, Zam.2) := rfl
    have ez : Zap ((z10, z10) : F2) = (Zam.1, Zam.2) := rfl
    have e : ZbH N (z10, z10) = ZbH N (Zam.1, Zam.2) := by
      unfold ZbH
      simp only [ez, en]
    exact e
theorem ZHO (N : Nat) (hN : N = 300) {x : PP} (h : PVx x) : ∃ q0 q1 q2 q3 s0 s1 s2 s3, Zem N (x.1.1, x.1.2.1, x.1.2.2.1, x.1.2.2.2) = some (q0, q1, q2, q3) ∧ ZbH N (x.2.1, x.2.2) = some (s0, s1, s2, s3) ∧
    ∃ a i j k l, Ev a ∧ (RepE q0 (cp a i) ∧ RR s0 (cp a i)) ∧ (RepE q1 (cp a j) ∧ RR s1 (cp a j)) ∧ (RepE q2 (cp a k) ∧ RR s2 (cp a k)) ∧ (RepE q3 (cp a l) ∧ RR s3 (cp a l)) := by
  obtain ⟨a, b, ra, rb, va, vb, e⟩ := h
  obtain ⟨⟨p1, p2, p3, p4⟩, q⟩ := x
  obtain ⟨q0, q1, q2, q3, i, j, k, l, h1, C⟩ := coset_N N hN ra
  obtain ⟨m, hm, hb⟩ := ZLI e
  obtain ⟨pm, rm⟩ := ZA1 ra m hm
  rw [← hb] at rm
  obtain ⟨s0, s1, s2, s3, i', j', k', l', h2, D⟩ := rcoset0 N hN rb rm
  obtain ⟨t0, t1, t2, t3⟩ := cos_tie e ra C D
  exact ⟨q0, q1, q2, q3, s0, s1, s2, s3, h1, h2, a, i, j, k, l, va, ⟨C.r0, t0⟩, ⟨C.r1, t1⟩, ⟨C.r2, t2⟩, ⟨C.r3, t3⟩⟩
theorem sel2 {Q : P4 → F2 → Prop} {q0 q1 q2 q3 : P4} {s0 s1 s2 s3 : F2} (h0 : Q q0 s0) (h1 : Q q1 s1) (h2 : Q q2 s2) (h3 : Q q3 s3) (m : Nat) (hm : m < 4) :
    Q (List.getD [q0.1, q1.1, q2.1, q3.1] m [], List.getD [q0.2.1, q1.2.1, q2.2.1, q3.2.1] m [], List.getD [q0.2.2.1, q1.2.2.1, q2.2.2.1, q3.2.2.1] m [], List.getD [q0.2.2.2, q1.2.2.2, q2.2.2.2, q3.2.2.2] m []) (List.getD [s0.1, s1.1, s2.1, s3.1] m [], List.getD [s0.2, s1.2, s2.2, s3.2] m []) := by
  match m, hm with
  | 0, _ => exact h0
  | 1, _ => exact h1
  | 2, _ => exact h2
  | 3, _ => exact h3
theorem gsum3 (N : Nat) (hN : 4 ≤ N) {x y z : P4} {a b c : E} (hx : RepE x a) (hy : RepE y b) (hz : RepE z c) : ∃ s, Zru N ([x, y, z], ()) = some s ∧ RepE s (0 + a + b + c) := by
  obtain ⟨f, rfl⟩ : ∃ f, N = f + 4 := ⟨N - 4, by omega⟩
  obtain ⟨u1, u2, u3, u4, h1, r1⟩ := gadd (ZA3 : RepE (z5, z5, z5, z5) 0) hx
  obtain ⟨v1, v2, v3, v4, h2, r2⟩ := gadd r1 hy
  obtain ⟨w1, w2, w3, w4, h3, r3⟩ := gadd r2 hz
  have h1' : ZcA (z5, z5, z5, z5) (x.1, x.2.1, x.2.2.1, x.2.2.2) = some (u1, u2, u3, u4) := h1
  have h2' : ZcA (u1, u2, u3, u4) (y.1, y.2.1, y.2.2.1, y.2.2.2) = some (v1, v2, v3, v4) := h2
  have h3' : ZcA (v1, v2, v3, v4) (z.1, z.2.1, z.2.2.1, z.2.2.2) = some (w1, w2, w3, w4) := h3
  have s0 : Zdf (f + 4) (((), (), 3, 3, 0), ([x, y, z], (), (z5, z5, z5, z5))) = some (.inl (((), (), 3, 3, 1), ([x, y, z], (), (u1, u2, u3, u4)))) := by
    unfold Zdf
    simp only [show icmp .lss 0 3 = true from rfl, show decide ((0 : Int) ≤ 0 ∧ (0 : Int) < ((3 : Nat) : Int)) = true from rfl, cond_true, show Int.toNat 0 = 0 from rfl, List.getD_cons_zero, h1', mo]
    rfl
  have s1 : Zdf (f + 4) (((), (), 3, 3, 1), ([x, y, z], (), (u1, u2, u3, u4))) = some (.inl (((), (), 3, 3, 2), ([x, y, z], (), (v1, v2, v3, v4)))) := by
    unfold Zdf
    simp only [show icmp .lss 1 3 = true from rfl, show decide ((0 : Int) ≤ 1 ∧ (1 : Int) < ((3 : Nat) : Int)) = true from rfl, cond_true, show Int.toNat 1 = 0 + 1 from rfl, List.getD_cons_zero, List.getD_cons_succ, h2', mo]
    rfl
  have s2 : Zdf (f + 4) (((), (), 3, 3, 2), ([x, y, z], (), (v1, v2, v3, v4))) = some (.inl (((), (), 3, 3, 3), ([x, y, z], (), (w1, w2, w3, w4)))) := by
    unfold Zdf
    simp only [show icmp .lss 2 3 = true from rfl, show decide ((0 : Int) ≤ 2 ∧ (2 : Int) < ((3 : Nat) : Int)) = true from rfl, cond_true, show Int.toNat 2 = 0 + 1 + 1 from rfl, List.getD_cons_zero, List.getD_cons_succ, h3', mo]
    rfl
  have s3 : Zdf (f + 4) (((), (), 3, 3, 3), ([x, y, z], (), (w1, w2, w3, w4))) = some (.inr (.inl (((), ()), ((), (w1, w2, w3, w4))))) := rfl
  have hl : loopF (Zdf (f + 4)) (f + 4) (((), (), 3, 3, 0), ([x, y, z], (), (z5, z5, z5, z5))) = some (.inl (((), ()), ((), (w1, w2, w3, w4)))) :=
    (ZeK s0 _).trans ((ZeK s1 _).trans ((ZeK s2 _).trans (Zhg s3 _)))
  refine ⟨(w1, w2, w3, w4), ?_, r3⟩
  unfold Zru
  show mo (loopF (Zdf (f + 4)) (f + 4) (((), (), 3, 3, 0), ([x, y, z], (), (z5, z5, z5, z5)))) none _ = _
  rw [hl]
  rfl
theorem rsum3 (N : Nat) (hN : N = 300) {x y z : F2} {a b c : E} (hx : R0 x a) (hy : R0 y b) (hz : R0 z c) : ∃ s, ZiH N ([x, y, z], ()) = some s ∧ RR s (0 + a + b + c) := by
  obtain ⟨u, h1, r1⟩ := ZEw N hN (q := (ZaT.1, ZaT.2)) (.inl (Zrt : RR _ 0)) hx
  obtain ⟨v, h2, r2⟩ := ZEw N hN (.inl r1) hy
  obtain ⟨w, h3, r3⟩ := ZEw N hN (.inl r2) hz
  have s0 : ZbX N ((3, (), (), 0), ([x, y, z], (), (ZaT.1, ZaT.2))) = some (.inl ((3, (), (), 1), ([x, y, z], (), u))) := by
    unfold ZbX
    simp only [show icmp .lss 0 ((3 : Nat) : Int) = true from rfl, show decide ((0 : Int) ≤ 0 ∧ (0 : Int) < ((3 : Nat) : Int)) = true from rfl, cond_true, show Int.toNat 0 = 0 from rfl, List.getD_cons_zero, h1, mo]
    rfl
  have s1 : ZbX N ((3, (), (), 1), ([x, y, z], (), u)) = some (.inl ((3, (), (), 2), ([x, y, z], (), v))) := by
    unfold ZbX
    simp only [show icmp .lss 1 ((3 : Nat) : Int) = true from rfl, show decide ((0 : Int) ≤ 1 ∧ (1 : Int) < ((3 : Nat) : Int)) = true from rfl, cond_true, show Int.toNat 1 = 0 + 1 from rfl, List.getD_cons_zero, List.getD_cons_succ, h2, mo]
    rfl
  have s2 : ZbX N ((3, (), (), 2), ([x, y, z], (), v)) = some (.inl ((3, (), (), 3), ([x, y, z], (), w))) := by
    unfold ZbX
    simp only [show icmp .lss 2 ((3 : Nat) : Int) = true from rfl, show decide ((0 : Int) ≤ 2 ∧ (2 : Int) < ((3 : Nat) : Int)) = true from rfl, cond_true, show Int.toNat 2 = 0 + 1 + 1 from rfl, List.getD_cons_zero, List.getD_cons_succ, h3, mo]
    rfl
  have s3 : ZbX N ((3, (), (), 3), ([x, y, z], (), w)) = some (.inr (.inl (((), ()), ((), w)))) := rfl
  have hl : ∀ f, loopF (ZbX N) (f + 4) ((3, (), (), 0), ([x, y, z], (), (ZaT.1, ZaT.2))) = some (.inl (((), ()), ((), w))) := fun f =>
    (ZeK s0 _).trans ((ZeK s1 _).trans ((ZeK s2 _).trans (Zhg s3 _)))
  have hl' := hl (N - 4)
  rw [show N - 4 + 4 = N by omega] at hl'
  refine ⟨w, ?_, r3⟩
  unfold ZiH
  show mo (loopF (ZbX N) N ((3, (), (), 0), ([x, y, z], (), (ZaT.1, ZaT.2)))) none _ = _
  rw [hl']
  rfl
theorem ZKA (N : Nat) (hN : N = 300) (l : List PP × Unit) {h a b : Int} {k t w : List Int} (ha : -9223372036854775808 ≤ a ∧ a ≤ 9223372036854775807) (hk : U4 k) : ∃ x, ZeR N l (h, a, b, k, t, w) = some (x, true) ∧ PVx x := by
  obtain ⟨c1, h1, r1⟩ := ZA4 N (by omega) (x := (ZbN.1, ZbN.2.1, ZbN.2.2.1, ZbN.2.2.2)) ZLJ hk
  obtain ⟨t1, t2, t3, t4, h2, r2⟩ := tor_E ha
  obtain ⟨c3, h3, r3⟩ := ZAN r1 r2
  obtain ⟨bx, by_, -, h4, cx, cy, ex, ey⟩ := rbase N hN
  have rb : RR (bx, by_) eB := ⟨cx, cy, ex, ey⟩
  obtain ⟨s, h5, hs⟩ := ZGZ N (by omega) hk
  obtain ⟨e, h6, he, hn⟩ := ZEv N (by omega) hs
  obtain ⟨u, v, h7, r7⟩ := rtimes N hN rb he
  rw [hn] at r7
  obtain ⟨u2, v2, h8, r8⟩ := rtorsion N hN ha
  obtain ⟨u3, v3, h9, r9⟩ := ZEs r7 r8
  rw [← hN] at h9
  have hsame := ZvK N hN r3 r9
  have h3' : ZaC (c1.1, c1.2.1, c1.2.2.1, c1.2.2.2) (t1, t2, t3, t4) = some c3 := h3
  have hsame' : Zdm N (c3.1, c3.2.1, c3.2.2.1, c3.2.2.2) (u3, v3) = some true := hsame
  have ev0 : Ev (sc k • eB) := ev_ns ev_B _
  have hidx : (a % 8).toNat < 8 := by omega
  generalize (a % 8).toNat = i at *
  rcases Nat.mod_two_eq_zero_or_one i with hi | hi
  · have e1 : sc k • eB + i • eT = cp (sc k • eB) (i / 2) := by
      show _ = _ + (2 * (i / 2)) • eT
      rw [show 2 * (i / 2) = i by omega]
    rw [e1] at r3 r9
    have h4l := ev_4l (ev_cp ev0 (i / 2))
    have h10 := ZIF N (by omega) r3 h4l
    have h11 := ZGV N hN r9 h4l
    have h10' : Zcl N (c3.1, c3.2.1, c3.2.2.1, c3.2.2.2) = some (c3, 0) := h10
    refine ⟨(c3, (u3, v3)), ?_, _, _, r3, .inl r9, ev_cp ev0 _, ev_cp ev0 _, .of_eq rfl⟩
    unfold ZeR
    simp only [h1, h2, h3', h4, h5, h6, h7, h8, h9, h10', h11, mo, show icmp .eql 0 0 = true from rfl, cond_true, hsame']
  · have e1 : sc k • eB + i • eT = cp (sc k • eB) 0 + (2 * (i / 2) + 1) • eT := by
      rw [ZFU, show 2 * (i / 2) + 1 = i by omega]
    have h4l : (4 * ordl) • (sc k • eB + i • eT) ≠ 0 := by
      rw [e1]
      exact cp_odd (ev_4l ev0) 0 (i / 2)
    have h10 := from_no N (by omega) r3 h4l
    have h11 := ZKw N hN r9 h4l
    have h10' : Zcl N (c3.1, c3.2.1, c3.2.2.1, c3.2.2.2) = some ((z5, z5, z5, z5), 50) := h10
    refine ⟨((z5, z5, z5, z5), Zam), ?_, ZFX rfl (.inl Zrt)⟩
    unfold ZeR
    simp only [h1, h2, h3', h4, h5, h6, h7, h8, h9, h10', h11, mo, show icmp .eql 50 50 = true from rfl, cond_true, hsame']
end Go.Vx
set_option autoImplicit false
set_option linter.unusedSimpArgs false
namespace Go.Vx
open Go Ref
abbrev dPP : PP := (([0, 0, 0, 0, 0], [0, 0, 0, 0, 0], [0, 0, 0, 0, 0], [0, 0, 0, 0, 0]), ([0, 0, 0, 0, 0, 0, 0, 0, 0, 0], [0, 0, 0, 0, 0, 0, 0, 0, 0, 0]))
abbrev St6 : Type := Int × Int × Int × List Int × List Int × List Int
abbrev i64r (a : Int) : Prop := -9223372036854775808 ≤ a ∧ a ≤ 9223372036854775807
theorem ZG1 {l : List PP} (h0 : 0 < l.length) (h1 : l.length ≤ 1000) {b : Int} (hb : i64r b) : ∃ x, x ∈ l ∧ ZeS (l, ()) b = some ((x.1.1, x.1.2.1, x.1.2.2.1, x.1.2.2.2), (x.2.1, x.2.2)) := by
  have e1 : ibin .rem .i64 b (l.length : Int) = b.tmod l.length := rfl
  have h2 := Int.tmod_lt_of_pos b (b := (l.length : Int)) (by omega)
  have h3 : -(l.length : Int) < b.tmod l.length := by
    have := Int.tmod_lt_of_pos (-b) (b := (l.length : Int)) (by omega)
    rw [Int.neg_tmod] at this
    omega
  have hz : (((l.length : Nat) : Int) == 0) = false := beq_false_of_ne (by omega)
  have mem : ∀ k : Nat, k < l.length → l.getD k dPP ∈ l := by
    intro k hk
    rw [List.getD_eq_getElem?_getD, List.getElem?_eq_getElem hk]
    exact List.getElem_mem hk
  unfold ZeS
  simp only [e1, hz, cond_false]
  by_cases hn : b.tmod l.length < 0
  · have h4 : icmp .lss (b.tmod l.length) 0 = true := decide_eq_true hn
    have h5 : ibin .add .i64 (b.tmod l.length) (l.length : Int) = b.tmod l.length + l.length := wrapi (by omega) (by omega)
    have h6 : decide (0 ≤ b.tmod l.length + l.length ∧ b.tmod l.length + l.length < ((l.length : Nat) : Int)) = true := decide_eq_true (by omega)
    simp only [h4, h5, h6, cond_true]
    exact ⟨_, mem _ (by omega), rfl⟩
  · have h4 : icmp .lss (b.tmod l.length) 0 = false := decide_eq_false hn
    have h6 : decide (0 ≤ b.tmod l.length ∧ b.tmod l.length < ((l.length : Nat) : Int)) = true := decide_eq_true (by omega)
    simp only [h4, h6, cond_true, cond_false]
    exact ⟨_, mem _ (by omega), rfl⟩
structure StOK (s : St6) : Prop where
  how : i64r s.1
  a : i64r s.2.1
  b : i64r s.2.2.1
  k : U4 s.2.2.2.1
  t : L5 s.2.2.2.2.1
  w : s.2.2.2.2.2.length = 64 ∧ Bs s.2.2.2.2.2
theorem next_k (N : Nat) (hN : N = 300) {l : List PP} (hl : ∀ x ∈ l, PVx x) (h0 : 0 < l.length) (h1 : l.length ≤ 1000) {h a b : Int} {k t w : List Int} (ok : StOK (h, a, b, k, t, w)) : ∃ x, ZhW N (l, ()) (h, a, b, k, t, w) = some (x, true) ∧ PVx x := by
  have ha : i64r a := ok.a
  have hb : i64r b := ok.b
  have hk : U4 k := ok.k
  have ht : L5 t := ok.t
  have hw : w.length = 64 ∧ Bs w := ok.w
  obtain ⟨⟨⟨p1, p2, p3, p4⟩, ⟨u, v⟩⟩, hx, k1⟩ := ZG1 h0 h1 ha
  obtain ⟨⟨⟨q1, q2, q3, q4⟩, ⟨m, n⟩⟩, hy, k2⟩ := ZG1 h0 h1 hb
  have px := hl _ hx
  have py := hl _ hy
  have cos := ZHO N hN px
  obtain ⟨ecode, e1, e2, e3⟩ := ZIC N hN px
  obtain ⟨e, f, re, rf, ve, vf, ef⟩ := px
  obtain ⟨g, i, rg, ri, vg, vi, gi⟩ := py
  simp only at k1 k2 e1 e2 cos re rf rg ri
  unfold ZhW
  simp only [k1, k2, mo]
  cases icmp .eql h 1
  case true =>
    simp only [cond_true]
    exact ⟨_, rfl, -e, -f, gneg re, .inl (r5_neg rf), ev_neg ve, ev_neg vf, ef.neg⟩
  cases icmp .eql h 2
  case true =>
    simp only [cond_true, cond_false]
    obtain ⟨x1, x2, x3, x4, g1, g2⟩ := gdbl re
    obtain ⟨s, g3, g4⟩ := ZEw N hN rf rf
    have g3' : ZdF N (u, v) = some s := by
      unfold ZdF
      have g3'' : Zbx N ((u, v).1, (u, v).2) ((u, v).1, (u, v).2) = some s := g3
      simp only [g3'', mo]
    simp only [g1, g3', mo]
    exact ⟨_, rfl, e + e, f + f, g2, .inl g4, Zod ve ve, Zod vf vf, ef.add ef⟩
  cases icmp .eql h 3
  case true =>
    simp only [cond_true, cond_false]
    obtain ⟨x1, x2, x3, x4, j, g1, g2, g3, g4⟩ := gtimes N (by omega) re ve hk
    obtain ⟨r, g5, g6⟩ := ZGZ N (by omega) hk
    obtain ⟨s, g7, g8⟩ := ZKz N hN rf g6
    have g7' : Zde N (u, v) r = some s := g7
    simp only [g1, g5, g7', mo]
    exact ⟨_, rfl, j, _, g2, .inl g8, g4, ev_ns vf _, g3.trans (ef.ns _)⟩
  cases icmp .eql h 4
  case true =>
    simp only [cond_true, cond_false]
    obtain ⟨r, g1, g2, g3⟩ := ZIG ht
    have g3 := kf_of g3
    obtain ⟨x, y, z, x', y', f1, f2, f3, f4, f5, f6, f7, f8, f9, f10, f11, f12⟩ := ZA5 ht g2 g3
    rw [← hN] at g1 f1 f2
    simp only [g1, f1, f2, mo]
    let c : E := ⟨(kv x, kv y), f11⟩
    exact ⟨_, rfl, c, c, ZA6 f3 f4 f5 f6, .inl ⟨f7, f8, f9, f10⟩, f12, f12, .of_eq rfl⟩
  cases icmp .eql h 5
  case true =>
    simp only [cond_true, cond_false]
    obtain ⟨x1, x2, x3, x4, x', y', f1, f2, f3, f4, f5, f6, f7⟩ := ZKB hw.1 hw.2
    rw [← hN] at f1 f2
    simp only [f1, f2, mo]
    let c : E := ⟨(kf x', kf y'), f6⟩
    exact ⟨_, rfl, c, c, f5, .inl ⟨f3, f4, rfl, rfl⟩, f7, f7, .of_eq rfl⟩
  cases icmp .eql h 6
  case true =>
    simp only [cond_true, cond_false]
    simp only [e1, e2, mo]
    rcases ZFY N hN e3 (q1, q2, q3, q4) with ⟨x, y, z, x', y', f1, f2, f3, f4, f5, f6, f7, -⟩ | ⟨er, f1, f2, -⟩
    · simp only [f1, f2, mo, show icmp .eql 0 0 = true from rfl]
      let c : E := ⟨(kf x', kf y'), f6⟩
      exact ⟨_, rfl, c, c, f5, .inl ⟨f3, f4, rfl, rfl⟩, f7, f7, .of_eq rfl⟩
    · have her : icmp .eql er er = true := beq_self_eq_true er
      simp only [f1, f2, mo, her]
      exact ⟨_, rfl, ZFX rfl (.inl Zrt)⟩
  cases icmp .eql h 7
  case true =>
    simp only [cond_true, cond_false]
    obtain ⟨q0, q1, q2, q3, s0, s1, s2, s3, g1, g2, c, i, j, k, l, vc, ⟨r0, t0⟩, ⟨r1, t1⟩, ⟨r2, t2⟩, ⟨r3, t3⟩⟩ := cos
    have S0 := ZvK N hN r0 (x := s0.1) (y := s0.2) t0
    have S1 := ZvK N hN r1 (x := s1.1) (y := s1.2) t1
    have S2 := ZvK N hN r2 (x := s2.1) (y := s2.2) t2
    have S3 := ZvK N hN r3 (x := s3.1) (y := s3.2) t3
    simp only [g1, g2, S0, S1, S2, S3, mo, Bool.not_true, cond_false]
    have hand := and3 hb
    have hd : decide (0 ≤ ibin .and .i64 b 3 ∧ ibin .and .i64 b 3 < ((4 : Nat) : Int)) = true := decide_eq_true (by rw [hand]; omega)
    simp only [hd, cond_true]
    have hm : (ibin .and .i64 b 3).toNat < 4 := by rw [hand]; omega
    generalize (ibin .and .i64 b 3).toNat = m at *
    have cl := ev_4l vc
    have fin : ∀ (q : P4) (s : F2), (∃ n, RepE q (cp c n) ∧ RR s (cp c n)) → ∃ x, Zcl N q = some (q, 0) ∧ Zb4 N (s.1, s.2) = some (s, 0) ∧ x = (q, s) ∧ PVx x := by
      rintro q s ⟨n, h1, h2⟩
      exact ⟨(q, s), ZIF N (by omega) h1 (cp_4l cl n), ZGV N hN (x := s.1) (y := s.2) h2 (cp_4l cl n), rfl, _, _, h1, .inl h2, ev_cp vc n, ev_cp vc n, .of_eq rfl⟩
    obtain ⟨x, f1, f2, rfl, f4⟩ := sel2 (Q := fun q s => ∃ x, Zcl N q = some (q, 0) ∧ Zb4 N (s.1, s.2) = some (s, 0) ∧ x = (q, s) ∧ PVx x) (q0 := q0) (q1 := q1) (q2 := q2) (q3 := q3) (s0 := s0) (s1 := s1) (s2 := s2) (s3 := s3) (fin _ _ ⟨i, r0, t0⟩) (fin _ _ ⟨j, r1, t1⟩) (fin _ _ ⟨k, r2, t2⟩) (fin _ _ ⟨l, r3, t3⟩) m hm
    simp only [f1, f2, mo, show icmp .eql 0 0 = true from rfl]
    exact ⟨_, rfl, f4⟩
  cases icmp .eql h 8
  case true =>
    simp only [cond_true, cond_false]
    obtain ⟨s, g1, g2⟩ := gsum3 N (by omega) re rg re
    obtain ⟨r, g3, g4⟩ := rsum3 N hN rf ri rf
    simp only [g1, g3, mo]
    exact ⟨_, rfl, _, _, g2, .inl g4, Zod (Zod (Zod ev_zero ve) vg) ve, Zod (Zod (Zod ev_zero vf) vi) vf, (((Eqv.of_eq rfl).add ef).add gi).add ef⟩
  cases icmp .eql h 9
  case true =>
    simp only [cond_true, cond_false]
    obtain ⟨x, g1, g2⟩ := ZKA N hN (l, ()) (h := h) (b := b) (t := t) (w := w) ha hk
    simp only [g1, mo]
    exact ⟨_, rfl, g2⟩
  simp only [cond_false]
  obtain ⟨x1, x2, x3, x4, g1, g2⟩ := gadd re rg
  obtain ⟨s, g3, g4⟩ := ZEw N hN rf ri
  have g3' : Zbx N (u, v) (m, n) = some s := g3
  simp only [g1, g3', mo]
  exact ⟨_, rfl, e + g, f + i, g2, .inl g4, Zod ve vg, Zod vf vi, ef.add gi⟩
end Go.Vx
set_option autoImplicit false
set_option linter.unusedSimpArgs false
namespace Go.Vx
open Go Ref
abbrev e32 : List Int := List.replicate 32 0
theorem ZA7 {α : Type} {l r : List α} {d : α} {i : Nat} (h : i < l.length) : List.getD (l ++ r) i d = List.getD l i d := by
  rw [List.getD_eq_getElem?_getD, List.getD_eq_getElem?_getD, List.getElem?_append_left h]
theorem ZpO {α : Type} {l : List α} {x d : α} : List.getD (l ++ [x]) l.length d = x := by
  rw [List.getD_eq_getElem?_getD, List.getElem?_append_right (Nat.le_refl _)]
  simp
theorem ZDw {α : Type} {l : List α} {d : α} {i : Nat} (h : i < l.length) : List.getD l i d ∈ l := by
  rw [List.getD_eq_getElem?_getD, List.getElem?_eq_getElem h]
  exact List.getElem_mem h
structure Codes (N : Nat) (l : List PP) (cs : List (List Int)) : Prop where
  len : cs.length ≤ l.length
  at_ : ∀ i, i < cs.length → ZaR N ((List.getD l i dPP).1.1, (List.getD l i dPP).1.2.1, (List.getD l i dPP).1.2.2.1, (List.getD l i dPP).1.2.2.2) = some (List.getD cs i e32)
theorem ZLK (N : Nat) (hN : N = 300) {l : List PP} {cs : List (List Int)} (hl : ∀ x ∈ l, PVx x) (hc : Codes N l cs) (hlen : cs.length = l.length) (h1000 : l.length ≤ 1000) (m : Nat) (j j' : Int) (b : Bool) (sc : List St6) (p1 p2 p3 p4 u v : List Int) (n : Nat) (hn : n + 1 = l.length) (hx : List.getD l n dPP = ((p1, p2, p3, p4), (u, v))) :
    (k i : Nat) → i + k = n + 1 → (fuel : Nat) → k < fuel → loopF (ZbI N) fuel ((m, l.length, cs.length, j, (), (n : Int), (i : Int), j', b), (sc, ((p1, p2, p3, p4), (u, v)), l, cs)) = some (.inl ((m, l.length, cs.length, j, j', b), (sc, l, cs)))
  | 0, i, hi, fuel, hf => by
    obtain ⟨f, rfl⟩ : ∃ f, fuel = f + 1 := ⟨fuel - 1, by omega⟩
    obtain rfl : i = n + 1 := by omega
    have hs : ZbI N ((m, l.length, cs.length, j, (), (n : Int), ((n + 1 : Nat) : Int), j', b), (sc, ((p1, p2, p3, p4), (u, v)), l, cs)) = some (.inr (.inl ((m, l.length, cs.length, j, j', b), (sc, l, cs)))) := by
      unfold ZbI
      have : icmp .leq ((n + 1 : Nat) : Int) (n : Int) = false := decide_eq_false (by omega)
      simp only [this, cond_false]
    exact Zhg hs f
  | k + 1, i, hi, fuel, hf => by
    obtain ⟨f, rfl⟩ : ∃ f, fuel = f + 1 := ⟨fuel - 1, by omega⟩
    have px : PVx ((p1, p2, p3, p4), (u, v)) := by rw [← hx]; exact hl _ (ZDw (by omega))
    have py : PVx (List.getD l i dPP) := hl _ (ZDw (by omega))
    have cx := hc.at_ n (by omega)
    have cy := hc.at_ i (by omega)
    rw [hx] at cx
    obtain ⟨b1, s1, t1⟩ := ZID N hN px py cx cy
    obtain ⟨b2, s2, t2⟩ := ZID N hN py px cy cx
    have q1 : (b1 == decide (List.getD cs n e32 = List.getD cs i e32)) = true := ZIH t1
    have q2 : (b2 == decide (List.getD cs n e32 = List.getD cs i e32)) = true := ZIH (t2.trans eq_comm)
    have g0 : icmp .leq (i : Int) (n : Int) = true := decide_eq_true (by omega)
    have g1 : decide (0 ≤ (i : Int) ∧ (i : Int) < ((l.length : Nat) : Int)) = true := decide_eq_true (by omega)
    have g2 : decide (0 ≤ (n : Int) ∧ (n : Int) < ((cs.length : Nat) : Int)) = true := decide_eq_true (by omega)
    have g3 : decide (0 ≤ (i : Int) ∧ (i : Int) < ((cs.length : Nat) : Int)) = true := decide_eq_true (by omega)
    have inc : ibin .add .i64 (i : Int) 1 = ((i + 1 : Nat) : Int) := by rw [Ref.i_add (by omega) (by omega)]; omega
    have hs : ZbI N ((m, l.length, cs.length, j, (), (n : Int), (i : Int), j', b), (sc, ((p1, p2, p3, p4), (u, v)), l, cs)) = some (.inl ((m, l.length, cs.length, j, (), (n : Int), ((i + 1 : Nat) : Int), j', b), (sc, ((p1, p2, p3, p4), (u, v)), l, cs))) := by
      unfold ZbI
      simp only [g0, g1, g2, g3, cond_true, Int.toNat_natCast, s1, s2, mo, q1, q2, Bool.not_true, cond_false, inc]
    exact (ZeK hs f).trans (ZLK N hN hl hc hlen h1000 m j j' b sc p1 p2 p3 p4 u v n hn hx k (i + 1) (by omega) f (by omega))
theorem ZFZ (q s : Nat) (h : q * s ≤ 140737488355328) (h' : q ≤ 1000) : decide (q * s ≤ 140737488355328 ∧ q ≤ 9223372036854775807) = true := decide_eq_true ⟨h, by omega⟩
theorem Codes.more {N : Nat} {l : List PP} {cs : List (List Int)} (h : Codes N l cs) (hl : cs.length < l.length) {c : List Int} (hc : ZaR N ((List.getD l cs.length dPP).1.1, (List.getD l cs.length dPP).1.2.1, (List.getD l cs.length dPP).1.2.2.1, (List.getD l cs.length dPP).1.2.2.2) = some c) : Codes N l (cs ++ [c]) := by
  refine ⟨by simp; omega, fun i hi => ?_⟩
  by_cases e : i = cs.length
  · subst e
    rw [ZpO]; exact hc
  · have : i < cs.length := by simp at hi; omega
    rw [ZA7 this]; exact h.at_ i this
theorem Codes.grow {N : Nat} {l : List PP} {cs : List (List Int)} (h : Codes N l cs) (x : PP) : Codes N (l ++ [x]) cs := by
  refine ⟨by have := h.len; simp; omega, fun i hi => ?_⟩
  rw [ZA7 (show i < l.length by have := h.len; omega)]; exact h.at_ i hi
theorem ZLL (N : Nat) (hN : N = 300) (sc : List St6) (hsc : ∀ s ∈ sc, StOK s) : (k i : Nat) → i + k = 64 → (fuel : Nat) → k < fuel → (l : List PP) → (cs : List (List Int)) → (∀ x ∈ l, PVx x) → Codes N l cs → cs.length = l.length → l.length = i + 2 →
    loopF (Zbo N) fuel ((sc.length, l.length, cs.length, (i : Int)), (sc, cs, l)) = some (.inl ((), ()))
  | k, i, hi, fuel, hf, l, cs, hl, hc, hlen, hli => by
    obtain ⟨f, rfl⟩ : ∃ f, fuel = f + 1 := ⟨fuel - 1, by omega⟩
    by_cases h1 : i < sc.length
    · have g0 : icmp .lss (i : Int) ((sc.length : Nat) : Int) = true := decide_eq_true (by omega)
      cases k with
      | zero =>
        obtain rfl : i = 64 := by omega
        have hs : Zbo N ((sc.length, l.length, cs.length, ((64 : Nat) : Int)), (sc, cs, l)) = some (.inr (.inl ((), ()))) := by
          unfold Zbo
          simp only [g0, cond_true, show icmp .lss ((64 : Nat) : Int) 64 = false from rfl, cond_false]
        exact Zhg hs f
      | succ k =>
        have g1 : icmp .lss (i : Int) 64 = true := decide_eq_true (by omega)
        have g2 : decide (0 ≤ (i : Int) ∧ (i : Int) < ((sc.length : Nat) : Int)) = true := decide_eq_true (by omega)
        have inc : ibin .add .i64 (i : Int) 1 = ((i + 1 : Nat) : Int) := by rw [Ref.i_add (by omega) (by omega)]; omega
        have so := hsc _ (ZDw (d := ((0, 0, 0, [0, 0, 0, 0], [0, 0, 0, 0, 0], List.replicate 64 0) : St6)) h1)
        obtain ⟨⟨⟨p1, p2, p3, p4⟩, ⟨u, v⟩⟩, n1, n2⟩ := next_k N hN hl (by omega) (by omega) (h := (List.getD sc i (0, 0, 0, [0, 0, 0, 0], [0, 0, 0, 0, 0], List.replicate 64 0)).1) (a := (List.getD sc i (0, 0, 0, [0, 0, 0, 0], [0, 0, 0, 0, 0], List.replicate 64 0)).2.1) (b := (List.getD sc i (0, 0, 0, [0, 0, 0, 0], [0, 0, 0, 0, 0], List.replicate 64 0)).2.2.1) (k := (List.getD sc i (0, 0, 0, [0, 0, 0, 0], [0, 0, 0, 0, 0], List.replicate 64 0)).2.2.2.1) (t := (List.getD sc i (0, 0, 0, [0, 0, 0, 0], [0, 0, 0, 0, 0], List.replicate 64 0)).2.2.2.2.1) (w := (List.getD sc i (0, 0, 0, [0, 0, 0, 0], [0, 0, 0, 0, 0], List.replicate 64 0)).2.2.2.2.2) so
        obtain ⟨c, c1, c2, -⟩ := ZIC N hN n2
        have l1 : (l ++ [(((p1, p2, p3, p4), (u, v)) : PP)]).length = l.length + 1 := by simp
        have l2 : (cs ++ [c]).length = cs.length + 1 := by simp
        have w1 := ZFZ (l.length + 1) 320 (by omega) (by omega)
        have w2 := ZFZ (cs.length + 1) 32 (by omega) (by omega)
        have hsub : ibin .sub .i64 (((l.length + 1 : Nat)) : Int) 1 = ((l.length : Nat) : Int) := by rw [Ref.i_sub (by omega) (by omega)]; omega
        have w3 : decide (0 ≤ ((l.length : Nat) : Int) ∧ ((l.length : Nat) : Int) < ((cs.length + 1 : Nat) : Int)) = true := decide_eq_true (by omega)
        have gx : List.getD (l ++ [(((p1, p2, p3, p4), (u, v)) : PP)]) l.length dPP = ((p1, p2, p3, p4), (u, v)) := ZpO
        have gc : List.getD (cs ++ [c]) l.length e32 = c := by rw [← hlen]; exact ZpO
        have hl' : ∀ x ∈ l ++ [(((p1, p2, p3, p4), (u, v)) : PP)], PVx x := by
          intro x hx
          rcases List.mem_append.1 hx with h | h
          · exact hl x h
          · simp only [List.mem_singleton] at h
            subst h
            exact n2
        have hc' : Codes N (l ++ [(((p1, p2, p3, p4), (u, v)) : PP)]) (cs ++ [c]) := by
          refine (hc.grow _).more (by rw [l1]; omega) ?_
          rw [hlen, gx]
          exact c1
        have inner := ZLK N hN hl' hc' (by rw [l1, l2, hlen]) (by rw [l1]; omega) sc.length (i : Int) (i : Int) true sc p1 p2 p3 p4 u v l.length (by rw [l1]) gx (l.length + 1) 0 (by omega) N (by omega)
        rw [l1, l2] at inner
        have inner' : loopF (ZbI N) N ((sc.length, l.length + 1, cs.length + 1, (i : Int), (), ((l.length : Nat) : Int), 0, (i : Int), true), (sc, ((p1, p2, p3, p4), (u, v)), l ++ [((p1, p2, p3, p4), (u, v))], cs ++ [c])) = _ := inner
        have c1' : ZaR N (p1, p2, p3, p4) = some c := c1
        have c2' : Za2 N (u, v) = some c := c2
        have hs : Zbo N ((sc.length, l.length, cs.length, (i : Int)), (sc, cs, l)) = some (.inl ((sc.length, l.length + 1, cs.length + 1, ((i + 1 : Nat) : Int)), (sc, cs ++ [c], l ++ [((p1, p2, p3, p4), (u, v))]))) := by
          unfold Zbo
          simp only [g0, g1, g2, cond_true, Int.toNat_natCast, n1, mo, Bool.not_true, cond_false, l1, w1, c2', l2, w2, c1', hsub, w3, gc, decide_true, inner', inc]
        refine (ZeK hs f).trans ?_
        have again := ZLL N hN sc hsc k (i + 1) (by omega) f (by omega) _ _ hl' hc' (by rw [l1, l2, hlen]) (by rw [l1]; omega)
        rw [l1, l2] at again
        exact again
    · have hs : Zbo N ((sc.length, l.length, cs.length, (i : Int)), (sc, cs, l)) = some (.inr (.inl ((), ()))) := by
        unfold Zbo
        have g0 : icmp .lss (i : Int) ((sc.length : Nat) : Int) = false := decide_eq_false (by omega)
        simp only [g0, cond_false]
      exact Zhg hs f
  termination_by k => k
theorem ZLM (N : Nat) (hN : N = 300) (m : Nat) (sc : List St6) {l : List PP} (hl : ∀ x ∈ l, PVx x) (h1000 : l.length ≤ 200) : (k i : Nat) → i + k = l.length → (fuel : Nat) → k < fuel → (cs : List (List Int)) → Codes N l cs → cs.length = i →
    ∃ cs', loopF (ZbJ N) fuel ((m, (), l.length, cs.length, (i : Int)), (sc, cs, l)) = some (.inl ((m, l.length, cs'.length), (sc, cs', l))) ∧ Codes N l cs' ∧ cs'.length = l.length
  | 0, i, hi, fuel, hf, cs, hc, hci => by
    obtain ⟨f, rfl⟩ : ∃ f, fuel = f + 1 := ⟨fuel - 1, by omega⟩
    have hs : ZbJ N ((m, (), l.length, cs.length, (i : Int)), (sc, cs, l)) = some (.inr (.inl ((m, l.length, cs.length), (sc, cs, l)))) := by
      unfold ZbJ
      have g0 : icmp .lss (i : Int) ((l.length : Nat) : Int) = false := decide_eq_false (by omega)
      simp only [g0, cond_false]
    exact ⟨cs, Zhg hs f, hc, by omega⟩
  | k + 1, i, hi, fuel, hf, cs, hc, hci => by
    obtain ⟨f, rfl⟩ : ∃ f, fuel = f + 1 := ⟨fuel - 1, by omega⟩
    have g0 : icmp .lss (i : Int) ((l.length : Nat) : Int) = true := decide_eq_true (by omega)
    have g1 : decide (0 ≤ (i : Int) ∧ (i : Int) < ((l.length : Nat) : Int)) = true := decide_eq_true (by omega)
    have inc : ibin .add .i64 (i : Int) 1 = ((i + 1 : Nat) : Int) := by rw [Ref.i_add (by omega) (by omega)]; omega
    obtain ⟨c, c1, c2, -⟩ := ZIC N hN (hl _ (ZDw (d := dPP) (show i < l.length by omega)))
    have l2 : (cs ++ [c]).length = cs.length + 1 := by simp
    have w2 := ZFZ (cs.length + 1) 32 (by omega) (by omega)
    have g2 : decide (0 ≤ (i : Int) ∧ (i : Int) < ((cs.length + 1 : Nat) : Int)) = true := decide_eq_true (by omega)
    have gc : List.getD (cs ++ [c]) i e32 = c := by rw [← hci]; exact ZpO
    have hs : ZbJ N ((m, (), l.length, cs.length, (i : Int)), (sc, cs, l)) = some (.inl ((m, (), l.length, cs.length + 1, ((i + 1 : Nat) : Int)), (sc, cs ++ [c], l))) := by
      unfold ZbJ
      simp only [g0, g1, g2, cond_true, Int.toNat_natCast, c1, c2, mo, l2, w2, gc, decide_true, Bool.not_true, cond_false, inc]
    have hc' : Codes N l (cs ++ [c]) := hc.more (by omega) (by rw [hci]; exact c1)
    obtain ⟨cs', r1, r2, r3⟩ := ZLM N hN m sc hl h1000 k (i + 1) (by omega) f (by omega) _ hc' (by rw [l2, hci])
    rw [l2] at r1
    exact ⟨cs', (ZeK hs f).trans r1, r2, r3⟩
theorem gall_N (N : Nat) (hN : N = 300) (sc : List St6) (hsc : ∀ s ∈ sc, StOK s) : ZeW N (sc, ()) = some true := by
  obtain ⟨bx, by_, h4, -, cx, cy, ex, ey⟩ := rbase N hN
  have rb : RR (bx, by_) eB := ⟨cx, cy, ex, ey⟩
  have hb : Zgj N = some ([dPP, ((ZbB.1, ZbB.2.1, ZbB.2.2.1, ZbB.2.2.2), (bx, by_))], ()) := by
    unfold Zgj
    simp only [h4, mo]
  have hl : ∀ x ∈ [dPP, (((ZbB.1, ZbB.2.1, ZbB.2.2.1, ZbB.2.2.2), (bx, by_)) : PP)], PVx x := by
    intro x hx
    simp only [List.mem_cons, List.not_mem_nil, or_false] at hx
    rcases hx with rfl | rfl
    · exact ZFX rfl (.inr ⟨rfl, rfl⟩)
    · exact ⟨eB, eB, ZLJ, .inl rb, ev_B, ev_B, .of_eq rfl⟩
  obtain ⟨cs, r1, r2, r3⟩ := ZLM N hN sc.length sc hl (by simp) 2 0 rfl N (by omega) [] ⟨Nat.zero_le _, fun i hi => by simp at hi⟩ rfl
  have r1' : loopF (ZbJ N) N ((sc.length, (), [dPP, (((ZbB.1, ZbB.2.1, ZbB.2.2.1, ZbB.2.2.2), (bx, by_)) : PP)].length, 0, 0), (sc, [], [dPP, (((ZbB.1, ZbB.2.1, ZbB.2.2.1, ZbB.2.2.2), (bx, by_)) : PP)])) = _ := r1
  have r4 := ZLL N hN sc hsc 64 0 rfl N (by omega) _ cs hl r2 r3 rfl
  have r4' : loopF (Zbo N) N ((sc.length, [dPP, (((ZbB.1, ZbB.2.1, ZbB.2.2.1, ZbB.2.2.2), (bx, by_)) : PP)].length, cs.length, 0), (sc, cs, [dPP, (((ZbB.1, ZbB.2.1, ZbB.2.2.1, ZbB.2.2.2), (bx, by_)) : PP)])) = _ := r4
  unfold ZeW
  simp only [hb, mo, r1', r4']
theorem ZKs (sc : List St6) (h : ∀ s ∈ sc, i64r s.1 ∧ i64r s.2.1 ∧ i64r s.2.2.1 ∧ (s.2.2.2.1.length = 4 ∧ ∀ x ∈ s.2.2.2.1, IntKind.u64.min ≤ x ∧ x ≤ IntKind.u64.max) ∧ (s.2.2.2.2.1.length = 5 ∧ ∀ x ∈ s.2.2.2.2.1, IntKind.u64.min ≤ x ∧ x ≤ IntKind.u64.max) ∧ (s.2.2.2.2.2.length = 64 ∧ ∀ x ∈ s.2.2.2.2.2, IntKind.u8.min ≤ x ∧ x ≤ IntKind.u8.max)) : ZeW 300 (sc, ()) = some true :=
  gall_N 300 rfl sc fun s hs => by
    obtain ⟨h1, h2, h3, h4, h5, h6⟩ := h s hs
    exact ⟨h1, h2, h3, u4_of h4, h5, h6⟩
end Go.Vx
