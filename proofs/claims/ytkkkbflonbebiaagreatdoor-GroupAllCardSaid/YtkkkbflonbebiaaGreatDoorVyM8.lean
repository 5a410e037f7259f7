import Derived.Test.YtkkkbflonbebiaaGreatDoorVyL2
import Derived.Test.YtkkkbflonbebiaaGreatDoorVyK0
import Derived.Test.YtkkkbflonbebiaaGreatDoorVyZ2
import Derived.Test.YtkkkbflonbebiaaGreatDoorVyS
import Derived.Test.YtkkkbflonbebiaaGreatDoorVyZ3
import Derived.Test.YtkkkbflonbebiaaGreatDoorVyL7
set_option autoImplicit false
set_option linter.unusedSimpArgs false
namespace Go.Vx
open Go
theorem can_v {a : List Int} (h : Can a) : (kv a).v = val a := by
  have := h.nonneg
  show val a % pF = val a
  exact Int.emod_eq_of_lt this.1 this.2
theorem ZII {a : List Int} (h : Can a) : (kv a).ev ↔ val a % 2 = 0 := by
  unfold K.ev; rw [can_v h]
theorem ZEx {a : List Int} (h : Can a) : ZaQ a = true ↔ ¬ (kv a).ev := by
  rw [ZDx h.L5, ZII h, Int.emod_eq_of_lt h.nonneg.1 h.nonneg.2, decide_eq_true_eq]
  omega
theorem ZmR {a : List Int} (h : Can a) (e : (kv a).ev) : ZaQ a = false := by
  cases hq : ZaQ a
  · rfl
  · exact absurd e ((ZEx h).1 hq)
theorem ZF0 {a b : List Int} (ha : L5 a) (hb : L5 b) : ∃ r ok, ZdR 300 a b = some (r, ok) ∧ Can r ∧ SR (kv a) (kv b) (kv r) ok := by
  obtain ⟨r, ok, h1, h2, h3, h4, h5, h6⟩ := sqrt_k ha hb
  exact ⟨r, ok, h1, h2, ⟨(ZII h2).2 h3, h4, h5, h6⟩⟩
theorem ZIJ {a : List Int} (ha : L5 a) : Can (ZaL a) ∧ (kv (ZaL a)).ev ∧ kv (ZaL a) ^ 2 = kv a ^ 2 := by
  obtain ⟨h1, h2, h3⟩ := abs_k ha
  exact ⟨h1, (ZII h1).2 h2, by rcases h3 with h | h <;> rw [h] <;> grind⟩
theorem ZAO : Can (Zbe 2) := ⟨_, _, _, _, _, rfl, by decide, by decide, by decide, by decide, by decide, by decide⟩
theorem ZIK : kv (Zbe 2) = kD := by unfold kv kD; rfl
theorem ZIL : Can (Zbe 4) := ⟨_, _, _, _, _, rfl, by decide, by decide, by decide, by decide, by decide, by decide⟩
theorem const2' : ZcB 2 = some (Zbe 2) := rfl
theorem const1' : ZcB 1 = some (Zbe 1) := rfl
theorem const4' : ZcB 4 = some (Zbe 4) := rfl
theorem one_k (a : List Int) : Can (ZbF a) ∧ kv (ZbF a) = 1 := ⟨ZxT, rfl⟩
theorem ZeX {a b : List Int} (ha : L5 a) (hb : Can b) : ZbC (Zcd false) a b = b := by
  rw [Zuo ha hb.L5, show Zcd false = 0 from rfl, if_neg (by decide), Zrv hb]
theorem ZG2 {a : List Int} (h : Can a) : Zaa a = a := Zrv h
theorem ZA8 {a b : List Int} (ha : Can a) (hb : Can b) (hon : kv b ^ 2 - kv a ^ 2 = 1 + kD * kv a ^ 2 * kv b ^ 2) :
    ∃ t, Zd0 a b = some ((a, b, [1, 0, 0, 0, 0], t), 0) ∧ Can t ∧ kv t = kv a * kv b := by
  obtain ⟨r1, h1, c1, e1⟩ := sq_k ha.L5
  obtain ⟨r2, h2, c2, e2⟩ := sq_k hb.L5
  obtain ⟨r4, h4, c4, e4⟩ := mul_k ZAO.L5 c1.L5
  obtain ⟨r5, h5, c5, e5⟩ := mul_k c4.L5 c2.L5
  obtain ⟨r6, h6, c6, e6⟩ := mul_k ha.L5 hb.L5
  have k1 := sub_k c2.L5 c1.L5
  have k2 := add_k ZxT.L5 c5.L5
  have hd : ZaE r2 r1 = ZaU [1, 0, 0, 0, 0] r5 := by
    refine can_k k1.1 k2.1 ?_
    rw [k1.2, k2.2, e5, e4, e1, e2, ZIK, show kv [1, 0, 0, 0, 0] = 1 from rfl]
    grind
  refine ⟨r6, ?_, c6, e6⟩
  unfold Zd0
  simp only [ZG2 ha, ZG2 hb, h1, h2, const2', h4, h5, mo, hd, decide_true, Bool.not_true, cond_false, ZAP, h6]
theorem pdecode (p : List Int × List Int × List Int × List Int) {b s : List Int} (hd : Zbj b = (s, 0)) (hs : Can s) (hev : (kv s).ev) :
    (∃ x y t, Zb0 300 p b = some ((x, y, [1, 0, 0, 0, 0], t), 0) ∧ Can x ∧ Can y ∧ Can t ∧ kv t = kv x * kv y ∧ Stands (kv s) (kv x) (kv y)) ∨
    (Zb0 300 p b = some (([0, 0, 0, 0, 0], [0, 0, 0, 0, 0], [0, 0, 0, 0, 0], [0, 0, 0, 0, 0]), 50) ∧ ∀ x y, ¬ Stands (kv s) x y) := by
  obtain ⟨r1, h1, c1, e1⟩ := sq_k hs.L5
  have one := one_k s
  have x2 := sub_k one.1.L5 c1.L5
  have x3 := add_k one.1.L5 c1.L5
  obtain ⟨r3, h3, c3, e3⟩ := sq_k x2.1.L5
  obtain ⟨r4, h4, c4, e4⟩ := mul_k ZAO.L5 c3.L5
  obtain ⟨r5, h5, c5, e5⟩ := sq_k x3.1.L5
  have n4 := neg_k c4.L5
  have x5 := sub_k n4.1.L5 c5.L5
  obtain ⟨r7, h7, c7, e7⟩ := mul_k x5.1.L5 c5.L5
  obtain ⟨r8, ok, h8, c8, sr⟩ := ZF0 one.1.L5 c7.L5
  obtain ⟨r9, h9, c9, e9⟩ := mul_k c8.L5 x3.1.L5
  have ss := add_k hs.L5 hs.L5
  obtain ⟨r10, h10, c10, e10⟩ := mul_k ss.1.L5 c9.L5
  obtain ⟨r11, h11, c11, e11⟩ := mul_k x2.1.L5 c8.L5
  obtain ⟨r13, h13, c13, e13⟩ := mul_k c11.L5 c9.L5
  obtain ⟨r14, h14, c14, e14⟩ := mul_k c13.L5 x5.1.L5
  obtain ⟨a1, a2, a3⟩ := ZIJ c10.L5
  obtain ⟨r15, h15, c15, e15⟩ := mul_k a1.L5 c14.L5
  have neg0 := ZmR hs hev
  -- the numbers
  have E1 : kv r1 = kv s ^ 2 := by rw [e1]; grind
  have X2 : kv (ZaE (ZbF s) r1) = 1 - kv s ^ 2 := by rw [x2.2, one.2, E1]
  have X3 : kv (ZaU (ZbF s) r1) = 1 + kv s ^ 2 := by rw [x3.2, one.2, E1]
  have X5 : kv (ZaE (ZaS r4) r5) = -(kD * (1 - kv s ^ 2) ^ 2) - (1 + kv s ^ 2) ^ 2 := by
    rw [x5.2, n4.2, e4, e5, e3, X2, X3, ZIK]; grind
  have E7 : kv r7 = (-(kD * (1 - kv s ^ 2) ^ 2) - (1 + kv s ^ 2) ^ 2) * (1 + kv s ^ 2) ^ 2 := by rw [e7, X5, e5, X3]; grind
  rw [one.2, E7] at sr
  have E14 : kv r14 = (1 - kv s ^ 2) * kv r8 * (kv r8 * (1 + kv s ^ 2)) * (-(kD * (1 - kv s ^ 2) ^ 2) - (1 + kv s ^ 2) ^ 2) := by rw [e14, X5, e13, e11, e9, X2, X3]
  have E10 : kv r10 = 2 * kv s * (kv r8 * (1 + kv s ^ 2)) := by rw [e10, ss.2, e9, X3]; grind
  have U : Zb0 300 p b = cond (!ok) (some (([0, 0, 0, 0, 0], [0, 0, 0, 0, 0], [0, 0, 0, 0, 0], [0, 0, 0, 0, 0]), 50))
      (cond (ZaQ r15) (some (([0, 0, 0, 0, 0], [0, 0, 0, 0, 0], [0, 0, 0, 0, 0], [0, 0, 0, 0, 0]), 50))
        (cond (ZcO r14) (some (([0, 0, 0, 0, 0], [0, 0, 0, 0, 0], [0, 0, 0, 0, 0], [0, 0, 0, 0, 0]), 50))
          (mo (Zd0 (ZaL r10) r14) none fun r16 =>
            cond (icmp .neq r16.2 0) (some (([0, 0, 0, 0, 0], [0, 0, 0, 0, 0], [0, 0, 0, 0, 0], [0, 0, 0, 0, 0]), 50))
              (some ((r16.1.1, r16.1.2.1, r16.1.2.2.1, r16.1.2.2.2), 0))))) := by
    unfold Zb0
    simp only [hd, show icmp .neq 0 0 = false from rfl, cond_false, neg0, h1, const2', h3, h4, h5, h7, h8, h9, h10, h11, h13, h14, h15, mo]
  generalize hS : kv s = S at *
  -- what must be, of any point that s stands for
  by_cases hvw : (-(kD * (1 - S ^ 2) ^ 2) - (1 + S ^ 2) ^ 2) * (1 + S ^ 2) ^ 2 = 0
  · right
    have := sr.z' K.one_ne hvw
    refine ⟨by rw [U, this.1]; rfl, fun x y h => ?_⟩
    exact K.mul_ne h.v0 (K.pow_ne h.w0 2) hvw
  · obtain ⟨v0, w2⟩ := K.ne_mul hvw
    have w0 : 1 + S ^ 2 ≠ 0 := fun e => w2 (by rw [e]; grind)
    obtain ⟨q1, q2, -⟩ := sr.q K.one_ne hvw
    cases ok with
    | false =>
      right
      refine ⟨by rw [U]; rfl, fun x y h => ?_⟩
      obtain ⟨r, hr⟩ := h.root
      have := (sr.found hvw hr).1
      cases this
    | true =>
      have hr := q2 rfl
      have Y : kv r14 * (1 + S ^ 2) = 1 - S ^ 2 := by rw [E14]; exact dec_y hr
      have X : (-(kD * (1 - S ^ 2) ^ 2) - (1 + S ^ 2) ^ 2) * kv (ZaL r10) ^ 2 = 4 * S ^ 2 := by rw [a3, E10]; exact dec_x hr
      by_cases hn : (kv r15).ev
      · by_cases hz : kv r14 = 0
        · right
          refine ⟨by rw [U, ZmR c15 hn, (ZG3 c14.L5).2 hz]; rfl, fun x y h => h.y0 ?_⟩
          refine K.cancel w0 ?_
          rw [Lean.Grind.CommRing.mul_comm, h.yw, ← Y, hz]; grind
        · left
          have st : Stands S (kv (ZaL r10)) (kv r14) := ⟨hev, a2, by rw [← e15]; exact hn, hz, w0, Y, v0, X⟩
          obtain ⟨t, f1, f2, f3⟩ := ZA8 a1 c14 st.on
          refine ⟨_, _, t, ?_, a1, c14, f2, f3, st⟩
          rw [U, ZmR c15 hn, ZKC c14.L5 hz]
          simp only [Bool.not_true, cond_false, f1, mo, show icmp .neq 0 0 = false from rfl]
      · right
        refine ⟨by rw [U, (ZEx c15).2 hn]; rfl, fun x y h => hn ?_⟩
        have hy : kv r14 = y := K.cancel w0 (by rw [Lean.Grind.CommRing.mul_comm, Y, ← h.yw, Lean.Grind.CommRing.mul_comm])
        have hx : kv (ZaL r10) = x := K.ev_root a2 h.x_ev (K.cancel v0 (by rw [X, h.xv]))
        rw [e15, hx, hy]; exact h.xy_ev
theorem ZIM (n : Nat) : (1 : K) ^ n = 1 := by
  rw [show (1 : K) = K.of 1 from rfl, ← K.of_pow, Int.one_pow]
theorem ZHP {x y t : List Int} (hx : Can x) (hy : Can y) : Zb1 300 (x, y, [1, 0, 0, 0, 0], t) = some (x, y) := by
  obtain ⟨r1, h1, p1⟩ := ZA9 (a := [1, 0, 0, 0, 0]) ZxT.L5
  have e1 : kv r1 = 1 := by rw [pow_k p1, show kv [1, 0, 0, 0, 0] = 1 from rfl, ZIM]
  obtain ⟨r2, h2, c2, e2⟩ := mul_k hx.L5 p1.1.L5
  obtain ⟨r3, h3, c3, e3⟩ := mul_k hy.L5 p1.1.L5
  have f2 : r2 = x := can_k c2 hx (by rw [e2, e1]; grind)
  have f3 : r3 = y := can_k c3 hy (by rw [e3, e1]; grind)
  subst f2
  subst f3
  unfold Zb1 Zas
  have hz : decide (([1, 0, 0, 0, 0] : List Int) = [0, 0, 0, 0, 0]) = false := by decide
  simp only [hz, cond_false, h1, h2, h3, mo]
theorem ZjC {a b : List Int} (ha : Can a) (hb : L5 b) : ZbC (Zcd true) a b = a := by
  rw [Zuo ha.L5 hb, show Zcd true = 1 from rfl, if_pos (by decide), Zrv ha]
theorem ZG4 {a : List Int} (h : Can a) (e : ¬ (kv a).ev) : ZaQ a = true := (ZEx h).2 e
theorem tab4_k : kv (Zbe 4) = kM := by unfold kv kM; rfl
theorem ZKD {x y r q : K} {ok : Bool} (hq : (1 + y) * (1 - y) = q ^ 2) (hn : x * y ≠ 0) (hu : (1 + y) * (1 - y) ≠ 0) (sr : SR 1 (((1 + y) * (1 - y)) * (x * y) ^ 2) r ok) : r ^ 2 * (((1 + y) * (1 - y)) * (x * y) ^ 2) = 1 := by
  have q0 : q ≠ 0 := fun e => hu (by rw [hq, e]; grind)
  obtain ⟨z, hz⟩ := ZzB (K.mul_ne q0 hn)
  have hv : ((1 + y) * (1 - y)) * (x * y) ^ 2 = (q * (x * y)) ^ 2 := by rw [hq]; grind
  have := (sr.found (r := z) (K.mul_ne hu (K.pow_ne hn 2)) (by rw [hv]; generalize q * (x * y) = w at *; grind)).2
  rw [this, hv]
  generalize q * (x * y) = w at *
  grind
theorem u_ne {x y : K} (on : y ^ 2 - x ^ 2 = 1 + kD * x ^ 2 * y ^ 2) (hn : x * y ≠ 0) : (1 + y) * (1 - y) ≠ 0 := by
  intro h
  have hm := kM_sq
  have hx := (K.ne_mul hn).1
  have h1 : (-1 - kD) * x ^ 2 = 0 := by generalize kD = d at *; grind
  rcases K.mul_zero' h1 with h1 | h1
  · rw [h1] at hm; exact K.one_ne (by rw [← hm]; grind)
  · exact hx (K.sq_zero h1)
theorem ZEy (b : K) : - -b = b := by grind
theorem ZHQ (a b : K) : -a * -b = a * b := by grind
theorem ZCX {a : K} (h : -a = 0) : a = 0 := by grind
theorem ZKE (a b : K) : Rel a b (-a) (-b) := .inr (.inr (.inl ⟨(ZEy a).symm, (ZEy b).symm⟩))
theorem on_neg {a b d : K} (h : b ^ 2 - a ^ 2 = 1 + d * a ^ 2 * b ^ 2) : (-b) ^ 2 - (-a) ^ 2 = 1 + d * (-a) ^ 2 * (-b) ^ 2 := by grind
theorem on_turn {a b d : K} (h : b ^ 2 - a ^ 2 = 1 + d * a ^ 2 * b ^ 2) : (a * kI) ^ 2 - (b * kI) ^ 2 = 1 + d * (b * kI) ^ 2 * (a * kI) ^ 2 := by
  have hi := kI_sq
  grind
theorem ZKF (a b : K) : Rel a b (b * kI) (a * kI) := by
  have hi := kI_sq
  exact .inr (.inr (.inr ⟨by grind, by grind⟩))
theorem ZKG (a b : K) : b * kI * (a * kI) = -(a * b) := by
  have hi := kI_sq
  grind
theorem ZKH {u t2 m w r d : K} (tn : t2 ≠ 0) (R : r ^ 2 * (u * t2) = 1) (tt : u * w = (-1 - d) * t2) (hm : (-1 - d) * m ^ 2 = 1) : (r * u * m) ^ 2 * w = 1 := by
  refine K.cancel tn ?_
  have : t2 * ((r * u * m) ^ 2 * w) = (r ^ 2 * (u * t2)) * m ^ 2 * (u * w) := by grind
  rw [this, R, tt]
  grind
theorem fin_neg (b : K) : (1 + -b) * (1 - -b) = (1 + b) * (1 - b) := by grind
theorem fin_one (r x y : K) : (r * (x * y)) ^ 2 * ((1 + y) * (1 - y)) = r ^ 2 * (((1 + y) * (1 - y)) * (x * y) ^ 2) := by
  generalize x * y = t
  generalize (1 + y) * (1 - y) = u
  grind
theorem pencode {p1 p2 p3 p4 x y : List Int} {q : K} (h1 : Zb1 300 (p1, p2, p3, p4) = some (x, y)) (hx : Can x) (hy : Can y) (on : kv y ^ 2 - kv x ^ 2 = 1 + kD * kv x ^ 2 * kv y ^ 2) (hq : (1 + kv y) * (1 - kv y) = q ^ 2) :
    ∃ s X Y, ZaR 300 (p1, p2, p3, p4) = some (ZaB s) ∧ Can s ∧ Stands (kv s) X Y ∧ Rel (kv x) (kv y) X Y := by
  obtain ⟨r2, h2, c2, e2⟩ := mul_k hx.L5 hy.L5
  have one := one_k x
  have a1 := add_k one.1.L5 hy.L5
  have s1 := sub_k one.1.L5 hy.L5
  obtain ⟨r3, h3, c3, e3⟩ := mul_k a1.1.L5 s1.1.L5
  obtain ⟨r4, h4, c4, e4⟩ := sq_k c2.L5
  obtain ⟨r5, h5, c5, e5⟩ := mul_k c3.L5 c4.L5
  obtain ⟨r6, ok, h6, c6, sr⟩ := ZF0 one.1.L5 c5.L5
  obtain ⟨r7, h7, c7, e7⟩ := mul_k c6.L5 c3.L5
  obtain ⟨r8, h8, c8, e8⟩ := mul_k c6.L5 c2.L5
  obtain ⟨r9, h9, c9, e9⟩ := mul_k c7.L5 c8.L5
  obtain ⟨r10, h10, c10, e10⟩ := mul_k c9.L5 c2.L5
  obtain ⟨r11, h11, c11, e11⟩ := mul_k c2.L5 c10.L5
  obtain ⟨r13, h13, c13, e13⟩ := mul_k hx.L5 ZvN.L5
  obtain ⟨r14, h14, c14, e14⟩ := mul_k hy.L5 ZvN.L5
  obtain ⟨r16, h16, c16, e16⟩ := mul_k c7.L5 ZIL.L5
  rw [ZIN] at e13 e14
  rw [tab4_k] at e16
  have E3 : kv r3 = (1 + kv y) * (1 - kv y) := by rw [e3, a1.2, s1.2, one.2]
  have E5 : kv r5 = ((1 + kv y) * (1 - kv y)) * (kv x * kv y) ^ 2 := by rw [e5, E3, e4, e2]; generalize kv x * kv y = t; grind
  rw [one.2, E5] at sr
  have E10 : kv r10 = kv r6 ^ 2 * (((1 + kv y) * (1 - kv y)) * (kv x * kv y) ^ 2) := by
    rw [e10, e9, e8, e7, e2, E3]
    generalize (1 + kv y) * (1 - kv y) = u
    generalize kv x * kv y = t
    grind
  -- what is handed back, once the signs are known
  have U : ∀ (b1 b2 : Bool) (x1 y1 dn : List Int), ZaQ r11 = b1 → ZbC (Zcd b1) r14 x = x1 → ZbC (Zcd b1) r13 y = y1 → ZbC (Zcd b1) r16 r8 = dn → Can x1 → Can y1 → Can dn →
      (∀ r17, Zan x1 r10 = some r17 → ZaQ r17 = b2) →
      ∃ s, ZaR 300 (p1, p2, p3, p4) = some (ZaB s) ∧ Can s ∧ (kv s).ev ∧ kv s ^ 2 = (kv dn * (1 - (bif b2 then - kv y1 else kv y1))) ^ 2 := by
    intro b1 b2 x1 y1 dn g1 g2 g3 g4 k1 k2 k3 g5
    obtain ⟨r17, h17, c17, e17⟩ := mul_k k1.L5 c10.L5
    have g6 := g5 r17 h17
    have ny := neg_k k2.L5
    have hsel : Can (ZbC (Zcd b2) (ZaS y1) y1) ∧ kv (ZbC (Zcd b2) (ZaS y1) y1) = (bif b2 then - kv y1 else kv y1) := by
      cases b2
      · rw [ZeX ny.1.L5 k2]; exact ⟨k2, rfl⟩
      · rw [ZjC ny.1 k2.L5]; exact ⟨ny.1, ny.2⟩
    have s2 := sub_k one.1.L5 hsel.1.L5
    obtain ⟨r18, h18, c18, e18⟩ := mul_k k3.L5 s2.1.L5
    obtain ⟨m1, m2, m3⟩ := ZIJ c18.L5
    refine ⟨_, ?_, m1, m2, by rw [m3, e18, s2.2, hsel.2, one.2]⟩
    unfold ZaR
    simp only [h1, h2, h3, h4, h5, h6, h7, h8, h9, h10, h11, const1', h13, h14, const4', h16, mo, g1, g2, g3, g4, h17, g6, h18]
  have hi := kI_sq
  by_cases hn : kv x * kv y = 0
  · -- the neutral element
    have z6 : kv r6 = 0 := (sr.z' K.one_ne (by rw [hn]; grind)).2
    have z10 : kv r10 = 0 := by rw [E10, z6]; grind
    have z8 : kv r8 = 0 := by rw [e8, z6]; grind
    have n11 : ZaQ r11 = false := ZmR c11 (by rw [e11, z10, show kv r2 * 0 = 0 by grind]; exact K.ev_zero)
    obtain ⟨s, k1, k2, k3, k4⟩ := U false false x y r8 n11 (ZeX c14.L5 hx) (ZeX c13.L5 hy) (ZeX c16.L5 c8) hx hy c8 (fun r17 h17 => by
      obtain ⟨r, j1, j2, j3⟩ := mul_k hx.L5 c10.L5
      rw [h17] at j1
      obtain rfl := Option.some.inj j1
      exact ZmR j2 (by rw [j3, z10, show kv x * 0 = 0 by grind]; exact K.ev_zero))
    have s0 : kv s = 0 := K.sq_zero (by rw [k4, z8]; grind)
    exact ⟨s, 0, 1, k1, k2, by rw [s0]; exact ZF1, ZG5 on hn⟩
  · have hu := u_ne on hn
    have R := ZKD hq hn hu sr
    have Z : kv r10 = 1 := by rw [E10, R]
    obtain ⟨x0, y0⟩ := K.ne_mul hn
    have e11' : kv r11 = kv x * kv y := by rw [e11, e2, Z]; grind
    have neg17 : ∀ x1, Can x1 → ∀ r17, Zan x1 r10 = some r17 → Can r17 ∧ kv r17 = kv x1 := by
      intro x1 k r17 h17
      obtain ⟨r, j1, j2, j3⟩ := mul_k k.L5 c10.L5
      rw [h17] at j1
      obtain rfl := Option.some.inj j1
      exact ⟨j2, by rw [j3, Z]; grind⟩
    -- a point of the four with the product not negative, and its factor
    have fin : ∀ (b1 : Bool) (x1 y1 dn : List Int), ZaQ r11 = b1 → ZbC (Zcd b1) r14 x = x1 → ZbC (Zcd b1) r13 y = y1 → ZbC (Zcd b1) r16 r8 = dn → Can x1 → Can y1 → Can dn →
        (kv x1 * kv y1).ev → kv x1 ≠ 0 → kv y1 ≠ 0 → kv y1 ^ 2 - kv x1 ^ 2 = 1 + kD * kv x1 ^ 2 * kv y1 ^ 2 → kv dn ^ 2 * ((1 + kv y1) * (1 - kv y1)) = 1 → Rel (kv x) (kv y) (kv x1) (kv y1) →
        ∃ s X Y, ZaR 300 (p1, p2, p3, p4) = some (ZaB s) ∧ Can s ∧ Stands (kv s) X Y ∧ Rel (kv x) (kv y) X Y := by
      intro b1 x1 y1 dn g1 g2 g3 g4 k1 k2 k3 xyev x10 y10 on1 de rel
      by_cases hev : (kv x1).ev
      · obtain ⟨s, j1, j2, j3, j4⟩ := U b1 false x1 y1 dn g1 g2 g3 g4 k1 k2 k3 (fun r17 h17 => by
          obtain ⟨q1, q2⟩ := neg17 x1 k1 r17 h17
          exact ZmR q1 (by rw [q2]; exact hev))
        exact ⟨s, kv x1, kv y1, j1, j2, ZEz (e := kv dn) j3 hev xyev x10 y10 on1 de j4, rel⟩
      · obtain ⟨s, j1, j2, j3, j4⟩ := U b1 true x1 y1 dn g1 g2 g3 g4 k1 k2 k3 (fun r17 h17 => by
          obtain ⟨q1, q2⟩ := neg17 x1 k1 r17 h17
          exact ZG4 q1 (by rw [q2]; exact hev))
        refine ⟨s, - kv x1, - kv y1, j1, j2, ZEz (e := kv dn) j3 ((K.ev_neg x10).2 hev) ?_ ?_ ?_ ?_ ?_ j4, rel.trans (ZKE _ _)⟩
        · rw [ZHQ]; exact xyev
        · exact fun h => x10 (ZCX h)
        · exact fun h => y10 (ZCX h)
        · exact on_neg on1
        · rw [fin_neg]; exact de
    by_cases hneg : (kv x * kv y).ev
    · refine fin false x y r8 (ZmR c11 (by rw [e11']; exact hneg)) (ZeX c14.L5 hx) (ZeX c13.L5 hy) (ZeX c16.L5 c8) hx hy c8 hneg x0 y0 on ?_ (Rel.refl _ _)
      rw [e8, e2, fin_one, R]
    · have t11 := ZG4 c11 (by rw [e11']; exact hneg)
      refine fin true r14 r13 r16 t11 (ZjC c14 hx.L5) (ZjC c13 hy.L5) (ZjC c16 c8.L5) c14 c13 c16 ?_ ?_ ?_ ?_ ?_ ?_
      · rw [e13, e14, ZKG]
        exact (K.ev_neg hn).2 hneg
      · rw [e14]; exact K.mul_ne y0 (fun h => by rw [h] at hi; exact K.one_ne (by grind))
      · rw [e13]; exact K.mul_ne x0 (fun h => by rw [h] at hi; exact K.one_ne (by grind))
      · rw [e13, e14]; exact on_turn on
      · rw [e16, e7, E3, e13]
        exact ZKH (K.pow_ne hn 2) R (turn_id on) kM_sq
      · rw [e13, e14]; exact ZKF _ _
end Go.Vx
set_option autoImplicit false
set_option linter.unusedSimpArgs false
namespace Go.Vx
open Go
theorem ZIO : Can (Zbe 3) := ⟨_, _, _, _, _, rfl, by decide, by decide, by decide, by decide, by decide, by decide⟩
theorem ZIP : Can (Zbe 5) := ⟨_, _, _, _, _, rfl, by decide, by decide, by decide, by decide, by decide, by decide⟩
theorem ZIQ : Can (Zbe 6) := ⟨_, _, _, _, _, rfl, by decide, by decide, by decide, by decide, by decide, by decide⟩
theorem ZLN : kv (Zbe 3) = kA := by unfold kv kA; rfl
theorem tab5_k : kv (Zbe 5) = 1 - kD ^ 2 := by
  have h : kv (Zbe 5) = 1 - kD * kD := by
    unfold kv kD
    rw [show (1 : K) = K.of 1 from rfl, ← K.of_mul, ← K.of_sub, K.of_eq]
    decide
  rw [h]; generalize kD = d; grind
theorem tab6_k : kv (Zbe 6) = (kD - 1) ^ 2 := by
  have h : kv (Zbe 6) = (kD - 1) * (kD - 1) := by
    unfold kv kD
    rw [show (1 : K) = K.of 1 from rfl, ← K.of_sub, ← K.of_mul, K.of_eq]
    decide
  rw [h]; generalize kD = d; grind
theorem const3' : ZcB 3 = some (Zbe 3) := rfl
theorem const5' : ZcB 5 = some (Zbe 5) := rfl
theorem const6' : ZcB 6 = some (Zbe 6) := rfl
theorem inv_k {a : List Int} (ha : L5 a) : ∃ r, Zdg 300 a = some r ∧ Can r ∧ kv r = kv a ^ eI := by
  obtain ⟨r, h1, p1⟩ := ZA9 ha
  exact ⟨r, h1, p1.1, pow_k p1⟩
theorem k_sq (a : K) : a * a = a ^ 2 := by grind
theorem phalf {a : List Int} (ha : L5 a) : ∃ x y t R V S ok s c, ZeY 300 a = some (x, y, [1, 0, 0, 0, 0], t) ∧ Can x ∧ Can y ∧ Can t ∧ kv t = kv x * kv y ∧ HalfK (kv a) (kv x) (kv y) R V S ok s c := by
  have one := one_k a
  have n1 := neg_k one.1.L5
  obtain ⟨r3, h3, c3, e3⟩ := sq_k ha
  obtain ⟨r4, h4, c4, e4⟩ := mul_k ZvN.L5 c3.L5
  have a4 := add_k c4.L5 one.1.L5
  obtain ⟨r6, h6, c6, e6⟩ := mul_k a4.1.L5 ZIP.L5
  obtain ⟨r7, h7, c7, e7⟩ := mul_k c4.L5 ZAO.L5
  have s7 := sub_k n1.1.L5 c7.L5
  have a7 := add_k c4.L5 ZAO.L5
  obtain ⟨r8, h8, c8, e8⟩ := mul_k s7.1.L5 a7.1.L5
  obtain ⟨r9, ok, h9, c9, sr⟩ := ZF0 c6.L5 c8.L5
  obtain ⟨r10, h10, c10, e10⟩ := mul_k c9.L5 ha
  obtain ⟨b1, b2, b3⟩ := ZIJ c10.L5
  have nb := neg_k b1.L5
  have s4 := sub_k c4.L5 one.1.L5
  -- the numbers
  have R : kv r4 = kI * kv a ^ 2 := by rw [e4, e3, ZIN, k_sq]
  have V : kv r8 = (-1 - kv r4 * kD) * (kv r4 + kD) := by rw [e8, s7.2, a7.2, n1.2, one.2, e7, ZIK]
  have U : kv r6 = (kv r4 + 1) * (1 - kD ^ 2) := by rw [e6, a4.2, one.2, tab5_k]
  rw [U] at sr
  have sel : ∃ s c, ZbC (Zcd ok) r9 (ZaS (ZaL r10)) = s ∧ Can s ∧ ZbC (Zcd ok) (ZaS (ZbF a)) r4 = c ∧ Can c ∧
      (ok = true → kv s = kv r9 ∧ kv c = -1) ∧ (ok = false → (∃ w : K, w.ev ∧ w ^ 2 = (kv r9 * kv a) ^ 2 ∧ kv s = -w) ∧ kv c = kv r4) := by
    cases ok with
    | true =>
      refine ⟨_, _, ZjC c9 nb.1.L5, c9, ZjC n1.1 c4.L5, n1.1, (fun _ => ⟨rfl, by rw [n1.2, one.2]⟩), (fun h => by cases h)⟩
    | false =>
      exact ⟨_, _, ZeX c9.L5 nb.1, nb.1, ZeX n1.1.L5 c4, c4, (fun h => by cases h), (fun _ => ⟨⟨_, b2, by rw [b3, e10], nb.2⟩, rfl⟩)⟩
  obtain ⟨s, c, g1, g2, g3, g4, g5, g6⟩ := sel
  obtain ⟨r11, h11, c11, e11⟩ := mul_k g4.L5 s4.1.L5
  obtain ⟨r13, h13, c13, e13⟩ := mul_k c11.L5 ZIQ.L5
  obtain ⟨r14, h14, c14, e14⟩ := sq_k g2.L5
  have ss := add_k g2.L5 g2.L5
  obtain ⟨r15, h15, c15, e15⟩ := mul_k ss.1.L5 c8.L5
  have s13 := sub_k c13.L5 c8.L5
  obtain ⟨r17, h17, c17, e17⟩ := mul_k s13.1.L5 ZIO.L5
  obtain ⟨r18, h18, c18, e18⟩ := inv_k c17.L5
  obtain ⟨r19, h19, c19, e19⟩ := mul_k c15.L5 c18.L5
  have a14 := add_k one.1.L5 c14.L5
  obtain ⟨r20, h20, c20, e20⟩ := inv_k a14.1.L5
  have s14 := sub_k one.1.L5 c14.L5
  obtain ⟨r21, h21, c21, e21⟩ := mul_k s14.1.L5 c20.L5
  have X : kv r19 = 2 * kv s * kv r8 * ((kv c * (kv r4 - 1) * (kD - 1) ^ 2 - kv r8) * kA) ^ eI := by
    rw [e19, e18, e17, ZLN, s13.2, e13, tab6_k, e11, s4.2, one.2, e15, ss.2]
    generalize ((kv c * (kv r4 - 1) * (kD - 1) ^ 2 - kv r8) * kA) ^ eI = w
    grind
  have Y : kv r21 = (1 - kv s ^ 2) * (1 + kv s ^ 2) ^ eI := by
    rw [e21, e20, a14.2, s14.2, one.2, e14, k_sq]
  have hk : HalfK (kv a) (kv r19) (kv r21) (kv r4) (kv r8) (kv r9) ok (kv s) (kv c) := ⟨R, V, sr, g5, g6, X, Y⟩
  obtain ⟨t, f1, f2, f3⟩ := ZA8 c19 c21 hk.on.1
  refine ⟨r19, r21, t, _, _, _, _, _, _, ?_, c19, c21, f2, f3, hk⟩
  unfold ZeY
  simp only [const1', const2', const3', const5', const6', h3, h4, h6, h7, h8, h9, h10, g1, g3, h11, h13, h14, h15, h17, h18, h19, h20, h21, f1, mo]
end Go.Vx
set_option autoImplicit false
set_option linter.unusedSimpArgs false
namespace Go.Vx
open Go
abbrev P4 := List Int × List Int × List Int × List Int
abbrev o5 : List Int := [1, 0, 0, 0, 0]
abbrev z5 : List Int := [0, 0, 0, 0, 0]
theorem ZLO : Can z5 := ⟨_, _, _, _, _, rfl, by decide, by decide, by decide, by decide, by decide, by decide⟩
structure Rep0 (p : P4) (X Y : K) : Prop where
  cx : Can p.1
  cy : Can p.2.1
  cz : Can p.2.2.1
  ct : Can p.2.2.2
  z : kv p.2.2.1 ≠ 0
  x : kv p.1 = X * kv p.2.2.1
  y : kv p.2.1 = Y * kv p.2.2.1
  t : kv p.2.2.2 = X * Y * kv p.2.2.1
def Rep (p : P4) (X Y : K) : Prop := Rep0 p X Y ∨ (p.2.2.1 = z5 ∧ X = 0 ∧ Y = 1)
theorem Rep.whole {p : P4} {X Y : K} (h : Rep p X Y) : Rep0 (Zas p) X Y := by
  unfold Zas
  rcases h with h | ⟨h, rfl, rfl⟩
  · have : decide (p.2.2.1 = [0, 0, 0, 0, 0]) = false := decide_eq_false fun e => h.z (by rw [e]; rfl)
    rw [this]
    exact h
  · rw [h]
    exact ⟨ZLO, ZxT, ZxT, ZLO, K.one_ne, by show (0 : K) = 0 * 1; grind, by show (1 : K) = 1 * 1; grind, by show (0 : K) = 0 * 1 * 1; grind⟩
theorem ZA6 {x y t : List Int} (hx : Can x) (hy : Can y) (ht : Can t) (h : kv t = kv x * kv y) : Rep (x, y, o5, t) (kv x) (kv y) :=
  .inl ⟨hx, hy, ZxT, ht, K.one_ne, by show _ = _ * (1 : K); grind, by show _ = _ * (1 : K); grind, by show _ = _ * (1 : K); rw [h]; grind⟩
theorem ZAQ : Rep (z5, z5, z5, z5) 0 1 := .inr ⟨rfl, rfl, rfl⟩
theorem Rep.affine {p : P4} {X Y : K} (h : Rep p X Y) : ∃ x y, Zb1 300 p = some (x, y) ∧ Can x ∧ Can y ∧ kv x = X ∧ kv y = Y := by
  have w := h.whole
  unfold Zb1
  generalize Zas (p.1, p.2.1, p.2.2.1, p.2.2.2) = q at *
  obtain ⟨r1, h1, c1, e1⟩ := inv_k w.cz.L5
  obtain ⟨r2, h2, c2, e2⟩ := mul_k w.cx.L5 c1.L5
  obtain ⟨r3, h3, c3, e3⟩ := mul_k w.cy.L5 c1.L5
  have hi := k_inv w.z
  have hx := w.x
  have hy := w.y
  refine ⟨r2, r3, by simp only [h1, h2, h3, mo], c2, c3, ?_, ?_⟩
  · rw [e2, e1, hx]; generalize kv q.2.2.1 ^ eI = i at *; grind
  · rw [e3, e1, hy]; generalize kv q.2.2.1 ^ eI = i at *; grind
theorem d2_can : Can [1859910466990425, 932731440258426, 1072319116312658, 1815898335770999, 633789495995903] := ⟨_, _, _, _, _, rfl, by decide, by decide, by decide, by decide, by decide, by decide⟩
theorem d2_k : kv [1859910466990425, 932731440258426, 1072319116312658, 1815898335770999, 633789495995903] = kD + kD := by
  unfold kv kD
  rw [← K.of_add, K.of_eq]
  decide
theorem ZLP {a b c d : List Int} (ha : Can a) (hb : Can b) (hc : Can c) (hd : Can d) : ∃ x y z t, ZlC a b c d = some (x, y, z, t) ∧ Can x ∧ Can y ∧ Can z ∧ Can t ∧ kv x = kv a * kv b ∧ kv y = kv c * kv d ∧ kv z = kv b * kv c ∧ kv t = kv a * kv d := by
  obtain ⟨r1, h1, c1, e1⟩ := mul_k ha.L5 hb.L5
  obtain ⟨r2, h2, c2, e2⟩ := mul_k hc.L5 hd.L5
  obtain ⟨r3, h3, c3, e3⟩ := mul_k hb.L5 hc.L5
  obtain ⟨r4, h4, c4, e4⟩ := mul_k ha.L5 hd.L5
  exact ⟨r1, r2, r3, r4, by unfold ZlC; simp only [h1, h2, h3, h4, mo], c1, c2, c3, c4, e1, e2, e3, e4⟩
theorem add_fin {a b x y z w d X Y : K} (hX : X * (1 + d * a * x * b * y) = a * y + b * x) (hY : Y * (1 - d * a * x * b * y) = b * y + a * x) :
    ∃ E F G H : K, E = (b * z + a * z) * (y * w + x * w) - (b * z - a * z) * (y * w - x * w) ∧ H = (b * z + a * z) * (y * w + x * w) + (b * z - a * z) * (y * w - x * w) ∧ F = (z * w + z * w) - (a * b * z) * (d + d) * (x * y * w) ∧ G = (z * w + z * w) + (a * b * z) * (d + d) * (x * y * w) ∧
      F = 2 * (z * w) * (1 - d * a * x * b * y) ∧ G = 2 * (z * w) * (1 + d * a * x * b * y) ∧ E * F = X * (F * G) ∧ G * H = Y * (F * G) ∧ E * H = X * Y * (F * G) := by
  have hE : (b * z + a * z) * (y * w + x * w) - (b * z - a * z) * (y * w - x * w) = X * (2 * (z * w) * (1 + d * a * x * b * y)) := by
    rw [show X * (2 * (z * w) * (1 + d * a * x * b * y)) = 2 * (z * w) * (X * (1 + d * a * x * b * y)) by grind, hX]; grind
  have hH : (b * z + a * z) * (y * w + x * w) + (b * z - a * z) * (y * w - x * w) = Y * (2 * (z * w) * (1 - d * a * x * b * y)) := by
    rw [show Y * (2 * (z * w) * (1 - d * a * x * b * y)) = 2 * (z * w) * (Y * (1 - d * a * x * b * y)) by grind, hY]; grind
  have hF : (z * w + z * w) - (a * b * z) * (d + d) * (x * y * w) = 2 * (z * w) * (1 - d * a * x * b * y) := by clear hX hY hE hH; grind
  have hG : (z * w + z * w) + (a * b * z) * (d + d) * (x * y * w) = 2 * (z * w) * (1 + d * a * x * b * y) := by clear hX hY hE hH; grind
  refine ⟨_, _, _, _, rfl, rfl, rfl, rfl, hF, hG, ?_, ?_, ?_⟩
  · rw [hE, hF, hG]; generalize 1 - d * a * x * b * y = u; generalize 1 + d * a * x * b * y = v; clear hX hY hE hH hF hG; grind
  · rw [hH, hF, hG]; generalize 1 - d * a * x * b * y = u; generalize 1 + d * a * x * b * y = v; clear hX hY hE hH hF hG; grind
  · rw [hE, hH, hF, hG]; generalize 1 - d * a * x * b * y = u; generalize 1 + d * a * x * b * y = v; clear hX hY hE hH hF hG; grind
theorem Rep.add {p q : P4} {a b x y : K} (hp : Rep p a b) (hq : Rep q x y) (h1 : On a b) (h2 : On x y) : ∃ r, ZaC p q = some r ∧ Rep r (ax a b x y) (ay a b x y) := by
  have u := hp.whole
  have v := hq.whole
  unfold ZaC
  generalize Zas (p.1, p.2.1, p.2.2.1, p.2.2.2) = p at *
  generalize Zas (q.1, q.2.1, q.2.2.1, q.2.2.2) = q at *
  have s1 := sub_k u.cy.L5 u.cx.L5
  have s2 := sub_k v.cy.L5 v.cx.L5
  have a1 := add_k u.cy.L5 u.cx.L5
  have a2 := add_k v.cy.L5 v.cx.L5
  obtain ⟨r1, k1, c1, e1⟩ := mul_k s1.1.L5 s2.1.L5
  obtain ⟨r2, k2, c2, e2⟩ := mul_k a1.1.L5 a2.1.L5
  obtain ⟨r3, k3, c3, e3⟩ := mul_k u.ct.L5 d2_can.L5
  obtain ⟨r4, k4, c4, e4⟩ := mul_k c3.L5 v.ct.L5
  obtain ⟨r5, k5, c5, e5⟩ := mul_k u.cz.L5 v.cz.L5
  have f1 := sub_k c2.L5 c1.L5
  have f2 := add_k c5.L5 c5.L5
  have f3 := sub_k f2.1.L5 c4.L5
  have f4 := add_k f2.1.L5 c4.L5
  have f5 := add_k c2.L5 c1.L5
  obtain ⟨X, Y, Z, T, k6, g1, g2, g3, g4, g5, g6, g7, g8⟩ := ZLP f1.1 f3.1 f4.1 f5.1
  refine ⟨(X, Y, Z, T), by simp only [k1, k2, k3, k4, k5, k6, mo], .inl ?_⟩
  obtain ⟨E, F, G, H, m1, m2, m3, m4, m5, m6, m7, m8, m9⟩ := add_fin (z := kv p.2.2.1) (w := kv q.2.2.1) (Zqi h1 h2) (Zqj h1 h2)
  have eE : kv (ZaE r2 r1) = E := by rw [f1.2, e2, e1, a1.2, a2.2, s1.2, s2.2, u.x, u.y, v.x, v.y, m1]
  have eH : kv (ZaU r2 r1) = H := by rw [f5.2, e2, e1, a1.2, a2.2, s1.2, s2.2, u.x, u.y, v.x, v.y, m2]
  have eF : kv (ZaE (ZaU r5 r5) r4) = F := by rw [f3.2, f2.2, e5, e4, e3, d2_k, u.t, v.t, m3]
  have eG : kv (ZaU (ZaU r5 r5) r4) = G := by rw [f4.2, f2.2, e5, e4, e3, d2_k, u.t, v.t, m4]
  rw [eE, eF] at g5
  rw [eG, eH] at g6
  rw [eF, eG] at g7
  rw [eE, eH] at g8
  obtain ⟨w1, w2⟩ := Zd5 h1 h2
  have zz : 2 * (kv p.2.2.1 * kv q.2.2.1) ≠ 0 := K.mul_ne K.two_ne (K.mul_ne u.z v.z)
  refine ⟨g1, g2, g3, g4, ?_, ?_, ?_, ?_⟩
  · show kv Z ≠ 0
    rw [g7, m5, m6]; exact K.mul_ne (K.mul_ne zz w2) (K.mul_ne zz w1)
  · show kv X = _ * kv Z
    rw [g5, g7]; exact m7
  · show kv Y = _ * kv Z
    rw [g6, g7]; exact m8
  · show kv T = _ * kv Z
    rw [g8, g7]; exact m9
end Go.Vx
set_option autoImplicit false
set_option linter.unusedSimpArgs false
namespace Go.Vx
open Go
abbrev RepP (p : P4) (q : KP) : Prop := Rep p q.1 q.2
theorem ZsZ {p q : P4} {a b : KP} (h1 : RepP p a) (h2 : RepP q b) (o1 : OnP a) (o2 : OnP b) : ∃ r, ZaC p q = some r ∧ RepP r (kadd a b) := Rep.add h1 h2 o1 o2
theorem ZG6 {p : P4} {a : KP} (h : RepP p a) : RepP (Za8 p) (kneg a) := by
  have w := h.whole
  unfold Za8
  generalize Zas (p.1, p.2.1, p.2.2.1, p.2.2.2) = q at *
  have n1 := neg_k w.cx.L5
  have n2 := neg_k w.ct.L5
  refine .inl ⟨n1.1, w.cy, w.cz, n2.1, w.z, ?_, w.y, ?_⟩
  · show kv (ZaS q.1) = -a.1 * _
    rw [n1.2, w.x]; grind
  · show kv (ZaS q.2.2.2) = -a.1 * a.2 * _
    rw [n2.2, w.t]; grind
theorem ZKI {p q : P4} {a b : KP} (h1 : RepP p a) (h2 : RepP q b) (o1 : OnP a) (o2 : OnP b) : ∃ r, Zfx p q = some r ∧ RepP r (kadd a (kneg b)) := by
  obtain ⟨r, k1, k2⟩ := ZsZ h1 (ZG6 h2) o1 (ZF2 o2)
  refine ⟨r, ?_, k2⟩
  unfold Zfx
  have : ZaC (p.1, p.2.1, p.2.2.1, p.2.2.2) ((Za8 (q.1, q.2.1, q.2.2.1, q.2.2.2)).1, (Za8 (q.1, q.2.1, q.2.2.1, q.2.2.2)).2.1, (Za8 (q.1, q.2.1, q.2.2.1, q.2.2.2)).2.2.1, (Za8 (q.1, q.2.1, q.2.2.1, q.2.2.2)).2.2.2) = some r := k1
  simp only [this, mo]
theorem dbl_fin {x y z d X Y : K} (on : y ^ 2 - x ^ 2 = 1 + d * x ^ 2 * y ^ 2) (hX : X * (1 + d * x * x * y * y) = x * y + y * x) (hY : Y * (1 - d * x * x * y * y) = y * y + x * x) :
    ∃ E F G H : K, E = (x * z + y * z) * (x * z + y * z) - x * z * (x * z) - y * z * (y * z) ∧ H = -(x * z * (x * z)) - y * z * (y * z) ∧ F = y * z * (y * z) - x * z * (x * z) - z * z - z * z ∧ G = y * z * (y * z) - x * z * (x * z) ∧
      F = -(z * z) * (1 - d * x * x * y * y) ∧ G = z * z * (1 + d * x * x * y * y) ∧ E * F = X * (F * G) ∧ G * H = Y * (F * G) ∧ E * H = X * Y * (F * G) := by
  have hE : (x * z + y * z) * (x * z + y * z) - x * z * (x * z) - y * z * (y * z) = X * (z * z * (1 + d * x * x * y * y)) := by
    rw [show X * (z * z * (1 + d * x * x * y * y)) = z * z * (X * (1 + d * x * x * y * y)) by grind, hX]; grind
  have hH : -(x * z * (x * z)) - y * z * (y * z) = Y * (-(z * z) * (1 - d * x * x * y * y)) := by
    rw [show Y * (-(z * z) * (1 - d * x * x * y * y)) = -(z * z) * (Y * (1 - d * x * x * y * y)) by grind, hY]; grind
  have hG : y * z * (y * z) - x * z * (x * z) = z * z * (1 + d * x * x * y * y) := by
    rw [show y * z * (y * z) - x * z * (x * z) = z * z * (y ^ 2 - x ^ 2) by grind, on]; grind
  have hF : y * z * (y * z) - x * z * (x * z) - z * z - z * z = -(z * z) * (1 - d * x * x * y * y) := by rw [hG]; grind
  refine ⟨_, _, _, _, rfl, rfl, rfl, rfl, hF, hG, ?_, ?_, ?_⟩
  · rw [hE, hF, hG]; generalize 1 - d * x * x * y * y = u; generalize 1 + d * x * x * y * y = v; clear hX hY hE hH hF hG on; grind
  · rw [hH, hF, hG]; generalize 1 - d * x * x * y * y = u; generalize 1 + d * x * x * y * y = v; clear hX hY hE hH hF hG on; grind
  · rw [hE, hH, hF, hG]; generalize 1 - d * x * x * y * y = u; generalize 1 + d * x * x * y * y = v; clear hX hY hE hH hF hG on; grind
theorem ZvO {p : P4} {a : KP} (h : RepP p a) (o : OnP a) : ∃ r, Zbt p = some r ∧ RepP r (kdbl a) := by
  have w := h.whole
  unfold Zbt
  generalize Zas (p.1, p.2.1, p.2.2.1, p.2.2.2) = q at *
  obtain ⟨r1, k1, c1, e1⟩ := sq_k w.cx.L5
  obtain ⟨r2, k2, c2, e2⟩ := sq_k w.cy.L5
  obtain ⟨r3, k3, c3, e3⟩ := sq_k w.cz.L5
  have a1 := add_k w.cx.L5 w.cy.L5
  obtain ⟨r4, k4, c4, e4⟩ := sq_k a1.1.L5
  have s1 := sub_k c4.L5 c1.L5
  have s2 := sub_k s1.1.L5 c2.L5
  have s3 := sub_k c2.L5 c1.L5
  have s4 := sub_k s3.1.L5 c3.L5
  have s5 := sub_k s4.1.L5 c3.L5
  have n1 := neg_k c1.L5
  have s6 := sub_k n1.1.L5 c2.L5
  obtain ⟨X, Y, Z, T, k6, g1, g2, g3, g4, g5, g6, g7, g8⟩ := ZLP s2.1 s5.1 s3.1 s6.1
  refine ⟨(X, Y, Z, T), by simp only [k1, k2, k3, k4, k6, mo], .inl ?_⟩
  obtain ⟨E, F, G, H, m1, m2, m3, m4, m5, m6, m7, m8, m9⟩ := dbl_fin (z := kv q.2.2.1) o (Zqi o o) (Zqj o o)
  have eE : kv (ZaE (ZaE r4 r1) r2) = E := by rw [s2.2, s1.2, e4, e1, e2, a1.2, w.x, w.y, m1]
  have eF : kv (ZaE (ZaE (ZaE r2 r1) r3) r3) = F := by rw [s5.2, s4.2, s3.2, e3, e2, e1, w.x, w.y, m3]
  have eG : kv (ZaE r2 r1) = G := by rw [s3.2, e2, e1, w.x, w.y, m4]
  have eH : kv (ZaE (ZaS r1) r2) = H := by rw [s6.2, n1.2, e1, e2, w.x, w.y, m2]
  rw [eE, eF] at g5
  rw [eG, eH] at g6
  rw [eF, eG] at g7
  rw [eE, eH] at g8
  obtain ⟨w1, w2⟩ := Zd5 o o
  have zz : kv q.2.2.1 * kv q.2.2.1 ≠ 0 := K.mul_ne w.z w.z
  have zn : -(kv q.2.2.1 * kv q.2.2.1) ≠ 0 := fun h => zz (by rw [show kv q.2.2.1 * kv q.2.2.1 = - -(kv q.2.2.1 * kv q.2.2.1) by grind, h]; grind)
  refine ⟨g1, g2, g3, g4, ?_, ?_, ?_, ?_⟩
  · show kv Z ≠ 0
    rw [g7, m5, m6]; exact K.mul_ne (K.mul_ne zn w2) (K.mul_ne zz w1)
  · show kv X = _ * kv Z
    rw [g5, g7]; exact m7
  · show kv Y = _ * kv Z
    rw [g6, g7]; exact m8
  · show kv T = _ * kv Z
    rw [g8, g7]; exact m9
theorem ZG7 {X Y z w : K} (hz : z ≠ 0) (hw : w ≠ 0) : X * z * w = Y * w * z ↔ X = Y := by
  constructor
  · intro h
    refine K.cancel (K.mul_ne hz hw) ?_
    rw [show z * w * X = X * z * w by grind, h]; grind
  · rintro rfl; grind
theorem ZEA {p q : P4} {a b : KP} (h1 : RepP p a) (h2 : RepP q b) : ∃ c, Zcb p q = some c ∧ (c = true ↔ a = b) := by
  have u := h1.whole
  have v := h2.whole
  unfold Zcb
  generalize Zas (p.1, p.2.1, p.2.2.1, p.2.2.2) = p at *
  generalize Zas (q.1, q.2.1, q.2.2.1, q.2.2.2) = q at *
  obtain ⟨r1, k1, c1, e1⟩ := mul_k u.cx.L5 v.cz.L5
  obtain ⟨r2, k2, c2, e2⟩ := mul_k v.cx.L5 u.cz.L5
  obtain ⟨r3, k3, c3, e3⟩ := mul_k u.cy.L5 v.cz.L5
  obtain ⟨r4, k4, c4, e4⟩ := mul_k v.cy.L5 u.cz.L5
  rw [u.x] at e1
  rw [v.x] at e2
  rw [u.y] at e3
  rw [v.y] at e4
  have x : r1 = r2 ↔ a.1 = b.1 := by
    rw [← ZG7 u.z v.z, ← e1, ← e2]
    exact ⟨fun h => by rw [h], fun h => can_k c1 c2 h⟩
  have y : r3 = r4 ↔ a.2 = b.2 := by
    rw [← ZG7 u.z v.z, ← e3, ← e4]
    exact ⟨fun h => by rw [h], fun h => can_k c3 c4 h⟩
  by_cases hx : r1 = r2
  · refine ⟨decide (r3 = r4), by simp only [k1, k2, k3, k4, mo, decide_eq_true hx, cond_true], ?_⟩
    rw [decide_eq_true_eq, y]
    exact ⟨fun h => Prod.ext (x.1 hx) h, fun h => by rw [h]⟩
  · refine ⟨false, by simp only [k1, k2, mo, decide_eq_false hx, cond_false], ?_⟩
    constructor
    · intro h; cases h
    · intro h; exact absurd (x.2 (by rw [h])) hx
def nib (b : List Int) (i : Nat) : Nat := (List.getD b (i / 2) 0).toNat / 16 ^ (i % 2) % 16
def digs (b : List Int) : Nat → List Nat
  | 0 => []
  | n + 1 => nib b n :: digs b n
theorem b_nib {y : Int} (h : 0 ≤ y ∧ y ≤ 255) (r : Nat) (hr : r < 2) : ibin .and .u8 (ibin .shr .u8 y ((4 * r : Nat) : Int)) 15 = ((y.toNat / 16 ^ r % 16 : Nat) : Int) := by
  have hp : (2 : Nat) ^ (4 * r) = 16 ^ r := by rw [Nat.pow_mul]
  have e1 : ibin .shr .u8 y ((4 * r : Nat) : Int) = ((y.toNat / 16 ^ r : Nat) : Int) := by
    show y.fdiv (2 ^ (min ((4 * r : Nat) : Int).toNat 8)) = _
    rw [Int.toNat_natCast, Nat.min_eq_left (by omega), Int.fdiv_eq_ediv_of_nonneg _ (Int.le_of_lt (Int.pow_pos (by decide)))]
    have : y = (y.toNat : Int) := by omega
    conv => lhs; rw [this]
    rw [← hp, Int.natCast_ediv, Int.natCast_pow]; rfl
  rw [e1]
  generalize hz : y.toNat / 16 ^ r = z
  have hz2 : z ≤ 255 := by
    rw [← hz]
    exact Nat.le_trans (Nat.div_le_self _ _) (by omega)
  show IntKind.wrap .u8 ((BitVec.ofInt 8 (z : Int) &&& BitVec.ofInt 8 15).toNat : Int) = _
  have : (BitVec.ofInt 8 (z : Int) &&& BitVec.ofInt 8 15).toNat = z % 16 := by
    rw [BitVec.toNat_and, BitVec.toNat_ofInt, show (BitVec.ofInt 8 15).toNat = 2 ^ 4 - 1 from rfl, Nat.and_two_pow_sub_one_eq_mod]
    omega
  rw [this, wrap8]
  omega
theorem ZKJ (p : KP) : rnd p kzero 0 = kzero := by
  unfold rnd kdbl nmul
  rw [Zoe, Zoe, Zoe, Zoe, Zoe]
theorem ZG8 (p : KP) (b : List Int) : (n m : Nat) → (∀ j, n ≤ j → j < m → nib b j = 0) → n ≤ m → (digs b m).foldl (rnd p) kzero = (digs b n).foldl (rnd p) kzero
  | n, 0, _, h => by
    obtain rfl : n = 0 := by omega
    rfl
  | n, m + 1, hz, h => by
    rcases Nat.lt_or_ge m n with hm | hm
    · obtain rfl : n = m + 1 := by omega
      rfl
    · rw [← ZG8 p b n m (fun j h1 h2 => hz j h1 (by omega)) hm, digs, List.foldl_cons, hz m hm (by omega), ZKJ]
abbrev T16 (t : Nat → P4) : P4 × P4 × P4 × P4 × P4 × P4 × P4 × P4 × P4 × P4 × P4 × P4 × P4 × P4 × P4 × P4 := (t 0, t 1, t 2, t 3, t 4, t 5, t 6, t 7, t 8, t 9, t 10, t 11, t 12, t 13, t 14, t 15)
theorem sel16 {Q : P4 → Nat → Prop} {t : Nat → P4} (ht : ∀ i, i < 16 → Q (t i) i) (d : Nat) (hd : d < 16) :
    Q (List.getD [(t 0).1, (t 1).1, (t 2).1, (t 3).1, (t 4).1, (t 5).1, (t 6).1, (t 7).1, (t 8).1, (t 9).1, (t 10).1, (t 11).1, (t 12).1, (t 13).1, (t 14).1, (t 15).1] d [],
      List.getD [(t 0).2.1, (t 1).2.1, (t 2).2.1, (t 3).2.1, (t 4).2.1, (t 5).2.1, (t 6).2.1, (t 7).2.1, (t 8).2.1, (t 9).2.1, (t 10).2.1, (t 11).2.1, (t 12).2.1, (t 13).2.1, (t 14).2.1, (t 15).2.1] d [],
      List.getD [(t 0).2.2.1, (t 1).2.2.1, (t 2).2.2.1, (t 3).2.2.1, (t 4).2.2.1, (t 5).2.2.1, (t 6).2.2.1, (t 7).2.2.1, (t 8).2.2.1, (t 9).2.2.1, (t 10).2.2.1, (t 11).2.2.1, (t 12).2.2.1, (t 13).2.2.1, (t 14).2.2.1, (t 15).2.2.1] d [],
      List.getD [(t 0).2.2.2, (t 1).2.2.2, (t 2).2.2.2, (t 3).2.2.2, (t 4).2.2.2, (t 5).2.2.2, (t 6).2.2.2, (t 7).2.2.2, (t 8).2.2.2, (t 9).2.2.2, (t 10).2.2.2, (t 11).2.2.2, (t 12).2.2.2, (t 13).2.2.2, (t 14).2.2.2, (t 15).2.2.2] d []) d := by
  match d, hd with
  | 0, _ => exact ht 0 (by decide)
  | 1, _ => exact ht 1 (by decide)
  | 2, _ => exact ht 2 (by decide)
  | 3, _ => exact ht 3 (by decide)
  | 4, _ => exact ht 4 (by decide)
  | 5, _ => exact ht 5 (by decide)
  | 6, _ => exact ht 6 (by decide)
  | 7, _ => exact ht 7 (by decide)
  | 8, _ => exact ht 8 (by decide)
  | 9, _ => exact ht 9 (by decide)
  | 10, _ => exact ht 10 (by decide)
  | 11, _ => exact ht 11 (by decide)
  | 12, _ => exact ht 12 (by decide)
  | 13, _ => exact ht 13 (by decide)
  | 14, _ => exact ht 14 (by decide)
  | 15, _ => exact ht 15 (by decide)
  | n + 16, h => exact absurd h (by omega)
theorem ZBa {n : Nat} {i : Nat} (h : i < n) : decide (0 ≤ (i : Int) ∧ (i : Int) < ((n : Nat) : Int)) = true := decide_eq_true ⟨by omega, by omega⟩
theorem dec_nn (i : Nat) : decide (0 ≤ (i : Int)) = true := decide_eq_true (by omega)
theorem ZAR (i : Nat) : icmp .geq (i : Int) 0 = true := by
  have h : (i : Int) ≥ 0 := by omega
  simp [icmp]
theorem ZF3 {b : List Int} (hb : L32 b) (i : Nat) : 0 ≤ List.getD b i 0 ∧ List.getD b i 0 ≤ 255 := by
  rw [List.getD_eq_getElem?_getD]
  rcases Nat.lt_or_ge i b.length with h | h
  · rw [List.getElem?_eq_getElem h]
    exact hb.2 _ (List.getElem_mem h)
  · rw [List.getElem?_eq_none h]; exact ⟨by decide, by decide⟩
theorem l6_step (N : Nat) {t : Nat → P4} {p : KP} (hp : OnP p) (ht : ∀ i, i < 16 → RepP (t i) (nmul p i)) {b : List Int} (hb : L32 b) {acc : P4} {q : KP} (ha : RepP acc q) (hq : OnP q) {i : Nat} (hi : i < 64) :
    ∃ r, ZbK N (((), (), (), (), (i : Int)), (b, (), T16 t, acc)) = some (.inl (((), (), (), (), (i : Int) - 1), (b, (), T16 t, r))) ∧ RepP r (rnd p q (nib b i)) := by
  obtain ⟨r1, k1, h1⟩ := ZvO ha hq
  have o1 := ZkE hq
  obtain ⟨r2, k2, h2⟩ := ZvO h1 o1
  have o2 := ZkE o1
  obtain ⟨r3, k3, h3⟩ := ZvO h2 o2
  have o3 := ZkE o2
  obtain ⟨r4, k4, h4⟩ := ZvO h3 o3
  have o4 := ZkE o3
  have hlt : nib b i < 16 := Nat.mod_lt _ (by decide)
  obtain ⟨r5, k5, h5⟩ := ZsZ h4 (sel16 (Q := fun x d => RepP x (nmul p d)) ht (nib b i) hlt) o4 (Zrw hp _)
  have e1 : ibin .quo .i64 (i : Int) 2 = ((i / 2 : Nat) : Int) := Ref.i_quo 2 (by omega)
  have e2 : ibin .rem .i64 (i : Int) 2 = ((i % 2 : Nat) : Int) := Ref.i_rem 2
  have e3 : ibin .mul .i64 4 ((i % 2 : Nat) : Int) = ((4 * (i % 2) : Nat) : Int) := by rw [Ref.i_mul (by omega) (by omega)]; omega
  have e4 : ibin .and .u8 (ibin .shr .u8 (List.getD b (i / 2) 0) ((4 * (i % 2) : Nat) : Int)) 15 = ((nib b i : Nat) : Int) := b_nib (ZF3 hb _) _ (Nat.mod_lt _ (by decide))
  have e5 : ibin .sub .i64 (i : Int) 1 = (i : Int) - 1 := Ref.i_sub (by omega) (by omega)
  refine ⟨r5, ?_, h5⟩
  obtain ⟨a1, a2, a3, a4⟩ := acc
  obtain ⟨b1, b2, b3, b4⟩ := r1
  obtain ⟨c1, c2, c3, c4⟩ := r2
  obtain ⟨d1, d2, d3, d4⟩ := r3
  obtain ⟨f1, f2, f3, f4⟩ := r4
  unfold ZbK
  simp only [ZAR, cond_true, k1, k2, k3, k4, mo, e1, ZBa (show i / 2 < 32 by omega), e2, e3, dec_nn, Int.toNat_natCast, e4, ZBa hlt, k5, e5]
theorem ZIR (N : Nat) {t : Nat → P4} {p : KP} (hp : OnP p) (ht : ∀ i, i < 16 → RepP (t i) (nmul p i)) {b : List Int} (hb : L32 b) : (k : Nat) → k ≤ 64 → (fuel : Nat) → k < fuel → (acc : P4) → (q : KP) → RepP acc q → OnP q →
    ∃ r, loopF (ZbK N) fuel (((), (), (), (), (k : Int) - 1), (b, (), T16 t, acc)) = some (.inl (((), ()), ((), r))) ∧ RepP r ((digs b k).foldl (rnd p) q)
  | 0, _, fuel + 1, _, acc, q, ha, hq => by
    refine ⟨acc, ?_, ha⟩
    rw [Zb8]
    have : icmp .geq (((0 : Nat) : Int) - 1) 0 = false := by decide
    unfold ZbK
    simp only [this, cond_false, mo]
  | k + 1, hk, fuel + 1, hf, acc, q, ha, hq => by
    obtain ⟨r, h1, h2⟩ := l6_step N hp ht hb ha hq (show k < 64 by omega)
    obtain ⟨r', g1, g2⟩ := ZIR N hp ht hb k (by omega) fuel (by omega) r _ h2 (ZLQ hp hq _)
    refine ⟨r', ?_, g2⟩
    rw [Zb8, show (((k + 1 : Nat) : Int) - 1) = (k : Int) by omega, h1]
    exact g1
theorem ZDy (n : Nat) : icmp .neq (n : Int) 0 = !decide (n = 0) := by
  by_cases h : n = 0
  · subst h; rfl
  · have h' : (n : Int) ≠ 0 := by omega
    simp only [icmp, h, h', decide_false]
    simp [h]
theorem ZIS (N : Nat) {b : List Int} (hb : L32 b) (x y z u : List Int) : (k : Nat) → k ≤ 32 → (fuel : Nat) → k < fuel →
    ∃ n : Nat, n ≤ 2 * k ∧ loopF (Zbk N) fuel (((), (), (), (), (k : Int) - 1), ((x, y, z, u), b, ())) = some (.inl (((), (), (), (n : Int) - 1), ((x, y, z, u), b, ()))) ∧ ∀ j, n ≤ j → j < 2 * k → nib b j = 0
  | 0, _, fuel + 1, _ => by
    refine ⟨0, by omega, ?_, fun j h1 h2 => by omega⟩
    rw [Zb8]
    have : icmp .geq (((0 : Nat) : Int) - 1) 0 = false := by decide
    unfold Zbk
    simp only [this, cond_false, mo]
    rfl
  | k + 1, hk, fuel + 1, hf => by
    have e0 : (((k + 1 : Nat) : Int) - 1) = (k : Int) := by omega
    have n1 : ibin .and .u8 (ibin .shr .u8 (List.getD b k 0) 4) 15 = ((nib b (2 * k + 1) : Nat) : Int) := by
      have := b_nib (ZF3 hb k) 1 (by decide)
      rw [show ((4 * 1 : Nat) : Int) = 4 from rfl] at this
      rw [this]; unfold nib
      rw [show (2 * k + 1) / 2 = k by omega, show (2 * k + 1) % 2 = 1 by omega]
    have n0 : ibin .and .u8 (ibin .shr .u8 (List.getD b k 0) 0) 15 = ((nib b (2 * k) : Nat) : Int) := by
      have := b_nib (ZF3 hb k) 0 (by decide)
      rw [show ((4 * 0 : Nat) : Int) = 0 from rfl] at this
      rw [this]; unfold nib
      rw [show (2 * k) / 2 = k by omega, show (2 * k) % 2 = 0 by omega]
    have m2 : ibin .mul .i64 2 (k : Int) = ((2 * k : Nat) : Int) := by rw [Ref.i_mul (by omega) (by omega)]; omega
    have a1 : ibin .add .i64 ((2 * k : Nat) : Int) 1 = ((2 * k + 2 : Nat) : Int) - 1 := by rw [Ref.i_add (by omega) (by omega)]; omega
    have a0 : ibin .add .i64 ((2 * k : Nat) : Int) 0 = ((2 * k + 1 : Nat) : Int) - 1 := by rw [Ref.i_add (by omega) (by omega)]; omega
    have s1 : ibin .sub .i64 (k : Int) 1 = (k : Int) - 1 := Ref.i_sub (by omega) (by omega)
    by_cases h1 : nib b (2 * k + 1) = 0
    · by_cases h0 : nib b (2 * k) = 0
      · obtain ⟨n, g1, g2, g3⟩ := ZIS N hb x y z u k (by omega) fuel (by omega)
        refine ⟨n, by omega, ?_, fun j j1 j2 => ?_⟩
        · rw [Zb8, e0]
          unfold Zbk
          simp only [ZAR, ZBa (show k < 32 by omega), Int.toNat_natCast, n1, n0, ZDy, h1, h0, decide_true, Bool.not_true, cond_true, cond_false, s1, mo]
          exact g2
        · rcases Nat.lt_or_ge j (2 * k) with h | h
          · exact g3 j j1 h
          · rcases Nat.lt_or_ge j (2 * k + 1) with h' | h'
            · rw [show j = 2 * k by omega]; exact h0
            · rw [show j = 2 * k + 1 by omega]; exact h1
      · refine ⟨2 * k + 1, by omega, ?_, fun j j1 j2 => by rw [show j = 2 * k + 1 by omega]; exact h1⟩
        rw [Zb8, e0]
        unfold Zbk
        simp only [ZAR, ZBa (show k < 32 by omega), Int.toNat_natCast, n1, n0, ZDy, h1, decide_eq_false h0, decide_true, Bool.not_true, Bool.not_false, cond_true, cond_false, m2, a0, mo]
    · refine ⟨2 * k + 2, by omega, ?_, fun j j1 j2 => by omega⟩
      rw [Zb8, e0]
      unfold Zbk
      simp only [ZAR, ZBa (show k < 32 by omega), Int.toNat_natCast, n1, ZDy, decide_eq_false h1, Bool.not_false, cond_true, m2, a1, mo]
theorem ZIT {x : P4} {p : KP} (h : RepP x p) (hp : OnP p) : ∃ t : Nat → P4, t 0 = (z5, z5, z5, z5) ∧ (∀ i, i < 15 → ZaC (t i) x = some (t (i + 1))) ∧ ∀ i, RepP (t i) (nmul p i) := by
  let step : P4 → P4 := fun a => (ZaC a x).getD a
  let t : Nat → P4 := fun n => n.rec (z5, z5, z5, z5) fun _ a => step a
  have key : ∀ i, RepP (t i) (nmul p i) ∧ ZaC (t i) x = some (t (i + 1)) := by
    intro i
    induction i with
    | zero =>
      have h0 : RepP (t 0) (nmul p 0) := ZAQ
      obtain ⟨r, k1, k2⟩ := ZsZ h0 h (Zrw hp 0) hp
      refine ⟨h0, ?_⟩
      show _ = some (step (t 0))
      show _ = some ((ZaC (t 0) x).getD (t 0))
      rw [k1]; rfl
    | succ i ih =>
      obtain ⟨h1, h2⟩ := ih
      have h3 : RepP (t (i + 1)) (nmul p (i + 1)) := by
        obtain ⟨r, k1, k2⟩ := ZsZ h1 h (Zrw hp i) hp
        rw [h2] at k1
        rw [Option.some.inj k1]; exact k2
      obtain ⟨r, k1, k2⟩ := ZsZ h3 h (Zrw hp (i + 1)) hp
      refine ⟨h3, ?_⟩
      show _ = some ((ZaC (t (i + 1)) x).getD (t (i + 1)))
      rw [k1]; rfl
  exact ⟨t, rfl, fun i _ => (key i).2, fun i => (key i).1⟩
theorem ZCY (N : Nat) (hN : 65 ≤ N) {x : P4} {p : KP} (h : RepP x p) (hp : OnP p) {b : List Int} (hb : L32 b) : ∃ r, Zcu N x b = some r ∧ RepP r (horn p (digs b 64)) := by
  obtain ⟨x1, x2, x3, x4⟩ := x
  obtain ⟨n, n1, n2, n3⟩ := ZIS N hb x1 x2 x3 x4 32 (by decide) N (by omega)
  obtain ⟨t, t1, t2, t3⟩ := ZIT h hp
  obtain ⟨r, k1, k2⟩ := ZIR N hp (fun i _ => t3 i) hb n (by omega) N (by omega) (z5, z5, z5, z5) kzero ZAQ ZBb
  rw [← ZG8 p b n 64 (fun j j1 j2 => n3 j j1 (by omega)) (by omega)] at k2
  refine ⟨r, ?_, k2⟩
  have a0 := t2 0 (by decide)
  rw [t1] at a0
  have a1 := t2 1 (by decide)
  have a2 := t2 2 (by decide)
  have a3 := t2 3 (by decide)
  have a4 := t2 4 (by decide)
  have a5 := t2 5 (by decide)
  have a6 := t2 6 (by decide)
  have a7 := t2 7 (by decide)
  have a8 := t2 8 (by decide)
  have a9 := t2 9 (by decide)
  have a10 := t2 10 (by decide)
  have a11 := t2 11 (by decide)
  have a12 := t2 12 (by decide)
  have a13 := t2 13 (by decide)
  have a14 := t2 14 (by decide)
  unfold T16 at k1
  rw [t1] at k1
  have n2' : loopF (Zbk N) N (((), (), (), (), 31), ((x1, x2, x3, x4), b, ())) = some (.inl (((), (), (), (n : Int) - 1), ((x1, x2, x3, x4), b, ()))) := n2
  unfold Zcu
  simp only [n2', mo, a0, a1, a2, a3, a4, a5, a6, a7, a8, a9, a10, a11, a12, a13, a14, k1]
end Go.Vx
set_option autoImplicit false
set_option linter.unusedSimpArgs false
namespace Go.Vx
open Go
theorem ZEB : RepP (z5, z5, z5, z5) kzero := ZAQ
theorem ZmS {l : List Int} {n : Nat} (h : val l % pF = (n : Int) % pF) : kv l = kn n := K.of_eq.2 h
theorem pt_of {x y t : List Int} (hx : Can x) (hy : Can y) (ht : Can t) (h : val t % pF = val x * val y % pF)
    (hon : (val y * val y - val x * val x) % pF = (1 + 37095705934669439343138083508754565189542113879843219016388785533085940283555 * (val x * val x) * (val y * val y)) % pF) : RepP (x, y, o5, t) (kv x, kv y) ∧ OnP (kv x, kv y) := by
  refine ⟨ZA6 hx hy ht ?_, ?_⟩
  · show K.of (val t) = K.of (val x) * K.of (val y)
    rw [← K.of_mul, K.of_eq]; exact h
  · have h1 := K.of_eq.2 hon
    rw [K.of_sub, K.of_add, K.of_mul, K.of_mul, K.of_mul, K.of_mul, K.of_mul, K.of_mul] at h1
    show On (K.of (val x)) (K.of (val y))
    unfold On
    have hd : K.of 37095705934669439343138083508754565189542113879843219016388785533085940283555 = kD := rfl
    have h1' : K.of 1 = 1 := rfl
    rw [hd, h1'] at h1
    generalize K.of (val x) = a at *
    generalize K.of (val y) = b at *
    generalize kD = d at *
    grind
theorem ZKK : RepP (ZbN.1, ZbN.2.1, ZbN.2.2.1, ZbN.2.2.2) kB := by
  have h := (pt_of (x := ZbN.1) (y := ZbN.2.1) (t := ZbN.2.2.2) ⟨_, _, _, _, _, rfl, by decide, by decide, by decide, by decide, by decide, by decide⟩ ⟨_, _, _, _, _, rfl, by decide, by decide, by decide, by decide, by decide, by decide⟩ ⟨_, _, _, _, _, rfl, by decide, by decide, by decide, by decide, by decide, by decide⟩ (by decide) (by decide)).1
  have e1 : kv ZbN.1 = kB.1 := K.of_eq.2 (by decide)
  have e2 : kv ZbN.2.1 = kB.2 := K.of_eq.2 (by decide)
  rw [e1, e2] at h
  exact h
def torX : Nat → List Int
  | 0 => [0, 0, 0, 0, 0]
  | 1 => [358744748052810, 1691584618240980, 977650209285361, 1429865912637724, 560044844278676]
  | 2 => [1718705420411056, 234908883556509, 2233514472574048, 2117202627021982, 765476049583133]
  | 3 => [358744748052810, 1691584618240980, 977650209285361, 1429865912637724, 560044844278676]
  | 4 => [0, 0, 0, 0, 0]
  | 5 => [1893055065632419, 560215195444267, 1274149604399886, 821933901047523, 1691754969406571]
  | 6 => [533094393274173, 2016890930128738, 18285341111199, 134597186663265, 1486323764102114]
  | _ => [1893055065632419, 560215195444267, 1274149604399886, 821933901047523, 1691754969406571]
def torY : Nat → List Int
  | 0 => [0, 0, 0, 0, 0]
  | 1 => [2166873539340326, 1778179147085316, 1886209374839743, 1223329526802818, 105300633354275]
  | 2 => [0, 0, 0, 0, 0]
  | 3 => [84926274344903, 473620666599931, 365590438845504, 1028470286882429, 2146499180330972]
  | 4 => [2251799813685228, 2251799813685247, 2251799813685247, 2251799813685247, 2251799813685247]
  | 5 => [84926274344903, 473620666599931, 365590438845504, 1028470286882429, 2146499180330972]
  | 6 => [0, 0, 0, 0, 0]
  | _ => [2166873539340326, 1778179147085316, 1886209374839743, 1223329526802818, 105300633354275]
def torT : Nat → List Int
  | 0 => [0, 0, 0, 0, 0]
  | 1 => [803472979097708, 393902981724766, 1158077081819914, 574391322974006, 336294660666841]
  | 2 => [0, 0, 0, 0, 0]
  | 3 => [1448326834587521, 1857896831960481, 1093722731865333, 1677408490711241, 1915505153018406]
  | 4 => [0, 0, 0, 0, 0]
  | 5 => [803472979097708, 393902981724766, 1158077081819914, 574391322974006, 336294660666841]
  | 6 => [0, 0, 0, 0, 0]
  | _ => [1448326834587521, 1857896831960481, 1093722731865333, 1677408490711241, 1915505153018406]
def torK : Nat → KP
  | 0 => kzero
  | n + 1 => (kv (torX (n + 1)), kv (torY (n + 1)))
theorem and7 {a : Int} (h : -9223372036854775808 ≤ a ∧ a ≤ 9223372036854775807) : ibin .and .i64 a 7 = a % 8 := by
  show IntKind.wrap .i64 ((BitVec.ofInt 64 a &&& BitVec.ofInt 64 7).toNat : Int) = _
  have : (BitVec.ofInt 64 a &&& BitVec.ofInt 64 7).toNat = (a % 18446744073709551616).toNat % 8 := by
    rw [BitVec.toNat_and, BitVec.toNat_ofInt, show (BitVec.ofInt 64 7).toNat = 2 ^ 3 - 1 from rfl, Nat.and_two_pow_sub_one_eq_mod]
    rfl
  rw [this]
  have e := Ref.wrapi (n := (((a % 18446744073709551616).toNat % 8 : Nat) : Int)) (by omega) (by omega)
  rw [e]
  omega
theorem ZIU (j : Nat) (h : j < 8) : RepP (torX j, torY j, (if j = 0 then z5 else o5), torT j) (torK j) ∧ OnP (torK j) := by
  match j, h with
  | 0, _ => exact ⟨ZAQ, ZBb⟩
  | 1, _ => exact pt_of ⟨_, _, _, _, _, rfl, by decide, by decide, by decide, by decide, by decide, by decide⟩ ⟨_, _, _, _, _, rfl, by decide, by decide, by decide, by decide, by decide, by decide⟩ ⟨_, _, _, _, _, rfl, by decide, by decide, by decide, by decide, by decide, by decide⟩ (by decide) (by decide)
  | 2, _ => exact pt_of ⟨_, _, _, _, _, rfl, by decide, by decide, by decide, by decide, by decide, by decide⟩ ⟨_, _, _, _, _, rfl, by decide, by decide, by decide, by decide, by decide, by decide⟩ ⟨_, _, _, _, _, rfl, by decide, by decide, by decide, by decide, by decide, by decide⟩ (by decide) (by decide)
  | 3, _ => exact pt_of ⟨_, _, _, _, _, rfl, by decide, by decide, by decide, by decide, by decide, by decide⟩ ⟨_, _, _, _, _, rfl, by decide, by decide, by decide, by decide, by decide, by decide⟩ ⟨_, _, _, _, _, rfl, by decide, by decide, by decide, by decide, by decide, by decide⟩ (by decide) (by decide)
  | 4, _ => exact pt_of ⟨_, _, _, _, _, rfl, by decide, by decide, by decide, by decide, by decide, by decide⟩ ⟨_, _, _, _, _, rfl, by decide, by decide, by decide, by decide, by decide, by decide⟩ ⟨_, _, _, _, _, rfl, by decide, by decide, by decide, by decide, by decide, by decide⟩ (by decide) (by decide)
  | 5, _ => exact pt_of ⟨_, _, _, _, _, rfl, by decide, by decide, by decide, by decide, by decide, by decide⟩ ⟨_, _, _, _, _, rfl, by decide, by decide, by decide, by decide, by decide, by decide⟩ ⟨_, _, _, _, _, rfl, by decide, by decide, by decide, by decide, by decide, by decide⟩ (by decide) (by decide)
  | 6, _ => exact pt_of ⟨_, _, _, _, _, rfl, by decide, by decide, by decide, by decide, by decide, by decide⟩ ⟨_, _, _, _, _, rfl, by decide, by decide, by decide, by decide, by decide, by decide⟩ ⟨_, _, _, _, _, rfl, by decide, by decide, by decide, by decide, by decide, by decide⟩ (by decide) (by decide)
  | 7, _ => exact pt_of ⟨_, _, _, _, _, rfl, by decide, by decide, by decide, by decide, by decide, by decide⟩ ⟨_, _, _, _, _, rfl, by decide, by decide, by decide, by decide, by decide, by decide⟩ ⟨_, _, _, _, _, rfl, by decide, by decide, by decide, by decide, by decide, by decide⟩ (by decide) (by decide)
  | n + 8, h => exact absurd h (by omega)
theorem ZIV {a : Int} (h : -9223372036854775808 ≤ a ∧ a ≤ 9223372036854775807) : ∃ x y z t, Zb9 a = some (x, y, z, t) ∧ RepP (x, y, z, t) (torK (a % 8).toNat) ∧ OnP (torK (a % 8).toNat) := by
  have hj : (a % 8).toNat < 8 := by omega
  have hd : decide (0 ≤ a % 8 ∧ a % 8 < ((8 : Nat) : Int)) = true := decide_eq_true ⟨by omega, by omega⟩
  refine ⟨_, _, _, _, ?_, (ZIU _ hj).1, (ZIU _ hj).2⟩
  unfold Zb9
  rw [and7 h, hd, cond_true]
  generalize (a % 8).toNat = j at *
  match j, hj with
  | 0, _ => rfl
  | 1, _ => rfl
  | 2, _ => rfl
  | 3, _ => rfl
  | 4, _ => rfl
  | 5, _ => rfl
  | 6, _ => rfl
  | 7, _ => rfl
  | n + 8, h => exact absurd h (by omega)
theorem ordL_32 : L32 [237, 211, 245, 92, 26, 99, 18, 88, 214, 156, 247, 162, 222, 249, 222, 20, 0, 0, 0, 0, 0, 0, 0, 0, 0, 0, 0, 0, 0, 0, 0, 16] := ⟨rfl, by decide⟩
theorem ZIW : digs [237, 211, 245, 92, 26, 99, 18, 88, 214, 156, 247, 162, 222, 249, 222, 20, 0, 0, 0, 0, 0, 0, 0, 0, 0, 0, 0, 0, 0, 0, 0, 16] 64 = ordD := by decide
theorem ZIX (N : Nat) (hN : 65 ≤ N) {x : P4} {p : KP} (h : RepP x p) (hp : OnP p) : ∃ c, ZeT N x = some c ∧ (c = true ↔ horn p ordD = kzero) := by
  obtain ⟨r, k1, k2⟩ := ZCY N hN h hp ordL_32
  rw [ZIW] at k2
  obtain ⟨c, g1, g2⟩ := ZEA k2 ZEB
  refine ⟨c, ?_, g2⟩
  obtain ⟨x1, x2, x3, x4⟩ := x
  obtain ⟨r1, r2, r3, r4⟩ := r
  unfold ZeT
  simp only [k1, mo, g1]
theorem RepN.same {a b : N4} {p : KP} (ha : RepN a p) (hb : RepN b p) : a.1 * b.2.2.1 % pN = b.1 * a.2.2.1 % pN := by
  have h : kn (a.1 * b.2.2.1) = kn (b.1 * a.2.2.1) := by
    rw [ZiI, ZiI]
    have xa : kn a.1 = p.1 * kn a.2.2.1 := ha.x
    have xb : kn b.1 = p.1 * kn b.2.2.1 := hb.x
    rw [xa, xb]; grind
  have := K.of_eq.1 h
  have e : ∀ n : Nat, ((n % pN : Nat) : Int) = (n : Int) % pF := fun n => by rw [Int.natCast_emod]; rfl
  rw [← e, ← e] at this
  exact Int.ofNat.inj this
end Go.Vx
set_option autoImplicit false
set_option linter.unusedSimpArgs false
namespace Go.Vx
open Go
theorem ZKu {l : List Int} (hl : L32 l) : (numB l : Int) < 115792089237316195423570985008687907853269984665640564039457584007913129639936 := by
  have := ZF4 l hl.2
  rw [hl.1] at this
  have e : (256 : Nat) ^ 32 = 115792089237316195423570985008687907853269984665640564039457584007913129639936 := by decide
  rw [e] at this
  omega
abbrev lowB (b : List Int) : List Int := List.set b 31 (ibin .and .u8 (List.getD b 31 0) 127)
theorem ZIY {b : List Int} (hb : L32 b) : lowB b = List.set b 31 (List.getD b 31 0 % 128) := by
  unfold lowB
  rw [ZG9 (ZAS hb).1]
theorem set_l32 {b : List Int} (hb : L32 b) {v : Int} (hv : 0 ≤ v ∧ v ≤ 255) : L32 (List.set b 31 v) := by
  refine ⟨by rw [List.length_set]; exact hb.1, fun x hx => ?_⟩
  rcases List.mem_or_eq_of_mem_set hx with h | h
  · exact hb.2 x h
  · rw [h]; exact hv
theorem ZIZ {b : List Int} (hb : L32 b) (v : Int) : List.getD (List.set b 31 v) 31 0 = v := by
  rw [List.getD_eq_getElem?_getD, List.getElem?_set_self (by rw [hb.1]; decide)]; rfl
theorem ZI0 {b : List Int} (hb : L32 b) : List.set b 31 (List.getD b 31 0) = b := by
  have h : 31 < b.length := by rw [hb.1]; decide
  rw [List.getD_eq_getElem?_getD, List.getElem?_eq_getElem h]
  exact List.set_getElem_self h
theorem or128 {y : Int} (h : 0 ≤ y ∧ y < 128) : ibin .or .u8 y 128 = y + 128 := by
  have : ∀ n : Fin 128, ibin .or .u8 (n.1 : Int) 128 = (n.1 : Int) + 128 := by decide +kernel
  have := this ⟨y.toNat, by omega⟩
  simp only at this
  rwa [Int.toNat_of_nonneg h.1] at this
theorem Zum {y : List Int} (hy : Can y) : L32 (ZaB y) ∧ Zbj (ZaB y) = (y, 0) ∧ 0 ≤ List.getD (ZaB y) 31 0 ∧ List.getD (ZaB y) 31 0 < 128 := by
  obtain ⟨l, e⟩ := ZpL hy.L5
  have n := hy.nonneg
  rw [Int.emod_eq_of_lt n.1 n.2] at e
  have t := ZAS l
  refine ⟨l, ?_, t.1.1, ?_⟩
  · rcases ZBc l with ⟨g1, g2, g3, g4⟩ | ⟨g1, g2⟩
    · have : (Zbj (ZaB y)).1 = y := g3.inj hy (by rw [g4, e])
      exact Prod.ext this g2
    · have := n.2
      rw [← e] at this
      exact absurd this (by omega)
  · have : ¬ 127 < List.getD (ZaB y) 31 0 := fun h => by
      have := t.2.1 h
      rw [e] at this
      have := n.2
      simp only [pF] at this
      omega
    omega
theorem low_enc {y : List Int} (hy : Can y) : lowB (ZaB y) = ZaB y := by
  obtain ⟨l, -, h0, h1⟩ := Zum hy
  rw [ZIY l, Int.emod_eq_of_lt h0 h1, ZI0 l]
theorem den_ne (y : K) : kD * y ^ 2 + 1 ≠ 0 := fun h => by
  have hi := kI_sq
  have := (d_sq (a := y) (b := kI) (by generalize kD = d at *; grind)).2
  exact kI_ne this
theorem on_x {x y : K} : On x y ↔ (kD * y ^ 2 + 1) * x ^ 2 = y ^ 2 - 1 := by
  unfold On
  generalize kD = d
  constructor <;> (intro h; grind)
theorem ZCU {x : P4} {xl yl : List Int} (ha : Zb1 300 x = some (xl, yl)) (hx : Can xl) (hy : Can yl) : ∃ c, Zbn 300 x = some c ∧ L32 c ∧ lowB c = ZaB yl ∧ (127 < List.getD c 31 0 ↔ ¬ (kv xl).ev) ∧
    ((kv xl).ev → c = ZaB yl) ∧ (¬ (kv xl).ev → c = List.set (ZaB yl) 31 (List.getD (ZaB yl) 31 0 + 128)) := by
  obtain ⟨l, -, h0, h1⟩ := Zum hy
  obtain ⟨x1, x2, x3, x4⟩ := x
  by_cases hn : (kv xl).ev
  · refine ⟨ZaB yl, ?_, l, low_enc hy, ?_, fun _ => rfl, fun h => absurd hn h⟩
    · unfold Zbn
      simp only [ha, mo, ZmR hx hn, cond_false]
    · constructor
      · intro h; omega
      · intro h; exact absurd hn h
  · have e : ibin .or .u8 (List.getD (ZaB yl) 31 0) 128 = List.getD (ZaB yl) 31 0 + 128 := or128 ⟨h0, h1⟩
    have l2 := set_l32 l (v := List.getD (ZaB yl) 31 0 + 128) (by omega)
    refine ⟨_, ?_, l2, ?_, ?_, fun h => absurd h hn, fun _ => rfl⟩
    · unfold Zbn
      simp only [ha, mo, (ZEx hx).2 hn, cond_true, e]
    · rw [ZIY l2, ZIZ l, List.set_set, show (List.getD (ZaB yl) 31 0 + 128) % 128 = List.getD (ZaB yl) 31 0 by omega, ZI0 l]
    · rw [ZIZ l]
      exact ⟨fun _ => hn, fun _ => by omega⟩
end Go.Vx
set_option autoImplicit false
set_option linter.unusedSimpArgs false
namespace Go.Vx
open Go
end Go.Vx
set_option autoImplicit false
namespace Go.Vx
open Go
end Go.Vx
set_option autoImplicit false
set_option linter.unusedSimpArgs false
namespace Go.Vx
open Go
abbrev RepE (x : P4) (e : E) : Prop := RepP x e.p
theorem ZAN {p q : P4} {a b : E} (h1 : RepE p a) (h2 : RepE q b) : ∃ r, ZaC p q = some r ∧ RepE r (a + b) := ZsZ h1 h2 a.on b.on
theorem ZpP {p : P4} {a : E} (h : RepE p a) : ∃ r, Zbt p = some r ∧ RepE r (a + a) := ZvO h a.on
theorem ZEC {p q : P4} {a b : E} (h1 : RepE p a) (h2 : RepE q b) : ∃ c, Zcb p q = some c ∧ (c = true ↔ a = b) := by
  obtain ⟨c, k1, k2⟩ := ZEA h1 h2
  exact ⟨c, k1, k2.trans ⟨E.ext, fun h => by rw [h]⟩⟩
theorem ZA3 : RepE (z5, z5, z5, z5) 0 := ZEB
theorem ZED (N : Nat) (hN : 65 ≤ N) {x : P4} {a : E} (h : RepE x a) : ∃ c, ZeT N x = some c ∧ (c = true ↔ ordl • a = 0) := by
  obtain ⟨c, k1, k2⟩ := ZIX N hN h a.on
  refine ⟨c, k1, k2.trans ?_⟩
  rw [ZF5, ZHa]
  exact ⟨fun h => E.ext h, fun h => by rw [h]; rfl⟩
theorem yes {c : Bool} {p : Prop} (h : c = true ↔ p) (hp : p) : c = true := h.2 hp
theorem no {c : Bool} {p : Prop} (h : c = true ↔ p) (hp : ¬ p) : c = false := Bool.eq_false_iff.2 fun e => hp (h.1 e)
theorem ZzA (k x y : Nat) {a : N4} (ha : mulN natT k = a) (hx : x * a.2.2.1 % pN = a.1 % pN) (hy : y * a.2.2.1 % pN = a.2.1 % pN) : nmul kT k = (kn x, kn y) := by
  have h := ZvP ZDz kT_on k
  rw [ha] at h
  have hz : kn a.2.2.1 ≠ 0 := h.z
  have h1 : kn a.1 = (nmul kT k).1 * kn a.2.2.1 := h.x
  have h2 : kn a.2.1 = (nmul kT k).2 * kn a.2.2.1 := h.y
  have e1 := congrArg kn hx
  have e2 := congrArg kn hy
  rw [ZlF, ZlF, ZiI, h1] at e1
  rw [ZlF, ZlF, ZiI, h2] at e2
  refine Prod.ext (K.cancel hz ?_) (K.cancel hz ?_)
  · show kn a.2.2.1 * (nmul kT k).1 = kn a.2.2.1 * kn x
    rw [Lean.Grind.CommRing.mul_comm, ← e1, Lean.Grind.CommRing.mul_comm]
  · show kn a.2.2.1 * (nmul kT k).2 = kn a.2.2.1 * kn y
    rw [Lean.Grind.CommRing.mul_comm, ← e2, Lean.Grind.CommRing.mul_comm]
theorem ZLR (k : Nat) (h : k < 8) : torK k = (k • eT).p := by
  rw [E.ns_p]
  show torK k = nmul kT k
  rcases (by omega : k = 0 ∨ k = 1 ∨ k = 2 ∨ k = 3 ∨ k = 4 ∨ k = 5 ∨ k = 6 ∨ k = 7) with rfl | rfl | rfl | rfl | rfl | rfl | rfl | rfl
  · rfl
  · rw [ZzA 1 14399317868200118260347934320527232580618823971194345261214217575416788799818 2707385501144840649318225287225658788936804267575313519463743609750303402022 ZLS (by decide) (by decide)]
    exact Prod.ext (ZmS (by decide)) (ZmS (by decide))
  · rw [ZzA 2 19681161376707505956807079304988542015446066515923890162744021073123829784752 0 ZIt (by decide) (by decide)]
    exact Prod.ext (ZmS (by decide)) (ZmS (by decide))
  · rw [ZzA 3 14399317868200118260347934320527232580618823971194345261214217575416788799818 55188659117513257062467267217118295137698188065244968500265048394206261417927 ZLT (by decide) (by decide)]
    exact Prod.ext (ZmS (by decide)) (ZmS (by decide))
  · rw [ZzA 4 0 57896044618658097711785492504343953926634992332820282019728792003956564819948 ZI1 (by decide) (by decide)]
    exact Prod.ext (ZmS (by decide)) (ZmS (by decide))
  · rw [ZzA 5 43496726750457979451437558183816721346016168361625936758514574428539776020131 55188659117513257062467267217118295137698188065244968500265048394206261417927 ZLU (by decide) (by decide)]
    exact Prod.ext (ZmS (by decide)) (ZmS (by decide))
  · rw [ZzA 6 38214883241950591754978413199355411911188925816896391856984770930832735035197 0 ZLV (by decide) (by decide)]
    exact Prod.ext (ZmS (by decide)) (ZmS (by decide))
  · rw [ZzA 7 43496726750457979451437558183816721346016168361625936758514574428539776020131 2707385501144840649318225287225658788936804267575313519463743609750303402022 ZLW (by decide) (by decide)]
    exact Prod.ext (ZmS (by decide)) (ZmS (by decide))
theorem tor_E {a : Int} (h : -9223372036854775808 ≤ a ∧ a ≤ 9223372036854775807) : ∃ x y z t, Zb9 a = some (x, y, z, t) ∧ RepE (x, y, z, t) ((a % 8).toNat • eT) := by
  obtain ⟨x, y, z, t, h1, h2, -⟩ := ZIV h
  rw [ZLR _ (by omega)] at h2
  exact ⟨x, y, z, t, h1, h2⟩
theorem ZIv {k : Nat} (h : k < 8) : ∃ x y z t, Zb9 (k : Int) = some (x, y, z, t) ∧ RepE (x, y, z, t) (k • eT) := by
  obtain ⟨x, y, z, t, h1, h2⟩ := tor_E (a := (k : Int)) (by omega)
  rw [show ((k : Int) % 8).toNat = k by omega] at h2
  exact ⟨x, y, z, t, h1, h2⟩
end Go.Vx
set_option autoImplicit false
namespace Go.Vx
open Go
end Go.Vx
set_option autoImplicit false
set_option linter.unusedSimpArgs false
namespace Go.Vx
open Go
theorem ZHb {x y : P4} {a b : E} (h1 : RepE x a) (h2 : RepE y b) (h : a = b) : Zcb x y = some true := by
  obtain ⟨c, k1, k2⟩ := ZEC h1 h2
  rw [k1, k2.2 h]
theorem ZHc {x : P4} {a : E} (h : RepE x a) : RepE (Za8 x) (-a) := ZG6 h
theorem ZKL {x y : P4} {a b : E} (h1 : RepE x a) (h2 : RepE y b) : ∃ r, Zfx x y = some r ∧ RepE r (a + -b) := ZKI h1 h2 a.on b.on
end Go.Vx
set_option autoImplicit false
set_option linter.unusedSimpArgs false
namespace Go.Vx
open Go
def lowV (b : List Int) : Nat → Nat
  | 0 => 0
  | n + 1 => lowV b n + nib b n * 16 ^ n
theorem ZHd (b : List Int) : (n s : Nat) → (digs b n).foldl (fun s d => 16 * s + d) s = s * 16 ^ n + lowV b n
  | 0, s => by simp [digs, lowV]
  | n + 1, s => by
    rw [digs, List.foldl_cons, ZHd b n, lowV, Nat.pow_succ, Nat.add_mul]
    have : 16 * s * 16 ^ n = s * (16 ^ n * 16) := by rw [Nat.mul_comm 16 s, Nat.mul_assoc, Nat.mul_comm 16]
    omega
theorem ZKM (x : Int) (l : List Int) (i : Nat) : nib (x :: l) (i + 2) = nib l i := by
  unfold nib
  rw [show (i + 2) / 2 = i / 2 + 1 by omega, show (i + 2) % 2 = i % 2 by omega, List.getD_cons_succ]
theorem ZEE (x : Int) (l : List Int) : (n : Nat) → lowV (x :: l) (n + 2) = nib (x :: l) 0 + 16 * nib (x :: l) 1 + 256 * lowV l n
  | 0 => by simp only [lowV]; omega
  | n + 1 => by
    have h := ZEE x l n
    rw [show n + 1 + 2 = (n + 2) + 1 from rfl, lowV, h, ZKM, lowV, Nat.pow_add]
    rw [Nat.mul_add]
    have : nib l n * (16 ^ n * 16 ^ 2) = 256 * (nib l n * 16 ^ n) := by
      rw [show (16 : Nat) ^ 2 = 256 from rfl, ← Nat.mul_assoc, Nat.mul_comm _ 256]
    omega
theorem ZHe : (l : List Int) → (∀ x ∈ l, 0 ≤ x ∧ x ≤ 255) → lowV l (2 * l.length) = numB l
  | [], _ => rfl
  | x :: l, h => by
    have hx := h x (by simp)
    have ih := ZHe l (fun y hy => h y (by simp [hy]))
    rw [List.length_cons, show 2 * (l.length + 1) = 2 * l.length + 2 by omega, ZEE, ih, numB]
    have e0 : nib (x :: l) 0 = x.toNat / 1 % 16 := rfl
    have e1 : nib (x :: l) 1 = x.toNat / 16 % 16 := rfl
    rw [e0, e1]
    omega
theorem ZKN {b : List Int} (hb : L32 b) : (digs b 64).foldl (fun s d => 16 * s + d) 0 = numB b := by
  rw [ZHd, Nat.zero_mul, Nat.zero_add]
  have := ZHe b hb.2
  rw [hb.1] at this
  exact this
theorem ZHR (N : Nat) (hN : 65 ≤ N) {x : P4} {a : E} (h : RepE x a) {b : List Int} (hb : L32 b) : ∃ r, Zcu N x b = some r ∧ RepE r (numB b • a) := by
  obtain ⟨r, k1, k2⟩ := ZCY N hN h a.on hb
  rw [ZF5, ZKN hb] at k2
  exact ⟨r, k1, k2⟩
end Go.Vx
set_option autoImplicit false
set_option linter.unusedSimpArgs false
namespace Go.Vx
open Go
def U4 (a : List Int) : Prop := ∃ x0 x1 x2 x3, a = [x0, x1, x2, x3] ∧ U x0 ∧ U x1 ∧ U x2 ∧ U x3
def v4 (a : List Int) : Int := List.getD a 0 0 + List.getD a 1 0 * 18446744073709551616 + List.getD a 2 0 * 340282366920938463463374607431768211456 + List.getD a 3 0 * 6277101735386680763835789423207666416102355444464034512896
theorem Zs0 {x y c : Int} (hx : U x) (hy : U y) (hc : c = 0 ∨ c = 1) : ∃ r d, Zgm x y c = some (r, d) ∧ U r ∧ (d = 0 ∨ d = 1) ∧ r = x - y - c + d * 18446744073709551616 := by
  have hd : decide (c ≤ 1) = true := decide_eq_true (by omega)
  unfold U at hx hy
  by_cases h : x < y + c
  · refine ⟨_, 1, by unfold Zgm; rw [hd, cond_true, decide_eq_true h, cond_true], ?_, .inr rfl, ?_⟩
    · unfold U; omega
    · omega
  · refine ⟨_, 0, by unfold Zgm; rw [hd, cond_true, decide_eq_false h, cond_false], ?_, .inl rfl, ?_⟩
    · unfold U; omega
    · omega
theorem Zof {x y c : Int} (hx : U x) (hy : U y) (hc : c = 0 ∨ c = 1) : ∃ r d, Zen x y c = some (r, d) ∧ U r ∧ (d = 0 ∨ d = 1) ∧ r + d * 18446744073709551616 = x + y + c := by
  have hd : decide (c ≤ 1) = true := decide_eq_true (by omega)
  unfold U at hx hy
  refine ⟨_, _, by unfold Zen; rw [hd, cond_true], ?_, ?_, ?_⟩
  · unfold U; omega
  · omega
  · omega
theorem v4_mk (x0 x1 x2 x3 : Int) : v4 [x0, x1, x2, x3] = x0 + x1 * 18446744073709551616 + x2 * 340282366920938463463374607431768211456 + x3 * 6277101735386680763835789423207666416102355444464034512896 := rfl
theorem U4.rng {a : List Int} (h : U4 a) : 0 ≤ v4 a ∧ v4 a < 115792089237316195423570985008687907853269984665640564039457584007913129639936 := by
  obtain ⟨x0, x1, x2, x3, rfl, h0, h1, h2, h3⟩ := h
  unfold U at *
  rw [v4_mk]
  omega
theorem ZF6 {a b : List Int} (ha : U4 a) (hb : U4 b) : ∃ r c, ZgN a b = some (r, c) ∧ U4 r ∧ ((c = 0 ∧ v4 b ≤ v4 a ∧ v4 r = v4 a - v4 b) ∨ (c = 1 ∧ v4 a < v4 b ∧ v4 r = v4 a - v4 b + 115792089237316195423570985008687907853269984665640564039457584007913129639936)) := by
  obtain ⟨x0, x1, x2, x3, rfl, a0, a1, a2, a3⟩ := ha
  obtain ⟨y0, y1, y2, y3, rfl, b0, b1, b2, b3⟩ := hb
  obtain ⟨r0, c0, h0, u0, d0, e0⟩ := Zs0 a0 b0 (.inl rfl)
  obtain ⟨r1, c1, h1, u1, d1, e1⟩ := Zs0 a1 b1 d0
  obtain ⟨r2, c2, h2, u2, d2, e2⟩ := Zs0 a2 b2 d1
  obtain ⟨r3, c3, h3, u3, d3, e3⟩ := Zs0 a3 b3 d2
  refine ⟨[r0, r1, r2, r3], c3, ?_, ⟨_, _, _, _, rfl, u0, u1, u2, u3⟩, ?_⟩
  · unfold ZgN
    simp only [List.getD_cons_zero, List.getD_cons_succ, h0, h1, h2, h3, mo]
  · have hr : U4 [r0, r1, r2, r3] := ⟨_, _, _, _, rfl, u0, u1, u2, u3⟩
    have rr := hr.rng
    rw [v4_mk] at rr ⊢
    rw [v4_mk, v4_mk]
    rcases d3 with rfl | rfl
    · left
      refine ⟨rfl, ?_, ?_⟩ <;> omega
    · right
      refine ⟨rfl, ?_, ?_⟩ <;> omega
theorem ZLX {a b : List Int} (ha : U4 a) (hb : U4 b) : ∃ r c, ZjD a b = some (r, c) ∧ U4 r ∧ (c = 0 ∨ c = 1) ∧ v4 r + c * 115792089237316195423570985008687907853269984665640564039457584007913129639936 = v4 a + v4 b := by
  obtain ⟨x0, x1, x2, x3, rfl, a0, a1, a2, a3⟩ := ha
  obtain ⟨y0, y1, y2, y3, rfl, b0, b1, b2, b3⟩ := hb
  obtain ⟨r0, c0, h0, u0, d0, e0⟩ := Zof a0 b0 (.inl rfl)
  obtain ⟨r1, c1, h1, u1, d1, e1⟩ := Zof a1 b1 d0
  obtain ⟨r2, c2, h2, u2, d2, e2⟩ := Zof a2 b2 d1
  obtain ⟨r3, c3, h3, u3, d3, e3⟩ := Zof a3 b3 d2
  refine ⟨[r0, r1, r2, r3], c3, ?_, ⟨_, _, _, _, rfl, u0, u1, u2, u3⟩, d3, ?_⟩
  · unfold ZjD
    simp only [List.getD_cons_zero, List.getD_cons_succ, h0, h1, h2, h3, mo]
  · rw [v4_mk, v4_mk, v4_mk]
    omega
theorem ZDA {x : Int} (h : U x) : ibin .and .u64 x 18446744073709551615 = x := by
  unfold U at h
  rw [u_and h.1 (by omega) (by decide) (by decide), show (18446744073709551615 : Int).toNat = 2 ^ 64 - 1 from rfl, Nat.and_two_pow_sub_one_eq_mod]
  omega
theorem ZHf {x : Int} (h : U x) : ibin .and .u64 x 0 = 0 := by
  unfold U at h
  rw [u_and h.1 (by omega) (by decide) (by decide)]
  simp
theorem or_no {x : Int} (h : U x) : ibin .or .u64 x 0 = x := by
  unfold U at h
  show IntKind.wrap .u64 ((BitVec.ofInt 64 x ||| BitVec.ofInt 64 0).toNat : Int) = x
  rw [show BitVec.ofInt 64 0 = 0#64 from rfl, BitVec.or_zero, ofInt64 h.1 (by omega), wrap64]
  omega
theorem no_or {x : Int} (h : U x) : ibin .or .u64 0 x = x := by
  unfold U at h
  show IntKind.wrap .u64 ((BitVec.ofInt 64 0 ||| BitVec.ofInt 64 x).toNat : Int) = x
  rw [show BitVec.ofInt 64 0 = 0#64 from rfl, BitVec.zero_or, ofInt64 h.1 (by omega), wrap64]
  omega
theorem ZHS (x : Int) : ibin .andNot .u64 x 18446744073709551615 = 0 := by
  show IntKind.wrap .u64 ((BitVec.ofInt 64 x &&& ~~~(BitVec.ofInt 64 18446744073709551615)).toNat : Int) = 0
  rw [show ~~~(BitVec.ofInt 64 18446744073709551615) = 0#64 by decide, BitVec.and_zero]
  rfl
theorem ZvQ {x : Int} (h : U x) : ibin .andNot .u64 x 0 = x := by
  unfold U at h
  show IntKind.wrap .u64 ((BitVec.ofInt 64 x &&& ~~~(BitVec.ofInt 64 0)).toNat : Int) = x
  rw [show ~~~(BitVec.ofInt 64 0) = BitVec.allOnes 64 by decide, BitVec.and_allOnes, ofInt64 h.1 (by omega), wrap64]
  omega
theorem ZDB {a b : List Int} (ha : U4 a) (hb : U4 b) : Zec (ineg .u64 0) a b = b ∧ Zec (ineg .u64 1) a b = a := by
  obtain ⟨x0, x1, x2, x3, rfl, a0, a1, a2, a3⟩ := ha
  obtain ⟨y0, y1, y2, y3, rfl, b0, b1, b2, b3⟩ := hb
  have z : U 0 := ⟨by decide, by decide⟩
  constructor
  · rw [show ineg .u64 0 = 0 from rfl]
    unfold Zec
    simp only [List.getD_cons_zero, List.getD_cons_succ, List.set_cons_zero, List.set_cons_succ, ZHf a0, ZHf a1, ZHf a2, ZHf a3, ZvQ b0, ZvQ b1, ZvQ b2, ZvQ b3, no_or b0, no_or b1, no_or b2, no_or b3]
  · rw [show ineg .u64 1 = 18446744073709551615 from rfl]
    unfold Zec
    simp only [List.getD_cons_zero, List.getD_cons_succ, List.set_cons_zero, List.set_cons_succ, ZDA a0, ZDA a1, ZDA a2, ZDA a3, ZHS, or_no a0, or_no a1, or_no a2, or_no a3]
abbrev lL : List Int := [6346243789798364141, 1503914060200516822, 0, 1152921504606846976]
theorem lL_U : U4 lL := ⟨_, _, _, _, rfl, ⟨by decide, by decide⟩, ⟨by decide, by decide⟩, ⟨by decide, by decide⟩, ⟨by decide, by decide⟩⟩
theorem lL_v : v4 lL = 7237005577332262213973186563042994240857116359379907606001950938285454250989 := by decide
theorem ZI2 {a : List Int} (ha : U4 a) (h : v4 a < 2 * 7237005577332262213973186563042994240857116359379907606001950938285454250989) : ∃ r, Zj4 a = some r ∧ U4 r ∧ 0 ≤ v4 r ∧ v4 r < 7237005577332262213973186563042994240857116359379907606001950938285454250989 ∧ (v4 r = v4 a ∨ v4 r = v4 a - 7237005577332262213973186563042994240857116359379907606001950938285454250989) := by
  obtain ⟨r, c, h1, u, hc⟩ := ZF6 ha lL_U
  rw [lL_v] at hc
  have ra := ha.rng
  obtain ⟨k0, k1⟩ := ZDB ha u
  unfold Zj4
  rcases hc with ⟨rfl, g1, g2⟩ | ⟨rfl, g1, g2⟩
  · exact ⟨r, by simp only [h1, mo, k0], u, by omega, by omega, .inr g2⟩
  · exact ⟨a, by simp only [h1, mo, k1], ha, ra.1, g1, .inl rfl⟩
theorem sleast {a : List Int} (ha : U4 a) : ∃ r, Zcj a = some r ∧ U4 r ∧ 0 ≤ v4 r ∧ v4 r < 7237005577332262213973186563042994240857116359379907606001950938285454250989 ∧ ∃ k : Int, 0 ≤ k ∧ k < 16 ∧ v4 a = v4 r + k * 7237005577332262213973186563042994240857116359379907606001950938285454250989 := by
  have rng := ha.rng
  obtain ⟨x0, x1, x2, x3, rfl, a0, a1, a2, a3⟩ := ha
  unfold Zcj
  by_cases hs : x3 < 1152921504606846976
  · have hc : icmp .lss (List.getD [x0, x1, x2, x3] 3 0) 1152921504606846976 = true := decide_eq_true hs
    refine ⟨_, by rw [hc, cond_true], ⟨_, _, _, _, rfl, a0, a1, a2, a3⟩, rng.1, ?_, 0, by decide, by decide, by omega⟩
    rw [v4_mk]
    unfold U at *
    omega
  · have hc : icmp .lss (List.getD [x0, x1, x2, x3] 3 0) 1152921504606846976 = false := decide_eq_false hs
    rw [hc, cond_false]
    have hq : ibin .shr .u64 (List.getD [x0, x1, x2, x3] 3 0) 60 = x3 / 1152921504606846976 := u_shr (a := x3) 60 (by decide)
    have hm : ibin .and .u64 (List.getD [x0, x1, x2, x3] 3 0) 1152921504606846975 = x3 % 1152921504606846976 := by
      unfold U at a3
      show ibin .and .u64 x3 1152921504606846975 = _
      rw [u_and a3.1 (by omega) (by decide) (by decide), show (1152921504606846975 : Int).toNat = 2 ^ 60 - 1 from rfl, Nat.and_two_pow_sub_one_eq_mod]
      omega
    rw [hq, hm]
    generalize hQ : x3 / 1152921504606846976 = q
    generalize hL : x3 % 1152921504606846976 = m
    have q16 : 0 ≤ q ∧ q < 16 := by unfold U at a3; omega
    have hm60 : 0 ≤ m ∧ m < 1152921504606846976 := by omega
    have hx3 : x3 = q * 1152921504606846976 + m := by omega
    have uq : U q := ⟨q16.1, by omega⟩
    have t0 : U 6346243789798364141 := ⟨by decide, by decide⟩
    have t1 : U 1503914060200516822 := ⟨by decide, by decide⟩
    rw [ZxU uq t0, ZxU uq t1]
    simp only
    have p0 : U (q * 6346243789798364141 % 18446744073709551616) := ⟨by omega, by omega⟩
    have p1 : U (q * 1503914060200516822 % 18446744073709551616) := ⟨by omega, by omega⟩
    have p2 : U (q * 6346243789798364141 / 18446744073709551616) := ⟨by omega, by omega⟩
    obtain ⟨s1, d1, h1, u1, e1, f1⟩ := Zof p1 p2 (.inl rfl)
    have hset : List.set [x0, x1, x2, x3] 3 m = [x0, x1, x2, m] := rfl
    rw [hset]
    have um : U m := ⟨hm60.1, by omega⟩
    have hadd : ibin .add .u64 (q * 1503914060200516822 / 18446744073709551616) d1 = q * 1503914060200516822 / 18446744073709551616 + d1 := by
      rw [u_add]
      omega
    have u2 : U (q * 1503914060200516822 / 18446744073709551616 + d1) := ⟨by omega, by omega⟩
    have z : U 0 := ⟨by decide, by decide⟩
    have lowU : U4 [x0, x1, x2, m] := ⟨_, _, _, _, rfl, a0, a1, a2, um⟩
    have cU : U4 [q * 6346243789798364141 % 18446744073709551616, s1, q * 1503914060200516822 / 18446744073709551616 + d1, 0] := ⟨_, _, _, _, rfl, p0, u1, u2, z⟩
    have cv : v4 [q * 6346243789798364141 % 18446744073709551616, s1, q * 1503914060200516822 / 18446744073709551616 + d1, 0] = q * 27742317777372353535851937790883648493 := by
      rw [v4_mk]
      omega
    have lv : v4 [x0, x1, x2, x3] = q * 7237005577332262213973186563042994240829374041602535252466099000494570602496 + v4 [x0, x1, x2, m] := by
      rw [v4_mk, v4_mk, hx3]
      omega
    have lr : 0 ≤ v4 [x0, x1, x2, m] ∧ v4 [x0, x1, x2, m] < 7237005577332262213973186563042994240829374041602535252466099000494570602496 := by
      rw [v4_mk]
      unfold U at a0 a1 a2
      omega
    obtain ⟨r, c, h2, ur, hcr⟩ := ZF6 lowU cU
    rw [cv] at hcr
    obtain ⟨e, g, h3, ue, hg, heq⟩ := ZLX ur lL_U
    rw [lL_v] at heq
    obtain ⟨k0, k1⟩ := ZDB ue ur
    have re := ue.rng
    have rr := ur.rng
    rw [lv]
    generalize v4 [x0, x1, x2, m] = low at *
    simp only [h1, hadd, h2, h3, mo]
    rcases hcr with ⟨rfl, g1, g2⟩ | ⟨rfl, g1, g2⟩
    · rw [k0]
      obtain ⟨w, j1, j2, j3, j4, j5⟩ := ZI2 ur (by omega)
      refine ⟨w, by rw [j1], j2, j3, j4, q, q16.1, q16.2, ?_⟩
      rcases j5 with j5 | j5 <;> omega
    · rw [k1]
      obtain ⟨w, j1, j2, j3, j4, j5⟩ := ZI2 ue (by omega)
      refine ⟨w, by rw [j1], j2, j3, j4, q - 1, by omega, by omega, ?_⟩
      rcases j5 with j5 | j5 <;> omega
end Go.Vx
set_option autoImplicit false
set_option linter.unusedSimpArgs false
namespace Go.Vx
open Go
theorem inc32 {k : Nat} (h : k < 32) : ibin .add .i64 (k : Int) 1 = ((k + 1 : Nat) : Int) := by rw [Ref.i_add (by omega) (by omega)]; omega
abbrev oB : List Int := [237, 211, 245, 92, 26, 99, 18, 88, 214, 156, 247, 162, 222, 249, 222, 20, 0, 0, 0, 0, 0, 0, 0, 0, 0, 0, 0, 0, 0, 0, 0, 16]
end Go.Vx
set_option autoImplicit false
set_option linter.unusedSimpArgs false
namespace Go.Vx
open Go
abbrev enc4 (x0 x1 x2 x3 : Int) : List Int := [IntKind.wrap .u8 (ibin .shr .u64 x0 0), IntKind.wrap .u8 (ibin .shr .u64 x0 8), IntKind.wrap .u8 (ibin .shr .u64 x0 16), IntKind.wrap .u8 (ibin .shr .u64 x0 24), IntKind.wrap .u8 (ibin .shr .u64 x0 32), IntKind.wrap .u8 (ibin .shr .u64 x0 40), IntKind.wrap .u8 (ibin .shr .u64 x0 48), IntKind.wrap .u8 (ibin .shr .u64 x0 56),
  IntKind.wrap .u8 (ibin .shr .u64 x1 0), IntKind.wrap .u8 (ibin .shr .u64 x1 8), IntKind.wrap .u8 (ibin .shr .u64 x1 16), IntKind.wrap .u8 (ibin .shr .u64 x1 24), IntKind.wrap .u8 (ibin .shr .u64 x1 32), IntKind.wrap .u8 (ibin .shr .u64 x1 40), IntKind.wrap .u8 (ibin .shr .u64 x1 48), IntKind.wrap .u8 (ibin .shr .u64 x1 56),
  IntKind.wrap .u8 (ibin .shr .u64 x2 0), IntKind.wrap .u8 (ibin .shr .u64 x2 8), IntKind.wrap .u8 (ibin .shr .u64 x2 16), IntKind.wrap .u8 (ibin .shr .u64 x2 24), IntKind.wrap .u8 (ibin .shr .u64 x2 32), IntKind.wrap .u8 (ibin .shr .u64 x2 40), IntKind.wrap .u8 (ibin .shr .u64 x2 48), IntKind.wrap .u8 (ibin .shr .u64 x2 56),
  IntKind.wrap .u8 (ibin .shr .u64 x3 0), IntKind.wrap .u8 (ibin .shr .u64 x3 8), IntKind.wrap .u8 (ibin .shr .u64 x3 16), IntKind.wrap .u8 (ibin .shr .u64 x3 24), IntKind.wrap .u8 (ibin .shr .u64 x3 32), IntKind.wrap .u8 (ibin .shr .u64 x3 40), IntKind.wrap .u8 (ibin .shr .u64 x3 48), IntKind.wrap .u8 (ibin .shr .u64 x3 56)]
theorem ZIA {x0 x1 x2 x3 : Int} (h0 : U x0) (h1 : U x1) (h2 : U x2) (h3 : U x3) : L32 (enc4 x0 x1 x2 x3) ∧ (numB (enc4 x0 x1 x2 x3) : Int) = v4 [x0, x1, x2, x3] := by
  constructor
  · refine ⟨rfl, fun y hy => ?_⟩
    simp only [enc4, List.mem_cons, List.not_mem_nil, or_false] at hy
    rcases hy with rfl | rfl | rfl | rfl | rfl | rfl | rfl | rfl | rfl | rfl | rfl | rfl | rfl | rfl | rfl | rfl | rfl | rfl | rfl | rfl | rfl | rfl | rfl | rfl | rfl | rfl | rfl | rfl | rfl | rfl | rfl | rfl <;> exact ZCZ _
  · rw [bytes8 h0, bytes8 h1, bytes8 h2, bytes8 h3, v4_mk]
    simp only [numB]
    omega
theorem ZKO (N f : Nat) (x0 x1 x2 x3 : Int) : loopF (Zdp N) (f + 33) (((), (), (), 0), ([x0, x1, x2, x3], (), [0, 0, 0, 0, 0, 0, 0, 0, 0, 0, 0, 0, 0, 0, 0, 0, 0, 0, 0, 0, 0, 0, 0, 0, 0, 0, 0, 0, 0, 0, 0, 0])) = some (.inl (((), ()), ((), enc4 x0 x1 x2 x3))) := by kernel_rfl
theorem ZAT {x r q L : Nat} (h : x = r + q * L) (hr : r < L) : r = x % L := by rw [h, Nat.add_mul_mod_self_right, Nat.mod_eq_of_lt hr]
abbrev sc (a : List Int) : Nat := (v4 a).toNat % ordl
theorem sc_lt (a : List Int) : sc a < ordl := Nat.mod_lt _ (by decide)
theorem ZKP (N : Nat) (hN : 33 ≤ N) {a : List Int} (ha : U4 a) : ∃ b, Zd6 N a = some b ∧ L32 b ∧ numB b = sc a := by
  obtain ⟨r, h1, hr, h2, h3, k, k0, k16, hk⟩ := sleast ha
  obtain ⟨x0, x1, x2, x3, rfl, u0, u1, u2, u3⟩ := hr
  obtain ⟨f, rfl⟩ : ∃ f, N = f + 33 := ⟨N - 33, by omega⟩
  obtain ⟨e1, e2⟩ := ZIA u0 u1 u2 u3
  refine ⟨enc4 x0 x1 x2 x3, ?_, e1, ?_⟩
  · unfold Zd6
    simp only [h1, ZKO, mo]
  · have ra := ha.rng
    refine ZAT (q := k.toNat) ?_ ?_
    · unfold ordl
      omega
    · unfold ordl
      omega
theorem ZA4 (N : Nat) (hN : 65 ≤ N) {x : P4} {e : E} (h : RepE x e) {a : List Int} (ha : U4 a) : ∃ r, Zdh N x a = some r ∧ RepE r (sc a • e) := by
  obtain ⟨b, h1, h2, h3⟩ := ZKP N (by omega) ha
  obtain ⟨⟨r1, r2, r3, r4⟩, h4, h5⟩ := ZHR N hN h h2
  rw [h3] at h5
  refine ⟨(r1, r2, r3, r4), ?_, h5⟩
  obtain ⟨x1, x2, x3, x4⟩ := x
  unfold Zdh
  simp only [h1, h4, mo]
theorem u4_of {f : List Int} (hf : f.length = 4 ∧ ∀ x ∈ f, IntKind.u64.min ≤ x ∧ x ≤ IntKind.u64.max) : U4 f := by
  obtain ⟨h1, h2⟩ := hf
  match f, h1 with
  | [x0, x1, x2, x3], _ =>
    have g (x : Int) (h : IntKind.u64.min ≤ x ∧ x ≤ IntKind.u64.max) : U x := by
      have h3 : (0 : Int) ≤ x := h.1
      have h4 : x ≤ 18446744073709551615 := h.2
      unfold U; omega
    exact ⟨x0, x1, x2, x3, rfl, g _ (h2 x0 (by simp)), g _ (h2 x1 (by simp)), g _ (h2 x2 (by simp)), g _ (h2 x3 (by simp))⟩
end Go.Vx
set_option autoImplicit false
set_option linter.unusedSimpArgs false
namespace Go.Vx
open Go
structure Lm (r : List Int) (n : Nat) : Prop where
  u : U4 r
  v : v4 r = n
  lt : n < ordl
theorem Lm.uniq {r s : List Int} {n : Nat} (h : Lm r n) (g : Lm s n) : r = s := by
  obtain ⟨⟨x0, x1, x2, x3, rfl, a0, a1, a2, a3⟩, hv, -⟩ := h
  obtain ⟨⟨y0, y1, y2, y3, rfl, b0, b1, b2, b3⟩, gv, -⟩ := g
  rw [v4_mk] at hv gv
  unfold U at *
  have e0 : x0 = y0 := by omega
  have e1 : x1 = y1 := by omega
  have e2 : x2 = y2 := by omega
  have e3 : x3 = y3 := by omega
  rw [e0, e1, e2, e3]
theorem Lm.sc {r : List Int} {n : Nat} (h : Lm r n) : sc r = n := by
  show (v4 r).toNat % ordl = n
  rw [h.v, Int.toNat_natCast, Nat.mod_eq_of_lt h.lt]
theorem sleast' {a : List Int} (ha : U4 a) : ∃ r, Zcj a = some r ∧ Lm r (sc a) := by
  obtain ⟨r, h1, hr, h2, h3, k, k0, k16, hk⟩ := sleast ha
  have e : (v4 r).toNat = sc a := by
    have ra := ha.rng
    refine ZAT (q := k.toNat) ?_ ?_
    · unfold ordl; omega
    · unfold ordl; omega
  exact ⟨r, h1, hr, by omega, by rw [← e]; unfold ordl; omega⟩
theorem ZFV : Lm [0, 0, 0, 0] 0 := ⟨⟨_, _, _, _, rfl, ⟨by decide, by decide⟩, ⟨by decide, by decide⟩, ⟨by decide, by decide⟩, ⟨by decide, by decide⟩⟩, rfl, by decide⟩
theorem ssub_k {a b : List Int} (ha : U4 a) (hb : U4 b) : ∃ r, Zfy a b = some r ∧ Lm r ((sc a + (ordl - sc b)) % ordl) := by
  obtain ⟨x, h1, k1⟩ := sleast' ha
  obtain ⟨y, h2, k2⟩ := sleast' hb
  obtain ⟨d, c, h3, ud, hd⟩ := ZF6 k1.u k2.u
  obtain ⟨e, g, h4, ue, hg, hv⟩ := ZLX ud lL_U
  obtain ⟨c0, c1⟩ := ZDB ue ud
  have l1 := k1.lt
  have l2 := k2.lt
  rw [k1.v, k2.v] at hd
  rw [lL_v] at hv
  have re := ue.rng
  have rd := ud.rng
  unfold Zfy
  rcases hd with ⟨rfl, g1, g2⟩ | ⟨rfl, g1, g2⟩
  · refine ⟨d, by simp only [h1, h2, h3, h4, mo, c0], ud, ?_, Nat.mod_lt _ (by decide)⟩
    have e : (v4 d).toNat = (sc a + (ordl - sc b)) % ordl := ZAT (q := 1) (by rw [Nat.one_mul]; omega) (by omega)
    omega
  · refine ⟨e, by simp only [h1, h2, h3, h4, mo, c1], ue, ?_, Nat.mod_lt _ (by decide)⟩
    have e1 : (v4 e).toNat = sc a + (ordl - sc b) := by unfold ordl at *; omega
    have e : (v4 e).toNat = (sc a + (ordl - sc b)) % ordl := ZAT (q := 0) (by omega) (by omega)
    omega
theorem sneg_k {a : List Int} (ha : U4 a) : ∃ r, Zfz a = some r ∧ Lm r ((ordl - sc a) % ordl) := by
  obtain ⟨r, h1, h2⟩ := ssub_k ZFV.u ha
  rw [ZFV.sc, Nat.zero_add] at h2
  exact ⟨r, by unfold Zfz; simp only [h1, mo], h2⟩
def v5 (t : List Int) : Int := List.getD t 0 0 + List.getD t 1 0 * 18446744073709551616 + List.getD t 2 0 * 340282366920938463463374607431768211456 + List.getD t 3 0 * 6277101735386680763835789423207666416102355444464034512896 + List.getD t 4 0 * 115792089237316195423570985008687907853269984665640564039457584007913129639936
theorem ZeK {α β γ : Type} {b : α → Option (α ⊕ (β ⊕ γ))} {v w : α} (h : b v = some (.inl w)) (f : Nat) : loopF b (f + 1) v = loopF b f w := by rw [Zb8, h]; rfl
theorem Zhg {α β γ : Type} {b : α → Option (α ⊕ (β ⊕ γ))} {v : α} {x : β ⊕ γ} (h : b v = some (.inr x)) (f : Nat) : loopF b (f + 1) v = some x := by rw [Zb8, h]; rfl
end Go.Vx
set_option autoImplicit false
set_option linter.unusedSimpArgs false
namespace Go.Vx
open Go
instance : Std.Associative (α := E) (· + ·) := ⟨E.add_assoc⟩
instance : Std.Commutative (α := E) (· + ·) := ⟨E.add_comm⟩
theorem gadd {x y : P4} {a b : E} (h1 : RepE x a) (h2 : RepE y b) : ∃ u v z t, ZcA x y = some (u, v, z, t) ∧ RepE (u, v, z, t) (a + b) := by
  obtain ⟨⟨u, v, z, t⟩, k1, k2⟩ := ZAN h1 h2
  obtain ⟨x1, x2, x3, x4⟩ := x
  obtain ⟨y1, y2, y3, y4⟩ := y
  exact ⟨u, v, z, t, by unfold ZcA; simp only [k1, mo], k2⟩
theorem gdbl {x : P4} {a : E} (h1 : RepE x a) : ∃ u v z t, ZeZ x = some (u, v, z, t) ∧ RepE (u, v, z, t) (a + a) := by
  obtain ⟨⟨u, v, z, t⟩, k1, k2⟩ := ZpP h1
  obtain ⟨x1, x2, x3, x4⟩ := x
  exact ⟨u, v, z, t, by unfold ZeZ; simp only [k1, mo], k2⟩
theorem gneg {x : P4} {a : E} (h1 : RepE x a) : RepE (Zeu x) (-a) := ZHc h1
theorem four (x : E) : x + x + (x + x) = (4 : Nat) • x := by
  rw [show (4 : Nat) = 1 + 1 + (1 + 1) from rfl, E.ns_add, E.ns_add, E.ns_one]
theorem gsame {x y : P4} {a b : E} (h1 : RepE x a) (h2 : RepE y b) : ∃ c, ZdZ x y = some c ∧ (c = true ↔ Eqv a b) := by
  obtain ⟨⟨u1, u2, u3, u4⟩, k1, r1⟩ := ZKL h1 h2
  obtain ⟨⟨v1, v2, v3, v4⟩, k2, r2⟩ := ZpP r1
  obtain ⟨⟨w1, w2, w3, w4⟩, k3, r3⟩ := ZpP r2
  obtain ⟨c, k4, e4⟩ := ZEC r3 ZA3
  rw [four] at e4
  obtain ⟨x1, x2, x3, x4⟩ := x
  obtain ⟨y1, y2, y3, y4⟩ := y
  refine ⟨c, ?_, e4⟩
  unfold ZdZ
  simp only [k1, k2, k3, k4, mo]
theorem eqv_opp {e : E} (he : Ev e) {m k : Nat} (h : (k + m) % ordl = 0) : Eqv (-(m • e)) (k • e) := by
  have h1 : Eqv ((k + m) • e) 0 := by
    have := eqv_mod he (m := k + m) (n := 0) (by rw [h]; rfl)
    rwa [E.ns_zero] at this
  rw [E.ns_add] at h1
  have h2 := h1.symm.add (Eqv.of_eq (rfl : -(m • e) = -(m • e)))
  rw [E.zero_add, E.add_assoc, E.add_neg, E.add_zero] at h2
  exact h2
theorem mod_opp {k l : Nat} (h : k < l) : (k + (l - k) % l) % l = 0 := by
  rw [Nat.add_mod, Nat.mod_mod, ← Nat.add_mod, show k + (l - k) = l by omega, Nat.mod_self]
theorem gtimes (N : Nat) (hN : 65 ≤ N) {x : P4} {e : E} (h : RepE x e) (he : Ev e) {a : List Int} (ha : U4 a) : ∃ u v z t f, ZfA N x a = some (u, v, z, t) ∧ RepE (u, v, z, t) f ∧ Eqv f (sc a • e) ∧ Ev f := by
  obtain ⟨r1, h1, k1⟩ := sleast' ha
  obtain ⟨r2, h2, k2⟩ := sneg_k k1.u
  obtain ⟨⟨u1, u2, u3, u4⟩, h3, k3⟩ := ZA4 N hN h k1.u
  obtain ⟨⟨v1, v2, v3, v4⟩, h4, k4⟩ := ZA4 N hN h k2.u
  rw [k1.sc] at k3
  rw [k1.sc] at k2
  rw [k2.sc] at k4
  obtain ⟨x1, x2, x3, x4⟩ := x
  unfold ZfA
  simp only [h1, h2, mo]
  have main : ∃ u v z t f, some (u1, u2, u3, u4) = some (u, v, z, t) ∧ RepE (u, v, z, t) f ∧ Eqv f (sc a • e) ∧ Ev f := ⟨_, _, _, _, _, rfl, k3, .of_eq rfl, ev_ns he _⟩
  cases Zog r1
  · cases Zog r2
    · simp only [Bool.not_false, cond_true, cond_false, h3, mo]
      exact main
    · simp only [Bool.not_false, cond_true, cond_false, h4, mo]
      refine ⟨_, _, _, _, _, rfl, ZHc k4, ?_, ev_neg (ev_ns he _)⟩
      refine eqv_opp he ?_
      exact mod_opp k1.lt
  · simp only [Bool.not_true, cond_false, h3, mo]
    exact main
theorem ZLJ : RepE (ZbN.1, ZbN.2.1, ZbN.2.2.1, ZbN.2.2.2) eB := ZKK
end Go.Vx
set_option autoImplicit false
set_option linter.unusedSimpArgs false
namespace Go.Vx
open Go
theorem enc_E {p1 p2 p3 p4 : List Int} {a : E} (h : RepE (p1, p2, p3, p4) a) (ev : Ev a) : ∃ s X Y, ZaR 300 (p1, p2, p3, p4) = some (ZaB s) ∧ Can s ∧ Stands (kv s) X Y ∧ Rel a.p.1 a.p.2 X Y := by
  obtain ⟨x, y, k1, k2, k3, k4, k5⟩ := Rep.affine h
  obtain ⟨q, hq⟩ := ev
  have on : a.p.2 ^ 2 - a.p.1 ^ 2 = 1 + kD * a.p.1 ^ 2 * a.p.2 ^ 2 := a.on
  have := pencode k1 k2 k3 (by rw [k4, k5]; exact on) (by rw [k5]; exact hq)
  rw [k4, k5] at this
  exact this
theorem enc_iff {p1 p2 p3 p4 q1 q2 q3 q4 : List Int} {a b : E} (h : RepE (p1, p2, p3, p4) a) (g : RepE (q1, q2, q3, q4) b) (ea : Ev a) (eb : Ev b) :
    ∃ c d, ZaR 300 (p1, p2, p3, p4) = some c ∧ ZaR 300 (q1, q2, q3, q4) = some d ∧ L32 c ∧ L32 d ∧ (c = d ↔ Eqv a b) := by
  obtain ⟨s, X, Y, k1, k2, k3, k4⟩ := enc_E h ea
  obtain ⟨t, u, v, g1, g2, g3, g4⟩ := enc_E g eb
  have ds := Zum k2
  have dt := Zum g2
  refine ⟨_, _, k1, g1, ds.1, dt.1, fun e => ?_, fun e => ?_⟩
  · have est : s = t := by
      have e1 := ds.2.1
      rw [e, dt.2.1] at e1
      exact (Prod.mk.inj e1).1.symm
    subst est
    obtain ⟨e1, e2⟩ := k3.same g3
    rw [e1, e2] at k4
    exact ZI3.2 (k4.trans g4.back)
  · have r := ZI3.1 e
    have r2 : Rel u v X Y := (g4.back.trans r.back).trans k4
    rw [can_k k2 g2 (k3.uniq g3 r2).1]
theorem ZIF (N : Nat) (hN : 65 ≤ N) {x : P4} {a : E} (h : RepE x a) (h4 : (4 * ordl) • a = 0) : Zcl N x = some (x, 0) := by
  obtain ⟨u, k1, k2⟩ := ZpP h
  obtain ⟨v, k3, k4⟩ := ZpP k2
  obtain ⟨c, k5, k6⟩ := ZED N hN k4
  obtain ⟨x1, x2, x3, x4⟩ := x
  obtain ⟨u1, u2, u3, u4⟩ := u
  obtain ⟨v1, v2, v3, v4⟩ := v
  have hc : c = true := k6.2 (by rw [four, ← E.ns_mul, Nat.mul_comm]; exact h4)
  unfold Zcl
  simp only [k1, k3, k5, hc, mo, Bool.not_true, cond_false]
theorem from_no (N : Nat) (hN : 65 ≤ N) {x : P4} {a : E} (h : RepE x a) (h4 : (4 * ordl) • a ≠ 0) : Zcl N x = some ((z5, z5, z5, z5), 50) := by
  obtain ⟨u, k1, k2⟩ := ZpP h
  obtain ⟨v, k3, k4⟩ := ZpP k2
  obtain ⟨c, k5, k6⟩ := ZED N hN k4
  obtain ⟨x1, x2, x3, x4⟩ := x
  obtain ⟨u1, u2, u3, u4⟩ := u
  obtain ⟨v1, v2, v3, v4⟩ := v
  have hc : c = false := Bool.eq_false_iff.2 fun e => h4 (by rw [Nat.mul_comm, E.ns_mul, ← four]; exact k6.1 e)
  unfold Zcl
  simp only [k1, k3, k5, hc, mo, Bool.not_false, cond_true]
def cp (a : E) (k : Nat) : E := a + (2 * k) • eT
theorem eT_4l : (4 * ordl) • eT ≠ 0 := fun h => by
  rw [E.ns_mod T8] at h
  exact T4 (by rw [← h]; rfl)
theorem cp_4l {a : E} (h : (4 * ordl) • a = 0) (k : Nat) : (4 * ordl) • cp a k = 0 := by
  unfold cp
  rw [E.ns_sum, h, E.zero_add, ← E.ns_mul, show 4 * ordl * (2 * k) = ordl * k * 8 by simp only [Nat.mul_assoc, Nat.mul_comm, Nat.mul_left_comm], E.ns_mul, T8, E.ns_z]
theorem cp_odd {a : E} (h : (4 * ordl) • a = 0) (k i : Nat) : (4 * ordl) • (cp a k + (2 * i + 1) • eT) ≠ 0 := fun h0 => by
  rw [E.ns_sum, cp_4l h, E.zero_add, ← E.ns_mul, Nat.mul_add, Nat.mul_one, E.ns_add, show 4 * ordl * (2 * i) = ordl * i * 8 by simp only [Nat.mul_assoc, Nat.mul_comm, Nat.mul_left_comm], E.ns_mul, T8, E.ns_z, E.zero_add] at h0
  exact eT_4l h0
theorem ev_cp {a : E} (h : Ev a) (k : Nat) : Ev (cp a k) := by
  refine Zod h ?_
  rw [Nat.mul_comm, E.ns_mul]
  refine ev_ns ?_ k
  have h2 : ((2 : Nat) • eT).p.2 = 0 := by rw [← ZLR 2 (by decide)]; rfl
  show Even ((2 : Nat) • eT).p.2
  rw [h2]
  exact ⟨1, by grind⟩
end Go.Vx
set_option autoImplicit false
set_option linter.unusedSimpArgs false
namespace Go.Vx
open Go
theorem ZI4 {x y : P4} {a : E} (h : RepE x a) (g : RepE y a) : ∃ c, Zbn 300 x = some c ∧ Zbn 300 y = some c := by
  obtain ⟨xl, yl, k1, k2, k3, k4, k5⟩ := Rep.affine h
  obtain ⟨xm, ym, g1, g2, g3, g4, g5⟩ := Rep.affine g
  obtain rfl : xl = xm := can_k k2 g2 (k4.trans g4.symm)
  obtain rfl : yl = ym := can_k k3 g3 (k5.trans g5.symm)
  obtain ⟨c, c1, -, -, -, c2, c3⟩ := ZCU k1 k2 k3
  obtain ⟨d, d1, -, -, -, d2, d3⟩ := ZCU g1 g2 g3
  refine ⟨c, c1, ?_⟩
  rw [d1]
  by_cases ev : (kv xl).ev
  · rw [c2 ev, d2 ev]
  · rw [c3 ev, d3 ev]
open Classical in
noncomputable def keyE (a : E) : List Int := if h : ∃ x : P4, RepE x a then (Zbn 300 h.choose).getD [] else []
theorem Zob {x : P4} {a : E} (h : RepE x a) : Zbn 300 x = some (keyE a) := by
  have hx : ∃ x : P4, RepE x a := ⟨x, h⟩
  obtain ⟨c, c1, c2⟩ := ZI4 h hx.choose_spec
  unfold keyE
  rw [dif_pos hx, c2, c1]
  rfl
theorem ZvM {x y : P4} {a b : E} (h : RepE x a) (g : RepE y b) (e : keyE a = keyE b) : a = b := by
  have h1 := Zob h
  have h2 := Zob g
  obtain ⟨xl, yl, k1, k2, k3, k4, k5⟩ := Rep.affine h
  obtain ⟨xm, ym, g1, g2, g3, g4, g5⟩ := Rep.affine g
  obtain ⟨c, c1, -, c2, c3, -⟩ := ZCU k1 k2 k3
  obtain ⟨d, d1, -, d2, d3, -⟩ := ZCU g1 g2 g3
  have hcd : c = d := by
    rw [h1] at c1
    rw [h2] at d1
    rw [← Option.some.inj c1, ← Option.some.inj d1, e]
  subst hcd
  have hy : yl = ym := by
    have e1 := (Zum k3).2.1
    rw [← c2, d2, (Zum g3).2.1] at e1
    exact (Prod.mk.inj e1).1.symm
  have hev : (kv xl).ev ↔ (kv xm).ev := by
    have hn : ¬ (kv xl).ev ↔ ¬ (kv xm).ev := c3.symm.trans d3
    exact ⟨fun q => Classical.byContradiction fun h => hn.2 h q, fun q => Classical.byContradiction fun h => hn.1 h q⟩
  subst hy
  have ha := on_x.1 (show On a.p.1 a.p.2 from a.on)
  have hb := on_x.1 (show On b.p.1 b.p.2 from b.on)
  have ey : a.p.2 = b.p.2 := k5.symm.trans g5
  rw [← ey] at hb
  have hsq : a.p.1 ^ 2 = b.p.1 ^ 2 := K.cancel (den_ne a.p.2) (ha.trans hb.symm)
  rw [k4, g4] at hev
  refine E.ext (Prod.ext ?_ ey)
  by_cases ev : a.p.1.ev
  · exact K.ev_root ev (hev.1 ev) hsq
  · have na : a.p.1 ≠ 0 := fun h => ev (by rw [h]; exact K.ev_zero)
    have nb : b.p.1 ≠ 0 := fun h => ev (hev.2 (by rw [h]; exact K.ev_zero))
    have := K.ev_root ((K.ev_neg na).2 ev) ((K.ev_neg nb).2 fun h => ev (hev.2 h)) (by
      generalize a.p.1 = u at *
      generalize b.p.1 = v at *
      grind)
    generalize a.p.1 = u at *
    generalize b.p.1 = v at *
    grind
theorem ZC0 {x y : P4} {a b : E} (h : RepE x a) (g : RepE y b) : ZaF 300 (x.1, x.2.1, x.2.2.1, x.2.2.2) (y.1, y.2.1, y.2.2.1, y.2.2.2) = some (cmpI (keyE a) (keyE b)) := by
  unfold ZaF
  have h1 : Zbn 300 (x.1, x.2.1, x.2.2.1, x.2.2.2) = some (keyE a) := Zob h
  have h2 : Zbn 300 (y.1, y.2.1, y.2.2.1, y.2.2.2) = some (keyE b) := Zob g
  simp only [h1, h2, mo]
  rfl
structure Cos (a : E) (q0 q1 q2 q3 : P4) (i j k l : Nat) : Prop where
  perm : [i, j, k, l].Perm [0, 1, 2, 3]
  r0 : RepE q0 (cp a i)
  r1 : RepE q1 (cp a j)
  r2 : RepE q2 (cp a k)
  r3 : RepE q3 (cp a l)
  o : [keyE (cp a i), keyE (cp a j), keyE (cp a k), keyE (cp a l)].Pairwise leI
theorem coset_N (N : Nat) (hN : N = 300) {x : P4} {a : E} (h : RepE x a) : ∃ q0 q1 q2 q3 i j k l, Zem N x = some (q0, q1, q2, q3) ∧ Cos a q0 q1 q2 q3 i j k l := by
  have tor : ∀ k : Nat, k < 4 → ∃ r q, Zb9 ((2 * k : Nat) : Int) = some r ∧ ZaC x r = some q ∧ RepE q (cp a k) := by
    intro k hk
    obtain ⟨u, v, z, t, k1, k2⟩ := ZIv (k := 2 * k) (by omega)
    obtain ⟨q, k3, k4⟩ := ZAN h k2
    exact ⟨_, q, k1, k3, k4⟩
  obtain ⟨u0, f0, t0, s0, p0⟩ := tor 0 (by decide)
  obtain ⟨u1, f1, t1, s1, p1⟩ := tor 1 (by decide)
  obtain ⟨u2, f2, t2, s2, p2⟩ := tor 2 (by decide)
  obtain ⟨u3, f3, t3, s3, p3⟩ := tor 3 (by decide)
  let f : Nat → P4 := fun n => match n with
    | 0 => f0
    | 1 => f1
    | 2 => f2
    | _ => f3
  let B : Nat → Nat → Bool := fun i j => icmp .lss (cmpI (keyE (cp a i)) (keyE (cp a j))) 0
  obtain ⟨i, j, k, l, hp, hs, b1, b2, b3⟩ := ZA2 f B fun i j => ZGS
  have hf : ∀ n, n < 4 → RepE (f n) (cp a n) := by
    intro n hn
    match n, hn with
    | 0, _ => exact p0
    | 1, _ => exact p1
    | 2, _ => exact p2
    | 3, _ => exact p3
  have hm : ∀ n, n ∈ [i, j, k, l] → n < 4 := by
    intro n hn
    have := hp.subset hn
    simp only [List.mem_cons, List.not_mem_nil, or_false] at this
    omega
  refine ⟨f i, f j, f k, f l, i, j, k, l, ?_, hp, hf i (hm i (by simp)), hf j (hm j (by simp)), hf k (hm k (by simp)), hf l (hm l (by simp)), pair4 (ZCV b1) (ZCV b2) (ZCV b3)⟩
  rw [← hs]
  have c10 := ZC0 p1 p0
  have c20 := ZC0 p2 p0
  have c21 := ZC0 p2 p1
  have c30 := ZC0 p3 p0
  have c31 := ZC0 p3 p1
  have c32 := ZC0 p3 p2
  rw [← hN] at c10 c20 c21 c30 c31 c32
  have e0 : Zb9 0 = some u0 := t0
  have e1 : Zb9 2 = some u1 := t1
  have e2 : Zb9 4 = some u2 := t2
  have e3 : Zb9 6 = some u3 := t3
  have g0 : ZaC (x.1, x.2.1, x.2.2.1, x.2.2.2) (u0.1, u0.2.1, u0.2.2.1, u0.2.2.2) = some f0 := s0
  have g1 : ZaC (x.1, x.2.1, x.2.2.1, x.2.2.2) (u1.1, u1.2.1, u1.2.2.1, u1.2.2.2) = some f1 := s1
  have g2 : ZaC (x.1, x.2.1, x.2.2.1, x.2.2.2) (u2.1, u2.2.1, u2.2.2.1, u2.2.2.2) = some f2 := s2
  have g3 : ZaC (x.1, x.2.1, x.2.2.1, x.2.2.2) (u3.1, u3.2.1, u3.2.2.1, u3.2.2.2) = some f3 := s3
  unfold Zem
  simp only [e0, e1, e2, e3, g0, g1, g2, g3, mo, c10, c20, c21, c30, c31, c32]
  rfl
end Go.Vx
set_option autoImplicit false
set_option linter.unusedSimpArgs false
namespace Go.Vx
open Go
theorem and3 {a : Int} (h : -9223372036854775808 ≤ a ∧ a ≤ 9223372036854775807) : ibin .and .i64 a 3 = a % 4 := by
  show IntKind.wrap .i64 ((BitVec.ofInt 64 a &&& BitVec.ofInt 64 3).toNat : Int) = _
  have : (BitVec.ofInt 64 a &&& BitVec.ofInt 64 3).toNat = (a % 18446744073709551616).toNat % 4 := by
    rw [BitVec.toNat_and, BitVec.toNat_ofInt, show (BitVec.ofInt 64 3).toNat = 2 ^ 2 - 1 from rfl, Nat.and_two_pow_sub_one_eq_mod]
    rfl
  rw [this]
  have e := Ref.wrapi (n := (((a % 18446744073709551616).toNat % 4 : Nat) : Int)) (by omega) (by omega)
  rw [e]
  omega
theorem cp_cp (a : E) (m k : Nat) : cp (cp a m) k = cp a ((m + k) % 4) := by
  unfold cp
  rw [E.add_assoc, ← E.ns_add]
  congr 1
  rw [E.ns_mod T8 (2 * m + 2 * k), E.ns_mod T8 (2 * ((m + k) % 4))]
  congr 1
  omega
theorem Cos.lt {a : E} {q0 q1 q2 q3 : P4} {i j k l : Nat} (h : Cos a q0 q1 q2 q3 i j k l) : i < 4 ∧ j < 4 ∧ k < 4 ∧ l < 4 := by
  have hm : ∀ n, n ∈ [i, j, k, l] → n < 4 := by
    intro n hn
    have := h.perm.subset hn
    simp only [List.mem_cons, List.not_mem_nil, or_false] at this
    omega
  exact ⟨hm i (by simp), hm j (by simp), hm k (by simp), hm l (by simp)⟩
theorem ZG0 : (m : Nat) → m < 4 → [(m + 0) % 4, (m + 1) % 4, (m + 2) % 4, (m + 3) % 4].Perm [0, 1, 2, 3]
  | 0, _ => by decide
  | 1, _ => by decide
  | 2, _ => by decide
  | 3, _ => by decide
theorem Cos.same {a : E} {m : Nat} (hm : m < 4) {q0 q1 q2 q3 r0 r1 r2 r3 : P4} {i j k l i' j' k' l' : Nat} (h : Cos a q0 q1 q2 q3 i j k l) (g : Cos (cp a m) r0 r1 r2 r3 i' j' k' l') :
    Zcb q0 r0 = some true ∧ Zcb q1 r1 = some true ∧ Zcb q2 r2 = some true ∧ Zcb q3 r3 = some true := by
  have p1 := h.perm.map fun n => keyE (cp a n)
  have p2 := g.perm.map fun n => keyE (cp (cp a m) n)
  have p3 : ([0, 1, 2, 3].map fun n => keyE (cp (cp a m) n)).Perm ([0, 1, 2, 3].map fun n => keyE (cp a n)) := by
    have e : ([0, 1, 2, 3].map fun n => keyE (cp (cp a m) n)) = ([(m + 0) % 4, (m + 1) % 4, (m + 2) % 4, (m + 3) % 4].map fun n => keyE (cp a n)) := by
      simp only [List.map_cons, List.map_nil, cp_cp]
    rw [e]
    exact (ZG0 m hm).map fun n => keyE (cp a n)
  have e := ZIE (p1.trans (p3.symm.trans p2.symm)) h.o g.o
  simp only [List.map_cons, List.map_nil, List.cons.injEq, and_true] at e
  obtain ⟨e0, e1, e2, e3⟩ := e
  exact ⟨ZHb h.r0 g.r0 (ZvM h.r0 g.r0 e0), ZHb h.r1 g.r1 (ZvM h.r1 g.r1 e1), ZHb h.r2 g.r2 (ZvM h.r2 g.r2 e2), ZHb h.r3 g.r3 (ZvM h.r3 g.r3 e3)⟩
end Go.Vx
set_option autoImplicit false
set_option linter.unusedSimpArgs false
namespace Go.Vx
open Go
theorem ZIH {a : Bool} {p : Prop} [Decidable p] (h : a = true ↔ p) : (a == decide p) = true := by
  by_cases hp : p
  · rw [h.2 hp, decide_eq_true hp]; rfl
  · rw [decide_eq_false hp, Bool.eq_false_iff.2 fun e => hp (h.1 e)]; rfl
end Go.Vx
set_option autoImplicit false
set_option linter.unusedSimpArgs false
namespace Go.Vx.Ref
open Go
theorem cf_v {a : List Int} (h : CF a) : (kf a).v = num a := by
  show num a % pF = num a
  exact Int.emod_eq_of_lt h.2.1.nonneg h.2.2
theorem cf_ev {a : List Int} (h : CF a) : (kf a).ev ↔ num a % 2 = 0 := by unfold K.ev; rw [cf_v h]
theorem ZDu {a : List Int} (h : CF a) : Zbc a = true ↔ ¬ (kf a).ev := by
  rw [ZCq h, cf_ev h, decide_eq_true_eq]; omega
theorem ZAZ {a : List Int} (h : CF a) (e : (kf a).ev) : Zbc a = false := by
  cases hq : Zbc a
  · rfl
  · exact absurd e ((ZDu h).1 hq)
theorem ZvR {a b : List Int} (ha : CF a) (hb : CF b) : ∃ s ok, Zby 300 a b = some (s, ok) ∧ CF s ∧ SR (kf a) (kf b) (kf s) ok := by
  obtain ⟨s, ok, h1, h2, h3, h4, h5, h6⟩ := rsqrt_k ha hb
  exact ⟨s, ok, h1, h2, ⟨(cf_ev h2).2 h3, h4, h5, h6⟩⟩
theorem Zj3 {a b : List Int} (ha : CF a) (hb : CF b) : ∃ r, Zac 300 a b = some r ∧ CF r ∧ kf r = kf a + kf b := by
  obtain ⟨r, h1, h2, h3⟩ := ZEF ha hb
  exact ⟨r, h1, h2, by rw [kf_of h3, K.of_add]; rfl⟩
theorem D_k : kf Za0 = kD := by unfold kf kD; rfl
theorem ZGU {a : List Int} (ha : CF a) (h : kf a ≠ 0) : ∃ r, Za3 300 a = some r ∧ CF r ∧ kf r * kf a = 1 := by
  obtain ⟨r, h1, h2, h3⟩ := ZBd ha
  refine ⟨r, h1, h2, ?_⟩
  rw [h3]
  have := K.fermat h
  rw [show eP1 = eInv + 1 from rfl, K.pow_add, kpow1] at this
  exact this
theorem ZlG {a : List Int} (ha : CF a) (h : kf a ≠ 0) : decide (a = [0, 0, 0, 0, 0, 0, 0, 0, 0, 0]) = false := decide_eq_false fun e => h ((ZpM ha).1 e)
abbrev z10 : List Int := [0, 0, 0, 0, 0, 0, 0, 0, 0, 0]
theorem rstands {s : List Int} (hs : CF s) (hev : (kf s).ev) :
    (∃ x y, Zcc 300 s = some ((x, y), true) ∧ CF x ∧ CF y ∧ Stands (kf s) (kf x) (kf y)) ∨
    (∃ p, Zcc 300 s = some (p, false) ∧ p = (Zam.1, Zam.2) ∧ ∀ x y, ¬ Stands (kf s) x y) := by
  obtain ⟨r1, h1, c1, e1⟩ := Zbq hs hs
  obtain ⟨r2, h2, c2, e2⟩ := Zoc Zfe c1
  obtain ⟨r3, h3, c3, e3⟩ := Zj3 Zfe c1
  obtain ⟨r4, h4, c4, e4⟩ := Zbq c2 c2
  have nd := ZkS D_cf
  obtain ⟨r5, h5, c5, e5⟩ := Zbq nd.1 c4
  obtain ⟨r6, h6, c6, e6⟩ := Zbq c3 c3
  obtain ⟨r7, h7, c7, e7⟩ := Zoc c5 c6
  obtain ⟨r8, ok, h8, c8, sr8⟩ := ZvR c7 Zfe
  obtain ⟨r11, h11, c11, e11⟩ := Zj3 c1 c1
  obtain ⟨r12, h12, c12, e12⟩ := Zj3 c11 c1
  obtain ⟨r13, h13, c13, e13⟩ := Zj3 c12 c1
  obtain ⟨r14, ok2, h14, c14, sr14⟩ := ZvR c13 c7
  rw [ZlE] at e2 e3 sr8
  have E1 : kf r1 = kf s ^ 2 := by rw [e1]; grind
  have E7 : kf r7 = -(kD * (1 - kf s ^ 2) ^ 2) - (1 + kf s ^ 2) ^ 2 := by rw [e7, e6, e5, e4, nd.2, D_k, e3, e2, E1]; generalize kf s = a; generalize kD = d; grind
  have E3 : kf r3 = 1 + kf s ^ 2 := by rw [e3, E1]
  have E2 : kf r2 = 1 - kf s ^ 2 := by rw [e2, E1]
  have E13 : kf r13 = 4 * kf s ^ 2 := by rw [e13, e12, e11, E1]; grind
  rw [E7] at sr8 sr14
  rw [E13] at sr14
  by_cases hw : kf r3 = 0
  · right
    refine ⟨_, ?_, rfl, fun x y h => h.w0 (by rw [← E3, hw])⟩
    unfold Zcc
    simp only [h1, h2, h3, h4, h5, h6, h7, mo, decide_eq_true ((ZpM c3).2 hw), cond_true]
  · by_cases hv : kf r7 = 0
    · right
      refine ⟨_, ?_, rfl, fun x y h => h.v0 (by rw [← E7, hv])⟩
      unfold Zcc
      simp only [h1, h2, h3, h4, h5, h6, h7, mo, ZlG c3 hw, decide_eq_true ((ZpM c7).2 hv), cond_true, cond_false]
    · obtain ⟨r9, h9, c9, e9⟩ := ZGU c3 hw
      obtain ⟨r10, h10, c10, e10⟩ := Zbq c2 c9
      obtain ⟨r15, h15, c15, e15⟩ := Zbq c14 c10
      have U : Zcc 300 s = cond (!ok) (some ((Zam.1, Zam.2), false)) (cond (decide (r10 = [0, 0, 0, 0, 0, 0, 0, 0, 0, 0])) (some ((Zam.1, Zam.2), false)) (cond (Zbc r15) (some ((Zam.1, Zam.2), false)) (some ((r14, r10), true)))) := by
        unfold Zcc
        simp only [h1, h2, h3, h4, h5, h6, h7, mo, ZlG c3 hw, ZlG c7 hv, cond_false, h8, h9, h10, h11, h12, h13, h14, h15]
      rw [E3] at hw e9
      rw [E7] at hv
      rw [E2] at e10
      have Y : kf r10 * (1 + kf s ^ 2) = 1 - kf s ^ 2 := by rw [e10]; generalize 1 + kf s ^ 2 = w at *; grind
      clear e1 e2 e3 e4 e5 e6 e7 e11 e12 e13 E1 E2 E3 E13 h1 h2 h3 h4 h5 h6 h7 h8 h9 h10 h11 h12 h13 h14 h15
      cases ok with
      | false =>
        right
        refine ⟨_, by rw [U]; rfl, rfl, fun x y h => ?_⟩
        obtain ⟨r, hr⟩ := h.root
        -- v is a square
        obtain ⟨z, hz⟩ := ZzB (K.mul_ne hw (show r ≠ 0 from fun e => K.one_ne (by rw [← hr, e]; grind)))
        have hz2 : 1 * z ^ 2 = -(kD * (1 - kf s ^ 2) ^ 2) - (1 + kf s ^ 2) ^ 2 := by
          generalize -(kD * (1 - kf s ^ 2) ^ 2) - (1 + kf s ^ 2) ^ 2 = v at *
          generalize 1 + kf s ^ 2 = w at *
          grind
        have := (sr8.found K.one_ne hz2).1
        cases this
      | true =>
        have hsq := (sr8.q hv K.one_ne).2.1 rfl
        have X : (-(kD * (1 - kf s ^ 2) ^ 2) - (1 + kf s ^ 2) ^ 2) * kf r14 ^ 2 = 4 * kf s ^ 2 := by
          obtain ⟨z, hz⟩ := ZzB (show kf r8 ≠ 0 from fun e => hv (by rw [← hsq, e]; grind))
          have := (sr14.found (r := 2 * kf s * z) hv (by rw [← hsq]; grind)).2
          rw [this, ← hsq]; grind
        by_cases hz : kf r10 = 0
        · right
          refine ⟨_, by rw [U, decide_eq_true ((ZpM c10).2 hz)]; rfl, rfl, fun x y h => h.y0 ?_⟩
          refine K.cancel hw ?_
          rw [Lean.Grind.CommRing.mul_comm, h.yw, ← Y, hz]; grind
        · by_cases hn : (kf r15).ev
          · left
            refine ⟨r14, r10, by rw [U, ZlG c10 hz, ZAZ c15 hn]; rfl, c14, c10, ⟨hev, sr14.ev, by rw [← e15]; exact hn, hz, hw, Y, hv, X⟩⟩
          · right
            refine ⟨_, by rw [U, ZlG c10 hz, (ZDu c15).2 hn]; rfl, rfl, fun x y h => hn ?_⟩
            have hy : kf r10 = y := K.cancel hw (by rw [Lean.Grind.CommRing.mul_comm, Y, ← h.yw, Lean.Grind.CommRing.mul_comm])
            have hx : kf r14 = x := K.ev_root sr14.ev h.x_ev (K.cancel hv (by rw [X, h.xv]))
            rw [e15, hx, hy]; exact h.xy_ev
def cnd (N : Nat) (p : List Int × List Int) (y : List Int) (K : Option (List Int)) : Option (List Int) :=
  mo (ZaI N [1, 0, 0, 0, 0, 0, 0, 0, 0, 0] y) none fun r2 =>
  mo (Zac N [1, 0, 0, 0, 0, 0, 0, 0, 0, 0] y) none fun r3 =>
  mo (Zby N r2 r3) none fun r4 =>
  cond r4.2 (
    mo (Zcc N r4.1) none fun r5 =>
    cond r5.2 (
      mo (ZbU N (p.1, p.2) (r5.1.1, r5.1.2)) none fun r6 =>
      cond r6 (mo (Zbb N r4.1) none fun r7 => some r7) K) K) K
abbrev z32b : List Int := [0, 0, 0, 0, 0, 0, 0, 0, 0, 0, 0, 0, 0, 0, 0, 0, 0, 0, 0, 0, 0, 0, 0, 0, 0, 0, 0, 0, 0, 0, 0, 0]
def encR (o : Option ((Unit × (Unit × Unit)) ⊕ (Unit × (Unit × List Int)))) : Option (List Int) := mo o none fun r => match r with
  | .inl _ => some z32b
  | .inr w => some w.2.2
theorem ZvS (N f i : Nat) (hi : i < 4) (p : List Int × List Int) (a b c d : List Int × List Int) : encR (loopF (ZbL N) (f + 1) (((), (), (), (i : Int)), ((), (p.1, p.2), (), ((a.1, a.2), (b.1, b.2), (c.1, c.2), (d.1, d.2))))) =
    cnd N p (List.getD [a.2, b.2, c.2, d.2] i []) (encR (loopF (ZbL N) f (((), (), (), ((i + 1 : Nat) : Int)), ((), (p.1, p.2), (), ((a.1, a.2), (b.1, b.2), (c.1, c.2), (d.1, d.2)))))) := by
  have g0 : icmp .lss (i : Int) 4 = true := decide_eq_true (by omega)
  have g1 : decide (0 ≤ (i : Int) ∧ (i : Int) < ((4 : Nat) : Int)) = true := decide_eq_true (by omega)
  have inc : ibin .add .i64 (i : Int) 1 = ((i + 1 : Nat) : Int) := by rw [i_add (by omega) (by omega)]; omega
  rw [Zb8]
  conv => lhs; arg 1; arg 1; unfold ZbL
  simp only [g0, g1, cond_true, Int.toNat_natCast, inc]
  unfold cnd
  generalize List.getD [a.2, b.2, c.2, d.2] i [] = y
  cases ZaI N [1, 0, 0, 0, 0, 0, 0, 0, 0, 0] y with
  | none => rfl
  | some r1 =>
    simp only [mo]
    cases Zac N [1, 0, 0, 0, 0, 0, 0, 0, 0, 0] y with
    | none => rfl
    | some r2 =>
      simp only [mo]
      cases Zby N r1 r2 with
      | none => rfl
      | some r3 =>
        simp only [mo]
        cases r3.2 with
        | false => simp only [cond_false, mo]
        | true =>
          simp only [cond_true]
          cases Zcc N r3.1 with
          | none => rfl
          | some r4 =>
            simp only [mo]
            cases r4.2 with
            | false => simp only [cond_false, mo]
            | true =>
              simp only [cond_true]
              cases ZbU N (p.1, p.2) (r4.1.1, r4.1.2) with
              | none => rfl
              | some r5 =>
                simp only [mo]
                cases r5 with
                | false => simp only [cond_false, mo]
                | true =>
                  simp only [cond_true]
                  cases Zbb N r3.1 with
                  | none => rfl
                  | some r6 => rfl
theorem Zun (N : Nat) (hN : 5 ≤ N) (p : List Int × List Int) : Za2 N p = mo (Zcy N ((Zap (p.1, p.2)).1, (Zap (p.1, p.2)).2)) none fun r1 =>
    cnd N p r1.1.2 (cnd N p r1.2.1.2 (cnd N p r1.2.2.1.2 (cnd N p r1.2.2.2.2 (some z32b)))) := by
  obtain ⟨f, hf⟩ : ∃ f, N = f + 5 := ⟨N - 5, by omega⟩
  unfold Za2
  cases Zcy N ((Zap (p.1, p.2)).1, (Zap (p.1, p.2)).2) with
  | none => rfl
  | some r =>
    simp only [mo]
    have h0 := ZvS N (f + 4) 0 (by decide) p r.1 r.2.1 r.2.2.1 r.2.2.2
    have h1 := ZvS N (f + 3) 1 (by decide) p r.1 r.2.1 r.2.2.1 r.2.2.2
    have h2 := ZvS N (f + 2) 2 (by decide) p r.1 r.2.1 r.2.2.1 r.2.2.2
    have h3 := ZvS N (f + 1) 3 (by decide) p r.1 r.2.1 r.2.2.1 r.2.2.2
    have h4 : encR (loopF (ZbL N) (f + 1) (((), (), (), ((3 + 1 : Nat) : Int)), ((), (p.1, p.2), (), ((r.1.1, r.1.2), (r.2.1.1, r.2.1.2), (r.2.2.1.1, r.2.2.1.2), (r.2.2.2.1, r.2.2.2.2))))) = some z32b := by
      rw [Zb8]
      rfl
    rw [h4] at h3
    rw [show f + 1 + 1 = f + 2 from rfl] at h3
    rw [h3] at h2
    rw [show f + 2 + 1 = f + 3 from rfl] at h2
    rw [h2] at h1
    rw [show f + 3 + 1 = f + 4 from rfl] at h1
    rw [h1] at h0
    rw [show f + 4 + 1 = N from hf.symm] at h0
    exact h0
theorem ZFT {x y : List Int} (hx : CF x) (hy : CF y) : ∃ a b, Zcy 300 (x, y) = some ((x, y), (a, b), ((Zax x), (Zax y)), ((Zax a), (Zax b))) ∧ CF a ∧ CF b ∧ kf a = kf y * kI ∧ kf b = kf x * kI := by
  obtain ⟨r1, h1, c1, e1⟩ := Zbq hy I_cf
  obtain ⟨r2, h2, c2, e2⟩ := Zbq hx I_cf
  rw [I_k] at e1 e2
  refine ⟨r1, r2, ?_, c1, c2, e1, e2⟩
  unfold Zcy
  simp only [h1, h2, mo]
theorem at_k {x y : List Int} (hx : CF x) (hy : CF y) (h : kf x ≠ 0 ∨ kf y ≠ 0) : Zap (x, y) = (x, y) := by
  unfold Zap
  rcases h with h | h
  · simp only [ZlG hx h, Bool.false_and, cond_false]
  · simp only [ZlG hy h, Bool.false_and, Bool.and_false, cond_false]
theorem dec2 {a b c d : List Int} (ha : CF a) (hb : CF b) (hc : CF c) (hd : CF d) : ((decide (a = c)) && ((decide (b = d)) && true)) = true ↔ (kf c = kf a ∧ kf d = kf b) := by
  rw [Bool.and_true, Bool.and_eq_true, decide_eq_true_eq, decide_eq_true_eq]
  constructor
  · rintro ⟨rfl, rfl⟩; exact ⟨rfl, rfl⟩
  · rintro ⟨h1, h2⟩; exact ⟨cf_k ha hc h1.symm, cf_k hb hd h2.symm⟩
theorem same_k {x y X Y : List Int} (hx : CF x) (hy : CF y) (hX : CF X) (hY : CF Y) (h : kf x ≠ 0 ∨ kf y ≠ 0) (h' : kf X ≠ 0 ∨ kf Y ≠ 0) :
    ∃ b, ZbU 300 (x, y) (X, Y) = some b ∧ (b = true ↔ Rel (kf x) (kf y) (kf X) (kf Y)) := by
  obtain ⟨a, c, h1, ca, cc, ea, ec⟩ := ZFT hX hY
  have nX := ZkS hX
  have nY := ZkS hY
  have na := ZkS ca
  have nc := ZkS cc
  have d1 := dec2 hX hY hx hy
  have d2 := dec2 ca cc hx hy
  have d3 := dec2 nX.1 nY.1 hx hy
  have d4 := dec2 na.1 nc.1 hx hy
  rw [ea, ec] at d2
  rw [nX.2, nY.2] at d3
  rw [na.2, nc.2, ea, ec] at d4
  unfold ZbU Rel
  simp only [at_k hX hY h', at_k hx hy h, h1, mo]
  rw [← d1, ← d2, ← d3, ← d4]
  generalize ((decide (X = x)) && ((decide (Y = y)) && true)) = b1
  generalize ((decide (a = x)) && ((decide (c = y)) && true)) = b2
  generalize ((decide (Zax X = x)) && ((decide (Zax Y = y)) && true)) = b3
  generalize ((decide (Zax a = x)) && ((decide (Zax c = y)) && true)) = b4
  cases b1 <;> cases b2 <;> cases b3 <;> cases b4 <;> simp
theorem cnd_k {x y w : List Int} (hx : CF x) (hy : CF y) (hw : CF w) (h : kf x ≠ 0 ∨ kf y ≠ 0) (C : Option (List Int)) :
    (∃ s X Y, cnd 300 (x, y) w C = Zbb 300 s ∧ CF s ∧ Stands (kf s) X Y ∧ Rel (kf x) (kf y) X Y) ∨
    (cnd 300 (x, y) w C = C ∧ ∀ s X, Stands s X (kf w) → ¬ Rel (kf x) (kf y) X (kf w)) := by
  obtain ⟨r2, h2, c2, e2⟩ := Zoc Zfe hw
  obtain ⟨r3, h3, c3, e3⟩ := Zj3 Zfe hw
  obtain ⟨r4, ok, h4, c4, sr⟩ := ZvR c2 c3
  rw [ZlE] at e2 e3
  rw [e2, e3] at sr
  have one : ∀ s X, Stands s X (kf w) → ok = true ∧ kf r4 = s := fun s X st => by
    obtain ⟨f1, f2⟩ := sr.found st.one_plus.2.2 st.s_eq
    exact ⟨f1, K.ev_root sr.ev st.s_ev f2⟩
  cases ok with
  | false =>
    right
    refine ⟨?_, fun s X st => ?_⟩
    · unfold cnd
      simp only [h2, h3, h4, mo, cond_false]
    · have := (one s X st).1
      cases this
  | true =>
    rcases rstands c4 sr.ev with ⟨X, Y, k1, cX, cY, st⟩ | ⟨p, k1, rfl, k2⟩
    · obtain ⟨b, k3, k4⟩ := same_k hx hy cX cY h (.inr st.y0)
      cases b with
      | true =>
        left
        refine ⟨r4, kf X, kf Y, ?_, c4, st, k4.1 rfl⟩
        unfold cnd
        simp only [h2, h3, h4, mo, cond_true, k1, k3]
        cases Zbb 300 r4 <;> rfl
      | false =>
        right
        refine ⟨?_, fun s X' st' rel => ?_⟩
        · unfold cnd
          simp only [h2, h3, h4, mo, cond_true, cond_false, k1, k3]
        · obtain ⟨-, rfl⟩ := one s X' st'
          obtain ⟨rfl, e⟩ := st.same st'
          rw [← e] at rel
          have := k4.2 rel
          cases this
    · right
      refine ⟨?_, fun s X st => ?_⟩
      · unfold cnd
        simp only [h2, h3, h4, mo, cond_true, cond_false, k1]
      · obtain ⟨-, rfl⟩ := one s X st
        exact absurd st (k2 _ _)
theorem rencode {x y s : List Int} (hx : CF x) (hy : CF y) (hs : CF s) (h : kf x ≠ 0 ∨ kf y ≠ 0) {X Y : K} (st : Stands (kf s) X Y) (rel : Rel (kf x) (kf y) X Y) :
    Za2 300 (x, y) = Zbb 300 s := by
  obtain ⟨a, c, h1, ca, cc, ea, ec⟩ := ZFT hx hy
  have hi := kI_sq
  have ny := ZkS hy
  have nc := ZkS cc
  have good : ∀ {s' : List Int} {X' Y' : K}, CF s' → Stands (kf s') X' Y' → Rel (kf x) (kf y) X' Y' → Zbb 300 s' = Zbb 300 s := fun {s' X' Y'} c' st' rel' => by
    have := (st.uniq st' (rel'.back.trans rel)).1
    rw [cf_k hs c' this]
  rw [Zun 300 (by decide)]
  simp only [at_k hx hy h, h1, mo]
  rcases cnd_k hx hy hy h (cnd 300 (x, y) c (cnd 300 (x, y) (Zax y) (cnd 300 (x, y) (Zax c) (some [0, 0, 0, 0, 0, 0, 0, 0, 0, 0, 0, 0, 0, 0, 0, 0, 0, 0, 0, 0, 0, 0, 0, 0, 0, 0, 0, 0, 0, 0, 0, 0])))) with ⟨s', X', Y', g1, g2, g3, g4⟩ | ⟨g1, n1⟩
  · rw [g1]; exact good g2 g3 g4
  rw [g1]
  rcases cnd_k hx hy cc h (cnd 300 (x, y) (Zax y) (cnd 300 (x, y) (Zax c) (some [0, 0, 0, 0, 0, 0, 0, 0, 0, 0, 0, 0, 0, 0, 0, 0, 0, 0, 0, 0, 0, 0, 0, 0, 0, 0, 0, 0, 0, 0, 0, 0]))) with ⟨s', X', Y', g1, g2, g3, g4⟩ | ⟨g2, n2⟩
  · rw [g1]; exact good g2 g3 g4
  rw [g2]
  rcases cnd_k hx hy ny.1 h (cnd 300 (x, y) (Zax c) (some [0, 0, 0, 0, 0, 0, 0, 0, 0, 0, 0, 0, 0, 0, 0, 0, 0, 0, 0, 0, 0, 0, 0, 0, 0, 0, 0, 0, 0, 0, 0, 0])) with ⟨s', X', Y', g1, g2, g3, g4⟩ | ⟨g3, n3⟩
  · rw [g1]; exact good g2 g3 g4
  rw [g3]
  rcases cnd_k hx hy nc.1 h (some [0, 0, 0, 0, 0, 0, 0, 0, 0, 0, 0, 0, 0, 0, 0, 0, 0, 0, 0, 0, 0, 0, 0, 0, 0, 0, 0, 0, 0, 0, 0, 0]) with ⟨s', X', Y', g1, g2, g3, g4⟩ | ⟨g4, n4⟩
  · rw [g1]; exact good g2 g3 g4
  -- one of the four it is
  exfalso
  rw [ec] at n2
  rw [ny.2] at n3
  rw [nc.2, ec] at n4
  have mv : ∀ W, Y = W → Stands (kf s) X W ∧ Rel (kf x) (kf y) X W := fun W e => by subst e; exact ⟨st, rel⟩
  rcases rel.back with ⟨r1, r2⟩ | ⟨r1, r2⟩ | ⟨r1, r2⟩ | ⟨r1, r2⟩
  · exact n1 _ X (mv _ r2).1 (mv _ r2).2
  · exact n2 _ X (mv _ r2).1 (mv _ r2).2
  · exact n3 _ X (mv _ r2).1 (mv _ r2).2
  · exact n4 _ X (mv _ r2).1 (mv _ r2).2
theorem cf_of {a : List Int} (ha : Can a) : ∃ n, CF n ∧ kf n = kv a := by
  obtain ⟨n, -, h2, h3⟩ := ZIG ha.L5
  exact ⟨n, h2, kf_of h3⟩
end Go.Vx.Ref
set_option autoImplicit false
set_option linter.unusedSimpArgs false
namespace Go.Vx.Ref
open Go
theorem rconst3 (N : Nat) (hN : N = 300) : ∃ n, Zev N 3 = some n ∧ CF n ∧ kf n = kA := by
  have n := ZkS D_cf
  obtain ⟨r1, h1, c1, e1⟩ := Zoc n.1 Zfe
  rw [n.2, ZlE, ← tab3_sq] at e1
  have t0 : kv (Zbe 3) ≠ 0 := fun h => by
    have := K.of_eq.1 (show K.of (val (Zbe 3)) = K.of 0 from h)
    revert this; decide
  have h0 : kf r1 ≠ 0 := by rw [e1]; exact K.pow_ne t0 2
  obtain ⟨s, h2, c2, p2, q2⟩ := (ZF7 c1 h0).1 (by rw [e1]; exact K.half t0)
  have m := ZkS c2
  have hs : kf s = - kv (Zbe 3) := by
    have : (kf s - kv (Zbe 3)) * (kf s + kv (Zbe 3)) = 0 := by rw [e1] at q2; grind
    rcases K.mul_zero' this with h | h
    · exfalso
      have h3 : kf s = kv (Zbe 3) := by grind
      have h4 := K.of_eq.1 (show K.of (num s) = K.of (val (Zbe 3)) from h3)
      rw [Int.emod_eq_of_lt c2.2.1.nonneg c2.2.2] at h4
      simp only [num] at p2
      rw [h4] at p2
      revert p2; decide
    · grind
  refine ⟨Zax s, ?_, m.1, by rw [m.2, hs, ZLN]; grind⟩
  rw [← hN] at h1 h2
  unfold Zev
  simp only [show icmp .eql 3 1 = false by decide, show icmp .eql 3 2 = false by decide, show icmp .eql 3 3 = true by decide, cond_false, cond_true, h1, mo, h2]
theorem ZLY {a : List Int} (ha : CF a) : ∃ r, Za3 300 a = some r ∧ CF r ∧ kf r = kf a ^ eI := ZBd ha
theorem rabs_ev {a : List Int} (ha : CF a) : CF (Zbm a) ∧ (kf (Zbm a)).ev ∧ kf (Zbm a) ^ 2 = kf a ^ 2 := by
  obtain ⟨h1, h2, h3⟩ := ZI5 ha
  exact ⟨h1, (cf_ev h1).2 h2, h3⟩
def htail (N : Nat) (R V s c : List Int) : Option (List Int × List Int) :=
  mo (ZaI N Za0 [1, 0, 0, 0, 0, 0, 0, 0, 0, 0]) none fun r13 =>
  mo (ZaI N R [1, 0, 0, 0, 0, 0, 0, 0, 0, 0]) none fun r14 =>
  mo (Zab N c r14) none fun r15 =>
  mo (Zab N r15 r13) none fun r16 =>
  mo (Zab N r16 r13) none fun r17 =>
  mo (ZaI N r17 V) none fun r18 =>
  mo (Zev N 3) none fun r19 =>
  mo (Zab N s s) none fun r20 =>
  mo (Zac N s s) none fun r21 =>
  mo (Zab N r21 V) none fun r22 =>
  mo (Zab N r18 r19) none fun r23 =>
  mo (Za3 N r23) none fun r24 =>
  mo (Zab N r22 r24) none fun r25 =>
  mo (ZaI N [1, 0, 0, 0, 0, 0, 0, 0, 0, 0] r20) none fun r26 =>
  mo (Zac N [1, 0, 0, 0, 0, 0, 0, 0, 0, 0] r20) none fun r27 =>
  mo (Za3 N r27) none fun r28 =>
  mo (Zab N r26 r28) none fun r29 =>
  some (r25, r29)
theorem ZI6 (N : Nat) (hN : N = 300) {R V s c : List Int} (hR : CF R) (hV : CF V) (hs : CF s) (hc : CF c) : ∃ x y, htail N R V s c = some (x, y) ∧ CF x ∧ CF y ∧
    kf x = 2 * kf s * kf V * ((kf c * (kf R - 1) * (kD - 1) ^ 2 - kf V) * kA) ^ eI ∧ kf y = (1 - kf s ^ 2) * (1 + kf s ^ 2) ^ eI := by
  obtain ⟨r13, h13, c13, e13⟩ := Zoc D_cf Zfe
  obtain ⟨r14, h14, c14, e14⟩ := Zoc hR Zfe
  obtain ⟨r15, h15, c15, e15⟩ := Zbq hc c14
  obtain ⟨r16, h16, c16, e16⟩ := Zbq c15 c13
  obtain ⟨r17, h17, c17, e17⟩ := Zbq c16 c13
  obtain ⟨r18, h18, c18, e18⟩ := Zoc c17 hV
  obtain ⟨r19, h19, c19, e19⟩ := rconst3 N hN
  obtain ⟨r20, h20, c20, e20⟩ := Zbq hs hs
  obtain ⟨r21, h21, c21, e21⟩ := Zj3 hs hs
  obtain ⟨r22, h22, c22, e22⟩ := Zbq c21 hV
  obtain ⟨r23, h23, c23, e23⟩ := Zbq c18 c19
  obtain ⟨r24, h24, c24, e24⟩ := ZLY c23
  obtain ⟨r25, h25, c25, e25⟩ := Zbq c22 c24
  obtain ⟨r26, h26, c26, e26⟩ := Zoc Zfe c20
  obtain ⟨r27, h27, c27, e27⟩ := Zj3 Zfe c20
  obtain ⟨r28, h28, c28, e28⟩ := ZLY c27
  obtain ⟨r29, h29, c29, e29⟩ := Zbq c26 c28
  refine ⟨r25, r29, ?_, c25, c29, ?_, ?_⟩
  · rw [← hN] at h13 h14 h15 h16 h17 h18 h20 h21 h22 h23 h24 h25 h26 h27 h28 h29
    unfold htail
    simp only [h13, h14, h15, h16, h17, h18, h19, h20, h21, h22, h23, h24, h25, h26, h27, h28, h29, mo]
  · have F : kf r18 = kf c * (kf R - 1) * (kD - 1) ^ 2 - kf V := by
      rw [e18, e17, e16, e15, e14, e13, ZlE, D_k]
      generalize kD = d
      grind
    rw [e25, e24, e23, e19, F, e22, e21]
    generalize ((kf c * (kf R - 1) * (kD - 1) ^ 2 - kf V) * kA) ^ eI = w
    grind
  · rw [e29, e28, e27, e26, e20, ZlE, k_sq]
theorem ZI7 (N : Nat) (a : List Int) : Zco N a =
  mo (Zab N ZdI a) none fun r1 =>
  mo (Zab N r1 a) none fun r2 =>
  mo (Zac N r2 [1, 0, 0, 0, 0, 0, 0, 0, 0, 0]) none fun r3 =>
  mo (Zab N Za0 Za0) none fun r4 =>
  mo (ZaI N [1, 0, 0, 0, 0, 0, 0, 0, 0, 0] r4) none fun r5 =>
  mo (Zab N r3 r5) none fun r6 =>
  mo (Zab N r2 Za0) none fun r7 =>
  mo (ZaI N (Zax [1, 0, 0, 0, 0, 0, 0, 0, 0, 0]) r7) none fun r8 =>
  mo (Zac N r2 Za0) none fun r9 =>
  mo (Zab N r8 r9) none fun r10 =>
  mo (Zby N r6 r10) none fun r11 =>
  cond (!r11.2) (
    mo (Zab N r11.1 a) none fun r12 => htail N r2 r10 (Zax (Zbm r12)) r2)
    (htail N r2 r10 r11.1 (Zax [1, 0, 0, 0, 0, 0, 0, 0, 0, 0])) := rfl
theorem rhalf (N : Nat) (hN : N = 300) {a : List Int} (ha : CF a) : ∃ x y R V S ok s c, Zco N a = some (x, y) ∧ CF x ∧ CF y ∧ HalfK (kf a) (kf x) (kf y) R V S ok s c := by
  obtain ⟨r1, h1, c1, e1⟩ := Zbq I_cf ha
  obtain ⟨r2, h2, c2, e2⟩ := Zbq c1 ha
  obtain ⟨r3, h3, c3, e3⟩ := Zj3 c2 Zfe
  obtain ⟨r4, h4, c4, e4⟩ := Zbq D_cf D_cf
  obtain ⟨r5, h5, c5, e5⟩ := Zoc Zfe c4
  obtain ⟨r6, h6, c6, e6⟩ := Zbq c3 c5
  obtain ⟨r7, h7, c7, e7⟩ := Zbq c2 D_cf
  have n1 := ZkS Zfe
  obtain ⟨r8, h8, c8, e8⟩ := Zoc n1.1 c7
  obtain ⟨r9, h9, c9, e9⟩ := Zj3 c2 D_cf
  obtain ⟨r10, h10, c10, e10⟩ := Zbq c8 c9
  obtain ⟨r11, ok, h11, c11, sr⟩ := ZvR c6 c10
  have R : kf r2 = kI * kf a ^ 2 := by rw [e2, e1, I_k]; grind
  have V : kf r10 = (-1 - kf r2 * kD) * (kf r2 + kD) := by rw [e10, e8, e9, n1.2, e7, D_k, ZlE]
  have U : kf r6 = (kf r2 + 1) * (1 - kD ^ 2) := by rw [e6, e5, e4, e3, D_k, ZlE, k_sq]
  rw [U] at sr
  rw [← hN] at h1 h2 h3 h4 h5 h6 h7 h8 h9 h10 h11
  rw [ZI7]
  simp only [h1, h2, h3, h4, h5, h6, h7, h8, h9, h10, h11, mo]
  cases ok with
  | true =>
    obtain ⟨x, y, k1, k2, k3, k4, k5⟩ := ZI6 N hN c2 c10 c11 n1.1
    rw [n1.2, ZlE] at k4
    exact ⟨x, y, _, _, _, _, _, _, k1, k2, k3, ⟨R, V, sr, (fun _ => ⟨rfl, rfl⟩), (fun h => by cases h), k4, k5⟩⟩
  | false =>
    obtain ⟨r12, h12, c12, e12⟩ := Zbq c11 ha
    obtain ⟨b1, b2, b3⟩ := rabs_ev c12
    have nb := ZkS b1
    obtain ⟨x, y, k1, k2, k3, k4, k5⟩ := ZI6 N hN c2 c10 nb.1 c2
    rw [← hN] at h12
    refine ⟨x, y, _, _, _, _, _, _, ?_, k2, k3, ⟨R, V, sr, fun h => (by cases h), fun _ => ⟨⟨_, b2, by rw [b3, e12], nb.2⟩, rfl⟩, k4, k5⟩⟩
    simp only [Bool.not_false, cond_true, h12, mo]
    exact k1
theorem ZA5 {a n : List Int} (ha : L5 a) (hn : CF n) (e : kf n = kv a) : ∃ x y t x' y', ZeY 300 a = some (x, y, [1, 0, 0, 0, 0], t) ∧ Zco 300 n = some (x', y') ∧ Can x ∧ Can y ∧ Can t ∧ kv t = kv x * kv y ∧ CF x' ∧ CF y' ∧ kf x' = kv x ∧ kf y' = kv y ∧ On (kv x) (kv y) ∧ Even (kv y) := by
  obtain ⟨x, y, t, R, V, S, ok, s, c, h1, h2, h3, h4, h5, h6⟩ := phalf ha
  obtain ⟨x', y', R', V', S', ok', s', c', g1, g2, g3, g4⟩ := rhalf 300 rfl hn
  rw [e] at g4
  obtain ⟨u1, u2⟩ := g4.uniq h6
  exact ⟨x, y, t, x', y', h1, g1, h2, h3, h4, h5, g2, g3, u1, u2, h6.on⟩
end Go.Vx.Ref
set_option autoImplicit false
set_option linter.unusedSimpArgs false
namespace Go.Vx.Ref
open Go
theorem on_ne {x y : K} (h : On x y) : x ≠ 0 ∨ y ≠ 0 := by
  by_cases h0 : x = 0
  · right
    intro h2
    unfold On at h
    rw [h0, h2] at h
    exact K.one_ne (by generalize kD = d at *; grind)
  · exact .inl h0
theorem dv1 {s u v i : K} (h : i * (v * u) = 1) : s * u * i * v = s := by
  rw [show s * u * i * v = s * (i * (v * u)) by grind, h]; grind
theorem dv2 {s u v i : K} (h : i * (v * u) = 1) : s * v * i * u = s := by
  rw [show s * v * i * u = s * (i * (v * u)) by grind, h]; grind
theorem radd4 {a b x y : List Int} (ha : CF a) (hb : CF b) (hx : CF x) (hy : CF y) (h1 : On (kf a) (kf b)) (h2 : On (kf x) (kf y)) :
    ∃ u v, Zbw 300 (a, b) (x, y) = some (u, v) ∧ CF u ∧ CF v ∧ kf u = ax (kf a) (kf b) (kf x) (kf y) ∧ kf v = ay (kf a) (kf b) (kf x) (kf y) := by
  obtain ⟨r1, k1, c1, e1⟩ := Zbq ha hy
  obtain ⟨r2, k2, c2, e2⟩ := Zbq hb hx
  obtain ⟨r3, k3, c3, e3⟩ := Zbq ha hx
  obtain ⟨r4, k4, c4, e4⟩ := Zbq hb hy
  obtain ⟨r5, k5, c5, e5⟩ := Zbq D_cf c3
  obtain ⟨r6, k6, c6, e6⟩ := Zbq c5 c4
  obtain ⟨r7, k7, c7, e7⟩ := Zj3 Zfe c6
  obtain ⟨r8, k8, c8, e8⟩ := Zoc Zfe c6
  obtain ⟨r9, k9, c9, e9⟩ := Zbq c7 c8
  obtain ⟨w1, w2⟩ := Zd5 h1 h2
  have E6 : kf r6 = kD * kf a * kf x * kf b * kf y := by rw [e6, e5, e4, e3, D_k]; generalize kD = d; grind
  rw [ZlE, E6] at e7 e8
  have z9 : kf r9 ≠ 0 := by rw [e9, e7, e8]; exact K.mul_ne w1 w2
  obtain ⟨r10, k10, c10, e10⟩ := ZGU c9 z9
  obtain ⟨r11, k11, c11, e11⟩ := Zj3 c1 c2
  obtain ⟨r12, k12, c12, e12⟩ := Zbq c11 c8
  obtain ⟨r13, k13, c13, e13⟩ := Zbq c12 c10
  obtain ⟨r14, k14, c14, e14⟩ := Zj3 c4 c3
  obtain ⟨r15, k15, c15, e15⟩ := Zbq c14 c7
  obtain ⟨r16, k16, c16, e16⟩ := Zbq c15 c10
  refine ⟨r13, r16, ?_, c13, c16, ax_of h1 h2 ?_, ay_of h1 h2 ?_⟩
  · unfold Zbw
    simp only [k1, k2, k3, k4, k5, k6, k7, k8, k9, k10, k11, k12, k13, k14, k15, k16, mo]
  · rw [e9, e7, e8] at e10
    rw [e13, e12, e11, e8, e1, e2]
    exact dv1 e10
  · rw [e9, e7, e8] at e10
    rw [e16, e15, e14, e7, e4, e3]
    exact dv2 e10
theorem radd5 {a b x y : List Int} (ha : CF a) (hb : CF b) (hx : CF x) (hy : CF y) (h1 : On (kf a) (kf b)) (h2 : On (kf x) (kf y)) :
    ∃ u v, Zbx 300 (a, b) (x, y) = some (u, v) ∧ CF u ∧ CF v ∧ kf u = ax (kf a) (kf b) (kf x) (kf y) ∧ kf v = ay (kf a) (kf b) (kf x) (kf y) := by
  obtain ⟨u, v, k, r⟩ := radd4 ha hb hx hy h1 h2
  refine ⟨u, v, ?_, r⟩
  unfold Zbx
  simp only [at_k ha hb (on_ne h1), at_k hx hy (on_ne h2), k, mo]
theorem set_top {b : List Int} (hb : L32 b) : L32 (List.set b 31 (ibin .and .u8 (List.getD b 31 0) 127)) ∧ (numB (List.set b 31 (ibin .and .u8 (List.getD b 31 0) 127)) : Int) = (numB b : Int) % 57896044618658097711785492504343953926634992332820282019728792003956564819968 := by
  obtain ⟨⟨t0, t1⟩, t2⟩ := ZAS hb
  have hand := ZG9 (y := List.getD b 31 0) ⟨t0, t1⟩
  rw [hand]
  have e : List.getD b 31 0 % 128 = List.getD b 31 0 + (List.getD b 31 0 % 128 - List.getD b 31 0) := by omega
  have hB : Bs (List.set b 31 (List.getD b 31 0 % 128)) := fun x hx => by
    have := Zrx (lo := 0) (hi := 256) (v := List.getD b 31 0 % 128) (by omega) b (fun x hx => by have := hb.2 x hx; omega) 31 x hx
    omega
  refine ⟨⟨by rw [List.length_set]; exact hb.1, hB⟩, ?_⟩
  have hW := ZvT (w := 8) 31 b (List.getD b 31 0 % 128 - List.getD b 31 0) (by rw [hb.1]; decide)
  rw [← e, ← ZEG b hb.2, ← ZEG _ hB] at hW
  have hlt := ZI8 hb
  rw [hW, show (2 : Int) ^ (8 * 31) = 452312848583266388373324160190187140051835877600158453279131187530910662656 by decide]
  generalize List.getD b 31 0 = y at *
  generalize (numB b : Int) = n at *
  by_cases h : 127 < y
  · have := t2.1 h
    omega
  · have : ¬ 57896044618658097711785492504343953926634992332820282019728792003956564819968 ≤ n := fun g => h (t2.2 g)
    omega
theorem ZEH {b : List Int} (hb : L32 b) : ∃ n, ZdC 300 b = some n ∧ CF n ∧ kf n = kv (Zej b) := by
  obtain ⟨s1, s2⟩ := set_top hb
  obtain ⟨rc, re⟩ := ZBe hb
  obtain ⟨s, k1, k2, k3⟩ := ZBf s1
  refine ⟨s, ?_, k2, ?_⟩
  · unfold ZdC
    simp only [k1, mo]
  · show K.of (num s) = K.of (val (Zej b))
    rw [k3, s2, re]
theorem ZHg (a : List Int) (i k : Nat) (h : i < a.length) : List.set (a.take i ++ List.replicate (k + 1) 0) i (List.getD a i 0) = a.take (i + 1) ++ List.replicate k 0 := by
  have hl : (a.take i).length = i := by rw [List.length_take]; omega
  rw [List.set_append_right i _ (by rw [hl]; exact Nat.le_refl i), hl, Nat.sub_self, List.replicate_succ, List.set_cons_zero, List.take_succ_eq_append_getElem h, List.append_assoc]
  have : List.getD a i 0 = a[i] := by rw [List.getD_eq_getElem?_getD, List.getElem?_eq_getElem h]; rfl
  rw [this]; rfl
theorem ZHh (N : Nat) {a : List Int} (ha : a.length = 64) : (k i : Nat) → i + k = 32 → (fuel : Nat) → k < fuel →
    loopF (Zc5 N) fuel (((), (), (), (), (i : Int)), (a, (), a.take i ++ List.replicate k 0, (a.drop 32).take i ++ List.replicate k 0)) = some (.inl (((), (), ()), ((), a.take 32, (a.drop 32).take 32)))
  | 0, i, hi, fuel + 1, _ => by
    obtain rfl : i = 32 := by omega
    rw [Zb8]
    simp only [Zc5, show icmp .lss ((32 : Nat) : Int) 32 = false from rfl, cond_false, mo, List.replicate_zero, List.append_nil]
  | k + 1, i, hi, fuel + 1, hf => by
    have h1 : icmp .lss (i : Int) 32 = true := by
      have h : (i : Int) < 32 := by omega
      simpa [icmp] using h
    have h2 : ibin .add .i64 32 (i : Int) = ((32 + i : Nat) : Int) := by rw [i_add (by omega) (by omega)]; omega
    have h3 := i_inc (show i < 1000000 by omega)
    rw [Zb8]
    simp only [Zc5, h1, h2, h3, cond_true, ZgO (show i < 64 by omega), ZgO (show i < 32 by omega), ZgO (show 32 + i < 64 by omega), Int.toNat_natCast, mo]
    have e : List.getD a (32 + i) 0 = List.getD (a.drop 32) i 0 := by
      rw [List.getD_eq_getElem?_getD, List.getD_eq_getElem?_getD, List.getElem?_drop]
    rw [e, ZHg a i k (by omega), ZHg (a.drop 32) i k (by rw [List.length_drop]; omega)]
    exact ZHh N ha k (i + 1) (by omega) fuel (by omega)
theorem ZKQ {a : List Int} (hl : a.length = 64) (hb : Bs a) : L32 (List.take 32 (List.drop 0 a)) ∧ L32 (List.take 32 (List.drop 32 a)) :=
  ⟨⟨by rw [List.length_take, List.length_drop]; omega, fun x hx => hb x (List.mem_of_mem_take (by simpa using hx))⟩,
   ⟨by rw [List.length_take, List.length_drop]; omega, fun x hx => hb x (List.mem_of_mem_drop (List.mem_of_mem_take hx))⟩⟩
theorem ZI9 (N : Nat) {a b c x y x' y' u v n m : List Int} (h : loopF (Zc5 N) N (((), (), (), (), 0), (a, (), [0, 0, 0, 0, 0, 0, 0, 0, 0, 0, 0, 0, 0, 0, 0, 0, 0, 0, 0, 0, 0, 0, 0, 0, 0, 0, 0, 0, 0, 0, 0, 0], [0, 0, 0, 0, 0, 0, 0, 0, 0, 0, 0, 0, 0, 0, 0, 0, 0, 0, 0, 0, 0, 0, 0, 0, 0, 0, 0, 0, 0, 0, 0, 0])) = some (.inl (((), (), ()), ((), b, c))))
    (h1 : ZdC N b = some n) (h2 : Zco N n = some (x, y)) (h3 : ZdC N c = some m) (h4 : Zco N m = some (x', y')) (h5 : Zbx N (x, y) (x', y') = some (u, v)) : Zhh N a = some (u, v) := by
  unfold Zhh
  simp only [h, h1, h2, h3, h4, h5, mo]
theorem ZJa (N : Nat) (hN : 32 < N) {a : List Int} (ha : a.length = 64) : loopF (Zc5 N) N (((), (), (), (), 0), (a, (), [0, 0, 0, 0, 0, 0, 0, 0, 0, 0, 0, 0, 0, 0, 0, 0, 0, 0, 0, 0, 0, 0, 0, 0, 0, 0, 0, 0, 0, 0, 0, 0], [0, 0, 0, 0, 0, 0, 0, 0, 0, 0, 0, 0, 0, 0, 0, 0, 0, 0, 0, 0, 0, 0, 0, 0, 0, 0, 0, 0, 0, 0, 0, 0])) = some (.inl (((), (), ()), ((), List.take 32 (List.drop 0 a), List.take 32 (List.drop 32 a)))) :=
  ZHh N ha 32 0 rfl N hN
theorem ZEI {b : List Int} (hb : L32 b) : L5 (Zej b) := (ZBe hb).1.L5
theorem ZKB {a : List Int} (hl : a.length = 64) (hb : Bs a) : ∃ p1 p2 p3 p4 u v, Zry 300 a = some (p1, p2, p3, p4) ∧ Zhh 300 a = some (u, v) ∧ CF u ∧ CF v ∧ Rep (p1, p2, p3, p4) (kf u) (kf v) ∧ On (kf u) (kf v) ∧ Even (kf v) := by
  obtain ⟨l1, l2⟩ := ZKQ hl hb
  obtain ⟨n1, r1, c1, e1⟩ := ZEH l1
  obtain ⟨n2, r2, c2, e2⟩ := ZEH l2
  obtain ⟨x, y, t, x', y', k1, k2, k3, k4, k5, k6, k7, k8, k9, k10, k11, k12⟩ := ZA5 (ZEI l1) c1 e1
  obtain ⟨z, w, s, z', w', m1, m2, m3, m4, m5, m6, m7, m8, m9, m10, m11, m12⟩ := ZA5 (ZEI l2) c2 e2
  obtain ⟨⟨q1, q2, q3, q4⟩, g1, g2⟩ := (ZA6 k3 k4 k5 k6).add (ZA6 m3 m4 m5 m6) k11 m11
  obtain ⟨u, v, f1, f2, f3, f4, f5⟩ := radd5 k7 k8 m7 m8 (by rw [k9, k10]; exact k11) (by rw [m9, m10]; exact m11)
  rw [k9, k10, m9, m10] at f4 f5
  refine ⟨q1, q2, q3, q4, u, v, ?_, ?_, f2, f3, by rw [f4, f5]; exact g2, by rw [f4, f5]; exact ZLZ k11 m11, by rw [f5]; exact ZHi k11 m11 k12 m12⟩
  · unfold Zry ZcA
    simp only [k1, m1, g1, mo]
  · exact ZI9 300 (ZJa 300 (by decide) hl) r1 k2 r2 m2 f1
end Go.Vx.Ref
set_option autoImplicit false
set_option linter.unusedSimpArgs false
namespace Go.Vx.Ref
open Go
theorem Stands.even {s x y : K} (h : Stands s x y) : Even y := by
  obtain ⟨e1, e2, -⟩ := h.one_plus
  obtain ⟨i, hi⟩ := ZzB h.w0
  refine ⟨2 * s * i, ?_⟩
  have : (1 + y) * (1 - y) = ((1 + y) * (1 + s ^ 2)) * ((1 - y) * (1 + s ^ 2)) * i ^ 2 := by
    generalize 1 + s ^ 2 = w at *
    grind
  rw [this, e1, e2]; grind
theorem ZJb {b : List Int} (hb : L32 b) :
    (∃ r, ZeU 300 b = some (r, 0) ∧ CF r ∧ (Zbj b).2 = 0 ∧ Can (Zbj b).1 ∧ kf r = kv (Zbj b).1 ∧ val (Zbj b).1 = numB b) ∨
    (ZeU 300 b = some ([0, 0, 0, 0, 0, 0, 0, 0, 0, 0], 3) ∧ Zbj b = ([0, 0, 0, 0, 0], 3)) := by
  obtain ⟨r, h1, c1, e1⟩ := ZBf hb
  obtain ⟨z, h2, lz, ez⟩ := ZDt c1
  unfold ZeU
  simp only [h1, h2, mo]
  rcases ZBc hb with ⟨g1, g2, g3, g4⟩ | ⟨g1, g2⟩
  · left
    have hz : z = b := lz.inj hb (by rw [ez, e1, Int.emod_eq_of_lt (by omega) g1])
    rw [decide_eq_true hz]
    refine ⟨r, rfl, c1, g2, g3, ?_, g4⟩
    show K.of (num r) = K.of (val (Zbj b).1)
    rw [g4, e1, K.of_eq, Int.emod_emod]
  · right
    have hz : z ≠ b := fun h => by
      have := c1.2.2
      rw [h] at ez
      rw [← ez] at this
      exact absurd this (by omega)
    rw [decide_eq_false hz]
    exact ⟨rfl, g2⟩
theorem ZFY (N : Nat) (hN : N = 300) {a : List Int} (ha : L32 a) (p : P4) :
    (∃ x y t x' y', Zb0 N p a = some ((x, y, o5, t), 0) ∧ Zc6 N a = some ((x', y'), 0) ∧ CF x' ∧ CF y' ∧ Rep (x, y, o5, t) (kf x') (kf y') ∧ On (kf x') (kf y') ∧ Even (kf y') ∧ ZaR N (x, y, o5, t) = some a) ∨
    (∃ e, Zb0 N p a = some ((z5, z5, z5, z5), e) ∧ Zc6 N a = some ((ZaT.1, ZaT.2), e) ∧ (e = 3 ∨ e = 50)) := by
  rcases ZJb ha with ⟨r, h1, h2, h3, h4, h5, h6⟩ | ⟨h1, h2⟩
  · rw [← hN] at h1
    have hpair : Zbj a = ((Zbj a).1, 0) := by rw [← h3]
    generalize (Zbj a).1 = s at *
    by_cases ev : (kv s).ev
    · have rev : Zbc r = false := ZAZ h2 (by rw [h5]; exact ev)
      rcases pdecode p hpair h4 ev with ⟨x, y, t, k1, k2, k3, k4, k5, k6⟩ | ⟨k1, k2⟩
      · left
        rw [← hN] at k1
        rcases rstands h2 (by rw [h5]; exact ev) with ⟨x', y', g1, g2, g3, g4⟩ | ⟨q, -, -, g2⟩
        · rw [h5] at g4
          rw [← hN] at g1
          obtain ⟨u1, u2⟩ := g4.same k6
          refine ⟨x, y, t, x', y', k1, ?_, g2, g3, by rw [u1, u2]; exact ZA6 k2 k3 k4 k5, g4.on, Stands.even g4, ?_⟩
          · unfold Zc6
            simp only [h1, mo, show icmp .neq 0 0 = false from rfl, cond_false, rev, g1, Bool.not_true]
          · obtain ⟨q, hq⟩ := Stands.even k6
            obtain ⟨s', X, Y, f1, f2, f3, f4⟩ := pencode (ZHP k2 k3) k2 k3 k6.on hq
            have : s' = s := can_k f2 h4 ((f3.uniq k6 f4).1)
            rw [← hN] at f1
            rw [f1, this]
            have e := ZpL h4.L5
            refine congrArg some (e.1.inj ha ?_)
            rw [e.2, h6, Int.emod_eq_of_lt]
            · omega
            · rw [← h6]; exact h4.nonneg.2
        · exact absurd k6 (by rw [h5] at g2; exact g2 _ _)
      · right
        rw [← hN] at k1
        refine ⟨50, k1, ?_, .inr rfl⟩
        rcases rstands h2 (by rw [h5]; exact ev) with ⟨x', y', g1, g2, g3, g4⟩ | ⟨q, g1, -, g2⟩
        · rw [h5] at g4
          exact absurd g4 (k2 _ _)
        · rw [← hN] at g1
          unfold Zc6
          simp only [h1, mo, show icmp .neq 0 0 = false from rfl, cond_false, rev, g1, Bool.not_false, cond_true]
    · right
      refine ⟨3, ?_, ?_, .inl rfl⟩
      · unfold Zb0
        simp only [hpair, show icmp .neq 0 0 = false from rfl, cond_false, (ZEx h4).2 ev, cond_true]
      · unfold Zc6
        simp only [h1, mo, show icmp .neq 0 0 = false from rfl, cond_false, (ZDu h2).2 (by rw [h5]; exact ev), cond_true]
  · right
    rw [← hN] at h1
    refine ⟨3, ?_, ?_, .inl rfl⟩
    · unfold Zb0
      simp only [h2, show icmp .neq 3 0 = true from rfl, cond_true]
    · unfold Zc6
      simp only [h1, mo, show icmp .neq 3 0 = true from rfl, cond_true]
def kX : K := K.of 15112221349535400772501151409588531511454012693041857206046113283949847762202
def kY : K := K.of 46316835694926478169428394003475163141307993866256225615783033603165251855960
theorem kY_5 : K.of 5 * kY = K.of 4 := by
  unfold kY
  rw [← K.of_mul, K.of_eq]
  decide
theorem base_on : On kX kY := by
  have h : kY * kY - kX * kX = 1 + kD * (kX * kX) * (kY * kY) := by
    unfold kX kY kD
    rw [show (1 : K) = K.of 1 from rfl, ← K.of_mul, ← K.of_mul, ← K.of_mul, ← K.of_mul, ← K.of_sub, ← K.of_add, K.of_eq]
    decide
  unfold On
  generalize kD = d at *
  generalize kX = x at *
  generalize kY = y at *
  grind
theorem kX_ev : kX.ev := by unfold K.ev; decide
theorem base_d : kD * kY ^ 2 + 1 ≠ 0 := by
  intro h
  have h1 : kD * kY ^ 2 + 1 = K.of (37095705934669439343138083508754565189542113879843219016388785533085940283555 * (46316835694926478169428394003475163141307993866256225615783033603165251855960 * 46316835694926478169428394003475163141307993866256225615783033603165251855960) + 1) := by
    rw [K.of_add, K.of_mul, K.of_mul, ← k_sq]
    rfl
  rw [h1] at h
  have := K.of_eq.1 (show _ = K.of 0 from h)
  revert this
  decide
theorem rsmall (n : Int) (h : 0 ≤ n ∧ n < 1000) : ∃ r, Zaf 300 n = some r ∧ CF r ∧ kf r = K.of n := by
  obtain ⟨r, h1, h2, h3⟩ := ZHT (n := n) ⟨h.1, by omega⟩
  refine ⟨r, h1, h2, ?_⟩
  show K.of (num r) = K.of n
  rw [h3, K.of_eq, Int.emod_emod]
theorem rbase (N : Nat) (hN : N = 300) : ∃ x y, ZhX N = some (x, y) ∧ Zff N = some (x, y) ∧ CF x ∧ CF y ∧ kf x = kX ∧ kf y = kY := by
  obtain ⟨r1, h1, c1, e1⟩ := rsmall 4 (by decide)
  obtain ⟨r2, h2, c2, e2⟩ := rsmall 5 (by decide)
  have five : K.of 5 ≠ 0 := fun h => by
    have := K.of_eq.1 (show K.of 5 = K.of 0 from h)
    revert this; decide
  obtain ⟨r3, h3, c3, e3⟩ := ZGU c2 (by rw [e2]; exact five)
  obtain ⟨r4, h4, c4, e4⟩ := Zbq c1 c3
  have Y : kf r4 = kY := by
    refine K.cancel five ?_
    rw [kY_5, e4, e1, ← e2]
    rw [show kf r2 * (K.of 4 * kf r3) = (kf r3 * kf r2) * K.of 4 by generalize K.of 4 = k; grind, e3]
    generalize K.of 4 = k; grind
  obtain ⟨s1, k1, d1, f1⟩ := Zbq c4 c4
  obtain ⟨s2, k2, d2, f2⟩ := Zoc d1 Zfe
  obtain ⟨s3, k3, d3, f3⟩ := Zbq D_cf d1
  obtain ⟨s4, k4, d4, f4⟩ := Zj3 d3 Zfe
  obtain ⟨s5, ok, k5, d5, sr⟩ := ZvR d2 d4
  rw [ZlE] at f2 f4
  rw [f2, f4, f3, f1, Y, D_k, k_sq] at sr
  have on := base_on
  have := (sr.found (r := kX) base_d (by unfold On at on; generalize kX = x at *; generalize kY = y at *; generalize kD = d at *; grind)).2
  have X : kf s5 = kX := K.ev_root sr.ev kX_ev this
  rw [← hN] at h1 h2 h3 h4 k1 k2 k3 k4 k5
  have hb : Zff N = some (s5, r4) := by
    unfold Zff Zlt
    simp only [h1, h2, h3, h4, k1, k2, k3, k4, k5, mo]
  refine ⟨s5, r4, ?_, hb, d5, c4, X, Y⟩
  unfold ZhX
  simp only [hb, mo]
end Go.Vx.Ref
