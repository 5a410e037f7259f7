/- Numbers, part M23: the group modulo the four points; GroupLaws. -/
import Derived.Test.YtnhillmnkbfgoaaDoorVyM22
import Derived.Test.YtnhillmnkbfgoaaDoorVyZ
set_option autoImplicit false
set_option linter.unusedSimpArgs false
namespace Go.Vx
open Go

theorem mont_fin {P e f R R2 T L Ri c k q1 q2 : Int} (h0 : R * R = R2) (hT : T = R2 - c * L) (hI : Ri * R2 = 1 + k * L) (hE : e * R = P + q1 * L) (hF : f * R = e * T + q2 * L) : ∃ X : Int, f = P + X * L := by
  refine ⟨k * P - Ri * c * P + Ri * q1 * T + Ri * R * q2 - k * f, ?_⟩
  have h1 : R2 * f = (P + q1 * L) * T + R * q2 * L := by
    calc R2 * f = R * (f * R) := by rw [← h0, Int.mul_assoc, Int.mul_comm R f]
      _ = (e * R) * T + R * q2 * L := by rw [hF, Int.mul_add, ← Int.mul_assoc, ← Int.mul_assoc, Int.mul_comm R e]
      _ = _ := by rw [hE]
  have h2 : Ri * R2 * f = Ri * ((P + q1 * L) * T + R * q2 * L) := by rw [Int.mul_assoc, h1]
  rw [hI] at h2
  have h3 : Ri * T = 1 + k * L - Ri * c * L := by rw [hT, Int.mul_sub, hI, Int.mul_assoc]
  have h4 : Ri * ((P + q1 * L) * T + R * q2 * L) = P * (Ri * T) + Ri * q1 * T * L + Ri * R * q2 * L := by grind
  rw [h4, h3] at h2
  generalize Ri * T = y at *
  grind
theorem int_mod {f P L : Int} (h : ∃ X : Int, f = P + X * L) (h0 : 0 ≤ f ∧ f < L) : f = P % L := by
  obtain ⟨X, hX⟩ := h
  rw [← Int.add_mul_emod_self_right (a := P) (b := X) (c := L), ← hX, Int.emod_eq_of_lt h0.1 h0.2]
abbrev tw : List Int := [11819153939886771969, 14991950615390032711, 14910419812499177061, 259310039853996605]
theorem tw_lm : Lm tw 1627715501170711445284395025044413883736156588369414752970002579683115011841 := ⟨⟨_, _, _, _, rfl, ⟨by decide, by decide⟩, ⟨by decide, by decide⟩, ⟨by decide, by decide⟩, ⟨by decide, by decide⟩⟩, by decide, by decide⟩
theorem smul_k (N : Nat) (hN : 5 ≤ N) {a b : List Int} (ha : U4 a) (hb : U4 b) : ∃ r, scalar_Scalar_Mul N a b = some r ∧ Lm r (sc a * sc b % ordl) := by
  obtain ⟨x, h1, k1⟩ := sleast' ha
  obtain ⟨y, h2, k2⟩ := sleast' hb
  obtain ⟨e, m, h3, k3, q1, e1⟩ := product_k N hN k1 k2
  obtain ⟨f, n, h4, k4, q2, e2⟩ := product_k N hN k3 tw_lm
  refine ⟨f, ?_, ?_⟩
  · unfold scalar_Scalar_Mul
    simp only [h1, h2, h3, h4, mo]
  · have hf := mont_fin (P := ((sc a : Nat) : Int) * ((sc b : Nat) : Int)) (e := (m : Int)) (f := (n : Int)) (R := 115792089237316195423570985008687907853269984665640564039457584007913129639936) (R2 := 115792089237316195423570985008687907853269984665640564039457584007913129639936 * 115792089237316195423570985008687907853269984665640564039457584007913129639936)
      (T := ((1627715501170711445284395025044413883736156588369414752970002579683115011841 : Nat) : Int)) (L := ((ordl : Nat) : Int)) (Ri := 6066996205026858523957696384966770032717987752869616155354548954357763152994) (c := 1852673427797059126777135760139006525645217721299241702126143248052143860224795) (k := 11240162655598859305963771333747284242203356945575140266899545546333551095740923663247464138926094861825214333531550564593430236517063536351537907583188507)
      rfl (by decide) (by decide) e1 e2
    have hn : (n : Int) = ((sc a : Nat) : Int) * ((sc b : Nat) : Int) % ((ordl : Nat) : Int) := int_mod hf ⟨by omega, by have := k4.lt; omega⟩
    have : n = sc a * sc b % ordl := by
      rw [← Int.natCast_mul, ← Int.natCast_emod] at hn
      exact Int.ofNat.inj hn
    rw [← this]
    exact k4

/- The group. -/
instance : Std.Associative (α := E) (· + ·) := ⟨E.add_assoc⟩
instance : Std.Commutative (α := E) (· + ·) := ⟨E.add_comm⟩
theorem gadd {x y : P4} {a b : E} (h1 : RepE x a) (h2 : RepE y b) : ∃ u v z t, group_Point_Add x y = some (u, v, z, t) ∧ RepE (u, v, z, t) (a + b) := by
  obtain ⟨⟨u, v, z, t⟩, k1, k2⟩ := repE_add h1 h2
  obtain ⟨x1, x2, x3, x4⟩ := x
  obtain ⟨y1, y2, y3, y4⟩ := y
  exact ⟨u, v, z, t, by unfold group_Point_Add; simp only [k1, mo], k2⟩
theorem gdbl {x : P4} {a : E} (h1 : RepE x a) : ∃ u v z t, group_Point_Double x = some (u, v, z, t) ∧ RepE (u, v, z, t) (a + a) := by
  obtain ⟨⟨u, v, z, t⟩, k1, k2⟩ := repE_dbl h1
  obtain ⟨x1, x2, x3, x4⟩ := x
  exact ⟨u, v, z, t, by unfold group_Point_Double; simp only [k1, mo], k2⟩
theorem gneg {x : P4} {a : E} (h1 : RepE x a) : RepE (group_Point_Neg x) (-a) := repE_neg h1
theorem four (x : E) : x + x + (x + x) = (4 : Nat) • x := by
  rw [show (4 : Nat) = 1 + 1 + (1 + 1) from rfl, E.ns_add, E.ns_add, E.ns_one]
theorem gsame {x y : P4} {a b : E} (h1 : RepE x a) (h2 : RepE y b) : ∃ c, group_Point_Same x y = some c ∧ (c = true ↔ Eqv a b) := by
  obtain ⟨⟨u1, u2, u3, u4⟩, k1, r1⟩ := repE_sub h1 h2
  obtain ⟨⟨v1, v2, v3, v4⟩, k2, r2⟩ := repE_dbl r1
  obtain ⟨⟨w1, w2, w3, w4⟩, k3, r3⟩ := repE_dbl r2
  obtain ⟨c, k4, e4⟩ := repE_same r3 repE_zero
  rw [four] at e4
  obtain ⟨x1, x2, x3, x4⟩ := x
  obtain ⟨y1, y2, y3, y4⟩ := y
  refine ⟨c, ?_, e4⟩
  unfold group_Point_Same
  simp only [k1, k2, k3, k4, mo]
theorem gyes {x y : P4} {a b : E} (h1 : RepE x a) (h2 : RepE y b) (h : Eqv a b) : group_Point_Same x y = some true := by
  obtain ⟨c, k, e⟩ := gsame h1 h2
  rw [k, e.2 h]
theorem eqv_opp {e : E} (he : Ev e) {m k : Nat} (h : (k + m) % ordl = 0) : Eqv (-(m • e)) (k • e) := by
  have h1 : Eqv ((k + m) • e) 0 := by
    have := eqv_mod he (m := k + m) (n := 0) (by rw [h]; rfl)
    rwa [E.ns_zero] at this
  rw [E.ns_add] at h1
  have h2 := h1.symm.add (Eqv.of_eq (rfl : -(m • e) = -(m • e)))
  rw [E.zero_add, E.add_assoc, E.add_neg, E.add_zero] at h2
  exact h2
theorem mod_opp {k l : Nat} (h : k < l) : (k + (l - k) % l) % l = 0 := by
  rw [Nat.add_mod, Nat.mod_mod, ← Nat.add_mod, show k + (l - k) = l by omega, Nat.mod_self]
theorem gtimes (N : Nat) (hN : 65 ≤ N) {x : P4} {e : E} (h : RepE x e) (he : Ev e) {a : List Int} (ha : U4 a) : ∃ u v z t f, group_Point_Times N x a = some (u, v, z, t) ∧ RepE (u, v, z, t) f ∧ Eqv f (sc a • e) ∧ Ev f := by
  obtain ⟨r1, h1, k1⟩ := sleast' ha
  obtain ⟨r2, h2, k2⟩ := sneg_k k1.u
  obtain ⟨⟨u1, u2, u3, u4⟩, h3, k3⟩ := repE_scal N hN h k1.u
  obtain ⟨⟨v1, v2, v3, v4⟩, h4, k4⟩ := repE_scal N hN h k2.u
  rw [k1.sc] at k3
  rw [k1.sc] at k2
  rw [k2.sc] at k4
  obtain ⟨x1, x2, x3, x4⟩ := x
  unfold group_Point_Times
  simp only [h1, h2, mo]
  have main : ∃ u v z t f, some (u1, u2, u3, u4) = some (u, v, z, t) ∧ RepE (u, v, z, t) f ∧ Eqv f (sc a • e) ∧ Ev f := ⟨_, _, _, _, _, rfl, k3, .of_eq rfl, ev_ns he _⟩
  cases group_low r1
  · cases group_low r2
    · simp only [Bool.not_false, cond_true, cond_false, h3, mo]
      exact main
    · simp only [Bool.not_false, cond_true, cond_false, h4, mo]
      refine ⟨_, _, _, _, _, rfl, repE_neg k4, ?_, ev_neg (ev_ns he _)⟩
      refine eqv_opp he ?_
      exact mod_opp k1.lt
  · simp only [Bool.not_true, cond_false, h3, mo]
    exact main

theorem take_l32' {a : List Int} (hl : a.length = 64) (hb : Bs a) : L32 (List.take 32 (List.drop 0 a)) ∧ L32 (List.take 32 (List.drop 32 a)) :=
  ⟨⟨by simp [hl], fun x hx => hb x (List.mem_of_mem_take hx)⟩, ⟨by simp [hl], fun x hx => hb x (List.mem_of_mem_drop (List.mem_of_mem_take hx))⟩⟩
theorem half_E (N : Nat) (hN : N = 300) {a : List Int} (ha : L5 a) : ∃ u v z t e, group_MapHalf N a = some (u, v, z, t) ∧ RepE (u, v, z, t) e ∧ Ev e := by
  subst hN
  obtain ⟨x, y, t, R, V, S, ok, s, c, h1, h2, h3, h4, h5, h6⟩ := phalf ha
  obtain ⟨g1, g2⟩ := h6.on
  exact ⟨x, y, _, t, ⟨(kv x, kv y), g1⟩, h1, rep_one h2 h3 h4 h5, g2⟩
theorem map_E (N : Nat) (hN : N = 300) {a : List Int} (hl : a.length = 64) (hb : Bs a) : ∃ u v z t e, group_Map N a = some (u, v, z, t) ∧ RepE (u, v, z, t) e ∧ Ev e := by
  obtain ⟨l1, l2⟩ := take_l32' hl hb
  obtain ⟨x1, x2, x3, x4, e, h1, r1, v1⟩ := half_E N hN (reduce_spec l1).1.L5
  obtain ⟨y1, y2, y3, y4, f, h2, r2, v2⟩ := half_E N hN (reduce_spec l2).1.L5
  obtain ⟨z1, z2, z3, z4, h3, r3⟩ := gadd r1 r2
  refine ⟨z1, z2, z3, z4, e + f, ?_, r3, ev_add v1 v2⟩
  unfold group_Map
  simp only [h1, h2, h3, mo]

/- The base element. -/
def kS : K := K.of 53453403443306840533278073560698739391446669128918427283046925944918568268514
def kX0 : K := K.of 7413488746097234319268533557746747958297143720389000677696299943083562100178
def kY0 : K := K.of 9771384041963202563870679428059935816164187996444183106833894008023910952347
theorem base_stands : Stands kS kX0 kY0 := by
  have sq : kS ^ 2 = K.of (53453403443306840533278073560698739391446669128918427283046925944918568268514 ^ 2) := by unfold kS; rw [K.of_pow]
  refine ⟨by unfold K.ev; decide, by unfold K.ev; decide, ?_, ?_, ?_, ?_, ?_, ?_⟩
  · unfold kX0 kY0 K.ev
    rw [← K.of_mul]
    decide
  · intro h
    have := K.of_eq.1 (show K.of 9771384041963202563870679428059935816164187996444183106833894008023910952347 = K.of 0 from h)
    revert this; decide
  · rw [sq, show (1 : K) = K.of 1 from rfl, ← K.of_add]
    intro h
    have := K.of_eq.1 (show _ = K.of 0 from h)
    revert this; decide
  · rw [sq]
    unfold kY0
    rw [show (1 : K) = K.of 1 from rfl, ← K.of_add, ← K.of_mul, ← K.of_sub, K.of_eq]
    decide
  · rw [sq]
    unfold kD
    rw [show (1 : K) = K.of 1 from rfl, ← K.of_add, ← K.of_sub, ← K.of_pow, ← K.of_pow, ← K.of_mul, ← K.of_neg, ← K.of_sub]
    intro h
    have := K.of_eq.1 (show _ = K.of 0 from h)
    revert this; decide
  · rw [sq]
    unfold kD kX0
    rw [show (1 : K) = K.of 1 from rfl, show (4 : K) = K.of 4 from rfl, ← K.of_add, ← K.of_sub, ← K.of_pow, ← K.of_pow, ← K.of_pow, ← K.of_mul, ← K.of_neg, ← K.of_sub, ← K.of_mul, ← K.of_mul, K.of_eq]
    decide
theorem base_rel : Rel kB.1 kB.2 kX0 kY0 := by
  refine .inr (.inl ⟨?_, ?_⟩)
  · show K.of _ = _
    unfold kY0 kI
    rw [← K.of_mul, K.of_eq]
    decide
  · show K.of _ = _
    unfold kX0 kI
    rw [← K.of_mul, K.of_eq]
    decide
theorem eB_nz : ¬ Eqv eB 0 := fun h => by
  rw [eqv_iff, E.ns_z] at h
  have := ord_B h
  revert this
  decide
theorem base_E : RepE (curve_Base.1, curve_Base.2.1, curve_Base.2.2.1, curve_Base.2.2.2) eB := base_all
abbrev sL : List Int := [1896013492056802, 189344448319017, 52284272493571, 944785141617333, 2079008414258586]
theorem alive_k (N : Nat) (hN : N = 300) : veillaw05_alive N = some true := by
  subst hN
  obtain ⟨x, y, h1, cx, cy, ex, ey⟩ := base_E.affine
  have ex' : kv x = kB.1 := ex
  have ey' : kv y = kB.2 := ey
  obtain ⟨q, hq⟩ := ev_B
  obtain ⟨s, X, Y, h2, cs, st, rel⟩ := pencode (q := q) h1 cx cy (by rw [ex', ey']; exact kB_on) (by rw [ey']; exact hq)
  rw [ex', ey'] at rel
  have hs : kv s = kS := (st.uniq base_stands (base_rel.back.trans rel)).1
  have cl : Can sL := ⟨_, _, _, _, _, rfl, by decide, by decide, by decide, by decide, by decide, by decide⟩
  have : s = sL := can_k cs cl (by rw [hs]; unfold kS kv; rw [K.of_eq]; decide)
  subst this
  have e : field_Elem_Encode sL = [226, 242, 174, 10, 106, 188, 78, 113, 168, 132, 169, 97, 197, 0, 81, 95, 88, 227, 11, 106, 165, 130, 221, 141, 182, 166, 89, 69, 224, 141, 45, 118] := by kernel_rfl
  rw [e] at h2
  obtain ⟨c, h3, e3⟩ := gsame base_E repE_zero
  have c0 : c = false := no e3 eB_nz
  subst c0
  have h2' : group_Point_Encode 300 (group_Base.1, group_Base.2.1, group_Base.2.2.1, group_Base.2.2.2) = some [226, 242, 174, 10, 106, 188, 78, 113, 168, 132, 169, 97, 197, 0, 81, 95, 88, 227, 11, 106, 165, 130, 221, 141, 182, 166, 89, 69, 224, 141, 45, 118] := h2
  have h3' : group_Point_Same (group_Base.1, group_Base.2.1, group_Base.2.2.1, group_Base.2.2.2) ([0, 0, 0, 0, 0], [0, 0, 0, 0, 0], [0, 0, 0, 0, 0], [0, 0, 0, 0, 0]) = some false := h3
  unfold veillaw05_alive
  simp only [h2', mo, decide_true, cond_true, h3', Bool.not_false]

theorem beq_iff {a b : Bool} {p : Prop} (h : a = true ↔ p) (g : b = true ↔ p) : (a == b) = true := by
  cases a <;> cases b <;> simp_all
theorem iszero_sc {a : List Int} (ha : U4 a) : ∃ c, scalar_Scalar_IsZero a = some c ∧ (c = true ↔ sc a = 0) := by
  obtain ⟨r, h, k⟩ := sleast' ha
  refine ⟨_, by unfold scalar_Scalar_IsZero; simp only [h, mo]; rfl, ?_⟩
  rw [decide_eq_true_eq]
  exact k.iff lm_zero
theorem same_sc {a b : List Int} (ha : U4 a) (hb : U4 b) : ∃ c, scalar_Scalar_Same a b = some c ∧ (c = true ↔ sc a = sc b) := by
  obtain ⟨r, h, k⟩ := sleast' ha
  obtain ⟨s, g, l⟩ := sleast' hb
  refine ⟨_, by unfold scalar_Scalar_Same; simp only [h, g, mo]; rfl, ?_⟩
  rw [decide_eq_true_eq]
  exact k.iff l
theorem lm_one : Lm (scalar_Int 1) 1 := ⟨⟨_, _, _, _, rfl, ⟨by decide, by decide⟩, ⟨by decide, by decide⟩, ⟨by decide, by decide⟩, ⟨by decide, by decide⟩⟩, rfl, by decide⟩

/-- GroupLaws. -/
theorem glaws_N (N : Nat) (hN : N = 300) (a b c d e : List Int) (ha : a.length = 64 ∧ Bs a) (hb : b.length = 64 ∧ Bs b) (hc : c.length = 64 ∧ Bs c) (hd : U4 d) (he : U4 e) : veillaw05_GroupLaws N a b c d e = some true := by
  have h65 : 65 ≤ N := by omega
  have h1 := alive_k N hN
  obtain ⟨p1, p2, p3, p4, p, h2, rp, vp⟩ := map_E N hN ha.1 ha.2
  obtain ⟨q1, q2, q3, q4, q, h3, rq, vq⟩ := map_E N hN hb.1 hb.2
  obtain ⟨r1, r2, r3, r4, r, h4, rr, vr⟩ := map_E N hN hc.1 hc.2
  obtain ⟨a1, a2, a3, a4, h5, r5⟩ := gadd rp rq
  obtain ⟨b1, b2, b3, b4, h6, r6⟩ := gadd rq rp
  have k7 := gyes r5 r6 (.of_eq (E.add_comm p q))
  obtain ⟨c1, c2, c3, c4, h9, r9⟩ := gadd r5 rr
  obtain ⟨d1, d2, d3, d4, h10, r10⟩ := gadd rq rr
  obtain ⟨e1, e2, e3, e4, h11, r11⟩ := gadd rp r10
  have k12 := gyes r9 r11 (.of_eq (E.add_assoc p q r))
  obtain ⟨f1, f2, f3, f4, h13, r13⟩ := gadd rp repE_zero
  have k14 := gyes r13 rp (.of_eq (E.add_zero p))
  obtain ⟨g1, g2, g3, g4, h15, r15⟩ := gadd repE_zero rp
  have k16 := gyes r15 rp (.of_eq (E.zero_add p))
  obtain ⟨i1, i2, i3, i4, h17, r17⟩ := gadd rp (gneg rp)
  have h17' : group_Point_Add (p1, p2, p3, p4) ((group_Point_Neg (p1, p2, p3, p4)).1, (group_Point_Neg (p1, p2, p3, p4)).2.1, (group_Point_Neg (p1, p2, p3, p4)).2.2.1, (group_Point_Neg (p1, p2, p3, p4)).2.2.2) = some (i1, i2, i3, i4) := h17
  have k18 := gyes r17 repE_zero (.of_eq (E.add_neg p))
  obtain ⟨j1, j2, j3, j4, h19, r19⟩ := gdbl rp
  obtain ⟨l1, l2, l3, l4, h20, r20⟩ := gadd rp rp
  have k21 := gyes r19 r20 (.of_eq rfl)
  -- multiples
  obtain ⟨m1, m2, m3, m4, X, h22, r22, q22, v22⟩ := gtimes N h65 rp vp hd
  obtain ⟨n1, n2, n3, n4, Y, h23, r23, q23, v23⟩ := gtimes N h65 rp vp he
  obtain ⟨o1, o2, o3, o4, h24, r24⟩ := gadd r22 r23
  obtain ⟨sm, h25, s25⟩ := sadd_k hd he
  obtain ⟨s1, s2, s3, s4, Z, h26, r26, q26, v26⟩ := gtimes N h65 rp vp s25.u
  rw [s25.sc] at q26
  have k27 := gyes r24 r26 (by
    refine (q22.add q23).trans ?_
    rw [← E.ns_add]
    exact (eqv_mod vp (Nat.mod_mod _ _).symm).trans q26.symm)
  obtain ⟨t1, t2, t3, t4, W, h29, r29, q29, v29⟩ := gtimes N h65 r22 v22 he
  obtain ⟨pm, h30, s30⟩ := smul_k N (by omega) hd he
  obtain ⟨u1, u2, u3, u4, V, h31, r31, q31, v31⟩ := gtimes N h65 rp vp s30.u
  rw [s30.sc] at q31
  have k32 := gyes r29 r31 (by
    refine q29.trans ((q22.ns _).trans ?_)
    rw [← E.ns_mul, Nat.mul_comm]
    exact (eqv_mod vp (Nat.mod_mod _ _).symm).trans q31.symm)
  obtain ⟨v1, v2, v3, v4', P, h34, r34, q34, v34⟩ := gtimes N h65 r5 (ev_add vp vq) hd
  obtain ⟨w1, w2, w3, w4, Q, h36, r36, q36, v36⟩ := gtimes N h65 rq vq hd
  obtain ⟨x1, x2, x3, x4, h37, r37⟩ := gadd r22 r36
  have k38 := gyes r34 r37 (by
    refine q34.trans ?_
    rw [E.ns_sum]
    exact (q22.add q36).symm)
  obtain ⟨y1, y2, y3, y4, O, h39, r39, q39, v39⟩ := gtimes N h65 rp vp lm_one.u
  rw [lm_one.sc, E.ns_one] at q39
  have k40 := gyes r39 rp q39
  obtain ⟨mi, h41, s41⟩ := sneg_k lm_one.u
  rw [lm_one.sc] at s41
  obtain ⟨z1, z2, z3, z4, M, h42, r42, q42, v42⟩ := gtimes N h65 rp vp s41.u
  rw [s41.sc] at q42
  have k43 := gyes r42 (gneg rp) (by
    have := eqv_opp vp (m := 1) (k := (ordl - 1) % ordl) (by decide)
    rw [E.ns_one] at this
    exact q42.trans this.symm)
  have k43' : group_Point_Same (z1, z2, z3, z4) ((group_Point_Neg (p1, p2, p3, p4)).1, (group_Point_Neg (p1, p2, p3, p4)).2.1, (group_Point_Neg (p1, p2, p3, p4)).2.2.1, (group_Point_Neg (p1, p2, p3, p4)).2.2.2) = some true := k43
  -- sums
  obtain ⟨A1, A2, A3, A4, H1, R1⟩ := gadd r15 rq
  obtain ⟨B1, B2, B3, B4, H2, R2⟩ := gadd R1 rr
  obtain ⟨C1, C2, C3, C4, H3, R3⟩ := gadd R2 rp
  have h44 : group_Sum_4 (((p1, p2, p3, p4), (q1, q2, q3, q4), (r1, r2, r3, r4), (p1, p2, p3, p4)), ()) = some (C1, C2, C3, C4) := by
    unfold group_Sum_4
    simp only [h15, H1, H2, H3, mo]
  obtain ⟨D1, D2, D3, D4, h46, r46⟩ := gadd rq r19
  obtain ⟨E1, E2, E3, E4, h47, r47⟩ := gadd r46 rr
  have k48 := gyes R3 r47 (.of_eq (by rw [E.zero_add]; ac_rfl))
  have k49 : group_Point_Same ((group_Sum_nil ()).1, (group_Sum_nil ()).2.1, (group_Sum_nil ()).2.2.1, (group_Sum_nil ()).2.2.2) ([0, 0, 0, 0, 0], [0, 0, 0, 0, 0], [0, 0, 0, 0, 0], [0, 0, 0, 0, 0]) = some true := gyes repE_zero repE_zero (.of_eq rfl)
  obtain ⟨c50, h50, e50⟩ := gsame rp repE_zero
  obtain ⟨c52, h52, e52⟩ := gsame r22 repE_zero
  obtain ⟨c53, h53, e53⟩ := iszero_sc hd
  obtain ⟨c56, h56, e56⟩ := gsame r22 r23
  obtain ⟨c57, h57, e57⟩ := same_sc hd he
  unfold veillaw05_GroupLaws
  simp only [h1, mo, Bool.not_true, cond_false, cond_true, h2, h3, h4, h5, h6, k7, h9, h10, h11, k12, h13, k14, h15, k16, h17', k18, h19, h20, k21, h22, h23, h24, h25, h26, k27, h29, h30, h31, k32, h34, h36, h37, k38, h39, k40, h41, h42, k43', h44, h46, h47, k48, k49, h50]
  cases hc50 : c50 with
  | true => simp only [cond_true]
  | false =>
    have nz : ¬ Eqv p 0 := fun h => by
      have := e50.2 h
      rw [hc50] at this
      cases this
    have e52' : c52 = true ↔ sc d = 0 := by
      rw [e52, ← eqv_zero vp nz (sc_lt d)]
      exact ⟨fun h => q22.symm.trans h, fun h => q22.trans h⟩
    have e56' : c56 = true ↔ sc d = sc e := by
      rw [e56, ← eqv_inj vp nz (sc_lt d) (sc_lt e)]
      exact ⟨fun h => q22.symm.trans (h.trans q23), fun h => q22.trans (h.trans q23.symm)⟩
    simp only [cond_false, h52, h53, mo, beq_iff e52' e53, cond_true, h56, h57, beq_iff e56' e57]
theorem glaws_row (a b c d e : List Int) (ha : a.length = 64 ∧ Bs a) (hb : b.length = 64 ∧ Bs b) (hc : c.length = 64 ∧ Bs c) (hd : d.length = 4 ∧ ∀ x ∈ d, IntKind.u64.min ≤ x ∧ x ≤ IntKind.u64.max) (he : e.length = 4 ∧ ∀ x ∈ e, IntKind.u64.min ≤ x ∧ x ≤ IntKind.u64.max) : veillaw05_GroupLaws 300 a b c d e = some true := glaws_N 300 rfl a b c d e ha hb hc (u4_of hd) (u4_of he)

end Go.Vx
