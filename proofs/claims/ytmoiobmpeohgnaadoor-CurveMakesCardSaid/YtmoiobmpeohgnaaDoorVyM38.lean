import Derived.Test.YtmoiobmpeohgnaaDoorVyM8
/- Numbers, part M30a: the reference's point. -/
set_option autoImplicit false
namespace Go.Vx
open Go Ref

/-- The reference's point. -/
structure RR (q : List Int × List Int) (a : E) : Prop where
  x : CF q.1
  y : CF q.2
  ex : kf q.1 = a.p.1
  ey : kf q.2 = a.p.2

end Go.Vx

/- Numbers, part M32: the reference's curve in E: sums, multiples by fractions, torsion, what is free. -/
set_option autoImplicit false
set_option linter.unusedSimpArgs false
namespace Go.Vx
open Go Ref

theorem rr_add {x y u v : List Int} {a b : E} (h : RR (x, y) a) (g : RR (u, v) b) : ∃ s t, veilref04_Point_Add 300 (x, y) (u, v) = some (s, t) ∧ RR (s, t) (a + b) := by
  have ex : kf x = a.p.1 := h.ex
  have ey : kf y = a.p.2 := h.ey
  have eu : kf u = b.p.1 := g.ex
  have ev : kf v = b.p.2 := g.ey
  obtain ⟨s, t, k, c1, c2, e1, e2⟩ := radd4 h.x h.y g.x g.y (by rw [ex, ey]; exact a.on) (by rw [eu, ev]; exact b.on)
  rw [ex, ey, eu, ev] at e1 e2
  exact ⟨s, t, k, c1, c2, e1, e2⟩
theorem rzero_cf : CF [0, 0, 0, 0, 0, 0, 0, 0, 0, 0] := ⟨rfl, (fun x hx => by
  have hx : x ∈ List.replicate 10 (0 : Int) := hx
  obtain rfl := List.eq_of_mem_replicate hx
  decide), by decide⟩
theorem kf_nil : kf [0, 0, 0, 0, 0, 0, 0, 0, 0, 0] = 0 := (kf_zero rzero_cf).1 rfl
theorem rr_zero : RR veilref04_Neutral 0 := ⟨rzero_cf, rone_cf, kf_nil, kf_one⟩
end Go.Vx

/- Numbers, part M33: the reference's torsion points; the reference's least scalars. -/
set_option autoImplicit false
set_option linter.unusedSimpArgs false
namespace Go.Vx
open Go Ref

theorem mo_go {α R : Type} (a : α) (f : R) (k : α → R) : mo (some a) f k = k a := rfl
def decF {α : Type} (N : Nat) (ten : List Int) (K : List Int → Option α) : List Int → List Int → Option α
  | [], r => K r
  | d :: ds, r => mo (veilref01_F_Mul N r ten) none fun r1 => mo (veilref01_Small N d) none fun r2 => mo (veilref01_F_Add N r1 r2) none fun r3 => decF N ten K ds r3
theorem decF_k {α : Type} (N : Nat) (hN : N = 300) {ten : List Int} (ht : CF ten) (et : kf ten = K.of 10) (C : List Int → Option α) : (ds : List Int) → (∀ d ∈ ds, 0 ≤ d ∧ d < 10) → (r : List Int) → (n : Int) → CF r → kf r = K.of n →
    ∃ s, decF N ten C ds r = C s ∧ CF s ∧ kf s = K.of (ds.foldl (fun n d => n * 10 + d) n)
  | [], _, r, n, hr, er => ⟨r, rfl, hr, er⟩
  | d :: ds, hd, r, n, hr, er => by
    obtain ⟨r1, k1, c1, e1⟩ := rmul_k hr ht
    obtain ⟨r2, k2, c2, e2⟩ := rsmall d ⟨(hd d (by simp)).1, by have := (hd d (by simp)).2; omega⟩
    obtain ⟨r3, k3, c3, e3⟩ := radd_k c1 c2
    rw [← hN] at k1 k2 k3
    obtain ⟨s, h1, h2, h3⟩ := decF_k N hN ht et C ds (fun x hx => hd x (by simp [hx])) r3 (n * 10 + d) c3 (by rw [e3, e1, e2, er, et, K.of_add, K.of_mul])
    refine ⟨s, ?_, h2, h3⟩
    rw [← h1]
    show mo _ _ _ = _
    simp only [k1, k2, k3, mo]

abbrev tX : List Int := [1, 4, 3, 9, 9, 3, 1, 7, 8, 6, 8, 2, 0, 0, 1, 1, 8, 2, 6, 0, 3, 4, 7, 9, 3, 4, 3, 2, 0, 5, 2, 7, 2, 3, 2, 5, 8, 0, 6, 1, 8, 8, 2, 3, 9, 7, 1, 1, 9, 4, 3, 4, 5, 2, 6, 1, 2, 1, 4, 2, 1, 7, 5, 7, 5, 4, 1, 6, 7, 8, 8, 7, 9, 9, 8, 1, 8]
abbrev tY : List Int := [2, 7, 0, 7, 3, 8, 5, 5, 0, 1, 1, 4, 4, 8, 4, 0, 6, 4, 9, 3, 1, 8, 2, 2, 5, 2, 8, 7, 2, 2, 5, 6, 5, 8, 7, 8, 8, 9, 3, 6, 8, 0, 4, 2, 6, 7, 5, 7, 5, 3, 1, 3, 5, 1, 9, 4, 6, 3, 7, 4, 3, 6, 0, 9, 7, 5, 0, 3, 0, 3, 4, 0, 2, 0, 2, 2]
def torEnd (N : Nat) (a : Int) (x y : List Int) : Option (List Int × List Int) := mo (loopF (veilref04_Torsion_l0 N) N ((a, (), (), (), 0), ((), (), (x, y), (veilref04_Neutral.1, veilref04_Neutral.2)))) none fun r => match r with
      | .inl u => some (u.2.2.2.1, u.2.2.2.2)
      | .inr _ => none
def torMid (N : Nat) (a : Int) (x : List Int) : Option (List Int × List Int) := mo (veilref01_Small N 10) none fun t2 => decF N t2 (torEnd N a x) tY [0, 0, 0, 0, 0, 0, 0, 0, 0, 0]
set_option maxRecDepth 100000 in
theorem tor_form (N : Nat) (a : Int) : veilref04_Torsion N a = mo (veilref01_Small N 10) none fun t1 => decF N t1 (torMid N a) tX [0, 0, 0, 0, 0, 0, 0, 0, 0, 0] := by kernel_rfl
theorem eT_x : eT.p.1 = K.of ((14399317868200118260347934320527232580618823971194345261214217575416788799818 : Nat) : Int) := rfl
theorem eT_y : eT.p.2 = K.of ((2707385501144840649318225287225658788936804267575313519463743609750303402022 : Nat) : Int) := rfl

theorem rem8 {a : Int} (h : -9223372036854775808 ≤ a ∧ a ≤ 9223372036854775807) : ibin .rem .i64 (ibin .add .i64 (ibin .rem .i64 a 8) 8) 8 = a % 8 := by
  have e1 : ibin .rem .i64 a 8 = a.tmod 8 := rfl
  have h1 := Int.mul_tdiv_add_tmod a 8
  have h2 := Int.tmod_lt_of_pos a (b := 8) (by decide)
  have h3 : -8 < a.tmod 8 := by
    have := Int.tmod_lt_of_pos (-a) (b := 8) (by decide)
    rw [Int.neg_tmod] at this
    omega
  rw [e1, show ibin .add .i64 (a.tmod 8) 8 = a.tmod 8 + 8 from wrapi (by omega) (by omega)]
  have e2 : ibin .rem .i64 (a.tmod 8 + 8) 8 = (a.tmod 8 + 8).tmod 8 := rfl
  rw [e2, Int.tmod_eq_emod_of_nonneg (by omega)]
  omega

theorem tor_loop (N : Nat) (hN : N = 300) {a : Int} (h : -9223372036854775808 ≤ a ∧ a ≤ 9223372036854775807) {x y : List Int} (hT : RR (x, y) eT) : (k i : Nat) → i + k = (a % 8).toNat → (fuel : Nat) → k < fuel → (u v : List Int) → RR (u, v) (i • eT) →
    ∃ s t, loopF (veilref04_Torsion_l0 N) fuel ((a, (), (), (), (i : Int)), ((), (), (x, y), (u, v))) = some (.inl (((), ()), ((), (), (s, t)))) ∧ RR (s, t) ((a % 8).toNat • eT)
  | 0, i, hi, fuel, hf, u, v, hu => by
    obtain ⟨f, rfl⟩ : ∃ f, fuel = f + 1 := ⟨fuel - 1, by omega⟩
    obtain rfl : i = (a % 8).toNat := by omega
    have hs : veilref04_Torsion_l0 N ((a, (), (), (), (((a % 8).toNat : Nat) : Int)), ((), (), (x, y), (u, v))) = some (.inr (.inl (((), ()), ((), (), (u, v))))) := by
      unfold veilref04_Torsion_l0
      have : icmp .lss (((a % 8).toNat : Nat) : Int) (a % 8) = false := decide_eq_false (by omega)
      simp only [rem8 h, this, cond_false]
    exact ⟨u, v, loop_out hs f, hu⟩
  | k + 1, i, hi, fuel, hf, u, v, hu => by
    obtain ⟨f, rfl⟩ : ∃ f, fuel = f + 1 := ⟨fuel - 1, by omega⟩
    obtain ⟨s, t, k1, k2⟩ := rr_add hu hT
    rw [← hN] at k1
    have hs : veilref04_Torsion_l0 N ((a, (), (), (), (i : Int)), ((), (), (x, y), (u, v))) = some (.inl ((a, (), (), (), ((i + 1 : Nat) : Int)), ((), (), (x, y), (s, t)))) := by
      unfold veilref04_Torsion_l0
      have : icmp .lss (i : Int) (a % 8) = true := decide_eq_true (by omega)
      simp only [rem8 h, this, cond_true, k1, mo, inc32 (k := i) (by omega)]
    obtain ⟨s', t', l1, l2⟩ := tor_loop N hN h hT k (i + 1) (by omega) f (by omega) s t k2
    exact ⟨s', t', (loop_in hs f).trans l1, l2⟩

theorem tX_sum : tX.foldl (fun n d => n * 10 + d) (0 : Int) = ((14399317868200118260347934320527232580618823971194345261214217575416788799818 : Nat) : Int) := by decide +kernel
theorem tY_sum : tY.foldl (fun n d => n * 10 + d) (0 : Int) = ((2707385501144840649318225287225658788936804267575313519463743609750303402022 : Nat) : Int) := by decide +kernel
theorem tX_all : ∀ d ∈ tX, (0 : Int) ≤ d ∧ d < 10 := by decide
theorem tY_all : ∀ d ∈ tY, (0 : Int) ≤ d ∧ d < 10 := by decide
theorem decX {α : Type} (N : Nat) (hN : N = 300) {ten : List Int} (ht : CF ten) (et : kf ten = K.of 10) (C : List Int → Option α) : ∃ s, decF N ten C tX [0, 0, 0, 0, 0, 0, 0, 0, 0, 0] = C s ∧ CF s ∧ kf s = eT.p.1 := by
  obtain ⟨x, x1, x2, x3⟩ := decF_k N hN ht et C tX tX_all _ 0 rzero_cf (kf_nil.trans (show (0 : K) = K.of 0 from rfl))
  exact ⟨x, x1, x2, x3.trans ((congrArg K.of tX_sum).trans eT_x.symm)⟩
theorem decY {α : Type} (N : Nat) (hN : N = 300) {ten : List Int} (ht : CF ten) (et : kf ten = K.of 10) (C : List Int → Option α) : ∃ s, decF N ten C tY [0, 0, 0, 0, 0, 0, 0, 0, 0, 0] = C s ∧ CF s ∧ kf s = eT.p.2 := by
  obtain ⟨x, x1, x2, x3⟩ := decF_k N hN ht et C tY tY_all _ 0 rzero_cf (kf_nil.trans (show (0 : K) = K.of 0 from rfl))
  exact ⟨x, x1, x2, x3.trans ((congrArg K.of tY_sum).trans eT_y.symm)⟩
/-- The reference's torsion points. -/
theorem rtorsion (N : Nat) (hN : N = 300) {a : Int} (h : -9223372036854775808 ≤ a ∧ a ≤ 9223372036854775807) : ∃ s t, veilref04_Torsion N a = some (s, t) ∧ RR (s, t) ((a % 8).toNat • eT) := by
  obtain ⟨t1, h1, c1, e1⟩ := rsmall 10 (by decide)
  rw [← hN] at h1
  obtain ⟨x, x1, x2, x3⟩ := decX N hN c1 e1 (torMid N a)
  obtain ⟨y, y1, y2, y3⟩ := decY N hN c1 e1 (torEnd N a x)
  have hT : RR (x, y) eT := ⟨x2, y2, x3, y3⟩
  obtain ⟨s, t, l1, l2⟩ := tor_loop N hN h hT (a % 8).toNat 0 (by omega) N (by omega) veilref04_Neutral.1 veilref04_Neutral.2 rr_zero
  have l1' : loopF (veilref04_Torsion_l0 N) N ((a, (), (), (), 0), ((), (), (x, y), (veilref04_Neutral.1, veilref04_Neutral.2))) = _ := l1
  have hend : torEnd N a x y = some (s, t) := by
    unfold torEnd
    simp only [l1', mo]
  have hmid : torMid N a x = some (s, t) := by
    unfold torMid
    rw [h1, mo_go]
    exact y1.trans hend
  refine ⟨s, t, ?_, l2⟩
  rw [tor_form, h1, mo_go]
  exact x1.trans hmid

end Go.Vx

/- Numbers, part M38: the points that come from outside; CurveMakes. -/
set_option autoImplicit false
set_option linter.unusedSimpArgs false
namespace Go.Vx
open Go Ref

/-- A point has the reference's coordinates. -/
theorem coords_ok (N : Nat) (hN : N = 300) {p : P4} {x y : List Int} {a : E} (g : RepE p a) (h : RR (x, y) a) : veillaw04_coords N p (x, y) = some true := by
  obtain ⟨xl, yl, k1, k2, k3, k4, k5⟩ := Rep.affine g
  obtain ⟨m, m1, m2, m3⟩ := limbs_can h.x
  obtain ⟨n, n1, n2, n3⟩ := limbs_can h.y
  have e1 : xl = m := can_k k2 m2 (by rw [k4, ← show kf x = a.p.1 from h.ex]; exact kf_of (by rw [m3, Int.emod_eq_of_lt (by rw [← m3]; exact m2.nonneg.1) (by rw [← m3]; exact m2.nonneg.2)]))
  have e2 : yl = n := can_k k3 n2 (by rw [k5, ← show kf y = a.p.2 from h.ey]; exact kf_of (by rw [n3, Int.emod_eq_of_lt (by rw [← n3]; exact n2.nonneg.1) (by rw [← n3]; exact n2.nonneg.2)]))
  subst e1 e2
  obtain ⟨p1, p2, p3, p4⟩ := p
  have m1' : veilref01_F_Limbs 300 (x, y).1 = some xl := m1
  have n1' : veilref01_F_Limbs 300 (x, y).2 = some yl := n1
  subst hN
  unfold veillaw04_coords
  simp only [k1, m1', n1', mo, decide_true, cond_true]

theorem ron_k {x y : List Int} (hx : CF x) (hy : CF y) : ∃ c, veilref04_On 300 x y = some c ∧ (c = true ↔ On (kf x) (kf y)) := by
  obtain ⟨r1, k1, c1, e1⟩ := rmul_k hx hx
  obtain ⟨r2, k2, c2, e2⟩ := rmul_k hy hy
  obtain ⟨r3, k3, c3, e3⟩ := rsub_k c2 c1
  obtain ⟨r4, k4, c4, e4⟩ := rmul_k D_cf c1
  obtain ⟨r5, k5, c5, e5⟩ := rmul_k c4 c2
  obtain ⟨r6, k6, c6, e6⟩ := radd_k rone_cf c5
  refine ⟨decide (r3 = r6), ?_, ?_⟩
  · unfold veilref04_On
    simp only [k1, k2, k3, k4, k5, k6, mo]
  · rw [decide_eq_true_eq]
    have : r3 = r6 ↔ kf r3 = kf r6 := ⟨fun h => by rw [h], fun h => cf_k c3 c6 h⟩
    rw [this, e3, e6, e5, e4, e2, e1, kf_one, D_k]
    unfold On
    generalize kf x = u
    generalize kf y = v
    generalize kD = d
    constructor
    · intro h; grind
    · intro h; grind

theorem out_zero : RepE (z5, z5, z5, z5) 0 ∧ RR veilref04_Neutral 0 := ⟨repE_zero, rr_zero⟩

theorem aff_both (N : Nat) (hN : N = 300) {x y : List Int} (hx : L5 x) (hy : L5 y) : ∃ p q e n m a, curve_FromAffine x y = some (p, e) ∧ veilref01_Of N x = some n ∧ veilref01_Of N y = some m ∧ veilref04_FromAffine N n m = some (q, e) ∧ RepE p a ∧ RR q a := by
  obtain ⟨n, n1, n2, n3⟩ := of_spec hx
  obtain ⟨m, m1, m2, m3⟩ := of_spec hy
  have en := kf_of n3
  have em := kf_of m3
  obtain ⟨c, c1, c2⟩ := ron_k n2 m2
  rw [en, em] at c2
  rw [← hN] at n1 m1 c1
  rcases faff hx hy with ⟨t, h1, h2, h3⟩ | ⟨h1, h2⟩
  · have hc : c = true := c2.2 h3
    subst hc
    refine ⟨_, (n, m), 0, n, m, ⟨(kv x, kv y), h3⟩, h1, n1, m1, ?_, h2, ⟨n2, m2, en, em⟩⟩
    unfold veilref04_FromAffine
    simp only [c1, mo, Bool.not_true, cond_false]
  · have hc : c = false := Bool.eq_false_iff.2 fun q => h2 (c2.1 q)
    subst hc
    refine ⟨_, veilref04_Neutral, 40, n, m, 0, h1, n1, m1, ?_, out_zero.1, out_zero.2⟩
    unfold veilref04_FromAffine
    simp only [c1, mo, Bool.not_false, cond_true]

theorem rxof_k {y : List Int} (hy : CF y) : ∃ s ok, veilref04_XOf 300 y = some (s, ok) ∧ CF s ∧ SR (kf y ^ 2 - 1) (kD * kf y ^ 2 + 1) (kf s) ok := by
  obtain ⟨s1, k1, d1, f1⟩ := rmul_k hy hy
  obtain ⟨s2, k2, d2, f2⟩ := rsub_k d1 rone_cf
  obtain ⟨s3, k3, d3, f3⟩ := rmul_k D_cf d1
  obtain ⟨s4, k4, d4, f4⟩ := radd_k d3 rone_cf
  obtain ⟨s5, ok, k5, d5, sr⟩ := rsqrt_sr d2 d4
  rw [kf_one] at f2 f4
  rw [f2, f4, f3, f1, D_k, k_sq] at sr
  refine ⟨s5, ok, ?_, d5, sr⟩
  unfold veilref04_XOf
  simp only [k1, k2, k3, k4, k5, mo]

/-- Decompress, the program's and the reference's. -/
theorem dec_both (N : Nat) (hN : N = 300) {b : List Int} (hb : L32 b) : ∃ p q e a, curve_Decompress N b = some (p, e) ∧ veilref04_Decompress N b = some (q, e) ∧ RepE p a ∧ RR q a := by
  have hl := low_l32 hb
  have hset : List.set b 31 (ibin .and .u8 (List.getD b 31 0) 127) = lowB b := rfl
  have hge : icmp .geq (List.getD b 31 0) 128 = decide (127 < List.getD b 31 0) := by
    show decide (List.getD b 31 0 ≥ 128) = _
    exact decide_eq_decide.2 (by omega)
  rcases decomp_k hb with ⟨h1, h2⟩ | ⟨y, s, ok, r1, r3, h1, hy, hv, hs, sr, -, -, -, -, -, h⟩
  · rcases rdecode_k hl with ⟨r, -, -, g, -⟩ | ⟨g1, -⟩
    · rw [h1] at g; simp at g
    · rw [← hN] at h2 g1
      refine ⟨_, veilref04_Neutral, 3, 0, h2, ?_, out_zero.1, out_zero.2⟩
      unfold veilref04_Decompress
      simp only [hset, g1, mo, show icmp .neq 3 0 = true from rfl, cond_true]
  · rcases rdecode_k hl with ⟨r, g1, g2, g3, g4, g5, -⟩ | ⟨-, g2⟩
    · rw [h1] at g4 g5
      have g5 : kf r = kv y := g5
      obtain ⟨t, ok', x1, x2, x3⟩ := rxof_k g2
      rw [g5] at x3
      obtain ⟨e1, e2⟩ := x3.uniq sr
      subst e2
      rw [← hN] at g1 x1
      have hz : t = [0, 0, 0, 0, 0, 0, 0, 0, 0, 0] ↔ kv s = 0 := by rw [kf_zero x2, e1]
      have base : veilref04_Decompress N b = cond (!ok') (some ((veilref04_Neutral.1, veilref04_Neutral.2), 40)) (cond (decide (127 < List.getD b 31 0)) (cond (decide (t = [0, 0, 0, 0, 0, 0, 0, 0, 0, 0])) (some ((veilref04_Neutral.1, veilref04_Neutral.2), 3)) (some ((veilref01_F_Neg t, r), 0))) (some ((t, r), 0))) := by
        unfold veilref04_Decompress
        simp only [hset, g1, mo, show icmp .neq 0 0 = false from rfl, cond_false, x1, hge]
        cases ok' <;> cases decide (127 < List.getD b 31 0) <;> rfl
      rw [base]
      rw [← hN] at h
      rcases h with ⟨rfl, h⟩ | ⟨rfl, hb1, hz1, h⟩ | ⟨rfl, hb1, hz1, w, h, hw, ew⟩ | ⟨rfl, hb1, w, h, hw, ew⟩
      · exact ⟨_, veilref04_Neutral, 40, 0, h, rfl, out_zero.1, out_zero.2⟩
      · rw [decide_eq_true hb1, decide_eq_true (hz.2 hz1)]
        exact ⟨_, veilref04_Neutral, 3, 0, h, rfl, out_zero.1, out_zero.2⟩
      · rw [decide_eq_true hb1, decide_eq_false (fun q => hz1 (hz.1 q))]
        have n := neg_k hs.L5
        have m := rneg_k x2
        refine ⟨_, (veilref01_F_Neg t, r), 0, ⟨(kv (field_Elem_Neg s), kv y), by rw [n.2]; exact on_negx (sr_on sr)⟩, h, rfl, rep_one n.1 hy hw ew, ⟨m.1, g2, ?_, g5⟩⟩
        show kf (veilref01_F_Neg t) = kv (field_Elem_Neg s)
        rw [m.2, n.2, e1]
      · rw [decide_eq_false hb1]
        exact ⟨_, (t, r), 0, ⟨(kv s, kv y), sr_on sr⟩, h, rfl, rep_one hs hy hw ew, ⟨x2, g2, e1, g5⟩⟩
    · rw [h1] at g2
      have := (Prod.mk.inj g2).2
      simp at this

/- The steps that make points. -/
abbrev St8 : Type := Int × Int × Int × Int × List Int × List Int × List Int × List Int
structure CsOK (s : St8) : Prop where
  n : -9223372036854775808 ≤ s.2.2.2.1 ∧ s.2.2.2.1 ≤ 9223372036854775807
  k : L32 s.2.2.2.2.1
  x : L5 s.2.2.2.2.2.2.1
  y : L5 s.2.2.2.2.2.2.2

/-- The reference's base. -/
theorem rbase4 (N : Nat) (hN : N = 300) : ∃ x y, veilref04_Base N = some (x, y) ∧ CF x ∧ CF y ∧ kf x = kX ∧ kf y = kY := by
  obtain ⟨r1, h1, c1, e1⟩ := rsmall 4 (by decide)
  obtain ⟨r2, h2, c2, e2⟩ := rsmall 5 (by decide)
  have five : K.of 5 ≠ 0 := fun h => by
    have := K.of_eq.1 (show K.of 5 = K.of 0 from h)
    revert this; decide
  obtain ⟨r3, h3, c3, e3⟩ := rinv_k c2 (by rw [e2]; exact five)
  obtain ⟨r4, h4, c4, e4⟩ := rmul_k c1 c3
  have Y : kf r4 = kY := by
    refine K.cancel five ?_
    rw [kY_5, e4, e1, ← e2]
    rw [show kf r2 * (K.of 4 * kf r3) = (kf r3 * kf r2) * K.of 4 by generalize K.of 4 = k; grind, e3]
    generalize K.of 4 = k; grind
  obtain ⟨s1, k1, d1, f1⟩ := rmul_k c4 c4
  obtain ⟨s2, k2, d2, f2⟩ := rsub_k d1 rone_cf
  obtain ⟨s3, k3, d3, f3⟩ := rmul_k D_cf d1
  obtain ⟨s4, k4, d4, f4⟩ := radd_k d3 rone_cf
  obtain ⟨s5, ok, k5, d5, sr⟩ := rsqrt_sr d2 d4
  rw [kf_one] at f2 f4
  rw [f2, f4, f3, f1, Y, D_k, k_sq] at sr
  have on := base_on
  have := (sr.found (r := kX) base_d (by unfold On at on; generalize kX = x at *; generalize kY = y at *; generalize kD = d at *; grind)).2
  have X : kf s5 = kX := K.ev_root sr.ev kX_ev this
  rw [← hN] at h1 h2 h3 h4 k1 k2 k3 k4 k5
  have hb : veilref04_Base N = some (s5, r4) := by
    unfold veilref04_Base veilref04_XOf
    simp only [h1, h2, h3, h4, k1, k2, k3, k4, k5, mo]
  exact ⟨s5, r4, hb, d5, c4, X, Y⟩

theorem base_ok (N : Nat) (hN : N = 300) : ∃ x y, veilref04_Base N = some (x, y) ∧ veillaw04_coords N (curve_Base.1, curve_Base.2.1, curve_Base.2.2.1, curve_Base.2.2.2) (x, y) = some true := by
  obtain ⟨bx, by_, h4, cx, cy, ex, ey⟩ := rbase4 N hN
  have rb : RR (bx, by_) eB := ⟨cx, cy, ex, ey⟩
  exact ⟨bx, by_, h4, coords_ok N hN base_E rb⟩
theorem zero_ok (N : Nat) (hN : N = 300) : veillaw04_coords N (z5, z5, z5, z5) (veilref04_Neutral.1, veilref04_Neutral.2) = some true := coords_ok N hN out_zero.1 out_zero.2
theorem mbase_k (N : Nat) (hN : N = 300) : veillaw04_base N = some true := by
  obtain ⟨x, y, h1, h2⟩ := base_ok N hN
  have h3 := zero_ok N hN
  unfold veillaw04_base
  simp only [h1, h2, h3, mo, cond_true]

theorem fit160 {n m : Nat} (h : n < m) (hm : m * 176 ≤ 140737488355328) : decide ((n + 1) * 160 ≤ 140737488355328 ∧ n + 1 ≤ 9223372036854775807) = true := decide_eq_true (by omega)

theorem makes_l0 (N M : Nat) (hN : N = 300) (sc : List St8) (hsc : ∀ s ∈ sc, CsOK s) (hsz : sc.length * 176 ≤ 140737488355328) : (k i : Nat) → i + k = sc.length → (fuel : Nat) → k < fuel → (P : List (List Int × List Int × List Int × List Int)) → (R : List (List Int × List Int)) → P.length ≤ i → R.length ≤ i →
    loopF (veillaw04_CurveMakes_l0 N M) fuel ((sc.length, (), (), (i : Int)), (sc, P, R, (P.length, R.length))) = some (.inl ((), ()))
  | 0, i, hi, fuel, hf, P, R, hp, hr => by
    obtain ⟨f, rfl⟩ : ∃ f, fuel = f + 1 := ⟨fuel - 1, by omega⟩
    have g0 : icmp .lss (i : Int) ((sc.length : Nat) : Int) = false := decide_eq_false (by omega)
    refine loop_out ?_ f
    unfold veillaw04_CurveMakes_l0
    simp only [g0, cond_false]
  | k + 1, i, hi, fuel, hf, P, R, hp, hr => by
    obtain ⟨f, rfl⟩ : ∃ f, fuel = f + 1 := ⟨fuel - 1, by omega⟩
    have hlt : i < sc.length := by omega
    have g0 : icmp .lss (i : Int) ((sc.length : Nat) : Int) = true := decide_eq_true (by omega)
    have g1 : decide (0 ≤ (i : Int) ∧ (i : Int) < ((sc.length : Nat) : Int)) = true := decide_eq_true (by omega)
    have inc : ibin .add .i64 (i : Int) 1 = ((i + 1 : Nat) : Int) := by rw [Ref.i_add (by omega) (by omega)]; omega
    have so : CsOK (List.getD sc i (0, 0, 0, 0, List.replicate 32 0, [0, 0, 0, 0], [0, 0, 0, 0, 0], [0, 0, 0, 0, 0])) := hsc _ (by
      rw [List.getD_eq_getElem?_getD, List.getElem?_eq_getElem hlt]
      exact List.getElem_mem hlt)
    have again : ∀ P' R', P'.length ≤ i + 1 → R'.length ≤ i + 1 → veillaw04_CurveMakes_l0 N M ((sc.length, (), (), (i : Int)), (sc, P, R, (P.length, R.length))) = some (.inl ((sc.length, (), (), ((i + 1 : Nat) : Int)), (sc, P', R', (P'.length, R'.length)))) → loopF (veillaw04_CurveMakes_l0 N M) (f + 1) ((sc.length, (), (), (i : Int)), (sc, P, R, (P.length, R.length))) = some (.inl ((), ())) := by
      intro P' R' h1 h2 h3
      exact (loop_in h3 f).trans (makes_l0 N M hN sc hsc hsz k (i + 1) (by omega) f (by omega) P' R' h1 h2)
    have w1 := fit160 (n := P.length) (m := sc.length) (by omega) hsz
    have w2 := fit160 (n := R.length) (m := sc.length) (by omega) hsz
    have l1 : ∀ p, (P ++ [p]).length = P.length + 1 := fun p => by simp
    have l2 : ∀ q, (R ++ [q]).length = R.length + 1 := fun q => by simp
    unfold veillaw04_CurveMakes_l0 at again
    simp only [g0, g1, cond_true, Int.toNat_natCast] at again
    generalize List.getD sc i (0, 0, 0, 0, List.replicate 32 0, [0, 0, 0, 0], [0, 0, 0, 0, 0], [0, 0, 0, 0, 0]) = s at so again
    cases h5 : icmp .lss s.1 5 with
    | false =>
      refine again P R (by omega) (by omega) ?_
      simp only [h5, cond_false, inc]
    | true =>
      cases c1 : icmp .eql s.1 1 with
      | true =>
        obtain ⟨x, y, b1, b2⟩ := base_ok N hN
        refine again (P ++ [(curve_Base.1, curve_Base.2.1, curve_Base.2.2.1, curve_Base.2.2.2)]) (R ++ [(x, y)]) (by rw [l1]; omega) (by rw [l2]; omega) ?_
        simp only [h5, c1, cond_true, b1, b2, mo, l1, l2, w1, w2, Bool.not_true, cond_false, inc]
      | false =>
        cases c2 : icmp .eql s.1 2 with
        | true =>
          obtain ⟨t1, t2, t3, t4, b1, b2⟩ := tor_E so.n
          obtain ⟨x, y, b3, b4⟩ := rtorsion N hN so.n
          have b5 := coords_ok N hN b2 b4
          refine again (P ++ [(t1, t2, t3, t4)]) (R ++ [(x, y)]) (by rw [l1]; omega) (by rw [l2]; omega) ?_
          simp only [h5, c1, c2, cond_true, b1, b3, b5, mo, l1, l2, w1, w2, Bool.not_true, cond_false, inc]
        | false =>
          cases c3 : icmp .eql s.1 3 with
          | true =>
            obtain ⟨⟨p1, p2, p3, p4⟩, ⟨x, y⟩, e, n, m, a, b1, b2, b3, b4, b5, b6⟩ := aff_both N hN so.x so.y
            have b7 := coords_ok N hN b5 b6
            have ee : icmp .eql e e = true := beq_self_eq_true e
            refine again (P ++ [(p1, p2, p3, p4)]) (R ++ [(x, y)]) (by rw [l1]; omega) (by rw [l2]; omega) ?_
            simp only [h5, c1, c2, c3, cond_true, b1, b2, b3, b4, b7, ee, mo, l1, l2, w1, w2, Bool.not_true, cond_false, inc]
          | false =>
            cases c4 : icmp .eql s.1 4 with
            | true =>
              obtain ⟨⟨p1, p2, p3, p4⟩, ⟨x, y⟩, e, a, b1, b2, b5, b6⟩ := dec_both N hN so.k
              have b7 := coords_ok N hN b5 b6
              have ee : icmp .eql e e = true := beq_self_eq_true e
              refine again (P ++ [(p1, p2, p3, p4)]) (R ++ [(x, y)]) (by rw [l1]; omega) (by rw [l2]; omega) ?_
              simp only [h5, c1, c2, c3, c4, cond_true, b1, b2, b7, ee, mo, l1, l2, w1, w2, Bool.not_true, cond_false, inc]
            | false =>
              have b7 := zero_ok N hN
              refine again (P ++ [(z5, z5, z5, z5)]) (R ++ [(veilref04_Neutral.1, veilref04_Neutral.2)]) (by rw [l1]; omega) (by rw [l2]; omega) ?_
              simp only [h5, c1, c2, c3, c4, cond_true, b7, mo, l1, l2, w1, w2, Bool.not_true, cond_false, inc]

theorem makes_N (N M : Nat) (hN : N = 300) (sc : List St8) (hM : M = sc.length + 1) (hsc : ∀ s ∈ sc, CsOK s) (hsz : sc.length * 176 ≤ 140737488355328) : veillaw04_CurveMakes N M (sc, ()) = some true := by
  have h1 := mbase_k N hN
  have h2 := makes_l0 N M hN sc hsc hsz sc.length 0 (by omega) M (by omega) [] [] (Nat.le_refl _) (Nat.le_refl _)
  have h2' : loopF (veillaw04_CurveMakes_l0 N M) M ((sc.length, (), (), 0), (sc, [], [], (0, 0))) = some (.inl ((), ())) := h2
  unfold veillaw04_CurveMakes
  simp only [h1, h2', mo, Bool.not_true, cond_false]

theorem makes_row (M : Nat) (sc : List St8) (hM : M = sc.length + 1) (h : ∀ s ∈ sc, (-9223372036854775808 ≤ s.2.2.2.1 ∧ s.2.2.2.1 ≤ 9223372036854775807) ∧ (s.2.2.2.2.1.length = 32 ∧ ∀ x ∈ s.2.2.2.2.1, IntKind.u8.min ≤ x ∧ x ≤ IntKind.u8.max) ∧ (s.2.2.2.2.2.2.1.length = 5 ∧ ∀ x ∈ s.2.2.2.2.2.2.1, IntKind.u64.min ≤ x ∧ x ≤ IntKind.u64.max) ∧ (s.2.2.2.2.2.2.2.length = 5 ∧ ∀ x ∈ s.2.2.2.2.2.2.2, IntKind.u64.min ≤ x ∧ x ≤ IntKind.u64.max)) (hsz : sc.length * 176 ≤ 140737488355328) : veillaw04_CurveMakes 300 M (sc, ()) = some true :=
  makes_N 300 M rfl sc hM (fun s hs => by
    obtain ⟨h1, h2, h3, h4⟩ := h s hs
    exact ⟨h1, h2, h3, h4⟩) hsz

end Go.Vx
