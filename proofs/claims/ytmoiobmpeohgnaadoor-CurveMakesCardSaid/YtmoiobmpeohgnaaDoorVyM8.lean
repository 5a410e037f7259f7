import Derived.Test.YtmoiobmpeohgnaaDoorVyL2
import Derived.Test.YtmoiobmpeohgnaaDoorVyK0
import Derived.Test.YtmoiobmpeohgnaaDoorVyZ2
import Derived.Test.YtmoiobmpeohgnaaDoorVyS
import Derived.Test.YtmoiobmpeohgnaaDoorVyL7
/- Numbers, part M2: the group's texts in the field K: the program's Decode and Encode. -/
set_option autoImplicit false
set_option linter.unusedSimpArgs false
namespace Go.Vx
open Go

theorem can_v {a : List Int} (h : Can a) : (kv a).v = val a := by
  have := h.nonneg
  show val a % pF = val a
  exact Int.emod_eq_of_lt this.1 this.2
theorem can_ev {a : List Int} (h : Can a) : (kv a).ev ↔ val a % 2 = 0 := by
  unfold K.ev; rw [can_v h]
theorem sqrt_sr {a b : List Int} (ha : L5 a) (hb : L5 b) : ∃ r ok, field_SqrtRatio 300 a b = some (r, ok) ∧ Can r ∧ SR (kv a) (kv b) (kv r) ok := by
  obtain ⟨r, ok, h1, h2, h3, h4, h5, h6⟩ := sqrt_k ha hb
  exact ⟨r, ok, h1, h2, ⟨(can_ev h2).2 h3, h4, h5, h6⟩⟩
theorem tab2_can : Can (field_tab 2) := ⟨_, _, _, _, _, rfl, by decide, by decide, by decide, by decide, by decide, by decide⟩
theorem tab2_k : kv (field_tab 2) = kD := by unfold kv kD; rfl
theorem const2' : field_Const 2 = some (field_tab 2) := rfl
end Go.Vx

/- Numbers, part M4: the group's texts in the field K: what bytes are mapped to, by the program. -/
set_option autoImplicit false
set_option linter.unusedSimpArgs false
namespace Go.Vx
open Go

theorem inv_k {a : List Int} (ha : L5 a) : ∃ r, field_Elem_Invert 300 a = some r ∧ Can r ∧ kv r = kv a ^ eI := by
  obtain ⟨r, h1, p1⟩ := invert_spec ha
  exact ⟨r, h1, p1.1, pow_k p1⟩
theorem k_sq (a : K) : a * a = a ^ 2 := by grind

end Go.Vx

/- Numbers, part M6: the curve's points in the field K: what the program's points stand for; sums. -/
set_option autoImplicit false
set_option linter.unusedSimpArgs false
namespace Go.Vx
open Go

abbrev P4 := List Int × List Int × List Int × List Int
abbrev o5 : List Int := [1, 0, 0, 0, 0]
abbrev z5 : List Int := [0, 0, 0, 0, 0]
theorem z5_can : Can z5 := ⟨_, _, _, _, _, rfl, by decide, by decide, by decide, by decide, by decide, by decide⟩
/-- The coordinates (X, Y) are those of x/z, y/z; t is x y / z. -/
structure Rep0 (p : P4) (X Y : K) : Prop where
  cx : Can p.1
  cy : Can p.2.1
  cz : Can p.2.2.1
  ct : Can p.2.2.2
  z : kv p.2.2.1 ≠ 0
  x : kv p.1 = X * kv p.2.2.1
  y : kv p.2.1 = Y * kv p.2.2.1
  t : kv p.2.2.2 = X * Y * kv p.2.2.1
/-- The point p stands for the coordinates (X, Y). -/
def Rep (p : P4) (X Y : K) : Prop := Rep0 p X Y ∨ (p.2.2.1 = z5 ∧ X = 0 ∧ Y = 1)

theorem Rep.whole {p : P4} {X Y : K} (h : Rep p X Y) : Rep0 (curve_place_whole p) X Y := by
  unfold curve_place_whole
  rcases h with h | ⟨h, rfl, rfl⟩
  · have : decide (p.2.2.1 = [0, 0, 0, 0, 0]) = false := decide_eq_false fun e => h.z (by rw [e]; rfl)
    rw [this]
    exact h
  · rw [h]
    exact ⟨z5_can, one_can, one_can, z5_can, K.one_ne, by show (0 : K) = 0 * 1; grind, by show (1 : K) = 1 * 1; grind, by show (0 : K) = 0 * 1 * 1; grind⟩
theorem rep_one {x y t : List Int} (hx : Can x) (hy : Can y) (ht : Can t) (h : kv t = kv x * kv y) : Rep (x, y, o5, t) (kv x) (kv y) :=
  .inl ⟨hx, hy, one_can, ht, K.one_ne, by show _ = _ * (1 : K); grind, by show _ = _ * (1 : K); grind, by show _ = _ * (1 : K); rw [h]; grind⟩
theorem rep_zero : Rep (z5, z5, z5, z5) 0 1 := .inr ⟨rfl, rfl, rfl⟩

theorem Rep.affine {p : P4} {X Y : K} (h : Rep p X Y) : ∃ x y, curve_Point_Affine 300 p = some (x, y) ∧ Can x ∧ Can y ∧ kv x = X ∧ kv y = Y := by
  have w := h.whole
  unfold curve_Point_Affine
  generalize curve_place_whole (p.1, p.2.1, p.2.2.1, p.2.2.2) = q at *
  obtain ⟨r1, h1, c1, e1⟩ := inv_k w.cz.L5
  obtain ⟨r2, h2, c2, e2⟩ := mul_k w.cx.L5 c1.L5
  obtain ⟨r3, h3, c3, e3⟩ := mul_k w.cy.L5 c1.L5
  have hi := k_inv w.z
  have hx := w.x
  have hy := w.y
  refine ⟨r2, r3, by simp only [h1, h2, h3, mo], c2, c3, ?_, ?_⟩
  · rw [e2, e1, hx]; generalize kv q.2.2.1 ^ eI = i at *; grind
  · rw [e3, e1, hy]; generalize kv q.2.2.1 ^ eI = i at *; grind

theorem d2_can : Can [1859910466990425, 932731440258426, 1072319116312658, 1815898335770999, 633789495995903] := ⟨_, _, _, _, _, rfl, by decide, by decide, by decide, by decide, by decide, by decide⟩
theorem d2_k : kv [1859910466990425, 932731440258426, 1072319116312658, 1815898335770999, 633789495995903] = kD + kD := by
  unfold kv kD
  rw [← K.of_add, K.of_eq]
  decide

theorem made_k {a b c d : List Int} (ha : Can a) (hb : Can b) (hc : Can c) (hd : Can d) : ∃ x y z t, curve_made a b c d = some (x, y, z, t) ∧ Can x ∧ Can y ∧ Can z ∧ Can t ∧ kv x = kv a * kv b ∧ kv y = kv c * kv d ∧ kv z = kv b * kv c ∧ kv t = kv a * kv d := by
  obtain ⟨r1, h1, c1, e1⟩ := mul_k ha.L5 hb.L5
  obtain ⟨r2, h2, c2, e2⟩ := mul_k hc.L5 hd.L5
  obtain ⟨r3, h3, c3, e3⟩ := mul_k hb.L5 hc.L5
  obtain ⟨r4, h4, c4, e4⟩ := mul_k ha.L5 hd.L5
  exact ⟨r1, r2, r3, r4, by unfold curve_made; simp only [h1, h2, h3, h4, mo], c1, c2, c3, c4, e1, e2, e3, e4⟩

theorem add_fin {a b x y z w d X Y : K} (hX : X * (1 + d * a * x * b * y) = a * y + b * x) (hY : Y * (1 - d * a * x * b * y) = b * y + a * x) :
    ∃ E F G H : K, E = (b * z + a * z) * (y * w + x * w) - (b * z - a * z) * (y * w - x * w) ∧ H = (b * z + a * z) * (y * w + x * w) + (b * z - a * z) * (y * w - x * w) ∧ F = (z * w + z * w) - (a * b * z) * (d + d) * (x * y * w) ∧ G = (z * w + z * w) + (a * b * z) * (d + d) * (x * y * w) ∧
      F = 2 * (z * w) * (1 - d * a * x * b * y) ∧ G = 2 * (z * w) * (1 + d * a * x * b * y) ∧ E * F = X * (F * G) ∧ G * H = Y * (F * G) ∧ E * H = X * Y * (F * G) := by
  have hE : (b * z + a * z) * (y * w + x * w) - (b * z - a * z) * (y * w - x * w) = X * (2 * (z * w) * (1 + d * a * x * b * y)) := by
    rw [show X * (2 * (z * w) * (1 + d * a * x * b * y)) = 2 * (z * w) * (X * (1 + d * a * x * b * y)) by grind, hX]; grind
  have hH : (b * z + a * z) * (y * w + x * w) + (b * z - a * z) * (y * w - x * w) = Y * (2 * (z * w) * (1 - d * a * x * b * y)) := by
    rw [show Y * (2 * (z * w) * (1 - d * a * x * b * y)) = 2 * (z * w) * (Y * (1 - d * a * x * b * y)) by grind, hY]; grind
  have hF : (z * w + z * w) - (a * b * z) * (d + d) * (x * y * w) = 2 * (z * w) * (1 - d * a * x * b * y) := by clear hX hY hE hH; grind
  have hG : (z * w + z * w) + (a * b * z) * (d + d) * (x * y * w) = 2 * (z * w) * (1 + d * a * x * b * y) := by clear hX hY hE hH; grind
  refine ⟨_, _, _, _, rfl, rfl, rfl, rfl, hF, hG, ?_, ?_, ?_⟩
  · rw [hE, hF, hG]; generalize 1 - d * a * x * b * y = u; generalize 1 + d * a * x * b * y = v; clear hX hY hE hH hF hG; grind
  · rw [hH, hF, hG]; generalize 1 - d * a * x * b * y = u; generalize 1 + d * a * x * b * y = v; clear hX hY hE hH hF hG; grind
  · rw [hE, hH, hF, hG]; generalize 1 - d * a * x * b * y = u; generalize 1 + d * a * x * b * y = v; clear hX hY hE hH hF hG; grind

/-- The program's sum. -/
theorem Rep.add {p q : P4} {a b x y : K} (hp : Rep p a b) (hq : Rep q x y) (h1 : On a b) (h2 : On x y) : ∃ r, curve_Point_Add p q = some r ∧ Rep r (ax a b x y) (ay a b x y) := by
  have u := hp.whole
  have v := hq.whole
  unfold curve_Point_Add
  generalize curve_place_whole (p.1, p.2.1, p.2.2.1, p.2.2.2) = p at *
  generalize curve_place_whole (q.1, q.2.1, q.2.2.1, q.2.2.2) = q at *
  have s1 := sub_k u.cy.L5 u.cx.L5
  have s2 := sub_k v.cy.L5 v.cx.L5
  have a1 := add_k u.cy.L5 u.cx.L5
  have a2 := add_k v.cy.L5 v.cx.L5
  obtain ⟨r1, k1, c1, e1⟩ := mul_k s1.1.L5 s2.1.L5
  obtain ⟨r2, k2, c2, e2⟩ := mul_k a1.1.L5 a2.1.L5
  obtain ⟨r3, k3, c3, e3⟩ := mul_k u.ct.L5 d2_can.L5
  obtain ⟨r4, k4, c4, e4⟩ := mul_k c3.L5 v.ct.L5
  obtain ⟨r5, k5, c5, e5⟩ := mul_k u.cz.L5 v.cz.L5
  have f1 := sub_k c2.L5 c1.L5
  have f2 := add_k c5.L5 c5.L5
  have f3 := sub_k f2.1.L5 c4.L5
  have f4 := add_k f2.1.L5 c4.L5
  have f5 := add_k c2.L5 c1.L5
  obtain ⟨X, Y, Z, T, k6, g1, g2, g3, g4, g5, g6, g7, g8⟩ := made_k f1.1 f3.1 f4.1 f5.1
  refine ⟨(X, Y, Z, T), by simp only [k1, k2, k3, k4, k5, k6, mo], .inl ?_⟩
  obtain ⟨E, F, G, H, m1, m2, m3, m4, m5, m6, m7, m8, m9⟩ := add_fin (z := kv p.2.2.1) (w := kv q.2.2.1) (ax_mul h1 h2) (ay_mul h1 h2)
  have eE : kv (field_Elem_Sub r2 r1) = E := by rw [f1.2, e2, e1, a1.2, a2.2, s1.2, s2.2, u.x, u.y, v.x, v.y, m1]
  have eH : kv (field_Elem_Add r2 r1) = H := by rw [f5.2, e2, e1, a1.2, a2.2, s1.2, s2.2, u.x, u.y, v.x, v.y, m2]
  have eF : kv (field_Elem_Sub (field_Elem_Add r5 r5) r4) = F := by rw [f3.2, f2.2, e5, e4, e3, d2_k, u.t, v.t, m3]
  have eG : kv (field_Elem_Add (field_Elem_Add r5 r5) r4) = G := by rw [f4.2, f2.2, e5, e4, e3, d2_k, u.t, v.t, m4]
  rw [eE, eF] at g5
  rw [eG, eH] at g6
  rw [eF, eG] at g7
  rw [eE, eH] at g8
  obtain ⟨w1, w2⟩ := add_whole h1 h2
  have zz : 2 * (kv p.2.2.1 * kv q.2.2.1) ≠ 0 := K.mul_ne K.two_ne (K.mul_ne u.z v.z)
  refine ⟨g1, g2, g3, g4, ?_, ?_, ?_, ?_⟩
  · show kv Z ≠ 0
    rw [g7, m5, m6]; exact K.mul_ne (K.mul_ne zz w2) (K.mul_ne zz w1)
  · show kv X = _ * kv Z
    rw [g5, g7]; exact m7
  · show kv Y = _ * kv Z
    rw [g6, g7]; exact m8
  · show kv T = _ * kv Z
    rw [g8, g7]; exact m9

end Go.Vx

/- Numbers, part M10: the curve's functions in the field K: opposite, double, same, multiples, 'live'. -/
set_option autoImplicit false
set_option linter.unusedSimpArgs false
namespace Go.Vx
open Go

/-- The point p stands for the pair q. -/
abbrev RepP (p : P4) (q : KP) : Prop := Rep p q.1 q.2

/- Multiples. -/
end Go.Vx

/- Numbers, part M11: the base, the torsion points, Free, 'live', 'around', 'on'. -/
set_option autoImplicit false
set_option linter.unusedSimpArgs false
namespace Go.Vx
open Go

theorem repP_zero : RepP (z5, z5, z5, z5) kzero := rep_zero
theorem kv_num {l : List Int} {n : Nat} (h : val l % pF = (n : Int) % pF) : kv l = kn n := K.of_eq.2 h
theorem pt_of {x y t : List Int} (hx : Can x) (hy : Can y) (ht : Can t) (h : val t % pF = val x * val y % pF)
    (hon : (val y * val y - val x * val x) % pF = (1 + 37095705934669439343138083508754565189542113879843219016388785533085940283555 * (val x * val x) * (val y * val y)) % pF) : RepP (x, y, o5, t) (kv x, kv y) ∧ OnP (kv x, kv y) := by
  refine ⟨rep_one hx hy ht ?_, ?_⟩
  · show K.of (val t) = K.of (val x) * K.of (val y)
    rw [← K.of_mul, K.of_eq]; exact h
  · have h1 := K.of_eq.2 hon
    rw [K.of_sub, K.of_add, K.of_mul, K.of_mul, K.of_mul, K.of_mul, K.of_mul, K.of_mul] at h1
    show On (K.of (val x)) (K.of (val y))
    unfold On
    have hd : K.of 37095705934669439343138083508754565189542113879843219016388785533085940283555 = kD := rfl
    have h1' : K.of 1 = 1 := rfl
    rw [hd, h1'] at h1
    generalize K.of (val x) = a at *
    generalize K.of (val y) = b at *
    generalize kD = d at *
    grind

theorem base_all : RepP (curve_Base.1, curve_Base.2.1, curve_Base.2.2.1, curve_Base.2.2.2) kB := by
  have h := (pt_of (x := curve_Base.1) (y := curve_Base.2.1) (t := curve_Base.2.2.2) ⟨_, _, _, _, _, rfl, by decide, by decide, by decide, by decide, by decide, by decide⟩ ⟨_, _, _, _, _, rfl, by decide, by decide, by decide, by decide, by decide, by decide⟩ ⟨_, _, _, _, _, rfl, by decide, by decide, by decide, by decide, by decide, by decide⟩ (by decide) (by decide)).1
  have e1 : kv curve_Base.1 = kB.1 := K.of_eq.2 (by decide)
  have e2 : kv curve_Base.2.1 = kB.2 := K.of_eq.2 (by decide)
  rw [e1, e2] at h
  exact h

def torX : Nat → List Int
  | 0 => [0, 0, 0, 0, 0]
  | 1 => [358744748052810, 1691584618240980, 977650209285361, 1429865912637724, 560044844278676]
  | 2 => [1718705420411056, 234908883556509, 2233514472574048, 2117202627021982, 765476049583133]
  | 3 => [358744748052810, 1691584618240980, 977650209285361, 1429865912637724, 560044844278676]
  | 4 => [0, 0, 0, 0, 0]
  | 5 => [1893055065632419, 560215195444267, 1274149604399886, 821933901047523, 1691754969406571]
  | 6 => [533094393274173, 2016890930128738, 18285341111199, 134597186663265, 1486323764102114]
  | _ => [1893055065632419, 560215195444267, 1274149604399886, 821933901047523, 1691754969406571]
def torY : Nat → List Int
  | 0 => [0, 0, 0, 0, 0]
  | 1 => [2166873539340326, 1778179147085316, 1886209374839743, 1223329526802818, 105300633354275]
  | 2 => [0, 0, 0, 0, 0]
  | 3 => [84926274344903, 473620666599931, 365590438845504, 1028470286882429, 2146499180330972]
  | 4 => [2251799813685228, 2251799813685247, 2251799813685247, 2251799813685247, 2251799813685247]
  | 5 => [84926274344903, 473620666599931, 365590438845504, 1028470286882429, 2146499180330972]
  | 6 => [0, 0, 0, 0, 0]
  | _ => [2166873539340326, 1778179147085316, 1886209374839743, 1223329526802818, 105300633354275]
def torT : Nat → List Int
  | 0 => [0, 0, 0, 0, 0]
  | 1 => [803472979097708, 393902981724766, 1158077081819914, 574391322974006, 336294660666841]
  | 2 => [0, 0, 0, 0, 0]
  | 3 => [1448326834587521, 1857896831960481, 1093722731865333, 1677408490711241, 1915505153018406]
  | 4 => [0, 0, 0, 0, 0]
  | 5 => [803472979097708, 393902981724766, 1158077081819914, 574391322974006, 336294660666841]
  | 6 => [0, 0, 0, 0, 0]
  | _ => [1448326834587521, 1857896831960481, 1093722731865333, 1677408490711241, 1915505153018406]
/-- The torsion points as pairs. -/
def torK : Nat → KP
  | 0 => kzero
  | n + 1 => (kv (torX (n + 1)), kv (torY (n + 1)))
theorem and7 {a : Int} (h : -9223372036854775808 ≤ a ∧ a ≤ 9223372036854775807) : ibin .and .i64 a 7 = a % 8 := by
  show IntKind.wrap .i64 ((BitVec.ofInt 64 a &&& BitVec.ofInt 64 7).toNat : Int) = _
  have : (BitVec.ofInt 64 a &&& BitVec.ofInt 64 7).toNat = (a % 18446744073709551616).toNat % 8 := by
    rw [BitVec.toNat_and, BitVec.toNat_ofInt, show (BitVec.ofInt 64 7).toNat = 2 ^ 3 - 1 from rfl, Nat.and_two_pow_sub_one_eq_mod]
    rfl
  rw [this]
  have e := Ref.wrapi (n := (((a % 18446744073709551616).toNat % 8 : Nat) : Int)) (by omega) (by omega)
  rw [e]
  omega
theorem tor_rep (j : Nat) (h : j < 8) : RepP (torX j, torY j, (if j = 0 then z5 else o5), torT j) (torK j) ∧ OnP (torK j) := by
  match j, h with
  | 0, _ => exact ⟨rep_zero, zero_on⟩
  | 1, _ => exact pt_of ⟨_, _, _, _, _, rfl, by decide, by decide, by decide, by decide, by decide, by decide⟩ ⟨_, _, _, _, _, rfl, by decide, by decide, by decide, by decide, by decide, by decide⟩ ⟨_, _, _, _, _, rfl, by decide, by decide, by decide, by decide, by decide, by decide⟩ (by decide) (by decide)
  | 2, _ => exact pt_of ⟨_, _, _, _, _, rfl, by decide, by decide, by decide, by decide, by decide, by decide⟩ ⟨_, _, _, _, _, rfl, by decide, by decide, by decide, by decide, by decide, by decide⟩ ⟨_, _, _, _, _, rfl, by decide, by decide, by decide, by decide, by decide, by decide⟩ (by decide) (by decide)
  | 3, _ => exact pt_of ⟨_, _, _, _, _, rfl, by decide, by decide, by decide, by decide, by decide, by decide⟩ ⟨_, _, _, _, _, rfl, by decide, by decide, by decide, by decide, by decide, by decide⟩ ⟨_, _, _, _, _, rfl, by decide, by decide, by decide, by decide, by decide, by decide⟩ (by decide) (by decide)
  | 4, _ => exact pt_of ⟨_, _, _, _, _, rfl, by decide, by decide, by decide, by decide, by decide, by decide⟩ ⟨_, _, _, _, _, rfl, by decide, by decide, by decide, by decide, by decide, by decide⟩ ⟨_, _, _, _, _, rfl, by decide, by decide, by decide, by decide, by decide, by decide⟩ (by decide) (by decide)
  | 5, _ => exact pt_of ⟨_, _, _, _, _, rfl, by decide, by decide, by decide, by decide, by decide, by decide⟩ ⟨_, _, _, _, _, rfl, by decide, by decide, by decide, by decide, by decide, by decide⟩ ⟨_, _, _, _, _, rfl, by decide, by decide, by decide, by decide, by decide, by decide⟩ (by decide) (by decide)
  | 6, _ => exact pt_of ⟨_, _, _, _, _, rfl, by decide, by decide, by decide, by decide, by decide, by decide⟩ ⟨_, _, _, _, _, rfl, by decide, by decide, by decide, by decide, by decide, by decide⟩ ⟨_, _, _, _, _, rfl, by decide, by decide, by decide, by decide, by decide, by decide⟩ (by decide) (by decide)
  | 7, _ => exact pt_of ⟨_, _, _, _, _, rfl, by decide, by decide, by decide, by decide, by decide, by decide⟩ ⟨_, _, _, _, _, rfl, by decide, by decide, by decide, by decide, by decide, by decide⟩ ⟨_, _, _, _, _, rfl, by decide, by decide, by decide, by decide, by decide, by decide⟩ (by decide) (by decide)
  | n + 8, h => exact absurd h (by omega)
theorem torsion_k {a : Int} (h : -9223372036854775808 ≤ a ∧ a ≤ 9223372036854775807) : ∃ x y z t, curve_Torsion a = some (x, y, z, t) ∧ RepP (x, y, z, t) (torK (a % 8).toNat) ∧ OnP (torK (a % 8).toNat) := by
  have hj : (a % 8).toNat < 8 := by omega
  have hd : decide (0 ≤ a % 8 ∧ a % 8 < ((8 : Nat) : Int)) = true := decide_eq_true ⟨by omega, by omega⟩
  refine ⟨_, _, _, _, ?_, (tor_rep _ hj).1, (tor_rep _ hj).2⟩
  unfold curve_Torsion
  rw [and7 h, hd, cond_true]
  generalize (a % 8).toNat = j at *
  match j, hj with
  | 0, _ => rfl
  | 1, _ => rfl
  | 2, _ => rfl
  | 3, _ => rfl
  | 4, _ => rfl
  | 5, _ => rfl
  | 6, _ => rfl
  | 7, _ => rfl
  | n + 8, h => exact absurd h (by omega)

theorem RepN.same {a b : N4} {p : KP} (ha : RepN a p) (hb : RepN b p) : a.1 * b.2.2.1 % pN = b.1 * a.2.2.1 % pN := by
  have h : kn (a.1 * b.2.2.1) = kn (b.1 * a.2.2.1) := by
    rw [kn_mul, kn_mul]
    have xa : kn a.1 = p.1 * kn a.2.2.1 := ha.x
    have xb : kn b.1 = p.1 * kn b.2.2.1 := hb.x
    rw [xa, xb]; grind
  have := K.of_eq.1 h
  have e : ∀ n : Nat, ((n % pN : Nat) : Int) = (n : Int) % pF := fun n => by rw [Int.natCast_emod]; rfl
  rw [← e, ← e] at this
  exact Int.ofNat.inj this
end Go.Vx

/- Numbers, part M12: points from outside: FromAffine, Compress, Decompress, 'point', 'on'. -/
set_option autoImplicit false
set_option linter.unusedSimpArgs false
namespace Go.Vx
open Go

/-- The bytes without the sign. -/
abbrev lowB (b : List Int) : List Int := List.set b 31 (ibin .and .u8 (List.getD b 31 0) 127)
theorem lowB_eq {b : List Int} (hb : L32 b) : lowB b = List.set b 31 (List.getD b 31 0 % 128) := by
  unfold lowB
  rw [b_and127 (top_byte hb).1]
theorem set_l32 {b : List Int} (hb : L32 b) {v : Int} (hv : 0 ≤ v ∧ v ≤ 255) : L32 (List.set b 31 v) := by
  refine ⟨by rw [List.length_set]; exact hb.1, fun x hx => ?_⟩
  rcases List.mem_or_eq_of_mem_set hx with h | h
  · exact hb.2 x h
  · rw [h]; exact hv
theorem low_l32 {b : List Int} (hb : L32 b) : L32 (lowB b) := by
  rw [lowB_eq hb]
  exact set_l32 hb (by omega)
/-- FromAffine of any numbers. -/
theorem faff {x y : List Int} (hx : L5 x) (hy : L5 y) :
    (∃ t, curve_FromAffine x y = some ((field_Elem_Least x, field_Elem_Least y, o5, t), 0) ∧ RepP (field_Elem_Least x, field_Elem_Least y, o5, t) (kv x, kv y) ∧ OnP (kv x, kv y)) ∨
    (curve_FromAffine x y = some ((z5, z5, z5, z5), 40) ∧ ¬ OnP (kv x, kv y)) := by
  have la := least_k hx
  have lb := least_k hy
  obtain ⟨r1, h1, c1, e1⟩ := sq_k la.1.L5
  obtain ⟨r2, h2, c2, e2⟩ := sq_k lb.1.L5
  obtain ⟨r4, h4, c4, e4⟩ := mul_k tab2_can.L5 c1.L5
  obtain ⟨r5, h5, c5, e5⟩ := mul_k c4.L5 c2.L5
  obtain ⟨r6, h6, c6, e6⟩ := mul_k la.1.L5 lb.1.L5
  have k1 := sub_k c2.L5 c1.L5
  have k2 := add_k one_can.L5 c5.L5
  have hiff : field_Elem_Sub r2 r1 = field_Elem_Add [1, 0, 0, 0, 0] r5 ↔ OnP (kv x, kv y) := by
    have : kv (field_Elem_Sub r2 r1) = kv (field_Elem_Add [1, 0, 0, 0, 0] r5) ↔ OnP (kv x, kv y) := by
      rw [k1.2, k2.2, e5, e4, e1, e2, tab2_k, la.2, lb.2, show kv [1, 0, 0, 0, 0] = 1 from rfl]
      show _ ↔ On (kv x) (kv y)
      unfold On
      generalize kv x = a
      generalize kv y = b
      generalize kD = d
      constructor <;> (intro h; grind)
    rw [← this]
    exact ⟨fun h => by rw [h], fun h => can_k k1.1 k2.1 h⟩
  have hr := rep_one la.1 lb.1 c6 e6
  rw [la.2, lb.2] at hr
  by_cases hc : field_Elem_Sub r2 r1 = field_Elem_Add [1, 0, 0, 0, 0] r5
  · left
    refine ⟨r6, ?_, hr, hiff.1 hc⟩
    unfold curve_FromAffine curve_at
    simp only [h1, h2, const2', h4, h5, mo, decide_eq_true hc, Bool.not_true, cond_false, h6]
  · right
    refine ⟨?_, fun h => hc (hiff.2 h)⟩
    unfold curve_FromAffine
    simp only [h1, h2, const2', h4, h5, mo, decide_eq_false hc, Bool.not_false, cond_true]

/-- The denominator of x is not 0. -/
theorem den_ne (y : K) : kD * y ^ 2 + 1 ≠ 0 := fun h => by
  have hi := kI_sq
  have := (d_sq (a := y) (b := kI) (by generalize kD = d at *; grind)).2
  exact kI_ne this

theorem xof_k {y : List Int} (hy : Can y) : ∃ s ok r1 r3, curve_xOf 300 y = some (s, ok) ∧ Can s ∧ SR (kv y ^ 2 - 1) (kD * kv y ^ 2 + 1) (kv s) ok ∧
    field_Elem_Square y = some r1 ∧ Can r1 ∧ kv r1 = kv y ^ 2 ∧ field_Elem_Mul (field_tab 2) r1 = some r3 ∧ field_SqrtRatio 300 (field_Elem_Sub r1 [1, 0, 0, 0, 0]) (field_Elem_Add r3 [1, 0, 0, 0, 0]) = some (s, ok) := by
  obtain ⟨r1, h1, c1, e1⟩ := sq_k hy.L5
  obtain ⟨r3, h3, c3, e3⟩ := mul_k tab2_can.L5 c1.L5
  have k1 := sub_k c1.L5 one_can.L5
  have k2 := add_k c3.L5 one_can.L5
  obtain ⟨s, ok, h4, c4, sr⟩ := sqrt_sr k1.1.L5 k2.1.L5
  rw [k1.2, k2.2, e3, e1, tab2_k, show kv [1, 0, 0, 0, 0] = 1 from rfl, k_sq] at sr
  refine ⟨s, ok, r1, r3, ?_, c4, sr, h1, c1, by rw [e1, k_sq], h3, h4⟩
  unfold curve_xOf
  simp only [h1, const2', h3, h4, mo]

theorem on_x {x y : K} : On x y ↔ (kD * y ^ 2 + 1) * x ^ 2 = y ^ 2 - 1 := by
  unfold On
  generalize kD = d
  constructor <;> (intro h; grind)

/-- Decompress of any bytes. -/
theorem decomp_k {b : List Int} (hb : L32 b) :
    (field_Decode (lowB b) = (z5, 3) ∧ curve_Decompress 300 b = some ((z5, z5, z5, z5), 3)) ∨
    (∃ y s ok r1 r3, field_Decode (lowB b) = (y, 0) ∧ Can y ∧ val y = numB (lowB b) ∧ Can s ∧ SR (kv y ^ 2 - 1) (kD * kv y ^ 2 + 1) (kv s) ok ∧
      field_Elem_Square y = some r1 ∧ Can r1 ∧ kv r1 = kv y ^ 2 ∧ field_Elem_Mul (field_tab 2) r1 = some r3 ∧ field_SqrtRatio 300 (field_Elem_Sub r1 [1, 0, 0, 0, 0]) (field_Elem_Add r3 [1, 0, 0, 0, 0]) = some (s, ok) ∧
      ((ok = false ∧ curve_Decompress 300 b = some ((z5, z5, z5, z5), 40)) ∨
       (ok = true ∧ 127 < List.getD b 31 0 ∧ kv s = 0 ∧ curve_Decompress 300 b = some ((z5, z5, z5, z5), 3)) ∨
       (ok = true ∧ 127 < List.getD b 31 0 ∧ kv s ≠ 0 ∧ ∃ t, curve_Decompress 300 b = some ((field_Elem_Neg s, y, o5, t), 0) ∧ Can t ∧ kv t = kv (field_Elem_Neg s) * kv y) ∨
       (ok = true ∧ ¬ 127 < List.getD b 31 0 ∧ ∃ t, curve_Decompress 300 b = some ((s, y, o5, t), 0) ∧ Can t ∧ kv t = kv s * kv y))) := by
  have hl := low_l32 hb
  rcases decode_spec hl with ⟨g1, g2, g3, g4⟩ | ⟨g1, g2⟩
  · right
    have hp : field_Decode (lowB b) = ((field_Decode (lowB b)).1, 0) := Prod.ext rfl g2
    generalize (field_Decode (lowB b)).1 = y at *
    obtain ⟨s, ok, r1, r3, k1, k2, k3, k4, k5, k6, k7, k8⟩ := xof_k g3
    refine ⟨y, s, ok, r1, r3, hp, g3, g4, k2, k3, k4, k5, k6, k7, k8, ?_⟩
    have hp' : field_Decode (List.set b 31 (ibin .and .u8 (List.getD b 31 0) 127)) = (y, 0) := hp
    cases ok with
    | false =>
      left
      refine ⟨rfl, ?_⟩
      unfold curve_Decompress
      simp only [hp', show icmp .neq 0 0 = false from rfl, cond_false, k1, mo, Bool.not_false, cond_true]
    | true =>
      right
      by_cases hs : 127 < List.getD b 31 0
      · have hg : icmp .gtr (List.getD b 31 0) 127 = true := by
          show decide (List.getD b 31 0 > 127) = true
          exact decide_eq_true hs
        by_cases hz : kv s = 0
        · left
          refine ⟨rfl, hs, hz, ?_⟩
          unfold curve_Decompress
          simp only [hp', show icmp .neq 0 0 = false from rfl, cond_false, k1, mo, Bool.not_true, hg, cond_true, (iszero_k k2.L5).2 hz]
        · right; left
          have n := neg_k k2.L5
          obtain ⟨t, h1, h2, h3⟩ := mul_k n.1.L5 g3.L5
          refine ⟨rfl, hs, hz, t, ?_, h2, h3⟩
          unfold curve_Decompress curve_at
          simp only [hp', show icmp .neq 0 0 = false from rfl, cond_false, k1, mo, Bool.not_true, hg, cond_true, iszero_f k2.L5 hz, h1]
      · right; right
        have hg : icmp .gtr (List.getD b 31 0) 127 = false := by
          show decide (List.getD b 31 0 > 127) = false
          exact decide_eq_false hs
        obtain ⟨t, h1, h2, h3⟩ := mul_k k2.L5 g3.L5
        refine ⟨rfl, hs, t, ?_, h2, h3⟩
        unfold curve_Decompress curve_at
        simp only [hp', show icmp .neq 0 0 = false from rfl, cond_false, k1, mo, Bool.not_true, hg, h1]
  · left
    refine ⟨g2, ?_⟩
    have g2' : field_Decode (List.set b 31 (ibin .and .u8 (List.getD b 31 0) 127)) = ([0, 0, 0, 0, 0], 3) := g2
    unfold curve_Decompress
    simp only [g2', show icmp .neq 3 0 = true from rfl, cond_true]

theorem sr_on {y s : K} (sr : SR (y ^ 2 - 1) (kD * y ^ 2 + 1) s true) : On s y := by
  rw [on_x]
  by_cases hu : y ^ 2 - 1 = 0
  · rw [(sr.z hu).2, hu]; grind
  · exact (sr.q hu (den_ne y)).2.1 rfl
theorem on_negx {x y : K} (h : On x y) : On (-x) y := kneg_on (p := (x, y)) h

end Go.Vx

/- Numbers, part M13: CurveBack. -/
set_option autoImplicit false
set_option linter.unusedSimpArgs false
namespace Go.Vx
open Go

end Go.Vx

/- Numbers, part M14: CurveBack, with the arguments' ranges as the row has them. -/
set_option autoImplicit false
namespace Go.Vx
open Go
end Go.Vx

/- Numbers, part M15: the program's points as elements of the group; CurveTorsion. -/
set_option autoImplicit false
set_option linter.unusedSimpArgs false
namespace Go.Vx
open Go

abbrev RepE (x : P4) (e : E) : Prop := RepP x e.p
theorem repE_zero : RepE (z5, z5, z5, z5) 0 := repP_zero
theorem yes {c : Bool} {p : Prop} (h : c = true ↔ p) (hp : p) : c = true := h.2 hp
theorem no {c : Bool} {p : Prop} (h : c = true ↔ p) (hp : ¬ p) : c = false := Bool.eq_false_iff.2 fun e => hp (h.1 e)
theorem tor_eq (k x y : Nat) {a : N4} (ha : mulN natT k = a) (hx : x * a.2.2.1 % pN = a.1 % pN) (hy : y * a.2.2.1 % pN = a.2.1 % pN) : nmul kT k = (kn x, kn y) := by
  have h := repN_mul natT_rep kT_on k
  rw [ha] at h
  have hz : kn a.2.2.1 ≠ 0 := h.z
  have h1 : kn a.1 = (nmul kT k).1 * kn a.2.2.1 := h.x
  have h2 : kn a.2.1 = (nmul kT k).2 * kn a.2.2.1 := h.y
  have e1 := congrArg kn hx
  have e2 := congrArg kn hy
  rw [kn_mod, kn_mod, kn_mul, h1] at e1
  rw [kn_mod, kn_mod, kn_mul, h2] at e2
  refine Prod.ext (K.cancel hz ?_) (K.cancel hz ?_)
  · show kn a.2.2.1 * (nmul kT k).1 = kn a.2.2.1 * kn x
    rw [Lean.Grind.CommRing.mul_comm, ← e1, Lean.Grind.CommRing.mul_comm]
  · show kn a.2.2.1 * (nmul kT k).2 = kn a.2.2.1 * kn y
    rw [Lean.Grind.CommRing.mul_comm, ← e2, Lean.Grind.CommRing.mul_comm]
theorem tor_ns (k : Nat) (h : k < 8) : torK k = (k • eT).p := by
  rw [E.ns_p]
  show torK k = nmul kT k
  rcases (by omega : k = 0 ∨ k = 1 ∨ k = 2 ∨ k = 3 ∨ k = 4 ∨ k = 5 ∨ k = 6 ∨ k = 7) with rfl | rfl | rfl | rfl | rfl | rfl | rfl | rfl
  · rfl
  · rw [tor_eq 1 14399317868200118260347934320527232580618823971194345261214217575416788799818 2707385501144840649318225287225658788936804267575313519463743609750303402022 tabT_1 (by decide) (by decide)]
    exact Prod.ext (kv_num (by decide)) (kv_num (by decide))
  · rw [tor_eq 2 19681161376707505956807079304988542015446066515923890162744021073123829784752 0 tabT_2 (by decide) (by decide)]
    exact Prod.ext (kv_num (by decide)) (kv_num (by decide))
  · rw [tor_eq 3 14399317868200118260347934320527232580618823971194345261214217575416788799818 55188659117513257062467267217118295137698188065244968500265048394206261417927 tabT_3 (by decide) (by decide)]
    exact Prod.ext (kv_num (by decide)) (kv_num (by decide))
  · rw [tor_eq 4 0 57896044618658097711785492504343953926634992332820282019728792003956564819948 tabT_4 (by decide) (by decide)]
    exact Prod.ext (kv_num (by decide)) (kv_num (by decide))
  · rw [tor_eq 5 43496726750457979451437558183816721346016168361625936758514574428539776020131 55188659117513257062467267217118295137698188065244968500265048394206261417927 tabT_5 (by decide) (by decide)]
    exact Prod.ext (kv_num (by decide)) (kv_num (by decide))
  · rw [tor_eq 6 38214883241950591754978413199355411911188925816896391856984770930832735035197 0 tabT_6 (by decide) (by decide)]
    exact Prod.ext (kv_num (by decide)) (kv_num (by decide))
  · rw [tor_eq 7 43496726750457979451437558183816721346016168361625936758514574428539776020131 2707385501144840649318225287225658788936804267575313519463743609750303402022 tabT_7 (by decide) (by decide)]
    exact Prod.ext (kv_num (by decide)) (kv_num (by decide))

theorem tor_E {a : Int} (h : -9223372036854775808 ≤ a ∧ a ≤ 9223372036854775807) : ∃ x y z t, curve_Torsion a = some (x, y, z, t) ∧ RepE (x, y, z, t) ((a % 8).toNat • eT) := by
  obtain ⟨x, y, z, t, h1, h2, -⟩ := torsion_k h
  rw [tor_ns _ (by omega)] at h2
  exact ⟨x, y, z, t, h1, h2⟩
end Go.Vx

/- Numbers, part M16: CurveTorsion, with the arguments' ranges as the row has them. -/
set_option autoImplicit false
namespace Go.Vx
open Go
end Go.Vx

/- Numbers, part M17: CurveLaws. -/
set_option autoImplicit false
set_option linter.unusedSimpArgs false
namespace Go.Vx
open Go

end Go.Vx

/- Numbers, part M18: multiples by the number of 32 bytes. -/
set_option autoImplicit false
set_option linter.unusedSimpArgs false
namespace Go.Vx
open Go

end Go.Vx

/- Numbers, part M19: scalars: Least. -/
set_option autoImplicit false
set_option linter.unusedSimpArgs false
namespace Go.Vx
open Go

/-- Four limbs. -/
def U4 (a : List Int) : Prop := ∃ x0 x1 x2 x3, a = [x0, x1, x2, x3] ∧ U x0 ∧ U x1 ∧ U x2 ∧ U x3
def v4 (a : List Int) : Int := List.getD a 0 0 + List.getD a 1 0 * 18446744073709551616 + List.getD a 2 0 * 340282366920938463463374607431768211456 + List.getD a 3 0 * 6277101735386680763835789423207666416102355444464034512896

theorem v4_mk (x0 x1 x2 x3 : Int) : v4 [x0, x1, x2, x3] = x0 + x1 * 18446744073709551616 + x2 * 340282366920938463463374607431768211456 + x3 * 6277101735386680763835789423207666416102355444464034512896 := rfl
end Go.Vx

/- Numbers, part M20: bytes: sums, the order taken away, 'below', bytes of limbs. -/
set_option autoImplicit false
set_option linter.unusedSimpArgs false
namespace Go.Vx
open Go

theorem inc32 {k : Nat} (h : k < 32) : ibin .add .i64 (k : Int) 1 = ((k + 1 : Nat) : Int) := by rw [Ref.i_add (by omega) (by omega)]; omega
/- The order's bytes. -/
abbrev oB : List Int := [237, 211, 245, 92, 26, 99, 18, 88, 214, 156, 247, 162, 222, 249, 222, 20, 0, 0, 0, 0, 0, 0, 0, 0, 0, 0, 0, 0, 0, 0, 0, 16]
end Go.Vx

/- Numbers, part M21: limbs as bytes; CurveMultiples. -/
set_option autoImplicit false
set_option linter.unusedSimpArgs false
namespace Go.Vx
open Go

/-- The scalar's number. -/
abbrev sc (a : List Int) : Nat := (v4 a).toNat % ordl
end Go.Vx

/- Numbers, part M22: scalars: sums, opposites, products. -/
set_option autoImplicit false
set_option linter.unusedSimpArgs false
namespace Go.Vx
open Go

/-- r has the least limbs of n. -/
structure Lm (r : List Int) (n : Nat) : Prop where
  u : U4 r
  v : v4 r = n
  lt : n < ordl
theorem Lm.uniq {r s : List Int} {n : Nat} (h : Lm r n) (g : Lm s n) : r = s := by
  obtain ⟨⟨x0, x1, x2, x3, rfl, a0, a1, a2, a3⟩, hv, -⟩ := h
  obtain ⟨⟨y0, y1, y2, y3, rfl, b0, b1, b2, b3⟩, gv, -⟩ := g
  rw [v4_mk] at hv gv
  unfold U at *
  have e0 : x0 = y0 := by omega
  have e1 : x1 = y1 := by omega
  have e2 : x2 = y2 := by omega
  have e3 : x3 = y3 := by omega
  rw [e0, e1, e2, e3]
theorem Lm.sc {r : List Int} {n : Nat} (h : Lm r n) : sc r = n := by
  show (v4 r).toNat % ordl = n
  rw [h.v, Int.toNat_natCast, Nat.mod_eq_of_lt h.lt]
def v5 (t : List Int) : Int := List.getD t 0 0 + List.getD t 1 0 * 18446744073709551616 + List.getD t 2 0 * 340282366920938463463374607431768211456 + List.getD t 3 0 * 6277101735386680763835789423207666416102355444464034512896 + List.getD t 4 0 * 115792089237316195423570985008687907853269984665640564039457584007913129639936
theorem loop_in {α β γ : Type} {b : α → Option (α ⊕ (β ⊕ γ))} {v w : α} (h : b v = some (.inl w)) (f : Nat) : loopF b (f + 1) v = loopF b f w := by rw [loopF_succ, h]; rfl
theorem loop_out {α β γ : Type} {b : α → Option (α ⊕ (β ⊕ γ))} {v : α} {x : β ⊕ γ} (h : b v = some (.inr x)) (f : Nat) : loopF b (f + 1) v = some x := by rw [loopF_succ, h]; rfl
end Go.Vx

/- Numbers, part M23: the group modulo the four points; GroupLaws. -/
set_option autoImplicit false
set_option linter.unusedSimpArgs false
namespace Go.Vx
open Go

/- The group. -/
instance : Std.Associative (α := E) (· + ·) := ⟨E.add_assoc⟩
instance : Std.Commutative (α := E) (· + ·) := ⟨E.add_comm⟩
/- The base element. -/
theorem base_E : RepE (curve_Base.1, curve_Base.2.1, curve_Base.2.2.1, curve_Base.2.2.2) eB := base_all
end Go.Vx

/- Numbers, part M24: encodings, decodings and FromCurve by the curve's points. -/
set_option autoImplicit false
set_option linter.unusedSimpArgs false
namespace Go.Vx
open Go

end Go.Vx

/- Numbers, part M3: the group's texts in the field K: the reference's Decode and Encode. -/
set_option autoImplicit false
set_option linter.unusedSimpArgs false
namespace Go.Vx.Ref
open Go

theorem cf_v {a : List Int} (h : CF a) : (kf a).v = num a := by
  show num a % pF = num a
  exact Int.emod_eq_of_lt h.2.1.nonneg h.2.2
theorem cf_ev {a : List Int} (h : CF a) : (kf a).ev ↔ num a % 2 = 0 := by unfold K.ev; rw [cf_v h]
theorem rsqrt_sr {a b : List Int} (ha : CF a) (hb : CF b) : ∃ s ok, veilref01_SqrtRatio 300 a b = some (s, ok) ∧ CF s ∧ SR (kf a) (kf b) (kf s) ok := by
  obtain ⟨s, ok, h1, h2, h3, h4, h5, h6⟩ := rsqrt_k ha hb
  exact ⟨s, ok, h1, h2, ⟨(cf_ev h2).2 h3, h4, h5, h6⟩⟩
theorem radd_k {a b : List Int} (ha : CF a) (hb : CF b) : ∃ r, veilref01_F_Add 300 a b = some r ∧ CF r ∧ kf r = kf a + kf b := by
  obtain ⟨r, h1, h2, h3⟩ := radd_spec ha hb
  exact ⟨r, h1, h2, by rw [kf_of h3, K.of_add]; rfl⟩
theorem D_k : kf veilref01_D = kD := by unfold kf kD; rfl
theorem rinv_k {a : List Int} (ha : CF a) (h : kf a ≠ 0) : ∃ r, veilref01_F_Invert 300 a = some r ∧ CF r ∧ kf r * kf a = 1 := by
  obtain ⟨r, h1, h2, h3⟩ := rinvert_k ha
  refine ⟨r, h1, h2, ?_⟩
  rw [h3]
  have := K.fermat h
  rw [show eP1 = eInv + 1 from rfl, K.pow_add, kpow1] at this
  exact this
end Go.Vx.Ref

/- Numbers, part M5: the group's texts in the field K: what bytes are mapped to, by the reference. -/
set_option autoImplicit false
set_option linter.unusedSimpArgs false
namespace Go.Vx.Ref
open Go

end Go.Vx.Ref

/- Numbers, part M7: the group's texts in the field K: the reference's sums, its map; GroupMaps. -/
set_option autoImplicit false
set_option linter.unusedSimpArgs false
namespace Go.Vx.Ref
open Go

theorem dv1 {s u v i : K} (h : i * (v * u) = 1) : s * u * i * v = s := by
  rw [show s * u * i * v = s * (i * (v * u)) by grind, h]; grind
theorem dv2 {s u v i : K} (h : i * (v * u) = 1) : s * v * i * u = s := by
  rw [show s * v * i * u = s * (i * (v * u)) by grind, h]; grind

theorem radd4 {a b x y : List Int} (ha : CF a) (hb : CF b) (hx : CF x) (hy : CF y) (h1 : On (kf a) (kf b)) (h2 : On (kf x) (kf y)) :
    ∃ u v, veilref04_Point_Add 300 (a, b) (x, y) = some (u, v) ∧ CF u ∧ CF v ∧ kf u = ax (kf a) (kf b) (kf x) (kf y) ∧ kf v = ay (kf a) (kf b) (kf x) (kf y) := by
  obtain ⟨r1, k1, c1, e1⟩ := rmul_k ha hy
  obtain ⟨r2, k2, c2, e2⟩ := rmul_k hb hx
  obtain ⟨r3, k3, c3, e3⟩ := rmul_k ha hx
  obtain ⟨r4, k4, c4, e4⟩ := rmul_k hb hy
  obtain ⟨r5, k5, c5, e5⟩ := rmul_k D_cf c3
  obtain ⟨r6, k6, c6, e6⟩ := rmul_k c5 c4
  obtain ⟨r7, k7, c7, e7⟩ := radd_k rone_cf c6
  obtain ⟨r8, k8, c8, e8⟩ := rsub_k rone_cf c6
  obtain ⟨r9, k9, c9, e9⟩ := rmul_k c7 c8
  obtain ⟨w1, w2⟩ := add_whole h1 h2
  have E6 : kf r6 = kD * kf a * kf x * kf b * kf y := by rw [e6, e5, e4, e3, D_k]; generalize kD = d; grind
  rw [kf_one, E6] at e7 e8
  have z9 : kf r9 ≠ 0 := by rw [e9, e7, e8]; exact K.mul_ne w1 w2
  obtain ⟨r10, k10, c10, e10⟩ := rinv_k c9 z9
  obtain ⟨r11, k11, c11, e11⟩ := radd_k c1 c2
  obtain ⟨r12, k12, c12, e12⟩ := rmul_k c11 c8
  obtain ⟨r13, k13, c13, e13⟩ := rmul_k c12 c10
  obtain ⟨r14, k14, c14, e14⟩ := radd_k c4 c3
  obtain ⟨r15, k15, c15, e15⟩ := rmul_k c14 c7
  obtain ⟨r16, k16, c16, e16⟩ := rmul_k c15 c10
  refine ⟨r13, r16, ?_, c13, c16, ax_of h1 h2 ?_, ay_of h1 h2 ?_⟩
  · unfold veilref04_Point_Add
    simp only [k1, k2, k3, k4, k5, k6, k7, k8, k9, k10, k11, k12, k13, k14, k15, k16, mo]
  · rw [e9, e7, e8] at e10
    rw [e13, e12, e11, e8, e1, e2]
    exact dv1 e10
  · rw [e9, e7, e8] at e10
    rw [e16, e15, e14, e7, e4, e3]
    exact dv2 e10

end Go.Vx.Ref

/- Numbers, part M8: the group's texts in the field K: Decode, the base; GroupDecodes. -/
set_option autoImplicit false
set_option linter.unusedSimpArgs false
namespace Go.Vx.Ref
open Go

theorem rdecode_k {b : List Int} (hb : L32 b) :
    (∃ r, veilref01_Decode 300 b = some (r, 0) ∧ CF r ∧ (field_Decode b).2 = 0 ∧ Can (field_Decode b).1 ∧ kf r = kv (field_Decode b).1 ∧ val (field_Decode b).1 = numB b) ∨
    (veilref01_Decode 300 b = some ([0, 0, 0, 0, 0, 0, 0, 0, 0, 0], 3) ∧ field_Decode b = ([0, 0, 0, 0, 0], 3)) := by
  obtain ⟨r, h1, c1, e1⟩ := number_spec hb
  obtain ⟨z, h2, lz, ez⟩ := renc_l32 c1
  unfold veilref01_Decode
  simp only [h1, h2, mo]
  rcases decode_spec hb with ⟨g1, g2, g3, g4⟩ | ⟨g1, g2⟩
  · left
    have hz : z = b := lz.inj hb (by rw [ez, e1, Int.emod_eq_of_lt (by omega) g1])
    rw [decide_eq_true hz]
    refine ⟨r, rfl, c1, g2, g3, ?_, g4⟩
    show K.of (num r) = K.of (val (field_Decode b).1)
    rw [g4, e1, K.of_eq, Int.emod_emod]
  · right
    have hz : z ≠ b := fun h => by
      have := c1.2.2
      rw [h] at ez
      rw [← ez] at this
      exact absurd this (by omega)
    rw [decide_eq_false hz]
    exact ⟨rfl, g2⟩

def kX : K := K.of 15112221349535400772501151409588531511454012693041857206046113283949847762202
def kY : K := K.of 46316835694926478169428394003475163141307993866256225615783033603165251855960
theorem kY_5 : K.of 5 * kY = K.of 4 := by
  unfold kY
  rw [← K.of_mul, K.of_eq]
  decide
theorem base_on : On kX kY := by
  have h : kY * kY - kX * kX = 1 + kD * (kX * kX) * (kY * kY) := by
    unfold kX kY kD
    rw [show (1 : K) = K.of 1 from rfl, ← K.of_mul, ← K.of_mul, ← K.of_mul, ← K.of_mul, ← K.of_sub, ← K.of_add, K.of_eq]
    decide
  unfold On
  generalize kD = d at *
  generalize kX = x at *
  generalize kY = y at *
  grind
theorem kX_ev : kX.ev := by unfold K.ev; decide
theorem base_d : kD * kY ^ 2 + 1 ≠ 0 := by
  intro h
  have h1 : kD * kY ^ 2 + 1 = K.of (37095705934669439343138083508754565189542113879843219016388785533085940283555 * (46316835694926478169428394003475163141307993866256225615783033603165251855960 * 46316835694926478169428394003475163141307993866256225615783033603165251855960) + 1) := by
    rw [K.of_add, K.of_mul, K.of_mul, ← k_sq]
    rfl
  rw [h1] at h
  have := K.of_eq.1 (show _ = K.of 0 from h)
  revert this
  decide
theorem rsmall (n : Int) (h : 0 ≤ n ∧ n < 1000) : ∃ r, veilref01_Small 300 n = some r ∧ CF r ∧ kf r = K.of n := by
  obtain ⟨r, h1, h2, h3⟩ := small_spec (n := n) ⟨h.1, by omega⟩
  refine ⟨r, h1, h2, ?_⟩
  show K.of (num r) = K.of n
  rw [h3, K.of_eq, Int.emod_emod]

end Go.Vx.Ref
