/- Numbers, part B: what the field's functions do. -/
import Derived.Test.YtmoiobmpeohgnaaGreatDoorVyA
import Derived.Test.YtmoiobmpeohgnaaGreatDoorFp
set_option autoImplicit false
namespace Go.Vx
open Go
theorem ZFJ {a b c d e:Int} (ha:U a) (hb:U b) (hc:U c) (hd:U d) (he:U e) :
  Zbn [a, b, c, d, e] = [a % M51 + 19 * (e / M51), b % M51 + a / M51, c % M51 + b / M51, d % M51 + c / M51, e % M51 + d / M51] := by
 unfold Zbn
 simp only [List.getD_cons_zero, List.getD_cons_succ]
 simp only [ZhL ha.1 ha.2, ZhL hb.1 hb.2, ZhL hc.1 hc.2, ZhL hd.1 hd.2, ZhL he.1 he.2, Ze5, u_add, u_mul]
 simp only [U, M51] at *
 refine List.cons_eq_cons.2 ⟨by omega, List.cons_eq_cons.2 ⟨by omega, List.cons_eq_cons.2 ⟨by omega, List.cons_eq_cons.2 ⟨by omega, List.cons_eq_cons.2 ⟨by omega, rfl⟩⟩⟩⟩⟩
def L0 (a e:Int) : Int := a % M51 + 19 * (e / M51)
def L1 (b a:Int) : Int := b % M51 + a / M51
theorem light3 {a b c d e:Int} (ha:U a) (hb:U b) (hc:U c) (hd:U d) (he:U e) :
  ∃ x0 x1 x2 x3 x4 k, Zbn (Zbn (Zbn [a, b, c, d, e])) = [x0, x1, x2, x3, x4] ∧ (0 ≤ x0 ∧ x0 ≤ M51 + 18) ∧ (0 ≤ x1 ∧ x1 ≤ M51) ∧ (0 ≤ x2 ∧ x2 ≤ M51) ∧ (0 ≤ x3 ∧ x3 ≤ M51) ∧ (0 ≤ x4 ∧ x4 ≤ M51) ∧
   val [a, b, c, d, e] = val [x0, x1, x2, x3, x4] + pF * k := by
 have step : ∀ {a b c d e B:Int}, U a → U b → U c → U d → U e → a ≤ B → b ≤ B → c ≤ B → d ≤ B → e ≤ B → ∃ x0 x1 x2 x3 x4 k, Zbn [a, b, c, d, e] = [x0, x1, x2, x3, x4] ∧ (0 ≤ x0 ∧ x0 ≤ M51 - 1 + 19 * (B / M51)) ∧ (0 ≤ x1 ∧ x1 ≤ M51 - 1 + B / M51) ∧ (0 ≤ x2 ∧ x2 ≤ M51 - 1 + B / M51) ∧ (0 ≤ x3 ∧ x3 ≤ M51 - 1 + B / M51) ∧ (0 ≤ x4 ∧ x4 ≤ M51 - 1 + B / M51) ∧
   val [a, b, c, d, e] = val [x0, x1, x2, x3, x4] + pF * k := by
  intro a b c d e B ha hb hc hd he a1 b1 c1 d1 e1
  refine ⟨_, _, _, _, _, e / M51, ZFJ ha hb hc hd he, ?_, ?_, ?_, ?_, ?_, ?_⟩
  ·simp only [U, M51] at *; omega
  ·simp only [U, M51] at *; omega
  ·simp only [U, M51] at *; omega
  ·simp only [U, M51] at *; omega
  ·simp only [U, M51] at *; omega
  ·simp only [val, M51, pF]; omega
 obtain ⟨x0, x1, x2, x3, x4, k, h1, p0, p1, p2, p3, p4, hv⟩ := step (B := 18446744073709551615) ha hb hc hd he (by simp only [U] at *; omega) (by simp only [U] at *; omega) (by simp only [U] at *; omega) (by simp only [U] at *; omega) (by simp only [U] at *; omega)
 simp only [M51, show (18446744073709551615 : Int) / 2251799813685248 = 8191 by decide] at p0 p1 p2 p3 p4
 obtain ⟨y0, y1, y2, y3, y4, k', h2, q0, q1, q2, q3, q4, hv'⟩ := step (B := 2251799813685247 + 19 * 8191) (a := x0) (b := x1) (c := x2) (d := x3) (e := x4) (by simp only [U]; omega) (by simp only [U]; omega) (by simp only [U]; omega) (by simp only [U]; omega) (by simp only [U]; omega) (by omega) (by omega) (by omega) (by omega) (by omega)
 simp only [M51, show (2251799813685247 + 19 * 8191 : Int) / 2251799813685248 = 1 by decide] at q0 q1 q2 q3 q4
 obtain ⟨z0, z1, z2, z3, z4, k'', h3, r0, r1, r2, r3, r4, hv''⟩ := step (B := 2251799813685247 + 19) (a := y0) (b := y1) (c := y2) (d := y3) (e := y4) (by simp only [U]; omega) (by simp only [U]; omega) (by simp only [U]; omega) (by simp only [U]; omega) (by simp only [U]; omega) (by omega) (by omega) (by omega) (by omega) (by omega)
 simp only [M51, show (2251799813685247 + 19 : Int) / 2251799813685248 = 1 by decide] at r0 r1 r2 r3 r4
 refine ⟨z0, z1, z2, z3, z4, k + k' + k'', by rw [h1, h2, h3], ?_, ?_, ?_, ?_, ?_, ?_⟩
 ·simp only [M51]; omega
 ·simp only [M51]; omega
 ·simp only [M51]; omega
 ·simp only [M51]; omega
 ·simp only [M51]; omega
 ·rw [hv, hv', hv'', Int.mul_add, Int.mul_add]; omega
theorem ZEh {a b c d e q:Int} (ha : 0 ≤ a) (hb : 0 ≤ b) (hc : 0 ≤ c) (hd : 0 ≤ d) (he : 0 ≤ e) (h:val [a, b, c, d, e] < 2 * pF)
  (hq:q = (e + (d + (c + (b + (a + 19) / M51) / M51) / M51) / M51) / M51) :
  let x1 := a + 19 * q
  let x2 := b + x1 / M51
  let x3 := c + x2 / M51
  let x4 := d + x3 / M51
  let x5 := e + x4 / M51
  Can [x1 % M51, x2 % M51, x3 % M51, x4 % M51, x5 % M51] ∧ val [x1 % M51, x2 % M51, x3 % M51, x4 % M51, x5 % M51] = val [a, b, c, d, e] % pF ∧ (q = 0 ∨ q = 1) := by
 intro x1 x2 x3 x4 x5
 have hq01 : q = 0 ∧ val [a, b, c, d, e] < pF ∨ q = 1 ∧ pF ≤ val [a, b, c, d, e] := by
  simp only [val, pF, M51] at *
  omega
 have hval : val [x1 % M51, x2 % M51, x3 % M51, x4 % M51, x5 % M51] = val [a, b, c, d, e] - pF * q := by
  rcases hq01 with ⟨h0, h1⟩ | ⟨h0, h1⟩
  ·subst h0
   simp only [val, pF, M51, x1, x2, x3, x4, x5] at *
   omega
  ·subst h0
   simp only [val, pF, M51, x1, x2, x3, x4, x5] at *
   omega
 have hb2 : 0 ≤ val [a, b, c, d, e] - pF * q ∧ val [a, b, c, d, e] - pF * q < pF := by
  rcases hq01 with ⟨h0, h1⟩ | ⟨h0, h1⟩
  ·subst h0; simp only [val, pF] at *; omega
  ·subst h0; simp only [val, pF] at *; omega
 refine ⟨⟨_, _, _, _, _, rfl, ?_, ?_, ?_, ?_, ?_, by rw [hval]; exact hb2.2⟩, ?_, ?_⟩
 ·simp only [M51]; omega
 ·simp only [M51]; omega
 ·simp only [M51]; omega
 ·simp only [M51]; omega
 ·simp only [M51]; omega
 ·rw [hval]
  exact emod_of q (by omega) hb2.1 hb2.2
 ·rcases hq01 with ⟨h0, -⟩ | ⟨h0, -⟩
  ·exact .inl h0
  ·exact .inr h0
def L5 (a:LI) : Prop := a.length = 5 ∧ ∀ x ∈ a, 0 ≤ x ∧ x ≤ 18446744073709551615
theorem L5.get {a:LI} (h:L5 a) : ∃ x0 x1 x2 x3 x4, a = [x0, x1, x2, x3, x4] ∧ U x0 ∧ U x1 ∧ U x2 ∧ U x3 ∧ U x4 := by
 obtain ⟨hl, hr⟩ := h
 match a, hl, hr with
 | [x0, x1, x2, x3, x4], _, hr =>
  have h0 := hr x0 (by simp)
  have h1 := hr x1 (by simp)
  have h2 := hr x2 (by simp)
  have h3 := hr x3 (by simp)
  have h4 := hr x4 (by simp)
  exact ⟨x0, x1, x2, x3, x4, rfl, ⟨h0.1, by omega⟩, ⟨h1.1, by omega⟩, ⟨h2.1, by omega⟩, ⟨h3.1, by omega⟩, ⟨h4.1, by omega⟩⟩
theorem Can.L5 {a:LI} (h:Can a) : L5 a := by
 obtain ⟨x0, x1, x2, x3, x4, rfl, hx0, hx1, hx2, hx3, hx4, -⟩ := h
 refine ⟨rfl, fun x hx => ?_⟩
 simp only [M51, List.mem_cons, List.not_mem_nil, or_false] at *
 rcases hx with rfl | rfl | rfl | rfl | rfl <;> omega
theorem ZCA {l:LI} {x0 x1 x2 x3 x4 q:Int} (h1:Zbn (Zbn (Zbn l)) = [x0, x1, x2, x3, x4]) (p0 : 0 ≤ x0 ∧ x0 ≤ M51 + 18) (p1 : 0 ≤ x1 ∧ x1 ≤ M51) (p2 : 0 ≤ x2 ∧ x2 ≤ M51) (p3 : 0 ≤ x3 ∧ x3 ≤ M51)
  (p4 : 0 ≤ x4 ∧ x4 ≤ M51) (hq:q = (x4 + (x3 + (x2 + (x1 + (x0 + 19) / M51) / M51) / M51) / M51) / M51) (hq01:q = 0 ∨ q = 1) :
  let y1 := x0 + 19 * q
  let y2 := x1 + y1 / M51
  let y3 := x2 + y2 / M51
  let y4 := x3 + y3 / M51
  let y5 := x4 + y4 / M51
  Zaa l = [y1 % M51, y2 % M51, y3 % M51, y4 % M51, y5 % M51] := by
 intro y1 y2 y3 y4 y5
 have hq' : ibin .shr .u64 (ibin .add .u64 x4 (ibin .shr .u64 (ibin .add .u64 x3 (ibin .shr .u64 (ibin .add .u64 x2 (ibin .shr .u64 (ibin .add .u64 x1 (ibin .shr .u64 (ibin .add .u64 x0 19) 51)) 51)) 51)) 51)) 51 = q := by
  simp only [u_add, Ze5]
  rw [hq]
  simp only [M51] at *
  clear y1 y2 y3 y4 y5
  omega
 clear hq
 unfold Zaa
 rw [h1]
 simp only [List.getD_cons_zero, List.getD_cons_succ, List.set_cons_zero, List.set_cons_succ]
 rw [hq']
 clear hq' h1
 have b1 : 0 ≤ y1 ∧ y1 ≤ M51 + 37 := by simp only [M51, y1] at *; omega
 have e1 : ibin .add .u64 x0 (ibin .mul .u64 19 q) = y1 := by simp only [u_add, u_mul, M51, y1] at *; omega
 rw [e1]
 clear e1
 have b2 : 0 ≤ y2 ∧ y2 ≤ M51 + 1 := by simp only [M51, y2] at *; omega
 have e2 : ibin .add .u64 x1 (ibin .shr .u64 y1 51) = y2 := by simp only [u_add, Ze5, M51, y2] at *; omega
 rw [e2]
 clear e2
 have b3 : 0 ≤ y3 ∧ y3 ≤ M51 + 1 := by simp only [M51, y3] at *; omega
 have e3 : ibin .add .u64 x2 (ibin .shr .u64 y2 51) = y3 := by simp only [u_add, Ze5, M51, y3] at *; omega
 rw [e3]
 clear e3
 have b4 : 0 ≤ y4 ∧ y4 ≤ M51 + 1 := by simp only [M51, y4] at *; omega
 have e4 : ibin .add .u64 x3 (ibin .shr .u64 y3 51) = y4 := by simp only [u_add, Ze5, M51, y4] at *; omega
 rw [e4]
 clear e4
 have b5 : 0 ≤ y5 ∧ y5 ≤ M51 + 1 := by simp only [M51, y5] at *; omega
 have e5 : ibin .add .u64 x4 (ibin .shr .u64 y4 51) = y5 := by simp only [u_add, Ze5, M51, y5] at *; omega
 rw [e5]
 clear e5
 have f : ∀ y : Int, 0 ≤ y → y ≤ M51 + 37 → ibin .and .u64 y 2251799813685247 = y % M51 := fun y h0 h1 => ZhL h0 (by simp only [M51] at *; omega)
 rw [f y1 b1.1 b1.2, f y2 b2.1 (by have := b2.2; simp only [M51] at *; omega), f y3 b3.1 (by have := b3.2; simp only [M51] at *; omega), f y4 b4.1 (by have := b4.2; simp only [M51] at *; omega), f y5 b5.1 (by have := b5.2; simp only [M51] at *; omega)]
theorem Zeg {a:LI} (h:L5 a) : Can (Zaa a) ∧ val (Zaa a) = val a % pF := by
 obtain ⟨a, b, c, d, e, rfl, ha, hb, hc, hd, he⟩ := h.get
 obtain ⟨x0, x1, x2, x3, x4, k, h1, p0, p1, p2, p3, p4, hv⟩ := light3 ha hb hc hd he
 have hlt : val [x0, x1, x2, x3, x4] < 2 * pF := by
  clear hv h1
  simp only [val, pF, M51] at *; omega
 obtain ⟨t1, t2, t3⟩ := ZEh (q := (x4 + (x3 + (x2 + (x1 + (x0 + 19) / M51) / M51) / M51) / M51) / M51) p0.1 p1.1 p2.1 p3.1 p4.1 hlt rfl
 rw [ZCA h1 p0 p1 p2 p3 p4 rfl t3]
 refine ⟨t1, ?_⟩
 rw [t2, hv, Int.add_mul_emod_self_left]
end Go.Vx
