import Derived.Test.YtmoiobmpeohgnaaGreatDoorVyL
import Derived.Test.YtmoiobmpeohgnaaGreatDoorVyS
import Derived.Test.YtmoiobmpeohgnaaGreatDoorVyK0
import Derived.Test.YtmoiobmpeohgnaaGreatDoorVyL2
import Derived.Test.YtmoiobmpeohgnaaGreatDoorVyJ0
set_option autoImplicit false
set_option linter.unusedSimpArgs false
namespace Go.Vx.Ref
open Go
abbrev refP : LI := [67108845, 67108863, 67108863, 67108863, 67108863, 67108863, 67108863, 67108863, 67108863, 2097151]
abbrev T255 : Int := 57896044618658097711785492504343953926634992332820282019728792003956564819968
theorem P260 : ((2 : Int) ^ 26) ^ 10 = 1852673427797059126777135760139006525652319754650249024631321344126610074238976 := by decide
theorem ZB8 (x0 x1 x2 x3 x4 x5 x6 x7 x8 x9 y0 y1 y2 y3 y4 y5 y6 y7 y8 y9:Int) : ZbU [x0, x1, x2, x3, x4, x5, x6, x7, x8, x9] [y0, y1, y2, y3, y4, y5, y6, y7, y8, y9] = borrow64 0 [x0, x1, x2, x3, x4, x5, x6, x7, x8, x9] [y0, y1, y2, y3, y4, y5, y6, y7, y8, y9] := rfl
theorem ZxF {a b:LI} (ha:a.length = 10) (hb:b.length = 10) (da:Dg 26 a) (db:Dg 26 b) (h:num b ≤ num a) :
  (ZbU a b).length = 10 ∧ Dg 26 (ZbU a b) ∧ num (ZbU a b) = num a - num b := by
 have e : ZbU a b = borrow64 0 a b := by
  obtain ⟨x0, x1, x2, x3, x4, x5, x6, x7, x8, x9, rfl⟩ := ten ha
  obtain ⟨y0, y1, y2, y3, y4, y5, y6, y7, y8, y9, rfl⟩ := ten hb
  exact ZB8 _ _ _ _ _ _ _ _ _ _ _ _ _ _ _ _ _ _ _ _
 obtain ⟨h1, h2, c, h3, h4⟩ := Zv4 a b (by rw [ha, hb]) da db 0 (by decide)
 rw [e]
 refine ⟨by rw [h1, ha], h2, ?_⟩
 have h5 := Zye _ h2
 rw [h1, ha] at h5
 rw [ha] at h4
 rw [P260] at h4 h5
 have : c = 0 := by
  rcases (show c = -1 ∨ c = 0 by omega) with rfl | rfl
  ·exfalso; clear e; simp only [num] at *; omega
  ·rfl
 subst this
 simp only [num] at *
 omega
theorem ZB9 (x0 x1 x2 x3 x4 x5 x6 x7 x8 x9 y0 y1 y2 y3 y4 y5 y6 y7 y8 y9:Int) : ZcQ [x0, x1, x2, x3, x4, x5, x6, x7, x8, x9] [y0, y1, y2, y3, y4, y5, y6, y7, y8, y9] = cmpH [x9, x8, x7, x6, x5, x4, x3, x2, x1, x0] [y9, y8, y7, y6, y5, y4, y3, y2, y1, y0] := by kernel_rfl
theorem ZBr (x0 x1 x2 x3 x4 x5 x6 x7 x8 x9:Int) : numH [x9, x8, x7, x6, x5, x4, x3, x2, x1, x0] = num [x0, x1, x2, x3, x4, x5, x6, x7, x8, x9] := by
 simp only [numH, num, numW, List.length_cons, List.length_nil]
 omega
theorem ZxG {a b:LI} (ha:a.length = 10) (hb:b.length = 10) (da:Dg 26 a) (db:Dg 26 b) : ZcQ a b = true ↔ num a < num b := by
 obtain ⟨x0, x1, x2, x3, x4, x5, x6, x7, x8, x9, rfl⟩ := ten ha
 obtain ⟨y0, y1, y2, y3, y4, y5, y6, y7, y8, y9, rfl⟩ := ten hb
 rw [ZB9, ← ZBr, ← ZBr]
 refine ZBs _ _ rfl (fun z hz => da z ?_) (fun z hz => db z ?_)
 ·simp only [List.mem_cons, List.not_mem_nil, or_false] at hz ⊢; grind
 ·simp only [List.mem_cons, List.not_mem_nil, or_false] at hz ⊢; grind
def rW (c:Int) (o:LI) : LI × Int := sweep64 0 (o.set 0 (ibin .add .i64 (List.getD o 0 0) c))
def rC (c:Int) (o:LI) : Int := ibin .add .i64 (ibin .mul .i64 608 (rW c o).2) (ibin .mul .i64 19 (ibin .quo .i64 (List.getD (rW c o).1 9 0) 2097152))
def rO (c:Int) (o:LI) : LI := (rW c o).1.set 9 (ibin .rem .i64 (List.getD (rW c o).1 9 0) 2097152)
theorem ZCa (N:Nat) (c:Int) (x0 x1 x2 x3 x4 x5 x6 x7 x8 x9:Int) : Zbm N (((), c, (), true), ((), (), [x0, x1, x2, x3, x4, x5, x6, x7, x8, x9])) =
  some (.inl (((), rC c [x0, x1, x2, x3, x4, x5, x6, x7, x8, x9], (), icmp .gtr (rC c [x0, x1, x2, x3, x4, x5, x6, x7, x8, x9]) 0), ((), (), rO c [x0, x1, x2, x3, x4, x5, x6, x7, x8, x9]))) := by kernel_rfl
theorem ZtL {o:LI} (ho:o.length = 10) (hr:∀ x ∈ o, 0 ≤ x ∧ x < 1099511627776) {c:Int} (hc : 0 ≤ c ∧ c < 1099511627776) :
  (rO c o).length = 10 ∧ Dg 26 (rO c o) ∧ num (rO c o) = (num o + c) % T255 ∧ rC c o = 19 * ((num o + c) / T255) ∧ rC c o < 1099511627776 := by
 obtain ⟨x0, x1, x2, x3, x4, x5, x6, x7, x8, x9, rfl⟩ := ten ho
 have e0 : ibin .add .i64 x0 c = x0 + c := i_add (by have := hr x0 (by simp); omega) (by have := hr x0 (by simp); omega)
 have hlist : ∀ x ∈ ((x0 + c) :: [x1, x2, x3, x4, x5, x6, x7, x8, x9]), 0 ≤ x ∧ x < 4611686018427387904 := by
  intro x hx
  rcases List.mem_cons.1 hx with rfl | hx
  ·have := hr x0 (by simp); omega
  ·have := hr x (by simp only [List.mem_cons] at hx ⊢; grind); omega
 obtain ⟨h1, h2, h3, h4⟩ := ZtM _ hlist 0 (by decide) (by decide)
 have ew : rW c [x0, x1, x2, x3, x4, x5, x6, x7, x8, x9] = sweep64 0 ((x0 + c) :: [x1, x2, x3, x4, x5, x6, x7, x8, x9]) := by
  show sweep64 0 (ibin .add .i64 x0 c :: [x1, x2, x3, x4, x5, x6, x7, x8, x9]) = _
  rw [e0]
 rw [← ew] at h1 h2 h3 h4
 simp only [List.length_cons, List.length_nil, Nat.reduceAdd] at h1 h4
 rw [P260] at h4
 have hb : num [x0, x1, x2, x3, x4, x5, x6, x7, x8, x9] + c < 20000 * 1852673427797059126777135760139006525652319754650249024631321344126610074238976 := by
  have g0 := hr x0 (by simp); have g1 := hr x1 (by simp); have g2 := hr x2 (by simp); have g3 := hr x3 (by simp); have g4 := hr x4 (by simp)
  have g5 := hr x5 (by simp); have g6 := hr x6 (by simp); have g7 := hr x7 (by simp); have g8 := hr x8 (by simp); have g9 := hr x9 (by simp)
  simp only [num, numW]; omega
 have hV : num ((x0 + c) :: [x1, x2, x3, x4, x5, x6, x7, x8, x9]) = num [x0, x1, x2, x3, x4, x5, x6, x7, x8, x9] + c := by simp only [num, numW]; omega
 rw [hV, Int.zero_add] at h4
 generalize num [x0, x1, x2, x3, x4, x5, x6, x7, x8, x9] + c = V at *
 simp only [rC, rO]
 generalize hw : (rW c [x0, x1, x2, x3, x4, x5, x6, x7, x8, x9]).1 = w at *
 generalize (rW c [x0, x1, x2, x3, x4, x5, x6, x7, x8, x9]).2 = k at *
 clear hw ew hV hlist hr e0 ho
 obtain ⟨z0, z1, z2, z3, z4, z5, z6, z7, z8, z9, rfl⟩ := ten h1
 have d0 := h2 z0 (by simp); have d1 := h2 z1 (by simp); have d2 := h2 z2 (by simp); have d3 := h2 z3 (by simp); have d4 := h2 z4 (by simp)
 have d5 := h2 z5 (by simp); have d6 := h2 z6 (by simp); have d7 := h2 z7 (by simp); have d8 := h2 z8 (by simp); have d9 := h2 z9 (by simp)
 clear h2
 change 0 ≤ z0 ∧ z0 < 67108864 at d0
 change 0 ≤ z1 ∧ z1 < 67108864 at d1
 change 0 ≤ z2 ∧ z2 < 67108864 at d2
 change 0 ≤ z3 ∧ z3 < 67108864 at d3
 change 0 ≤ z4 ∧ z4 < 67108864 at d4
 change 0 ≤ z5 ∧ z5 < 67108864 at d5
 change 0 ≤ z6 ∧ z6 < 67108864 at d6
 change 0 ≤ z7 ∧ z7 < 67108864 at d7
 change 0 ≤ z8 ∧ z8 < 67108864 at d8
 change 0 ≤ z9 ∧ z9 < 67108864 at d9
 have e9 : List.getD [z0, z1, z2, z3, z4, z5, z6, z7, z8, z9] 9 0 = z9 := rfl
 have hn : num [z0, z1, z2, z3, z4, z5, z6, z7, z8, z9] = z0 + 67108864 * z1 + 4503599627370496 * z2 + 302231454903657293676544 * z3 + 20282409603651670423947251286016 * z4 + 1361129467683753853853498429727072845824 * z5 + 91343852333181432387730302044767688728495783936 * z6 + 6129982163463555433433388108601236734474956488734408704 * z7 + 411376139330301510538742295639337626245683966408394965837152256 * z8 + 27606985387162255149739023449108101809804435888681546220650096895197184 * z9 := by
  simp only [num, numW]; omega
 have hk : k < 20000 := by
  rw [hn] at h4; omega
 have q1 : ibin .quo .i64 z9 2097152 = z9 / 2097152 := by
  have e : z9 = ((z9.toNat : Nat) : Int) := by omega
  rw [e, show (2097152 : Int) = ((2097152 : Nat) : Int) from rfl, i_quo _ (by omega)]
  rfl
 have q2 : ibin .rem .i64 z9 2097152 = z9 % 2097152 := by
  have e : z9 = ((z9.toNat : Nat) : Int) := by omega
  rw [e, show (2097152 : Int) = ((2097152 : Nat) : Int) from rfl, i_rem]
  rfl
 have q3 : ibin .mul .i64 608 k = 608 * k := i_mul (by omega) (by omega)
 have q4 : ibin .mul .i64 19 (z9 / 2097152) = 19 * (z9 / 2097152) := i_mul (by omega) (by omega)
 have q5 : ibin .add .i64 (608 * k) (19 * (z9 / 2097152)) = 608 * k + 19 * (z9 / 2097152) := i_add (by omega) (by omega)
 rw [e9, q1, q2, q3, q4, q5]
 have es : List.set [z0, z1, z2, z3, z4, z5, z6, z7, z8, z9] 9 (z9 % 2097152) = [z0, z1, z2, z3, z4, z5, z6, z7, z8, z9 % 2097152] := rfl
 rw [es]
 have hn2 : num [z0, z1, z2, z3, z4, z5, z6, z7, z8, z9 % 2097152] = z0 + 67108864 * z1 + 4503599627370496 * z2 + 302231454903657293676544 * z3 + 20282409603651670423947251286016 * z4 + 1361129467683753853853498429727072845824 * z5 + 91343852333181432387730302044767688728495783936 * z6 + 6129982163463555433433388108601236734474956488734408704 * z7 + 411376139330301510538742295639337626245683966408394965837152256 * z8 + 27606985387162255149739023449108101809804435888681546220650096895197184 * (z9 % 2097152) := by
  simp only [num, numW]; omega
 have hV2 : V = num [z0, z1, z2, z3, z4, z5, z6, z7, z8, z9 % 2097152] + T255 * (32 * k + z9 / 2097152) := by
  rw [hn2, ← h4, hn]; simp only [T255]; omega
 have hlt : 0 ≤ num [z0, z1, z2, z3, z4, z5, z6, z7, z8, z9 % 2097152] ∧ num [z0, z1, z2, z3, z4, z5, z6, z7, z8, z9 % 2097152] < T255 := by
  rw [hn2]; simp only [T255]; omega
 refine ⟨rfl, ?_, ?_, ?_, by omega⟩
 ·intro x hx
  show 0 ≤ x ∧ x < 67108864
  simp only [List.mem_cons, List.not_mem_nil, or_false] at hx
  rcases hx with rfl | rfl | rfl | rfl | rfl | rfl | rfl | rfl | rfl | rfl
  all_goals first | assumption | omega
 ·rw [hV2, Int.add_mul_emod_self_left, Int.emod_eq_of_lt hlt.1 hlt.2]
 ·have : V / T255 = 32 * k + z9 / 2097152 := by
   rw [hV2, Int.add_mul_ediv_left _ _ (by decide), Int.ediv_eq_zero_of_lt hlt.1 hlt.2, Int.zero_add]
  rw [this]; omega
theorem ZCb (N k:Nat) (c:Int) (o:LI) : loopF (Zbm N) (k + 1) (((), c, (), false), ((), (), o)) = some (.inl (((), ()), ((), (), o))) := rfl
theorem Zq0 (N k:Nat) (c:Int) {o:LI} (ho:o.length = 10) : loopF (Zbm N) (k + 1) (((), c, (), true), ((), (), o)) = loopF (Zbm N) k (((), rC c o, (), icmp .gtr (rC c o) 0), ((), (), rO c o)) := by
 obtain ⟨x0, x1, x2, x3, x4, x5, x6, x7, x8, x9, rfl⟩ := ten ho
 rw [Zbh, ZCa]
 rfl
theorem Dg.small {o:LI} (h:Dg 26 o) : ∀ x ∈ o, 0 ≤ x ∧ x < 1099511627776 := fun x hx => by
 have := h x hx
 change 0 ≤ x ∧ x < 67108864 at this
 omega
theorem ZtN (N k:Nat) {o:LI} (ho:o.length = 10) (hr:∀ x ∈ o, 0 ≤ x ∧ x < 1099511627776) {c:Int} (hc : 0 ≤ c ∧ c < 1099511627776) (h:num o + c < T255) (h0 : 0 ≤ num o) :
  ∃ r, loopF (Zbm N) (k + 2) (((), c, (), true), ((), (), o)) = some (.inl (((), ()), ((), (), r))) ∧ r.length = 10 ∧ Dg 26 r ∧ num r = num o + c := by
 obtain ⟨h1, h2, h3, h4, h5⟩ := ZtL ho hr hc
 rw [Int.ediv_eq_zero_of_lt (by omega) h] at h4
 rw [Int.emod_eq_of_lt (by omega) h] at h3
 refine ⟨rO c o, ?_, h1, h2, h3⟩
 rw [Zq0 _ _ _ ho, show icmp .gtr (rC c o) 0 = false by rw [h4]; rfl, ZCb]
theorem ZDl (N k:Nat) {o:LI} (ho:o.length = 10) (hr:∀ x ∈ o, 0 ≤ x ∧ x < 1099511627776) {c:Int} (hc : 0 ≤ c ∧ c < 1099511627776) (h:num o + c < T255 + 1099511627776) (h0 : 0 ≤ num o) :
  ∃ r j, loopF (Zbm N) (k + 3) (((), c, (), true), ((), (), o)) = some (.inl (((), ()), ((), (), r))) ∧ r.length = 10 ∧ Dg 26 r ∧ num r < T255 ∧ num o + c = num r + pF * j := by
 by_cases hl : num o + c < T255
 ·obtain ⟨r, h1, h2, h3, h4⟩ := ZtN N (k + 1) ho hr hc hl h0
  exact ⟨r, 0, h1, h2, h3, by omega, by omega⟩
 ·obtain ⟨h1, h2, h3, h4, h5⟩ := ZtL ho hr hc
  have t1 : (num o + c) / T255 = 1 := by simp only [T255] at *; omega
  have t2 : (num o + c) % T255 = num o + c - T255 := by simp only [T255] at *; omega
  rw [t1] at h4
  rw [t2] at h3
  rw [Zq0 _ _ _ ho, h4, show icmp .gtr (19 * 1) 0 = true from rfl]
  obtain ⟨r, g1, g2, g3, g4⟩ := ZtN N k h1 h2.small (c := 19 * 1) (by decide) (by rw [h3]; simp only [T255] at *; omega) h2.nonneg
  refine ⟨r, 1, g1, g2, g3, ?_, ?_⟩
  ·rw [g4, h3]; simp only [T255] at *; omega
  ·rw [g4, h3]; simp only [T255, pF] at *; omega
theorem ZCc (N k:Nat) {o:LI} (ho:o.length = 10) (hr:∀ x ∈ o, 0 ≤ x ∧ x < 1099511627776) {c:Int} (hc : 0 ≤ c ∧ c < 1099511627776) (h0 : 0 ≤ num o) :
  ∃ r j, loopF (Zbm N) (k + 4) (((), c, (), true), ((), (), o)) = some (.inl (((), ()), ((), (), r))) ∧ r.length = 10 ∧ Dg 26 r ∧ num r < T255 ∧ num o + c = num r + pF * j := by
 by_cases hl : num o + c < T255
 ·obtain ⟨r, h1, h2, h3, h4⟩ := ZtN N (k + 2) ho hr hc hl h0
  exact ⟨r, 0, h1, h2, h3, by omega, by omega⟩
 ·obtain ⟨h1, h2, h3, h4, h5⟩ := ZtL ho hr hc
  have t1 : 1 ≤ (num o + c) / T255 := by simp only [T255] at *; omega
  have t2 : num o + c = (num o + c) % T255 + T255 * ((num o + c) / T255) := (Int.emod_add_mul_ediv _ _).symm
  have t3 : (num o + c) % T255 < T255 := Int.emod_lt_of_pos _ (by decide)
  rw [Zq0 _ _ _ ho, show icmp .gtr (rC c o) 0 = true from decide_eq_true (by rw [h4]; omega)]
  obtain ⟨r, j, g1, g2, g3, g4, g5⟩ := ZDl N k h1 h2.small (c := rC c o) ⟨by rw [h4]; omega, h5⟩ (by rw [h3]; omega) h2.nonneg
  refine ⟨r, j + (num o + c) / T255, g1, g2, g3, g4, ?_⟩
  rw [h3, h4] at g5
  generalize num o + c = V at *
  generalize V / T255 = t at *
  generalize V % T255 = m at *
  rw [Int.mul_add]
  simp only [T255, pF] at *
  omega
def fold20 (e:LI) : LI := List.zipWith (fun x y => ibin .add .i64 x (ibin .mul .i64 608 y)) (e.take 10) (e.drop 10)
theorem ZCd (N:Nat) (x0 x1 x2 x3 x4 x5 x6 x7 x8 x9 y0 y1 y2 y3 y4 y5 y6 y7 y8 y9:Int) : Zbq N ([x0, x1, x2, x3, x4, x5, x6, x7, x8, x9] ++ [y0, y1, y2, y3, y4, y5, y6, y7, y8, y9]) =
  mo (loopF (Zbm N) N (((), 0, (), true), ((), (), fold20 (sweep64 0 ([x0, x1, x2, x3, x4, x5, x6, x7, x8, x9] ++ [y0, y1, y2, y3, y4, y5, y6, y7, y8, y9])).1))) none fun r =>
   match r with
   | .inl u => cond (!(ZcQ u.2.2.2 refP)) (some (ZbU u.2.2.2 refP)) (some u.2.2.2)
   | .inr _ => none := by kernel_rfl
theorem ZDm {e:LI} (he:e.length = 20) (hd:Dg 26 e) : (fold20 e).length = 10 ∧ (∀ x ∈ fold20 e, 0 ≤ x ∧ x < 1099511627776) ∧ ∃ j, num e = num (fold20 e) + pF * j := by
 obtain ⟨x0, x1, x2, x3, x4, x5, x6, x7, x8, x9, y0, y1, y2, y3, y4, y5, y6, y7, y8, y9, rfl⟩ := twenty he
 have D : ∀ x y : Int, 0 ≤ x ∧ x < 67108864 → 0 ≤ y ∧ y < 67108864 → ibin .add .i64 x (ibin .mul .i64 608 y) = x + 608 * y := by
  intro x y hx hy
  rw [i_mul (by omega) (by omega), i_add (by omega) (by omega)]
 have hm : ∀ z ∈ [x0, x1, x2, x3, x4, x5, x6, x7, x8, x9] ++ [y0, y1, y2, y3, y4, y5, y6, y7, y8, y9], 0 ≤ z ∧ z < 67108864 := hd
 have E : fold20 ([x0, x1, x2, x3, x4, x5, x6, x7, x8, x9] ++ [y0, y1, y2, y3, y4, y5, y6, y7, y8, y9]) = [x0 + 608 * y0, x1 + 608 * y1, x2 + 608 * y2, x3 + 608 * y3, x4 + 608 * y4, x5 + 608 * y5, x6 + 608 * y6, x7 + 608 * y7, x8 + 608 * y8, x9 + 608 * y9] := by
  show [ibin .add .i64 x0 (ibin .mul .i64 608 y0), ibin .add .i64 x1 (ibin .mul .i64 608 y1), ibin .add .i64 x2 (ibin .mul .i64 608 y2), ibin .add .i64 x3 (ibin .mul .i64 608 y3), ibin .add .i64 x4 (ibin .mul .i64 608 y4), ibin .add .i64 x5 (ibin .mul .i64 608 y5), ibin .add .i64 x6 (ibin .mul .i64 608 y6), ibin .add .i64 x7 (ibin .mul .i64 608 y7), ibin .add .i64 x8 (ibin .mul .i64 608 y8), ibin .add .i64 x9 (ibin .mul .i64 608 y9)] = _
  rw [D x0 y0, D x1 y1, D x2 y2, D x3 y3, D x4 y4, D x5 y5, D x6 y6, D x7 y7, D x8 y8, D x9 y9]
  all_goals exact hm _ (by simp)
 change (fold20 ([x0, x1, x2, x3, x4, x5, x6, x7, x8, x9] ++ [y0, y1, y2, y3, y4, y5, y6, y7, y8, y9])).length = 10 ∧ (∀ x ∈ fold20 ([x0, x1, x2, x3, x4, x5, x6, x7, x8, x9] ++ [y0, y1, y2, y3, y4, y5, y6, y7, y8, y9]), 0 ≤ x ∧ x < 1099511627776) ∧ ∃ j, num ([x0, x1, x2, x3, x4, x5, x6, x7, x8, x9] ++ [y0, y1, y2, y3, y4, y5, y6, y7, y8, y9]) = num (fold20 ([x0, x1, x2, x3, x4, x5, x6, x7, x8, x9] ++ [y0, y1, y2, y3, y4, y5, y6, y7, y8, y9])) + pF * j
 rw [E]
 refine ⟨rfl, ?_, 32 * num [y0, y1, y2, y3, y4, y5, y6, y7, y8, y9], ?_⟩
 ·have key : ∀ u v : Int, 0 ≤ u ∧ u < 67108864 → 0 ≤ v ∧ v < 67108864 → 0 ≤ u + 608 * v ∧ u + 608 * v < 1099511627776 := by intro u v hu hv; omega
  intro x hx
  simp only [List.mem_cons, List.not_mem_nil, or_false] at hx
  rcases hx with rfl | rfl | rfl | rfl | rfl | rfl | rfl | rfl | rfl | rfl
  all_goals exact key _ _ (hm _ (by simp)) (hm _ (by simp))
 ·clear hm hd D E he
  show num [x0, x1, x2, x3, x4, x5, x6, x7, x8, x9, y0, y1, y2, y3, y4, y5, y6, y7, y8, y9] = _
  simp only [num, numW, pF]
  omega
theorem ZvV : num refP = pF := by decide
theorem Zyf : Dg 26 refP := by
 intro x hx
 show 0 ≤ x ∧ x < 67108864
 simp only [refP, List.mem_cons, List.not_mem_nil, or_false] at hx
 rcases hx with rfl | rfl | rfl | rfl | rfl | rfl | rfl | rfl | rfl | rfl <;> decide
theorem Zj7 {d:LI} (hd:d.length = 20) (hr:∀ x ∈ d, 0 ≤ x ∧ x < 4611686018427387904) (hn:num d < 1852673427797059126777135760139006525652319754650249024631321344126610074238976 * 1852673427797059126777135760139006525652319754650249024631321344126610074238976) :
  ∃ r, Zbq 300 d = some r ∧ CF r ∧ num r = num d % pF := by
 obtain ⟨s1, s2, s3, s4⟩ := ZtM d hr 0 (by decide) (by decide)
 have s5 : (sweep64 0 d).2 = 0 := by
  have g := s2.nonneg
  rw [hd, show ((2 : Int) ^ 26) ^ 20 = 1852673427797059126777135760139006525652319754650249024631321344126610074238976 * 1852673427797059126777135760139006525652319754650249024631321344126610074238976 by decide] at s4
  simp only [num] at *
  generalize (sweep64 0 d).2 = k at *
  generalize numW 26 (sweep64 0 d).1 = m at *
  generalize numW 26 d = v at *
  omega
 rw [s5, Int.mul_zero, Int.add_zero, Int.zero_add] at s4
 obtain ⟨f1, f2, j, f3⟩ := ZDm (s1.trans hd) s2
 obtain ⟨r, i, l1, l2, l3, l4, l5⟩ := ZCc 300 296 f1 f2 (c := 0) (by decide) (Zq1 _ fun x hx => (f2 x hx).1)
 have e : Zbq 300 d = cond (!(ZcQ r refP)) (some (ZbU r refP)) (some r) := by
  obtain ⟨x0, x1, x2, x3, x4, x5, x6, x7, x8, x9, y0, y1, y2, y3, y4, y5, y6, y7, y8, y9, rfl⟩ := twenty hd
  refine (ZCd 300 _ _ _ _ _ _ _ _ _ _ _ _ _ _ _ _ _ _ _ _).trans ?_
  exact (congrArg (fun z => mo z none _) l1).trans rfl
 have hV : num d = num r + pF * (i + j) := by rw [← s4, f3, Int.mul_add]; omega
 have n0 := l3.nonneg
 rw [e]
 cases hb : ZcQ r refP
 ·have hge : num refP ≤ num r := by
   rcases Int.lt_or_le (num r) (num refP) with h | h
   ·rw [(ZxG l2 rfl l3 Zyf).2 h] at hb; cases hb
   ·exact h
  obtain ⟨m1, m2, m3⟩ := ZxF l2 rfl l3 Zyf hge
  rw [ZvV] at m3 hge
  have hlt : num r - pF < pF := by simp only [pF, T255] at *; omega
  refine ⟨_, rfl, ⟨m1, m2, by rw [m3]; exact hlt⟩, ?_⟩
  rw [m3, hV, Int.add_mul_emod_self_left, ← Int.emod_eq_of_lt (by omega) hlt, Int.sub_emod_right]
 ·have h := (ZxG l2 rfl l3 Zyf).1 hb
  rw [ZvV] at h
  exact ⟨_, rfl, ⟨l2, l3, h⟩, by rw [hV, Int.add_mul_emod_self_left, Int.emod_eq_of_lt n0 h]⟩
end Go.Vx.Ref
set_option autoImplicit false
set_option linter.unusedSimpArgs false
namespace Go.Vx.Ref
open Go
theorem u_bit {y:Int} (h:U y) (k:Nat) (hk:k ≤ 64) : ibin .and .u64 (ibin .shr .u64 y (k:Int)) 1 = y / 2 ^ k % 2 := by
 rw [u_shr k hk]
 have hp : (0 : Int) < 2 ^ k := Int.pow_pos (by decide)
 have h0 : 0 ≤ y / 2 ^ k := Int.ediv_nonneg h.1 (Int.le_of_lt hp)
 have h1 : y / 2 ^ k ≤ y := Int.ediv_le_self _ h.1
 have h2 := h.2
 generalize y / 2 ^ k = z at *
 rw [u_and h0 (by omega) (by decide) (by decide), show (1 : Int).toNat = 2 ^ 1 - 1 from rfl, Nat.and_two_pow_sub_one_eq_mod]
 omega
theorem s_bit {y:Int} (k:Nat) (hk:k ≤ 64) : ibin .and .i64 (ibin .shr .i64 y (k:Int)) 1 = y / 2 ^ k % 2 := by
 rw [i_shr k hk, ZBt]
theorem ZtO (x:Int) (h:x = 0 ∨ x = 1) : icmp .eql x 1 = decide (x = 1) := by
 rcases h with rfl | rfl <;> rfl
theorem bit01 (x:Int) : x % 2 = 0 ∨ x % 2 = 1 := by omega
theorem ZiR {n:Nat} {i:Nat} (h:i < n) : decide (0 ≤ (i:Int) ∧ (i:Int) < ((n:Nat) : Int)) = true := decide_eq_true ⟨by omega, by omega⟩
theorem ZpQ (i:Nat) : decide (0 ≤ (i:Int)) = true := decide_eq_true (by omega)
theorem i_inc {i:Nat} (h:i < 1000000) : ibin .add .i64 (i:Int) 1 = ((i + 1 : Nat) : Int) := by rw [i_add (by omega) (by omega)]; omega
def Cols (M:Int) (d:LI) : Prop := d.length = 20 ∧ ∀ x ∈ d, 0 ≤ x ∧ x < M + 1
theorem of_step (N:Nat) {a d:LI} (ha:L5 a) {M:Int} (hM : 0 ≤ M ∧ M < 1152921504606846976) (hd:Cols M d) {i b:Nat} (hi:i < 5) (hb:b < 64) :
  ∃ d', ZdT N (((), (), (), (i:Int), (b:Int)), (a, (), d)) = some (.inl (((), (), (), (i:Int), ((b + 1 : Nat) : Int)), (a, (), d'))) ∧ Cols (M + 33554432) d' ∧ num d' = num d + (List.getD a i 0 / 2 ^ b % 2) * 2 ^ (51 * i + b) := by
 have hy : U (List.getD a i 0) := by
  have := Ziw (lo := 0) (hi := 18446744073709551616) (by decide) a (fun x hx => by have := ha.2 x hx; omega) i
  exact this
 have x1 : ibin .add .i64 (ibin .mul .i64 51 (i:Int)) (b:Int) = ((51 * i + b : Nat) : Int) := by
  rw [i_mul (by omega) (by omega), i_add (by omega) (by omega)]; omega
 have x2 : ibin .quo .i64 ((51 * i + b : Nat) : Int) 26 = (((51 * i + b) / 26 : Nat) : Int) := i_quo 26 (by omega)
 have x4 : ibin .rem .i64 ((51 * i + b : Nat) : Int) 26 = (((51 * i + b) % 26 : Nat) : Int) := i_rem 26
 have hlt : (51 * i + b) / 26 < 20 := by omega
 have hr : (51 * i + b) % 26 < 26 := Nat.mod_lt _ (by decide)
 have hx : 26 * ((51 * i + b) / 26) + (51 * i + b) % 26 = 51 * i + b := Nat.div_add_mod _ _
 have hc : icmp .lss (b:Int) 64 = true := decide_eq_true (by omega)
 unfold ZdT
 simp only [hc, cond_true, ZiR hi, ZpQ, Int.toNat_natCast, u_bit hy b (by omega), x1, x2, x4, ZiR hlt, i_inc (show b < 1000000 by omega), i_shl (show (51 * i + b) % 26 < 62 by omega)]
 rw [ZtO _ (bit01 _)]
 rcases bit01 (List.getD a i 0 / 2 ^ b) with h | h
 ·rw [h]
  refine ⟨d, rfl, ⟨hd.1, fun x hx => by have := hd.2 x hx; omega⟩, by omega⟩
 ·rw [h]
  have h3 := Ziw (lo := 0) (hi := M + 1) ⟨Int.le_refl 0, by omega⟩ d hd.2 ((51 * i + b) / 26)
  have h4 : (2 : Int) ^ ((51 * i + b) % 26) ≤ 2 ^ 25 := by
   have : (2 : Nat) ^ ((51 * i + b) % 26) ≤ 2 ^ 25 := Nat.pow_le_pow_right (by decide) (by omega)
   exact_mod_cast this
  have h5 : (0 : Int) < 2 ^ ((51 * i + b) % 26) := Int.pow_pos (by decide)
  rw [show (2 : Int) ^ 25 = 33554432 from rfl] at h4
  have e2 : ibin .add .i64 (List.getD d ((51 * i + b) / 26) 0) (2 ^ ((51 * i + b) % 26)) = List.getD d ((51 * i + b) / 26) 0 + 2 ^ ((51 * i + b) % 26) := i_add (by omega) (by omega)
  rw [e2]
  refine ⟨_, rfl, ⟨by rw [List.length_set]; exact hd.1, Zr2 (by omega) d (fun x hx => by have := hd.2 x hx; omega) _⟩, ?_⟩
  rw [num, Zr1 _ d _ (by rw [hd.1]; exact hlt), ← Int.pow_add, Nat.add_comm, hx, Int.one_mul]
theorem ZBu (y:Int) (b:Nat) (n:Nat) : y / 2 ^ b * 2 ^ (n + b) = y / 2 ^ b % 2 * 2 ^ (n + b) + y / 2 ^ (b + 1) * 2 ^ (n + (b + 1)) := by
 have e : y / 2 ^ (b + 1) = y / 2 ^ b / 2 := by rw [Int.pow_succ, ← Int.ediv_ediv_of_nonneg (Int.le_of_lt (Int.pow_pos (by decide)))]
 rw [e, show n + (b + 1) = n + b + 1 by omega, Int.pow_succ]
 generalize y / 2 ^ b = z
 generalize (2 : Int) ^ (n + b) = t
 have := Int.emod_add_mul_ediv z 2
 generalize z % 2 = u at *
 generalize z / 2 = v at *
 subst this
 rw [Int.add_mul, Int.mul_comm t, ← Int.mul_assoc, Int.mul_comm v]
theorem ZBv (N:Nat) {a:LI} (ha:L5 a) {i:Nat} (hi:i < 5) : (k:Nat) → (b:Nat) → b + k = 64 → (fuel:Nat) → k < fuel → (M:Int) → 0 ≤ M → M + 33554432 * k < 1152921504606846976 → (d:LI) → Cols M d →
  ∃ d', loopF (ZdT N) fuel (((), (), (), (i:Int), (b:Int)), (a, (), d)) = some (.inl (((), (), (), (i:Int)), (a, (), d'))) ∧ Cols (M + 33554432 * k) d' ∧ num d' = num d + List.getD a i 0 / 2 ^ b * 2 ^ (51 * i + b)
 | 0, b, hb, fuel + 1, _, M, _, _, d, hd => by
  obtain rfl : b = 64 := by omega
  have hy := Ziw (lo := 0) (hi := 18446744073709551616) (by decide) a (fun x hx => by have := ha.2 x hx; omega) i
  refine ⟨d, rfl, by simpa using hd, ?_⟩
  rw [Int.ediv_eq_zero_of_lt hy.1 (show List.getD a i 0 < 2 ^ 64 from hy.2)]; omega
 | k + 1, b, hb, fuel + 1, hf, M, h0, hM, d, hd => by
  obtain ⟨d1, h1, h2, h3⟩ := of_step N ha (M := M) ⟨h0, by omega⟩ hd hi (show b < 64 by omega)
  obtain ⟨d2, g1, g2, g3⟩ := ZBv N ha hi k (b + 1) (by omega) fuel (by omega) (M + 33554432) (by omega) (by omega) d1 h2
  refine ⟨d2, ?_, ?_, ?_⟩
  ·rw [Zbh, h1]; exact g1
  ·rw [show M + 33554432 * ((k + 1 : Nat) : Int) = M + 33554432 + 33554432 * (k:Int) by omega]; exact g2
  ·have hh := ZBu (List.getD a i 0) b (51 * i)
   rw [g3, h3, hh]; omega
theorem Zr3 (N:Nat) (hN : 70 < N) {a:LI} (ha:L5 a) {i:Nat} (hi:i < 5) (fuel:Nat) (M:Int) (h0 : 0 ≤ M) (hM:M < 576460752303423488) (d:LI) (hd:Cols M d) :
  ∃ d', loopF (ZcR N) (fuel + 1) (((), (), (), (i:Int)), (a, (), d)) = loopF (ZcR N) fuel (((), (), (), ((i + 1 : Nat) : Int)), (a, (), d')) ∧ Cols (M + 2147483648) d' ∧ num d' = num d + List.getD a i 0 * 2 ^ (51 * i) := by
 obtain ⟨d', h1, h2, h3⟩ := ZBv N ha hi 64 0 rfl N (by omega) M h0 (by omega) d hd
 refine ⟨d', ?_, h2, ?_⟩
 ·have e : ZcR N (((), (), (), (i:Int)), (a, (), d)) = some (.inl (((), (), (), ((i + 1 : Nat) : Int)), (a, (), d'))) := by
   unfold ZcR
   have hc : icmp .lss (i:Int) 5 = true := decide_eq_true (by omega)
   simp only [hc, cond_true]
   rw [show ((0 : Int)) = ((0 : Nat) : Int) from rfl, h1]
   simp only [mo, i_inc (show i < 1000000 by omega)]
  rw [Zbh, e]; rfl
 ·rw [h3, Int.pow_zero, Int.ediv_one, Nat.add_zero]
theorem ZCM {a:LI} (ha:L5 a) : ∃ n, Ze0 300 a = some n ∧ CF n ∧ num n = val a % pF := by
 have z0 : Cols 0 [0, 0, 0, 0, 0, 0, 0, 0, 0, 0, 0, 0, 0, 0, 0, 0, 0, 0, 0, 0] := ⟨rfl, by decide⟩
 obtain ⟨d1, a1, b1, c1⟩ := Zr3 300 (by decide) ha (i := 0) (by decide) 299 0 (by decide) (by decide) _ z0
 obtain ⟨d2, a2, b2, c2⟩ := Zr3 300 (by decide) ha (i := 1) (by decide) 298 _ (by decide) (by decide) _ b1
 obtain ⟨d3, a3, b3, c3⟩ := Zr3 300 (by decide) ha (i := 2) (by decide) 297 _ (by decide) (by decide) _ b2
 obtain ⟨d4, a4, b4, c4⟩ := Zr3 300 (by decide) ha (i := 3) (by decide) 296 _ (by decide) (by decide) _ b3
 obtain ⟨d5, a5, b5, c5⟩ := Zr3 300 (by decide) ha (i := 4) (by decide) 295 _ (by decide) (by decide) _ b4
 have e : loopF (ZcR 300) 300 (((), (), (), 0), (a, (), [0, 0, 0, 0, 0, 0, 0, 0, 0, 0, 0, 0, 0, 0, 0, 0, 0, 0, 0, 0])) = some (.inl (((), ()), ((), d5))) :=
  a1.trans (a2.trans (a3.trans (a4.trans (a5.trans rfl))))
 have hv : num d5 = val a := by
  obtain ⟨y0, y1, y2, y3, y4, rfl, _⟩ := ha.get
  have n0 : num [0, 0, 0, 0, 0, 0, 0, 0, 0, 0, 0, 0, 0, 0, 0, 0, 0, 0, 0, 0] = 0 := by decide
  rw [c5, c4, c3, c2, c1, n0]
  simp only [val, List.getD_cons_zero, List.getD_cons_succ]
  omega
 have hb : val a < 1852673427797059126777135760139006525652319754650249024631321344126610074238976 * 18446744073709551616 := by
  obtain ⟨y0, y1, y2, y3, y4, rfl, u0, u1, u2, u3, u4⟩ := ha.get
  simp only [val, U] at *
  omega
 obtain ⟨r, l1, l2, l3⟩ := Zj7 b5.1 (fun x hx => by have := b5.2 x hx; omega) (by rw [hv]; omega)
 refine ⟨r, ?_, l2, by rw [l3, hv]⟩
 unfold Ze0
 rw [e]
 simp only [mo, l1]
theorem ZCe (N:Nat) {a l:LI} (ha:CF a) {n:Nat} (hn:n < 255) (hd:Dg 51 l) (hl:l.length = 5) (hm:numW 51 l = num a % 2 ^ n) :
  ∃ l', Zcm N (((), (), (), (n:Int)), (a, (), l)) = some (.inl (((), (), (), ((n + 1 : Nat) : Int)), (a, (), l'))) ∧ Dg 51 l' ∧ l'.length = 5 ∧ numW 51 l' = num a % 2 ^ (n + 1) := by
 have x1 : ibin .quo .i64 (n:Int) 26 = ((n / 26 : Nat) : Int) := i_quo 26 (by omega)
 have x2 : ibin .rem .i64 (n:Int) 26 = ((n % 26 : Nat) : Int) := i_rem 26
 have x3 : ibin .quo .i64 (n:Int) 51 = ((n / 51 : Nat) : Int) := i_quo 51 (by omega)
 have x4 : ibin .rem .i64 (n:Int) 51 = ((n % 51 : Nat) : Int) := i_rem 51
 have r1 : n % 26 < 26 := Nat.mod_lt _ (by decide)
 have r2 : n % 51 < 51 := Nat.mod_lt _ (by decide)
 have q1 : n / 26 < 10 := by omega
 have q2 : n / 51 < 5 := by omega
 have hc : icmp .lss (n:Int) 255 = true := by
  have h : (n:Int) < 255 := by omega
  simpa [icmp] using h
 have hbit : List.getD a (n / 26) 0 / 2 ^ (n % 26) % 2 = num a / 2 ^ n % 2 := by
  rw [Zr4 (w := 26) _ _ ha.2.1 _ r1, Nat.div_add_mod]
 have hs := ZBw (num a) n
 have hlt : num a % 2 ^ n < 2 ^ n := Int.emod_lt_of_pos _ (Int.pow_pos (by decide))
 obtain ⟨p0, p1, p2⟩ := ZDn (w := 51) (n := n) (k := n / 51) (r := n % 51) hd (Nat.div_add_mod _ _).symm r2 (by rw [hl]; exact q2) (by rw [hm]; exact hlt)
 have hw : (2 : Int) * 2 ^ (n % 51) ≤ 2 ^ 51 := by
  have : (2 : Nat) ^ (n % 51 + 1) ≤ 2 ^ 51 := Nat.pow_le_pow_right (by decide) (by omega)
  rw [Nat.pow_succ, Nat.mul_comm] at this
  exact_mod_cast this
 have hp : (0 : Int) < 2 ^ (n % 51) := Int.pow_pos (by decide)
 rw [show (2 : Int) ^ 51 = 2251799813685248 from rfl] at hw
 have o1 : ibin .shl .u64 1 ((n % 51 : Nat) : Int) = 2 ^ (n % 51) := by
  show IntKind.wrap .u64 (1 * 2 ^ (min ((n % 51 : Nat) : Int).toNat 64)) = _
  rw [Int.toNat_natCast, Nat.min_eq_left (by omega), Int.one_mul, wrap64, Int.emod_eq_of_lt (by omega) (by omega)]
 have o2 : ibin .add .u64 (List.getD l (n / 51) 0) (2 ^ (n % 51)) = List.getD l (n / 51) 0 + 2 ^ (n % 51) := by
  show IntKind.wrap .u64 _ = _
  rw [wrap64, Int.emod_eq_of_lt (by omega) (by omega)]
 unfold Zcm
 simp only [hc, cond_true, x1, x2, x3, x4, ZiR q1, ZiR q2, ZpQ, Int.toNat_natCast, s_bit (n % 26) (by omega), i_inc (show n < 1000000 by omega), o1, o2, hbit]
 rw [ZtO _ (bit01 _)]
 rcases bit01 (num a / 2 ^ n) with h | h
 ·rw [h] at hs ⊢
  exact ⟨l, rfl, hd, hl, by rw [hm, hs]; omega⟩
 ·rw [h] at hs ⊢
  exact ⟨_, rfl, p1, by rw [List.length_set]; exact hl, by rw [p2, hm, hs]; omega⟩
theorem ZxH (N:Nat) {a:LI} (ha:CF a) : (k:Nat) → (n:Nat) → n + k = 255 → (fuel:Nat) → k < fuel → (l:LI) → Dg 51 l → l.length = 5 → numW 51 l = num a % 2 ^ n →
  ∃ l', loopF (Zcm N) fuel (((), (), (), (n:Int)), (a, (), l)) = some (.inl (((), ()), ((), l'))) ∧ Dg 51 l' ∧ l'.length = 5 ∧ numW 51 l' = num a % 2 ^ 255
 | 0, n, hn, fuel + 1, _, l, hd, hl, hm => by
  obtain rfl : n = 255 := by omega
  exact ⟨l, rfl, hd, hl, hm⟩
 | k + 1, n, hn, fuel + 1, hf, l, hd, hl, hm => by
  obtain ⟨l1, h1, h2, h3, h4⟩ := ZCe N ha (show n < 255 by omega) hd hl hm
  obtain ⟨l2, g1, g2⟩ := ZxH N ha k (n + 1) (by omega) fuel (by omega) l1 h2 h3 h4
  exact ⟨l2, by rw [Zbh, h1]; exact g1, g2⟩
theorem ZCf {a:LI} (ha:CF a) : ∃ l, Zch 300 a = some l ∧ Dg 51 l ∧ l.length = 5 ∧ numW 51 l = num a := by
 obtain ⟨l, h1, h2, h3, h4⟩ := ZxH 300 ha 255 0 rfl 300 (by decide) [0, 0, 0, 0, 0] (by intro x hx; simp only [List.mem_cons, List.not_mem_nil, or_false, or_self] at hx; subst hx; decide) rfl (by
  rw [Int.pow_zero, Int.emod_one]; decide)
 refine ⟨l, ?_, h2, h3, ?_⟩
 ·unfold Zch
  rw [show (0 : Int) = ((0 : Nat) : Int) from rfl] at *
  rw [h1]
  rfl
 ·rw [h4]
  have := ha.2.2
  have h0 := ha.2.1.nonneg
  refine Int.emod_eq_of_lt h0 ?_
  rw [show (2 : Int) ^ 255 = T255 by decide]
  simp only [pF, T255] at *
  omega
theorem ZDo (N:Nat) {a l:LI} (ha:CF a) {n:Nat} (hn:n < 255) (hd:Dg 8 l) (hl:l.length = 32) (hm:numW 8 l = num a % 2 ^ n) :
  ∃ l', Zca N (((), (), (), (n:Int)), (a, (), l)) = some (.inl (((), (), (), ((n + 1 : Nat) : Int)), (a, (), l'))) ∧ Dg 8 l' ∧ l'.length = 32 ∧ numW 8 l' = num a % 2 ^ (n + 1) := by
 have x1 : ibin .quo .i64 (n:Int) 26 = ((n / 26 : Nat) : Int) := i_quo 26 (by omega)
 have x2 : ibin .rem .i64 (n:Int) 26 = ((n % 26 : Nat) : Int) := i_rem 26
 have x3 : ibin .quo .i64 (n:Int) 8 = ((n / 8 : Nat) : Int) := i_quo 8 (by omega)
 have x4 : ibin .rem .i64 (n:Int) 8 = ((n % 8 : Nat) : Int) := i_rem 8
 have r1 : n % 26 < 26 := Nat.mod_lt _ (by decide)
 have r2 : n % 8 < 8 := Nat.mod_lt _ (by decide)
 have q1 : n / 26 < 10 := by omega
 have q2 : n / 8 < 32 := by omega
 have hc : icmp .lss (n:Int) 255 = true := by
  have h : (n:Int) < 255 := by omega
  simpa [icmp] using h
 have hbit : List.getD a (n / 26) 0 / 2 ^ (n % 26) % 2 = num a / 2 ^ n % 2 := by
  rw [Zr4 (w := 26) _ _ ha.2.1 _ r1, Nat.div_add_mod]
 have hs := ZBw (num a) n
 have hlt : num a % 2 ^ n < 2 ^ n := Int.emod_lt_of_pos _ (Int.pow_pos (by decide))
 obtain ⟨p0, p1, p2⟩ := ZDn (w := 8) (n := n) (k := n / 8) (r := n % 8) hd (Nat.div_add_mod _ _).symm r2 (by rw [hl]; exact q2) (by rw [hm]; exact hlt)
 have hw : (2 : Int) * 2 ^ (n % 8) ≤ 2 ^ 8 := by
  have : (2 : Nat) ^ (n % 8 + 1) ≤ 2 ^ 8 := Nat.pow_le_pow_right (by decide) (by omega)
  rw [Nat.pow_succ, Nat.mul_comm] at this
  exact_mod_cast this
 have hp : (0 : Int) < 2 ^ (n % 8) := Int.pow_pos (by decide)
 rw [show (2 : Int) ^ 8 = 256 from rfl] at hw
 have o1 : ibin .shl .u8 1 ((n % 8 : Nat) : Int) = 2 ^ (n % 8) := by
  show IntKind.wrap .u8 (1 * 2 ^ (min ((n % 8 : Nat) : Int).toNat 8)) = _
  rw [Int.toNat_natCast, Nat.min_eq_left (by omega), Int.one_mul, wrap8, Int.emod_eq_of_lt (by omega) (by omega)]
 have o2 : ibin .add .u8 (List.getD l (n / 8) 0) (2 ^ (n % 8)) = List.getD l (n / 8) 0 + 2 ^ (n % 8) := by
  show IntKind.wrap .u8 _ = _
  rw [wrap8, Int.emod_eq_of_lt (by omega) (by omega)]
 unfold Zca
 simp only [hc, cond_true, x1, x2, x3, x4, ZiR q1, ZiR q2, ZpQ, Int.toNat_natCast, s_bit (n % 26) (by omega), i_inc (show n < 1000000 by omega), o1, o2, hbit]
 rw [ZtO _ (bit01 _)]
 rcases bit01 (num a / 2 ^ n) with h | h
 ·rw [h] at hs ⊢
  exact ⟨l, rfl, hd, hl, by rw [hm, hs]; omega⟩
 ·rw [h] at hs ⊢
  exact ⟨_, rfl, p1, by rw [List.length_set]; exact hl, by rw [p2, hm, hs]; omega⟩
theorem Zzf (N:Nat) {a:LI} (ha:CF a) : (k:Nat) → (n:Nat) → n + k = 255 → (fuel:Nat) → k < fuel → (l:LI) → Dg 8 l → l.length = 32 → numW 8 l = num a % 2 ^ n →
  ∃ l', loopF (Zca N) fuel (((), (), (), (n:Int)), (a, (), l)) = some (.inl (((), ()), ((), l'))) ∧ Dg 8 l' ∧ l'.length = 32 ∧ numW 8 l' = num a % 2 ^ 255
 | 0, n, hn, fuel + 1, _, l, hd, hl, hm => by
  obtain rfl : n = 255 := by omega
  exact ⟨l, rfl, hd, hl, hm⟩
 | k + 1, n, hn, fuel + 1, hf, l, hd, hl, hm => by
  obtain ⟨l1, h1, h2, h3, h4⟩ := ZDo N ha (show n < 255 by omega) hd hl hm
  obtain ⟨l2, g1, g2⟩ := Zzf N ha k (n + 1) (by omega) fuel (by omega) l1 h2 h3 h4
  exact ⟨l2, by rw [Zbh, h1]; exact g1, g2⟩
theorem ZDp {a:LI} (ha:CF a) : ∃ l, Zcq 300 a = some l ∧ Dg 8 l ∧ l.length = 32 ∧ numW 8 l = num a := by
 obtain ⟨l, h1, h2, h3, h4⟩ := Zzf 300 ha 255 0 rfl 300 (by decide) [0, 0, 0, 0, 0, 0, 0, 0, 0, 0, 0, 0, 0, 0, 0, 0, 0, 0, 0, 0, 0, 0, 0, 0, 0, 0, 0, 0, 0, 0, 0, 0] (by intro x hx; simp only [List.mem_cons, List.not_mem_nil, or_false, or_self] at hx; subst hx; decide) rfl (by
  rw [Int.pow_zero, Int.emod_one]; decide)
 refine ⟨l, ?_, h2, h3, ?_⟩
 ·unfold Zcq
  rw [show (0 : Int) = ((0 : Nat) : Int) from rfl] at *
  rw [h1]
  rfl
 ·rw [h4]
  have := ha.2.2
  have h0 := ha.2.1.nonneg
  refine Int.emod_eq_of_lt h0 ?_
  rw [show (2 : Int) ^ 255 = T255 by decide]
  simp only [pF, T255] at *
  omega
theorem Zy5 {a:LI} (ha:CF a) : ∃ l, Zch 300 a = some l ∧ Can l ∧ val l = num a := by
 obtain ⟨l, h1, h2, h3, h4⟩ := ZCf ha
 match l, h3 with
 | [y0, y1, y2, y3, y4], _ =>
  have hv : val [y0, y1, y2, y3, y4] = num a := by
   rw [← h4]; simp only [val, numW]; omega
  exact ⟨_, h1, ⟨y0, y1, y2, y3, y4, rfl, h2 y0 (by simp), h2 y1 (by simp), h2 y2 (by simp), h2 y3 (by simp), h2 y4 (by simp), by rw [hv]; exact ha.2.2⟩, hv⟩
theorem CF.dig {a:LI} (h:CF a) : ∀ x ∈ a, 0 ≤ x ∧ x < 67108864 := h.2.1
theorem Zzd {a b:LI} (ha:CF a) (hb:CF b) : ∃ r, Zad 300 a b = some r ∧ CF r ∧ num r = (num a + num b) % pF := by
 have a2 := ha.2.2; have b2 := hb.2.2
 obtain ⟨x0, x1, x2, x3, x4, x5, x6, x7, x8, x9, rfl⟩ := ten ha.1
 obtain ⟨y0, y1, y2, y3, y4, y5, y6, y7, y8, y9, rfl⟩ := ten hb.1
 have D : ∀ x y : Int, 0 ≤ x ∧ x < 67108864 → 0 ≤ y ∧ y < 67108864 → ibin .add .i64 x y = x + y := fun x y hx hy => i_add (by omega) (by omega)
 have g0 := ha.dig x0 (by simp)
 have k0 := hb.dig y0 (by simp)
 have g1 := ha.dig x1 (by simp)
 have k1 := hb.dig y1 (by simp)
 have g2 := ha.dig x2 (by simp)
 have k2 := hb.dig y2 (by simp)
 have g3 := ha.dig x3 (by simp)
 have k3 := hb.dig y3 (by simp)
 have g4 := ha.dig x4 (by simp)
 have k4 := hb.dig y4 (by simp)
 have g5 := ha.dig x5 (by simp)
 have k5 := hb.dig y5 (by simp)
 have g6 := ha.dig x6 (by simp)
 have k6 := hb.dig y6 (by simp)
 have g7 := ha.dig x7 (by simp)
 have k7 := hb.dig y7 (by simp)
 have g8 := ha.dig x8 (by simp)
 have k8 := hb.dig y8 (by simp)
 have g9 := ha.dig x9 (by simp)
 have k9 := hb.dig y9 (by simp)
 have e : Zad 300 [x0, x1, x2, x3, x4, x5, x6, x7, x8, x9] [y0, y1, y2, y3, y4, y5, y6, y7, y8, y9] = mo (Zbq 300 ([x0 + y0, x1 + y1, x2 + y2, x3 + y3, x4 + y4, x5 + y5, x6 + y6, x7 + y7, x8 + y8, x9 + y9] ++ [0, 0, 0, 0, 0, 0, 0, 0, 0, 0])) none fun r => some r := by
  show mo (Zbq 300 [ibin .add .i64 x0 y0, ibin .add .i64 x1 y1, ibin .add .i64 x2 y2, ibin .add .i64 x3 y3, ibin .add .i64 x4 y4, ibin .add .i64 x5 y5, ibin .add .i64 x6 y6, ibin .add .i64 x7 y7, ibin .add .i64 x8 y8, ibin .add .i64 x9 y9, 0, 0, 0, 0, 0, 0, 0, 0, 0, 0]) none (fun r => some r) = _
  rw [D x0 y0, D x1 y1, D x2 y2, D x3 y3, D x4 y4, D x5 y5, D x6 y6, D x7 y7, D x8 y8, D x9 y9]
  ·rfl
  all_goals assumption
 have hn : num ([x0 + y0, x1 + y1, x2 + y2, x3 + y3, x4 + y4, x5 + y5, x6 + y6, x7 + y7, x8 + y8, x9 + y9] ++ [0, 0, 0, 0, 0, 0, 0, 0, 0, 0]) = num [x0, x1, x2, x3, x4, x5, x6, x7, x8, x9] + num [y0, y1, y2, y3, y4, y5, y6, y7, y8, y9] := by
  clear ha hb D e a2 b2
  show num [x0 + y0, x1 + y1, x2 + y2, x3 + y3, x4 + y4, x5 + y5, x6 + y6, x7 + y7, x8 + y8, x9 + y9, 0, 0, 0, 0, 0, 0, 0, 0, 0, 0] = _
  simp only [num, numW]; omega
 obtain ⟨r, h1, h2, h3⟩ := Zj7 (d := [x0 + y0, x1 + y1, x2 + y2, x3 + y3, x4 + y4, x5 + y5, x6 + y6, x7 + y7, x8 + y8, x9 + y9] ++ [0, 0, 0, 0, 0, 0, 0, 0, 0, 0]) rfl (by
  have key : ∀ u v : Int, 0 ≤ u ∧ u < 67108864 → 0 ≤ v ∧ v < 67108864 → 0 ≤ u + v ∧ u + v < 4611686018427387904 := by intro u v hu hv; omega
  intro x hx
  simp only [List.cons_append, List.nil_append, List.mem_cons, List.not_mem_nil, or_false, or_self] at hx
  rcases hx with rfl | rfl | rfl | rfl | rfl | rfl | rfl | rfl | rfl | rfl | rfl
  all_goals first | decide | exact key _ _ (by assumption) (by assumption)) (by rw [hn]; simp only [pF] at *; omega)
 exact ⟨r, by rw [e, h1]; rfl, h2, by rw [h3, hn]⟩
theorem Zyg : CF [0, 0, 0, 0, 0, 0, 0, 0, 0, 0] := ⟨rfl, by intro x hx; simp only [List.mem_cons, List.not_mem_nil, or_false, or_self] at hx; subst hx; decide, by decide⟩
theorem Zyh : num [0, 0, 0, 0, 0, 0, 0, 0, 0, 0] = 0 := by decide
theorem Zj3 : CF [1, 0, 0, 0, 0, 0, 0, 0, 0, 0] := ⟨rfl, by
 intro x hx
 show 0 ≤ x ∧ x < 67108864
 simp only [List.mem_cons, List.not_mem_nil, or_false, or_self] at hx
 rcases hx with rfl | rfl <;> decide, by decide⟩
theorem num_one : num [1, 0, 0, 0, 0, 0, 0, 0, 0, 0] = 1 := by decide
theorem CF.zero_iff {a:LI} (ha:CF a) : a = [0, 0, 0, 0, 0, 0, 0, 0, 0, 0] ↔ num a = 0 :=
 ⟨fun h => by rw [h]; exact Zyh, fun h => ha.inj Zyg (by rw [h, Zyh])⟩
theorem Zv5 {a:LI} (ha:CF a) : CF (ZaY a) ∧ num (ZaY a) = (- num a) % pF := by
 unfold ZaY
 by_cases h : a = [0, 0, 0, 0, 0, 0, 0, 0, 0, 0]
 ·rw [decide_eq_true h, cond_true]
  exact ⟨ha, by rw [h, Zyh]; rfl⟩
 ·rw [decide_eq_false h, cond_false]
  have h0 := ha.2.1.nonneg
  have h1 : num a ≠ 0 := fun e => h (ha.zero_iff.2 e)
  have h2 := ha.2.2
  obtain ⟨m1, m2, m3⟩ := ZxF (a := refP) (b := a) rfl ha.1 Zyf ha.2.1 (by rw [ZvV]; omega)
  rw [ZvV] at m3
  simp only [num] at *
  refine ⟨⟨m1, m2, by simp only [num]; rw [m3]; omega⟩, ?_⟩
  rw [m3, show - numW 26 a = (pF - numW 26 a) + pF * (-1) by omega, Int.add_mul_emod_self_left, Int.emod_eq_of_lt (by omega) (by omega)]
theorem ZDq {a b:LI} (ha:CF a) (hb:CF b) : ∃ r, ZcS 300 a b = some r ∧ CF r ∧ num r = (num a - num b) % pF := by
 obtain ⟨n1, n2⟩ := Zv5 hb
 obtain ⟨r, h1, h2, h3⟩ := Zzd ha n1
 refine ⟨r, by unfold ZcS; rw [h1]; rfl, h2, ?_⟩
 rw [h3, n2, Int.add_emod_emod, Int.sub_eq_add_neg]
theorem ZDr (N:Nat) (x0 x1 x2 x3 x4 x5 x6 x7 x8 x9 y0 y1 y2 y3 y4 y5 y6 y7 y8 y9:Int) : Zab N [x0, x1, x2, x3, x4, x5, x6, x7, x8, x9] [y0, y1, y2, y3, y4, y5, y6, y7, y8, y9] = mo (Zbq N (mul64 [y0, y1, y2, y3, y4, y5, y6, y7, y8, y9] [x0, x1, x2, x3, x4, x5, x6, x7, x8, x9] [0, 0, 0, 0, 0, 0, 0, 0, 0, 0, 0, 0, 0, 0, 0, 0, 0, 0, 0, 0])) none fun r => some r := by kernel_rfl
theorem ZDs {a b:LI} (ha:CF a) (hb:CF b) : ∃ r, Zab 300 a b = some r ∧ CF r ∧ num r = (num a * num b) % pF := by
 have z : num [0, 0, 0, 0, 0, 0, 0, 0, 0, 0, 0, 0, 0, 0, 0, 0, 0, 0, 0, 0] = 0 := by decide
 obtain ⟨h1, h2, h3⟩ := Zu5 hb.2.1 a [0, 0, 0, 0, 0, 0, 0, 0, 0, 0, 0, 0, 0, 0, 0, 0, 0, 0, 0, 0] ha.dig 0 (by decide) (by rw [ha.1]; decide) (by rw [ha.1, hb.1]; decide) (by decide)
 rw [z, Int.zero_add] at h3
 have e : Zab 300 a b = mo (Zbq 300 (mul64 b a [0, 0, 0, 0, 0, 0, 0, 0, 0, 0, 0, 0, 0, 0, 0, 0, 0, 0, 0, 0])) none fun r => some r := by
  obtain ⟨x0, x1, x2, x3, x4, x5, x6, x7, x8, x9, rfl⟩ := ten ha.1
  obtain ⟨y0, y1, y2, y3, y4, y5, y6, y7, y8, y9, rfl⟩ := ten hb.1
  exact ZDr _ _ _ _ _ _ _ _ _ _ _ _ _ _ _ _ _ _ _ _ _
 have hlt : num a * num b < 1852673427797059126777135760139006525652319754650249024631321344126610074238976 * 1852673427797059126777135760139006525652319754650249024631321344126610074238976 := by
  have a2 := ha.2.2; have b2 := hb.2.2
  have a0 := ha.2.1.nonneg; have b0 := hb.2.1.nonneg
  have : num a * num b ≤ pF * pF := Int.mul_le_mul (by omega) (by omega) b0 (by decide)
  refine Int.lt_of_le_of_lt this (by decide)
 rw [ha.1] at h2
 obtain ⟨r, l1, l2, l3⟩ := Zj7 h1 (fun x hx => by have := h2 x hx; omega) (by rw [h3]; exact hlt)
 exact ⟨r, by rw [e, l1]; rfl, l2, by rw [l3, h3]⟩
end Go.Vx.Ref
set_option autoImplicit false
set_option linter.unusedSimpArgs false
namespace Go.Vx.Ref
open Go
theorem Zv6 {a:LI} (ha:CF a) : ibin .and .i64 (List.getD a 0 0) 1 = num a % 2 := by
 rw [ZBt]
 obtain ⟨x0, x1, x2, x3, x4, x5, x6, x7, x8, x9, rfl⟩ := ten ha.1
 simp only [List.getD_cons_zero, num, numW]
 omega
theorem Zw9 {a:LI} (ha:CF a) : Zbw a = decide (num a % 2 = 1) := by
 unfold Zbw
 rw [Zv6 ha, ZtO _ (bit01 _)]
theorem ZDt {a:LI} (ha:CF a) : Zct a = if num a % 2 = 1 then ZaY a else a := by
 unfold Zct
 rw [Zv6 ha, ZtO _ (bit01 _)]
 by_cases h : num a % 2 = 1
 ·rw [decide_eq_true h, cond_true, if_pos h]
 ·rw [decide_eq_false h, cond_false, if_neg h]
end Go.Vx.Ref
set_option autoImplicit false
set_option linter.unusedSimpArgs false
namespace Go.Vx.Ref
open Go
theorem ZDu : (l:LI) → Bs l → (numB l:Int) = numW 8 l
 | [], _ => rfl
 | x :: l, h => by
  have h1 := h x (by simp)
  have h2 := ZDu l (fun y hy => h y (by simp [hy]))
  simp only [numB, numW]
  rw [← h2]
  show ((x.toNat + 256 * numB l : Nat) : Int) = x + 256 * (numB l:Int)
  omega
theorem Bs.dg {l:LI} (h:Bs l) : Dg 8 l := fun x hx => by
 have := h x hx
 show 0 ≤ x ∧ x < 256
 omega
theorem nbit {y:Int} (h : 0 ≤ y ∧ y ≤ 255) (k:Nat) (hk:k ≤ 8) : ibin .and .u8 (ibin .shr .u8 y (k:Int)) 1 = y / 2 ^ k % 2 := by
 rw [b_bit h k hk, Int.natCast_emod, Int.natCast_ediv, Int.natCast_pow]
 have : ((y.toNat : Nat) : Int) = y := by omega
 rw [this]; rfl
theorem ZAt (N:Nat) {l d:LI} (hl:Bs l) (hlen:l.length ≤ 64) {M:Int} (hM : 0 ≤ M ∧ M < 1152921504606846976) (hd:Cols M d) {n:Nat} (hn:n < 8 * l.length) :
  ∃ d', ZbE N ((l.length, (), (), (n:Int)), ((l.length, l), (), d)) = some (.inl ((l.length, (), (), ((n + 1 : Nat) : Int)), ((l.length, l), (), d'))) ∧ Cols (M + 33554432) d' ∧ num d' = num d + (numW 8 l / 2 ^ n % 2) * 2 ^ n := by
 have hy : 0 ≤ List.getD l (n / 8) 0 ∧ List.getD l (n / 8) 0 ≤ 255 := by
  have := Ziw (lo := 0) (hi := 256) (by decide) l (fun x hx => by have := hl x hx; omega) (n / 8)
  omega
 have x1 : ibin .quo .i64 (n:Int) 8 = ((n / 8 : Nat) : Int) := i_quo 8 (by omega)
 have x2 : ibin .rem .i64 (n:Int) 8 = ((n % 8 : Nat) : Int) := i_rem 8
 have x3 : ibin .quo .i64 (n:Int) 26 = ((n / 26 : Nat) : Int) := i_quo 26 (by omega)
 have x4 : ibin .rem .i64 (n:Int) 26 = ((n % 26 : Nat) : Int) := i_rem 26
 have hlt : n / 26 < 20 := by omega
 have hr : n % 26 < 26 := Nat.mod_lt _ (by decide)
 have hr8 : n % 8 < 8 := Nat.mod_lt _ (by decide)
 have hx : 26 * (n / 26) + n % 26 = n := Nat.div_add_mod _ _
 have hx8 : 8 * (n / 8) + n % 8 = n := Nat.div_add_mod _ _
 have hm : ibin .mul .i64 8 ((l.length : Nat) : Int) = ((8 * l.length : Nat) : Int) := by rw [i_mul (by omega) (by omega)]; omega
 have hc : icmp .lss (n:Int) ((8 * l.length : Nat) : Int) = true := by
  have h : (n:Int) < ((8 * l.length : Nat) : Int) := by omega
  simpa [icmp] using h
 have hbit : ibin .and .u8 (ibin .shr .u8 (List.getD l (n / 8) 0) ((n % 8 : Nat) : Int)) 1 = numW 8 l / 2 ^ n % 2 := by
  rw [nbit hy _ (by omega), Zr4 (w := 8) _ _ (Bs.dg hl) _ hr8, hx8]
 unfold ZbE
 simp only [hm, hc, cond_true, x1, x2, x3, x4, ZiR (show n / 8 < l.length by omega), ZiR hlt, ZpQ, Int.toNat_natCast, Nat.zero_add, hbit, i_inc (show n < 1000000 by omega), i_shl (show n % 26 < 62 by omega)]
 rw [ZtO _ (bit01 _)]
 rcases bit01 (numW 8 l / 2 ^ n) with h | h
 ·rw [h]
  exact ⟨d, rfl, ⟨hd.1, fun x hx => by have := hd.2 x hx; omega⟩, by omega⟩
 ·rw [h]
  have h3 := Ziw (lo := 0) (hi := M + 1) ⟨Int.le_refl 0, by omega⟩ d hd.2 (n / 26)
  have h4 : (2 : Int) ^ (n % 26) ≤ 2 ^ 25 := by
   have : (2 : Nat) ^ (n % 26) ≤ 2 ^ 25 := Nat.pow_le_pow_right (by decide) (by omega)
   exact_mod_cast this
  have h5 : (0 : Int) < 2 ^ (n % 26) := Int.pow_pos (by decide)
  rw [show (2 : Int) ^ 25 = 33554432 from rfl] at h4
  have e2 : ibin .add .i64 (List.getD d (n / 26) 0) (2 ^ (n % 26)) = List.getD d (n / 26) 0 + 2 ^ (n % 26) := i_add (by omega) (by omega)
  rw [e2]
  refine ⟨_, rfl, ⟨by rw [List.length_set]; exact hd.1, Zr2 (by omega) d (fun x hx => by have := hd.2 x hx; omega) _⟩, ?_⟩
  rw [num, Zr1 _ d _ (by rw [hd.1]; exact hlt), ← Int.pow_add, Nat.add_comm, hx, Int.one_mul]
theorem Zv7 (N:Nat) {l:LI} (hl:Bs l) (hlen:l.length ≤ 64) : (k:Nat) → (n:Nat) → n + k = 8 * l.length → (fuel:Nat) → k < fuel → (M:Int) → 0 ≤ M → M + 33554432 * k < 1152921504606846976 → (d:LI) → Cols M d →
  ∃ d', loopF (ZbE N) fuel ((l.length, (), (), (n:Int)), ((l.length, l), (), d)) = some (.inl (((), ()), ((), d'))) ∧ Cols (M + 33554432 * k) d' ∧ num d' = num d + numW 8 l / 2 ^ n * 2 ^ n
 | 0, n, hn, fuel + 1, _, M, _, _, d, hd => by
  have hm : ibin .mul .i64 8 ((l.length : Nat) : Int) = ((8 * l.length : Nat) : Int) := by rw [i_mul (by omega) (by omega)]; omega
  have hc : icmp .lss (n:Int) ((8 * l.length : Nat) : Int) = false := by
   have h : ¬ (n:Int) < ((8 * l.length : Nat) : Int) := by omega
   simpa [icmp] using h
  have h1 := Zye l (Bs.dg hl)
  rw [← Int.pow_mul, show 8 * l.length = n by omega] at h1
  refine ⟨d, ?_, by simpa using hd, ?_⟩
  ·rw [Zbh]
   simp only [ZbE, hm, hc, cond_false, mo]
  ·rw [Int.ediv_eq_zero_of_lt (Bs.dg hl).nonneg h1]; omega
 | k + 1, n, hn, fuel + 1, hf, M, h0, hM, d, hd => by
  obtain ⟨d1, h1, h2, h3⟩ := ZAt N hl hlen (M := M) ⟨h0, by omega⟩ hd (show n < 8 * l.length by omega)
  obtain ⟨d2, g1, g2, g3⟩ := Zv7 N hl hlen k (n + 1) (by omega) fuel (by omega) (M + 33554432) (by omega) (by omega) d1 h2
  refine ⟨d2, ?_, ?_, ?_⟩
  ·rw [Zbh, h1]; exact g1
  ·rw [show M + 33554432 * ((k + 1 : Nat) : Int) = M + 33554432 + 33554432 * (k:Int) by omega]; exact g2
  ·have hh := ZBu (numW 8 l) n 0
   simp only [Nat.zero_add] at hh
   rw [g3, h3, hh]; omega
theorem numB_32 {l:LI} (hl:L32 l) : (numB l:Int) < 115792089237316195423570985008687907853269984665640564039457584007913129639936 := by
 have := ZAp l hl.2
 rw [hl.1] at this
 have e : (256 : Nat) ^ 32 = 115792089237316195423570985008687907853269984665640564039457584007913129639936 := by decide
 rw [e] at this
 omega
theorem ZAu (N:Nat) (l d r:LI) (h:loopF (ZbE N) N ((32, (), (), 0), ((32, l), (), [0, 0, 0, 0, 0, 0, 0, 0, 0, 0, 0, 0, 0, 0, 0, 0, 0, 0, 0, 0])) = some (.inl (((), ()), ((), d)))) (hr:Zbq N d = some r) :
  Zee N ((32, l), ()) = some r := by
 unfold Zee
 simp only [h, hr, mo]
theorem ZAs {l:LI} (hl:L32 l) : ∃ r, Zee 300 ((32, l), ()) = some r ∧ CF r ∧ num r = (numB l:Int) % pF := by
 have z0 : Cols 0 [0, 0, 0, 0, 0, 0, 0, 0, 0, 0, 0, 0, 0, 0, 0, 0, 0, 0, 0, 0] := ⟨rfl, by decide⟩
 have n0 : num [0, 0, 0, 0, 0, 0, 0, 0, 0, 0, 0, 0, 0, 0, 0, 0, 0, 0, 0, 0] = 0 := by decide
 obtain ⟨d, h1, h2, h3⟩ := Zv7 300 (l := l) hl.2 (by rw [hl.1]; decide) 256 0 (by rw [hl.1]) 300 (by decide) 0 (by decide) (by decide) _ z0
 rw [n0, Int.pow_zero, Int.ediv_one, Int.mul_one, Int.zero_add, ← ZDu l hl.2] at h3
 have hb := numB_32 hl
 obtain ⟨r, l1, l2, l3⟩ := Zj7 h2.1 (fun x hx => by have := h2.2 x hx; omega) (by
  rw [h3]
  omega)
 refine ⟨r, ?_, l2, by rw [l3, h3]⟩
 rw [hl.1] at h1
 have h1' : loopF (ZbE 300) 300 ((32, (), (), 0), ((32, l), (), [0, 0, 0, 0, 0, 0, 0, 0, 0, 0, 0, 0, 0, 0, 0, 0, 0, 0, 0, 0])) = some (.inl (((), ()), ((), d))) := h1
 exact ZAu 300 l d r h1' l1
theorem ZBf {a:LI} (ha:CF a) : ∃ b, Zcq 300 a = some b ∧ L32 b ∧ (numB b:Int) = num a := by
 obtain ⟨b, h1, h2, h3, h4⟩ := ZDp ha
 have hb : Bs b := fun x hx => by
  have := h2 x hx
  change 0 ≤ x ∧ x < 256 at this
  omega
 exact ⟨b, h1, ⟨h3, hb⟩, by rw [ZDu b hb, h4]⟩
end Go.Vx.Ref
set_option autoImplicit false
set_option linter.unusedSimpArgs false
namespace Go.Vx.Ref
open Go
def kf (a:LI) : K := K.of (num a)
theorem kf_of {r:LI} {x:Int} (h:num r = x % pF) : kf r = K.of x := by unfold kf; rw [h, K.of_mod]
theorem cf_k {a b:LI} (ha:CF a) (hb:CF b) (h:kf a = kf b) : a = b := by
 refine ha.inj hb ?_
 have h1 := K.of_eq.1 h
 rwa [Int.emod_eq_of_lt ha.2.1.nonneg ha.2.2, Int.emod_eq_of_lt hb.2.1.nonneg hb.2.2] at h1
theorem Zbz {a b:LI} (ha:CF a) (hb:CF b) : ∃ r, Zab 300 a b = some r ∧ CF r ∧ kf r = kf a * kf b := by
 obtain ⟨r, h1, h2, h3⟩ := ZDs ha hb
 exact ⟨r, h1, h2, by rw [kf_of h3, K.of_mul]; rfl⟩
theorem ZtG {a:LI} (ha:CF a) : a = [0, 0, 0, 0, 0, 0, 0, 0, 0, 0] ↔ kf a = 0 :=
 ⟨fun h => by rw [h]; rfl, fun h => cf_k ha Zyg (by rw [h]; rfl)⟩
theorem kpow1 (a:K) : a ^ 1 = a := by grind
theorem ZBx {a h0:LI} {b:Int} {n:Nat} (hb:ibin .quo .i64 b 2 = (n:Int)) (hn:n < 1000) : (k:Nat) → (i:Nat) → i + k = n → (fuel:Nat) → k < fuel → (r:LI) → CF r →
  ∃ t, loopF (Zcb 300) fuel ((b, (), (), (), (), (i:Int)), (a, (), h0, r)) = some (.inl ((b, (), (), (), ()), (a, (), h0, t))) ∧ CF t ∧ kf t = kf r ^ (2 ^ k)
 | 0, i, hi, fuel + 1, _, r, cr => by
  refine ⟨r, ?_, cr, by rw [Nat.pow_zero]; grind⟩
  have g : icmp .lss (i:Int) (n:Int) = false := by simp [icmp]; omega
  rw [Zbh]
  simp only [Zcb, hb, g, cond_false, mo]
 | k + 1, i, hi, fuel + 1, hf, r, cr => by
  obtain ⟨t, h1, ct, h2⟩ := Zbz cr cr
  obtain ⟨u, h3, cu, h4⟩ := ZBx (a := a) (h0 := h0) hb hn k (i + 1) (by omega) fuel (by omega) t ct
  have g : icmp .lss (i:Int) (n:Int) = true := by simp [icmp]; omega
  refine ⟨u, ?_, cu, ?_⟩
  ·rw [Zbh]
   simp only [Zcb, hb, g, cond_true, h1, mo, i_inc (show i < 1000000 by omega)]
   exact h3
  ·have e : kf t = kf r ^ 2 := by rw [h2]; grind
   rw [h4, e, ← K.pow_mul, Nat.pow_succ, Nat.mul_comm]
theorem Zyi {a:LI} (ha:CF a) : (m:Nat) → (n:Nat) → 1 ≤ n → n ≤ m → n < 290 → ∃ r E, Zdd 300 m a (n:Int) = some r ∧ CF r ∧ E + 1 = 2 ^ n ∧ kf r = kf a ^ E
 | 0, n, h1, h2, _ => by omega
 | m + 1, n, h1, h2, h3 => by
  show ∃ r E, Zdm (Zdd 300 m) 300 a (n:Int) = some r ∧ _
  unfold Zdm
  by_cases hn : n = 1
  ·subst hn
   exact ⟨a, 1, rfl, ha, rfl, by grind⟩
  ·have g1 : icmp .eql (n:Int) 1 = false := by simp [icmp]; omega
   have g2 : ibin .quo .i64 (n:Int) 2 = ((n / 2 : Nat) : Int) := i_quo 2 (by omega)
   have g3 : ibin .rem .i64 (n:Int) 2 = ((n % 2 : Nat) : Int) := i_rem 2
   obtain ⟨r1, E, k1, c1, k2, k3⟩ := Zyi ha m (n / 2) (by omega) (by omega) (by omega)
   obtain ⟨t, k4, ct, k5⟩ := ZBx (a := a) (h0 := r1) g2 (by omega) (n / 2) 0 (by omega) 300 (by omega) r1 c1
   obtain ⟨u, k6, cu, k7⟩ := Zbz ct c1
   have hu : kf u = kf a ^ (E * (E + 1) + E) := by rw [k7, k5, k3, ← K.pow_mul, ← K.pow_add, k2]
   have hE : E * (E + 1) + E + 1 = 2 ^ (n / 2) * 2 ^ (n / 2) := by rw [← k2]; grind
   have k4' : loopF (Zcb 300) 300 (((n:Int), (), (), (), (), 0), (a, (), r1, r1)) = some (.inl (((n:Int), (), (), (), ()), (a, (), r1, t))) := k4
   simp only [g1, cond_false, g2, k1, mo, k4', k6, g3]
   rcases Nat.mod_two_eq_zero_or_one n with hz | hz
   ·have c : icmp .eql (((n % 2 : Nat)) : Int) 1 = false := by rw [hz]; decide
    simp only [c, cond_false]
    refine ⟨u, _, rfl, cu, ?_, hu⟩
    rw [hE, ← Nat.pow_add]; exact congrArg (fun z => 2 ^ z) (show n / 2 + n / 2 = n by omega)
   ·have c : icmp .eql (((n % 2 : Nat)) : Int) 1 = true := by rw [hz]; decide
    obtain ⟨v, k8, cv, k9⟩ := Zbz cu cu
    obtain ⟨w, l1, cw, l2⟩ := Zbz cv ha
    simp only [c, cond_true, k8, l1]
    refine ⟨w, (E * (E + 1) + E) + (E * (E + 1) + E) + 1, rfl, cw, ?_, ?_⟩
    ·have e : (2 : Nat) ^ n = 2 * (2 ^ (n / 2) * 2 ^ (n / 2)) := by
      rw [← Nat.pow_add, ← Nat.pow_succ']
      exact congrArg (fun z => 2 ^ z) (show n = n / 2 + n / 2 + 1 by omega)
     rw [e, ← hE]; omega
    ·rw [l2, k9, hu, K.pow_add _ _ 1, K.pow_add _ (E * (E + 1) + E), kpow1]
theorem Zze {a:LI} (ha:CF a) : ∃ r, Zb3 300 a = some r ∧ CF r ∧ kf r = kf a ^ eInv := by
 obtain ⟨r1, E, h1, c1, hE, e1⟩ := Zyi ha 300 250 (by decide) (by decide) (by decide)
 obtain ⟨r2, h2, c2, e2⟩ := Zbz c1 c1
 obtain ⟨r3, h3, c3, e3⟩ := Zbz c2 c2
 obtain ⟨r4, h4, c4, e4⟩ := Zbz c3 c3
 obtain ⟨r5, h5, c5, e5⟩ := Zbz c4 c4
 obtain ⟨r6, h6, c6, e6⟩ := Zbz c5 c5
 obtain ⟨r7, h7, c7, e7⟩ := Zbz ha ha
 obtain ⟨r8, h8, c8, e8⟩ := Zbz c7 c7
 obtain ⟨r9, h9, c9, e9⟩ := Zbz c8 c7
 obtain ⟨r10, h10, c10, e10⟩ := Zbz c9 c7
 obtain ⟨r11, h11, c11, e11⟩ := Zbz c6 c10
 obtain ⟨r12, h12, c12, e12⟩ := Zbz c11 c7
 obtain ⟨r13, h13, c13, e13⟩ := Zbz c12 ha
 have h1' : Zfy 300 a 250 = some r1 := h1
 refine ⟨r13, ?_, c13, ?_⟩
 ·unfold Zb3
  simp only [h1', h2, h3, h4, h5, h6, h7, h8, h9, h10, h11, h12, h13, mo]
 ·have g1 : kf r6 = (kf a ^ E) ^ 32 := by rw [e6, e5, e4, e3, e2, e1]; generalize kf a ^ E = z; grind
  have g2 : kf r13 = kf r6 * kf a ^ 11 := by rw [e13, e12, e11, e10, e9, e8, e7]; grind
  have g3 : eInv = E * 32 + 11 := by
   have : E = 1809251394333065553493296640760748560207343510400633813116524750123642650623 := by
    have : (2 : Nat) ^ 250 = 1809251394333065553493296640760748560207343510400633813116524750123642650624 := by decide
    omega
   subst this
   rfl
  rw [g2, g1, g3, K.pow_add, K.pow_mul]
theorem I_cf : CF Zf3 := ⟨rfl, by
 intro x hx
 show 0 ≤ x ∧ x < 67108864
 simp only [Zf3, List.mem_cons, List.not_mem_nil, or_false] at hx
 rcases hx with rfl | rfl | rfl | rfl | rfl | rfl | rfl | rfl | rfl | rfl <;> decide, by decide⟩
theorem I_k : kf Zf3 = kI := by unfold kf kI; rfl
theorem ZGj {a:LI} (ha:CF a) : CF (Zct a) ∧ num (Zct a) % 2 = 0 ∧ kf (Zct a) ^ 2 = kf a ^ 2 := by
 rw [ZDt ha]
 by_cases h : num a % 2 = 1
 ·rw [if_pos h]
  obtain ⟨c, e⟩ := Zv5 ha
  refine ⟨c, ?_, ?_⟩
  ·have h0 := ha.2.1.nonneg; have h1 := ha.2.2
   have e2 : (- num a) % pF = pF - num a := by
    simp only [num] at *; rw [show - numW 26 a = (pF - numW 26 a) + pF * (-1) by omega, Int.add_mul_emod_self_left, Int.emod_eq_of_lt (by omega) (by omega)]
   rw [e, e2]
   simp only [pF] at *
   omega
  ·have : kf (ZaY a) = - kf a := by rw [kf_of e, K.of_neg]; rfl
   rw [this]; grind
 ·rw [if_neg h]
  exact ⟨ha, by omega, rfl⟩
theorem ZDv {a:LI} (ha:CF a) (h0:kf a ≠ 0) :
  ((kf a ^ eQ = 1 ∨ kf a ^ eQ = -1) → ∃ s, Zep 300 a = some (s, true) ∧ CF s ∧ num s % 2 = 0 ∧ kf s ^ 2 = kf a) ∧
  (¬ (kf a ^ eQ = 1 ∨ kf a ^ eQ = -1) → Zep 300 a = some ([0, 0, 0, 0, 0, 0, 0, 0, 0, 0], false)) := by
 obtain ⟨r1, E, h1, c1, hE, e1⟩ := Zyi ha 300 251 (by decide) (by decide) (by decide)
 obtain ⟨r2, h2, c2, e2⟩ := Zbz c1 c1
 obtain ⟨r3, h3, c3, e3⟩ := Zbz c2 c2
 obtain ⟨r4, h4, c4, e4⟩ := Zbz c2 I_cf
 obtain ⟨r5, h5, c5, e5⟩ := Zbz c4 c4
 obtain ⟨r6, h6, c6, e6⟩ := Zbz c4 I_cf
 have h1' : Zfy 300 a 251 = some r1 := h1
 have g1 : kf r3 = kf a ^ eQ * kf a := by
  have : eQ + 1 = E * 4 := by
   have : E = 3618502788666131106986593281521497120414687020801267626233049500247285301247 := by
    have : (2 : Nat) ^ 251 = 3618502788666131106986593281521497120414687020801267626233049500247285301248 := by decide
    omega
   subst this
   rfl
  have e : kf r3 = (kf a ^ E) ^ 4 := by rw [e3, e2, e1]; generalize kf a ^ E = z; grind
  rw [e, ← K.pow_mul, ← this, K.pow_add, kpow1]
 have hi := kI_sq
 have g2 : kf r5 = - (kf a ^ eQ * kf a) := by rw [← g1, e5, e4, e3, I_k]; grind
 have one := K.one_ne
 have two := K.two_ne
 have d1 : (r3 = a) ↔ kf a ^ eQ = 1 := by
  constructor
  ·intro h
   rw [h] at g1
   have : kf a * (kf a ^ eQ - 1) = 0 := by generalize kf a ^ eQ = w at *; grind
   rcases K.mul_zero' this with h | h
   ·exact absurd h h0
   ·generalize kf a ^ eQ = w at *; grind
  ·intro h; exact cf_k c3 ha (by rw [g1, h]; grind)
 have d2 : (r5 = a) ↔ kf a ^ eQ = -1 := by
  constructor
  ·intro h
   rw [h] at g2
   have : kf a * (kf a ^ eQ + 1) = 0 := by generalize kf a ^ eQ = w at *; grind
   rcases K.mul_zero' this with h | h
   ·exact absurd h h0
   ·generalize kf a ^ eQ = w at *; grind
  ·intro h; exact cf_k c5 ha (by rw [g2, h]; grind)
 have a2 := ZGj c2
 have a4 := ZGj c4
 have q2 : kf r2 ^ 2 = kf r3 := by rw [e3]; grind
 have q4 : kf r4 ^ 2 = kf r5 := by rw [e5]; grind
 unfold Zep
 simp only [h1', h2, h3, mo]
 by_cases hA : r3 = a
 ·have hw := d1.1 hA
  refine ⟨fun _ => ⟨_, by rw [decide_eq_true hA, cond_true], a2.1, a2.2.1, by rw [a2.2.2, q2, hA]⟩, fun h => absurd (.inl hw) h⟩
 ·simp only [decide_eq_false hA, cond_false, h4, h5, mo]
  by_cases hB : r5 = a
  ·have hw := d2.1 hB
   refine ⟨fun _ => ⟨_, by rw [decide_eq_true hB, cond_true], a4.1, a4.2.1, by rw [a4.2.2, q4, hB]⟩, fun h => absurd (.inr hw) h⟩
  ·refine ⟨fun h => ?_, fun _ => ?_⟩
   ·rcases h with h | h
    ·exact absurd (d1.2 h) hA
    ·exact absurd (d2.2 h) hB
   ·simp only [decide_eq_false hB, cond_false, h6, mo]
theorem rsqrt_k {a b:LI} (ha:CF a) (hb:CF b) : ∃ s ok, Zdc 300 a b = some (s, ok) ∧ CF s ∧ num s % 2 = 0 ∧
  (kf a = 0 → ok = true ∧ kf s = 0) ∧ (kf a ≠ 0 → kf b = 0 → ok = false ∧ kf s = 0) ∧
  (kf a ≠ 0 → kf b ≠ 0 → (ok = true ↔ (kf a * kf b ^ 7) ^ eQ = 1 ∨ (kf a * kf b ^ 7) ^ eQ = -1) ∧ (ok = true → kf b * kf s ^ 2 = kf a) ∧ (ok = false → kf b * kf s ^ 2 = kf a * kI)) := by
 unfold Zdc
 by_cases hz : a = [0, 0, 0, 0, 0, 0, 0, 0, 0, 0]
 ·have hk := (ZtG ha).1 hz
  rw [decide_eq_true hz, cond_true]
  exact ⟨_, _, rfl, Zyg, rfl, fun _ => ⟨rfl, rfl⟩, fun h => absurd hk h, fun h => absurd hk h⟩
 ·have hk : kf a ≠ 0 := fun h => hz ((ZtG ha).2 h)
  rw [decide_eq_false hz, cond_false]
  by_cases hy : b = [0, 0, 0, 0, 0, 0, 0, 0, 0, 0]
  ·have hl := (ZtG hb).1 hy
   rw [decide_eq_true hy, cond_true]
   exact ⟨_, _, rfl, Zyg, rfl, fun h => absurd h hk, fun _ _ => ⟨rfl, rfl⟩, fun _ h => absurd hl h⟩
  ·have hl : kf b ≠ 0 := fun h => hy ((ZtG hb).2 h)
   rw [decide_eq_false hy, cond_false]
   obtain ⟨r1, h1, c1, e1⟩ := Zze hb
   obtain ⟨r2, h2, c2, e2⟩ := Zbz ha c1
   obtain ⟨r4, h4, c4, e4⟩ := Zbz c2 I_cf
   have inv : kf r1 * kf b = 1 := by
    rw [e1]
    have := K.fermat hl
    rw [show eP1 = eInv + 1 from rfl, K.pow_add] at this
    rw [kpow1] at this
    exact this
   have hx : kf r2 * kf b = kf a := by
    rw [e2]
    have : kf a * kf r1 * kf b = kf a * (kf r1 * kf b) := by grind
    rw [this, inv]; grind
   have x0 : kf r2 ≠ 0 := fun h => hk (by rw [← hx, h]; grind)
   have hi := kI_sq
   have i0 : kI ≠ 0 := fun h => by rw [h] at hi; exact K.one_ne (by grind)
   have y0 : kf r4 ≠ 0 := by rw [e4, I_k]; exact K.mul_ne x0 i0
   have hw : (kf a * kf b ^ 7) ^ eQ = kf r2 ^ eQ := by
    have e : kf a * kf b ^ 7 = kf r2 * (kf b ^ 2) ^ 4 := by rw [← hx]; grind
    rw [e, K.mul_pow, ← K.pow_mul, Nat.mul_comm 4, K.pow_mul]
    have h4 : ((kf b ^ 2) ^ eQ) ^ 4 = 1 := by
     rcases K.half hl with h | h <;> rw [h] <;> grind
    rw [h4]; grind
   have hy4 : kf r4 ^ eQ = kf r2 ^ eQ * -kI := by rw [e4, I_k, K.mul_pow, kI_eQ]
   obtain ⟨p1, p2⟩ := ZDv c2 x0
   obtain ⟨p3, p4⟩ := ZDv c4 y0
   have one := K.one_ne
   have two := K.two_ne
   simp only [h1, h2, mo]
   rw [hw]
   by_cases hq : kf r2 ^ eQ = 1 ∨ kf r2 ^ eQ = -1
   ·obtain ⟨s, k1, k2, k3, k4⟩ := p1 hq
    simp only [k1, cond_true]
    refine ⟨s, true, rfl, k2, k3, fun h => absurd h hk, fun _ h => absurd h hl, fun _ _ => ⟨⟨fun _ => hq, fun _ => rfl⟩, fun _ => ?_, fun h => by cases h⟩⟩
    rw [k4, ← hx]; grind
   ·have hq2 : kf r4 ^ eQ = 1 ∨ kf r4 ^ eQ = -1 := by
     rw [hy4]
     rcases K.quarter x0 with h | h | h | h
     ·exact absurd (.inl h) hq
     ·exact absurd (.inr h) hq
     ·left; rw [h]; grind
     ·right; rw [h]; grind
    obtain ⟨s, k1, k2, k3, k4⟩ := p3 hq2
    simp only [p2 hq, cond_false, h4, mo, k1]
    refine ⟨s, false, rfl, k2, k3, fun h => absurd h hk, fun _ h => absurd h hl, fun _ _ => ⟨⟨(fun h => by cases h), fun h => absurd h hq⟩, (fun h => by cases h), fun _ => ?_⟩⟩
    rw [k4, e4, I_k, ← hx]; grind
end Go.Vx.Ref
set_option autoImplicit false
set_option linter.unusedSimpArgs false
namespace Go.Vx.Ref
open Go
theorem Zy4 {a b:LI} (ha:CF a) (hb:CF b) : ∃ r, ZcS 300 a b = some r ∧ CF r ∧ kf r = kf a - kf b := by
 obtain ⟨r, h1, h2, h3⟩ := ZDq ha hb
 exact ⟨r, h1, h2, by rw [kf_of h3, K.of_sub]; rfl⟩
theorem ZF0 {a:LI} (ha:CF a) : CF (ZaY a) ∧ kf (ZaY a) = - kf a := by
 obtain ⟨h2, h3⟩ := Zv5 ha
 exact ⟨h2, by rw [kf_of h3, K.of_neg]; rfl⟩
theorem D_cf : CF Zcj := ⟨rfl, by
 intro x hx
 show 0 ≤ x ∧ x < 67108864
 simp only [Zcj, List.mem_cons, List.not_mem_nil, or_false] at hx
 rcases hx with rfl | rfl | rfl | rfl | rfl | rfl | rfl | rfl | rfl | rfl <;> decide, by decide⟩
theorem ZrY : kf [1, 0, 0, 0, 0, 0, 0, 0, 0, 0] = 1 := by unfold kf; rw [num_one]; rfl
theorem ZB7 {n:Int} (h:U n) : ∃ r, Zae 300 n = some r ∧ CF r ∧ num r = n % pF := by
 have m : ∀ x : Int, U x → ibin .and .u64 x 67108863 = x % 67108864 := fun x hx => by
  rw [u_and hx.1 hx.2 (by decide) (by decide), show (67108863 : Int).toNat = 2 ^ 26 - 1 from rfl, Nat.and_two_pow_sub_one_eq_mod]
  have := hx.1
  omega
 have s1 : ibin .shr .u64 n 26 = n / 67108864 := u_shr 26 (by decide)
 have s2 : ibin .shr .u64 n 52 = n / 4503599627370496 := u_shr 52 (by decide)
 have h0 := h.1
 have h1 := h.2
 have e1 : IntKind.wrap .i64 (ibin .and .u64 n 67108863) = n % 67108864 := by rw [m n h, wrapi (by omega) (by omega)]
 have e2 : IntKind.wrap .i64 (ibin .and .u64 (ibin .shr .u64 n 26) 67108863) = n / 67108864 % 67108864 := by rw [s1, m _ (by simp only [U]; omega), wrapi (by omega) (by omega)]
 have e3 : IntKind.wrap .i64 (ibin .shr .u64 n 52) = n / 4503599627370496 := by rw [s2, wrapi (by omega) (by omega)]
 have hn : num [n % 67108864, n / 67108864 % 67108864, n / 4503599627370496, 0, 0, 0, 0, 0, 0, 0, 0, 0, 0, 0, 0, 0, 0, 0, 0, 0] = n := by
  simp only [num, numW]; omega
 obtain ⟨r, l1, l2, l3⟩ := Zj7 (d := [n % 67108864, n / 67108864 % 67108864, n / 4503599627370496, 0, 0, 0, 0, 0, 0, 0, 0, 0, 0, 0, 0, 0, 0, 0, 0, 0]) rfl (by
  intro x hx
  simp only [List.mem_cons, List.not_mem_nil, or_false, or_self] at hx
  rcases hx with rfl | rfl | rfl | rfl <;> omega) (by rw [hn]; omega)
 refine ⟨r, ?_, l2, by rw [l3, hn]⟩
 unfold Zae
 rw [e1, e2, e3, l1]
 rfl
end Go.Vx.Ref
