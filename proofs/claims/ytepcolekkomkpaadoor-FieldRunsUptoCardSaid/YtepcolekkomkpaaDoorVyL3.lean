/- Numbers, part L3: the reference's field: least digits. -/
import Derived.Test.YtepcolekkomkpaaDoorVyL
import Derived.Test.YtepcolekkomkpaaDoorVyS
set_option autoImplicit false
set_option linter.unusedSimpArgs false
namespace Go.Vx.Ref
open Go

abbrev refP : List Int := [67108845, 67108863, 67108863, 67108863, 67108863, 67108863, 67108863, 67108863, 67108863, 2097151]
abbrev T255 : Int := 57896044618658097711785492504343953926634992332820282019728792003956564819968
theorem P260 : ((2 : Int) ^ 26) ^ 10 = 1852673427797059126777135760139006525652319754650249024631321344126610074238976 := by decide

theorem minus_form (x0 x1 x2 x3 x4 x5 x6 x7 x8 x9 y0 y1 y2 y3 y4 y5 y6 y7 y8 y9 : Int) : veilref01_minus [x0, x1, x2, x3, x4, x5, x6, x7, x8, x9] [y0, y1, y2, y3, y4, y5, y6, y7, y8, y9] = borrow64 0 [x0, x1, x2, x3, x4, x5, x6, x7, x8, x9] [y0, y1, y2, y3, y4, y5, y6, y7, y8, y9] := rfl

theorem minus_spec {a b : List Int} (ha : a.length = 10) (hb : b.length = 10) (da : Dg 26 a) (db : Dg 26 b) (h : num b ≤ num a) :
    (veilref01_minus a b).length = 10 ∧ Dg 26 (veilref01_minus a b) ∧ num (veilref01_minus a b) = num a - num b := by
  have e : veilref01_minus a b = borrow64 0 a b := by
    obtain ⟨x0, x1, x2, x3, x4, x5, x6, x7, x8, x9, rfl⟩ := ten ha
    obtain ⟨y0, y1, y2, y3, y4, y5, y6, y7, y8, y9, rfl⟩ := ten hb
    exact minus_form _ _ _ _ _ _ _ _ _ _ _ _ _ _ _ _ _ _ _ _
  obtain ⟨h1, h2, c, h3, h4⟩ := borrow_spec a b (by rw [ha, hb]) da db 0 (by decide)
  rw [e]
  refine ⟨by rw [h1, ha], h2, ?_⟩
  have h5 := numW_lt _ h2
  rw [h1, ha] at h5
  rw [ha] at h4
  rw [P260] at h4 h5
  have : c = 0 := by
    rcases (show c = -1 ∨ c = 0 by omega) with rfl | rfl
    · exfalso; clear e; simp only [num] at *; omega
    · rfl
  subst this
  simp only [num] at *
  omega

theorem below_form (x0 x1 x2 x3 x4 x5 x6 x7 x8 x9 y0 y1 y2 y3 y4 y5 y6 y7 y8 y9 : Int) : veilref01_below [x0, x1, x2, x3, x4, x5, x6, x7, x8, x9] [y0, y1, y2, y3, y4, y5, y6, y7, y8, y9] = cmpH [x9, x8, x7, x6, x5, x4, x3, x2, x1, x0] [y9, y8, y7, y6, y5, y4, y3, y2, y1, y0] := by kernel_rfl

theorem numH_ten (x0 x1 x2 x3 x4 x5 x6 x7 x8 x9 : Int) : numH [x9, x8, x7, x6, x5, x4, x3, x2, x1, x0] = num [x0, x1, x2, x3, x4, x5, x6, x7, x8, x9] := by
  simp only [numH, num, numW, List.length_cons, List.length_nil]
  omega

theorem below_spec {a b : List Int} (ha : a.length = 10) (hb : b.length = 10) (da : Dg 26 a) (db : Dg 26 b) : veilref01_below a b = true ↔ num a < num b := by
  obtain ⟨x0, x1, x2, x3, x4, x5, x6, x7, x8, x9, rfl⟩ := ten ha
  obtain ⟨y0, y1, y2, y3, y4, y5, y6, y7, y8, y9, rfl⟩ := ten hb
  rw [below_form, ← numH_ten, ← numH_ten]
  refine cmp_spec _ _ rfl (fun z hz => da z ?_) (fun z hz => db z ?_)
  · simp only [List.mem_cons, List.not_mem_nil, or_false] at hz ⊢; grind
  · simp only [List.mem_cons, List.not_mem_nil, or_false] at hz ⊢; grind

/-- One round. -/
def rW (c : Int) (o : List Int) : List Int × Int := sweep64 0 (o.set 0 (ibin .add .i64 (List.getD o 0 0) c))
def rC (c : Int) (o : List Int) : Int := ibin .add .i64 (ibin .mul .i64 608 (rW c o).2) (ibin .mul .i64 19 (ibin .quo .i64 (List.getD (rW c o).1 9 0) 2097152))
def rO (c : Int) (o : List Int) : List Int := (rW c o).1.set 9 (ibin .rem .i64 (List.getD (rW c o).1 9 0) 2097152)

theorem round_form (N : Nat) (c : Int) (x0 x1 x2 x3 x4 x5 x6 x7 x8 x9 : Int) : veilref01_least_l4 N (((), c, (), true), ((), (), [x0, x1, x2, x3, x4, x5, x6, x7, x8, x9])) =
    some (.inl (((), rC c [x0, x1, x2, x3, x4, x5, x6, x7, x8, x9], (), icmp .gtr (rC c [x0, x1, x2, x3, x4, x5, x6, x7, x8, x9]) 0), ((), (), rO c [x0, x1, x2, x3, x4, x5, x6, x7, x8, x9]))) := by kernel_rfl

theorem round_spec {o : List Int} (ho : o.length = 10) (hr : ∀ x ∈ o, 0 ≤ x ∧ x < 1099511627776) {c : Int} (hc : 0 ≤ c ∧ c < 1099511627776) :
    (rO c o).length = 10 ∧ Dg 26 (rO c o) ∧ num (rO c o) = (num o + c) % T255 ∧ rC c o = 19 * ((num o + c) / T255) ∧ rC c o < 1099511627776 := by
  obtain ⟨x0, x1, x2, x3, x4, x5, x6, x7, x8, x9, rfl⟩ := ten ho
  have e0 : ibin .add .i64 x0 c = x0 + c := i_add (by have := hr x0 (by simp); omega) (by have := hr x0 (by simp); omega)
  have hlist : ∀ x ∈ ((x0 + c) :: [x1, x2, x3, x4, x5, x6, x7, x8, x9]), 0 ≤ x ∧ x < 4611686018427387904 := by
    intro x hx
    rcases List.mem_cons.1 hx with rfl | hx
    · have := hr x0 (by simp); omega
    · have := hr x (by simp only [List.mem_cons] at hx ⊢; grind); omega
  obtain ⟨h1, h2, h3, h4⟩ := sweep_spec _ hlist 0 (by decide) (by decide)
  have ew : rW c [x0, x1, x2, x3, x4, x5, x6, x7, x8, x9] = sweep64 0 ((x0 + c) :: [x1, x2, x3, x4, x5, x6, x7, x8, x9]) := by
    show sweep64 0 (ibin .add .i64 x0 c :: [x1, x2, x3, x4, x5, x6, x7, x8, x9]) = _
    rw [e0]
  rw [← ew] at h1 h2 h3 h4
  simp only [List.length_cons, List.length_nil, Nat.reduceAdd] at h1 h4
  rw [P260] at h4
  have hb : num [x0, x1, x2, x3, x4, x5, x6, x7, x8, x9] + c < 20000 * 1852673427797059126777135760139006525652319754650249024631321344126610074238976 := by
    have g0 := hr x0 (by simp); have g1 := hr x1 (by simp); have g2 := hr x2 (by simp); have g3 := hr x3 (by simp); have g4 := hr x4 (by simp)
    have g5 := hr x5 (by simp); have g6 := hr x6 (by simp); have g7 := hr x7 (by simp); have g8 := hr x8 (by simp); have g9 := hr x9 (by simp)
    simp only [num, numW]; omega
  have hV : num ((x0 + c) :: [x1, x2, x3, x4, x5, x6, x7, x8, x9]) = num [x0, x1, x2, x3, x4, x5, x6, x7, x8, x9] + c := by simp only [num, numW]; omega
  rw [hV, Int.zero_add] at h4
  generalize num [x0, x1, x2, x3, x4, x5, x6, x7, x8, x9] + c = V at *
  simp only [rC, rO]
  generalize hw : (rW c [x0, x1, x2, x3, x4, x5, x6, x7, x8, x9]).1 = w at *
  generalize (rW c [x0, x1, x2, x3, x4, x5, x6, x7, x8, x9]).2 = k at *
  clear hw ew hV hlist hr e0 ho
  obtain ⟨z0, z1, z2, z3, z4, z5, z6, z7, z8, z9, rfl⟩ := ten h1
  have d0 := h2 z0 (by simp); have d1 := h2 z1 (by simp); have d2 := h2 z2 (by simp); have d3 := h2 z3 (by simp); have d4 := h2 z4 (by simp)
  have d5 := h2 z5 (by simp); have d6 := h2 z6 (by simp); have d7 := h2 z7 (by simp); have d8 := h2 z8 (by simp); have d9 := h2 z9 (by simp)
  clear h2
  change 0 ≤ z0 ∧ z0 < 67108864 at d0
  change 0 ≤ z1 ∧ z1 < 67108864 at d1
  change 0 ≤ z2 ∧ z2 < 67108864 at d2
  change 0 ≤ z3 ∧ z3 < 67108864 at d3
  change 0 ≤ z4 ∧ z4 < 67108864 at d4
  change 0 ≤ z5 ∧ z5 < 67108864 at d5
  change 0 ≤ z6 ∧ z6 < 67108864 at d6
  change 0 ≤ z7 ∧ z7 < 67108864 at d7
  change 0 ≤ z8 ∧ z8 < 67108864 at d8
  change 0 ≤ z9 ∧ z9 < 67108864 at d9
  have e9 : List.getD [z0, z1, z2, z3, z4, z5, z6, z7, z8, z9] 9 0 = z9 := rfl
  have hn : num [z0, z1, z2, z3, z4, z5, z6, z7, z8, z9] = z0 + 67108864 * z1 + 4503599627370496 * z2 + 302231454903657293676544 * z3 + 20282409603651670423947251286016 * z4 + 1361129467683753853853498429727072845824 * z5 + 91343852333181432387730302044767688728495783936 * z6 + 6129982163463555433433388108601236734474956488734408704 * z7 + 411376139330301510538742295639337626245683966408394965837152256 * z8 + 27606985387162255149739023449108101809804435888681546220650096895197184 * z9 := by
    simp only [num, numW]; omega
  have hk : k < 20000 := by
    rw [hn] at h4; omega
  have q1 : ibin .quo .i64 z9 2097152 = z9 / 2097152 := by
    have e : z9 = ((z9.toNat : Nat) : Int) := by omega
    rw [e, show (2097152 : Int) = ((2097152 : Nat) : Int) from rfl, i_quo _ (by omega)]
    rfl
  have q2 : ibin .rem .i64 z9 2097152 = z9 % 2097152 := by
    have e : z9 = ((z9.toNat : Nat) : Int) := by omega
    rw [e, show (2097152 : Int) = ((2097152 : Nat) : Int) from rfl, i_rem]
    rfl
  have q3 : ibin .mul .i64 608 k = 608 * k := i_mul (by omega) (by omega)
  have q4 : ibin .mul .i64 19 (z9 / 2097152) = 19 * (z9 / 2097152) := i_mul (by omega) (by omega)
  have q5 : ibin .add .i64 (608 * k) (19 * (z9 / 2097152)) = 608 * k + 19 * (z9 / 2097152) := i_add (by omega) (by omega)
  rw [e9, q1, q2, q3, q4, q5]
  have es : List.set [z0, z1, z2, z3, z4, z5, z6, z7, z8, z9] 9 (z9 % 2097152) = [z0, z1, z2, z3, z4, z5, z6, z7, z8, z9 % 2097152] := rfl
  rw [es]
  have hn2 : num [z0, z1, z2, z3, z4, z5, z6, z7, z8, z9 % 2097152] = z0 + 67108864 * z1 + 4503599627370496 * z2 + 302231454903657293676544 * z3 + 20282409603651670423947251286016 * z4 + 1361129467683753853853498429727072845824 * z5 + 91343852333181432387730302044767688728495783936 * z6 + 6129982163463555433433388108601236734474956488734408704 * z7 + 411376139330301510538742295639337626245683966408394965837152256 * z8 + 27606985387162255149739023449108101809804435888681546220650096895197184 * (z9 % 2097152) := by
    simp only [num, numW]; omega
  have hV2 : V = num [z0, z1, z2, z3, z4, z5, z6, z7, z8, z9 % 2097152] + T255 * (32 * k + z9 / 2097152) := by
    rw [hn2, ← h4, hn]; simp only [T255]; omega
  have hlt : 0 ≤ num [z0, z1, z2, z3, z4, z5, z6, z7, z8, z9 % 2097152] ∧ num [z0, z1, z2, z3, z4, z5, z6, z7, z8, z9 % 2097152] < T255 := by
    rw [hn2]; simp only [T255]; omega
  refine ⟨rfl, ?_, ?_, ?_, by omega⟩
  · intro x hx
    show 0 ≤ x ∧ x < 67108864
    simp only [List.mem_cons, List.not_mem_nil, or_false] at hx
    rcases hx with rfl | rfl | rfl | rfl | rfl | rfl | rfl | rfl | rfl | rfl
    all_goals first | assumption | omega
  · rw [hV2, Int.add_mul_emod_self_left, Int.emod_eq_of_lt hlt.1 hlt.2]
  · have : V / T255 = 32 * k + z9 / 2097152 := by
      rw [hV2, Int.add_mul_ediv_left _ _ (by decide), Int.ediv_eq_zero_of_lt hlt.1 hlt.2, Int.zero_add]
    rw [this]; omega

theorem again_none (N k : Nat) (c : Int) (o : List Int) : loopF (veilref01_least_l4 N) (k + 1) (((), c, (), false), ((), (), o)) = some (.inl (((), ()), ((), (), o))) := rfl

theorem again_round (N k : Nat) (c : Int) {o : List Int} (ho : o.length = 10) : loopF (veilref01_least_l4 N) (k + 1) (((), c, (), true), ((), (), o)) = loopF (veilref01_least_l4 N) k (((), rC c o, (), icmp .gtr (rC c o) 0), ((), (), rO c o)) := by
  obtain ⟨x0, x1, x2, x3, x4, x5, x6, x7, x8, x9, rfl⟩ := ten ho
  rw [loopF_succ, round_form]
  rfl

theorem Dg.small {o : List Int} (h : Dg 26 o) : ∀ x ∈ o, 0 ≤ x ∧ x < 1099511627776 := fun x hx => by
  have := h x hx
  change 0 ≤ x ∧ x < 67108864 at this
  omega

theorem again_stop (N k : Nat) {o : List Int} (ho : o.length = 10) (hr : ∀ x ∈ o, 0 ≤ x ∧ x < 1099511627776) {c : Int} (hc : 0 ≤ c ∧ c < 1099511627776) (h : num o + c < T255) (h0 : 0 ≤ num o) :
    ∃ r, loopF (veilref01_least_l4 N) (k + 2) (((), c, (), true), ((), (), o)) = some (.inl (((), ()), ((), (), r))) ∧ r.length = 10 ∧ Dg 26 r ∧ num r = num o + c := by
  obtain ⟨h1, h2, h3, h4, h5⟩ := round_spec ho hr hc
  rw [Int.ediv_eq_zero_of_lt (by omega) h] at h4
  rw [Int.emod_eq_of_lt (by omega) h] at h3
  refine ⟨rO c o, ?_, h1, h2, h3⟩
  rw [again_round _ _ _ ho, show icmp .gtr (rC c o) 0 = false by rw [h4]; rfl, again_none]

theorem again_two (N k : Nat) {o : List Int} (ho : o.length = 10) (hr : ∀ x ∈ o, 0 ≤ x ∧ x < 1099511627776) {c : Int} (hc : 0 ≤ c ∧ c < 1099511627776) (h : num o + c < T255 + 1099511627776) (h0 : 0 ≤ num o) :
    ∃ r j, loopF (veilref01_least_l4 N) (k + 3) (((), c, (), true), ((), (), o)) = some (.inl (((), ()), ((), (), r))) ∧ r.length = 10 ∧ Dg 26 r ∧ num r < T255 ∧ num o + c = num r + pF * j := by
  by_cases hl : num o + c < T255
  · obtain ⟨r, h1, h2, h3, h4⟩ := again_stop N (k + 1) ho hr hc hl h0
    exact ⟨r, 0, h1, h2, h3, by omega, by omega⟩
  · obtain ⟨h1, h2, h3, h4, h5⟩ := round_spec ho hr hc
    have t1 : (num o + c) / T255 = 1 := by simp only [T255] at *; omega
    have t2 : (num o + c) % T255 = num o + c - T255 := by simp only [T255] at *; omega
    rw [t1] at h4
    rw [t2] at h3
    rw [again_round _ _ _ ho, h4, show icmp .gtr (19 * 1) 0 = true from rfl]
    obtain ⟨r, g1, g2, g3, g4⟩ := again_stop N k h1 h2.small (c := 19 * 1) (by decide) (by rw [h3]; simp only [T255] at *; omega) h2.nonneg
    refine ⟨r, 1, g1, g2, g3, ?_, ?_⟩
    · rw [g4, h3]; simp only [T255] at *; omega
    · rw [g4, h3]; simp only [T255, pF] at *; omega

theorem again_spec (N k : Nat) {o : List Int} (ho : o.length = 10) (hr : ∀ x ∈ o, 0 ≤ x ∧ x < 1099511627776) {c : Int} (hc : 0 ≤ c ∧ c < 1099511627776) (h0 : 0 ≤ num o) :
    ∃ r j, loopF (veilref01_least_l4 N) (k + 4) (((), c, (), true), ((), (), o)) = some (.inl (((), ()), ((), (), r))) ∧ r.length = 10 ∧ Dg 26 r ∧ num r < T255 ∧ num o + c = num r + pF * j := by
  by_cases hl : num o + c < T255
  · obtain ⟨r, h1, h2, h3, h4⟩ := again_stop N (k + 2) ho hr hc hl h0
    exact ⟨r, 0, h1, h2, h3, by omega, by omega⟩
  · obtain ⟨h1, h2, h3, h4, h5⟩ := round_spec ho hr hc
    have t1 : 1 ≤ (num o + c) / T255 := by simp only [T255] at *; omega
    have t2 : num o + c = (num o + c) % T255 + T255 * ((num o + c) / T255) := (Int.emod_add_mul_ediv _ _).symm
    have t3 : (num o + c) % T255 < T255 := Int.emod_lt_of_pos _ (by decide)
    rw [again_round _ _ _ ho, show icmp .gtr (rC c o) 0 = true from decide_eq_true (by rw [h4]; omega)]
    obtain ⟨r, j, g1, g2, g3, g4, g5⟩ := again_two N k h1 h2.small (c := rC c o) ⟨by rw [h4]; omega, h5⟩ (by rw [h3]; omega) h2.nonneg
    refine ⟨r, j + (num o + c) / T255, g1, g2, g3, g4, ?_⟩
    rw [h3, h4] at g5
    generalize num o + c = V at *
    generalize V / T255 = t at *
    generalize V % T255 = m at *
    rw [Int.mul_add]
    simp only [T255, pF] at *
    omega

/-- The twenty columns folded. -/
def fold20 (e : List Int) : List Int := List.zipWith (fun x y => ibin .add .i64 x (ibin .mul .i64 608 y)) (e.take 10) (e.drop 10)

theorem least_form (N : Nat) (x0 x1 x2 x3 x4 x5 x6 x7 x8 x9 y0 y1 y2 y3 y4 y5 y6 y7 y8 y9 : Int) : veilref01_least N ([x0, x1, x2, x3, x4, x5, x6, x7, x8, x9] ++ [y0, y1, y2, y3, y4, y5, y6, y7, y8, y9]) =
    mo (loopF (veilref01_least_l4 N) N (((), 0, (), true), ((), (), fold20 (sweep64 0 ([x0, x1, x2, x3, x4, x5, x6, x7, x8, x9] ++ [y0, y1, y2, y3, y4, y5, y6, y7, y8, y9])).1))) none fun r =>
      match r with
      | .inl u => cond (!(veilref01_below u.2.2.2 refP)) (some (veilref01_minus u.2.2.2 refP)) (some u.2.2.2)
      | .inr _ => none := by kernel_rfl

theorem fold_spec {e : List Int} (he : e.length = 20) (hd : Dg 26 e) : (fold20 e).length = 10 ∧ (∀ x ∈ fold20 e, 0 ≤ x ∧ x < 1099511627776) ∧ ∃ j, num e = num (fold20 e) + pF * j := by
  obtain ⟨x0, x1, x2, x3, x4, x5, x6, x7, x8, x9, y0, y1, y2, y3, y4, y5, y6, y7, y8, y9, rfl⟩ := twenty he
  have D : ∀ x y : Int, 0 ≤ x ∧ x < 67108864 → 0 ≤ y ∧ y < 67108864 → ibin .add .i64 x (ibin .mul .i64 608 y) = x + 608 * y := by
    intro x y hx hy
    rw [i_mul (by omega) (by omega), i_add (by omega) (by omega)]
  have hm : ∀ z ∈ [x0, x1, x2, x3, x4, x5, x6, x7, x8, x9] ++ [y0, y1, y2, y3, y4, y5, y6, y7, y8, y9], 0 ≤ z ∧ z < 67108864 := hd
  have E : fold20 ([x0, x1, x2, x3, x4, x5, x6, x7, x8, x9] ++ [y0, y1, y2, y3, y4, y5, y6, y7, y8, y9]) = [x0 + 608 * y0, x1 + 608 * y1, x2 + 608 * y2, x3 + 608 * y3, x4 + 608 * y4, x5 + 608 * y5, x6 + 608 * y6, x7 + 608 * y7, x8 + 608 * y8, x9 + 608 * y9] := by
    show [ibin .add .i64 x0 (ibin .mul .i64 608 y0), ibin .add .i64 x1 (ibin .mul .i64 608 y1), ibin .add .i64 x2 (ibin .mul .i64 608 y2), ibin .add .i64 x3 (ibin .mul .i64 608 y3), ibin .add .i64 x4 (ibin .mul .i64 608 y4), ibin .add .i64 x5 (ibin .mul .i64 608 y5), ibin .add .i64 x6 (ibin .mul .i64 608 y6), ibin .add .i64 x7 (ibin .mul .i64 608 y7), ibin .add .i64 x8 (ibin .mul .i64 608 y8), ibin .add .i64 x9 (ibin .mul .i64 608 y9)] = _
    rw [D x0 y0, D x1 y1, D x2 y2, D x3 y3, D x4 y4, D x5 y5, D x6 y6, D x7 y7, D x8 y8, D x9 y9]
    all_goals exact hm _ (by simp)
  change (fold20 ([x0, x1, x2, x3, x4, x5, x6, x7, x8, x9] ++ [y0, y1, y2, y3, y4, y5, y6, y7, y8, y9])).length = 10 ∧ (∀ x ∈ fold20 ([x0, x1, x2, x3, x4, x5, x6, x7, x8, x9] ++ [y0, y1, y2, y3, y4, y5, y6, y7, y8, y9]), 0 ≤ x ∧ x < 1099511627776) ∧ ∃ j, num ([x0, x1, x2, x3, x4, x5, x6, x7, x8, x9] ++ [y0, y1, y2, y3, y4, y5, y6, y7, y8, y9]) = num (fold20 ([x0, x1, x2, x3, x4, x5, x6, x7, x8, x9] ++ [y0, y1, y2, y3, y4, y5, y6, y7, y8, y9])) + pF * j
  rw [E]
  refine ⟨rfl, ?_, 32 * num [y0, y1, y2, y3, y4, y5, y6, y7, y8, y9], ?_⟩
  · have key : ∀ u v : Int, 0 ≤ u ∧ u < 67108864 → 0 ≤ v ∧ v < 67108864 → 0 ≤ u + 608 * v ∧ u + 608 * v < 1099511627776 := by intro u v hu hv; omega
    intro x hx
    simp only [List.mem_cons, List.not_mem_nil, or_false] at hx
    rcases hx with rfl | rfl | rfl | rfl | rfl | rfl | rfl | rfl | rfl | rfl
    all_goals exact key _ _ (hm _ (by simp)) (hm _ (by simp))
  · clear hm hd D E he
    show num [x0, x1, x2, x3, x4, x5, x6, x7, x8, x9, y0, y1, y2, y3, y4, y5, y6, y7, y8, y9] = _
    simp only [num, numW, pF]
    omega

theorem num_refP : num refP = pF := by decide
theorem dg_refP : Dg 26 refP := by
  intro x hx
  show 0 ≤ x ∧ x < 67108864
  simp only [refP, List.mem_cons, List.not_mem_nil, or_false] at hx
  rcases hx with rfl | rfl | rfl | rfl | rfl | rfl | rfl | rfl | rfl | rfl <;> decide

/-- The least digits of twenty columns. -/
theorem rleast_spec {d : List Int} (hd : d.length = 20) (hr : ∀ x ∈ d, 0 ≤ x ∧ x < 4611686018427387904) (hn : num d < 1852673427797059126777135760139006525652319754650249024631321344126610074238976 * 1852673427797059126777135760139006525652319754650249024631321344126610074238976) :
    ∃ r, veilref01_least 300 d = some r ∧ CF r ∧ num r = num d % pF := by
  obtain ⟨s1, s2, s3, s4⟩ := sweep_spec d hr 0 (by decide) (by decide)
  have s5 : (sweep64 0 d).2 = 0 := by
    have g := s2.nonneg
    rw [hd, show ((2 : Int) ^ 26) ^ 20 = 1852673427797059126777135760139006525652319754650249024631321344126610074238976 * 1852673427797059126777135760139006525652319754650249024631321344126610074238976 by decide] at s4
    simp only [num] at *
    generalize (sweep64 0 d).2 = k at *
    generalize numW 26 (sweep64 0 d).1 = m at *
    generalize numW 26 d = v at *
    omega
  rw [s5, Int.mul_zero, Int.add_zero, Int.zero_add] at s4
  obtain ⟨f1, f2, j, f3⟩ := fold_spec (s1.trans hd) s2
  obtain ⟨r, i, l1, l2, l3, l4, l5⟩ := again_spec 300 296 f1 f2 (c := 0) (by decide) (numW_nonneg _ fun x hx => (f2 x hx).1)
  have e : veilref01_least 300 d = cond (!(veilref01_below r refP)) (some (veilref01_minus r refP)) (some r) := by
    obtain ⟨x0, x1, x2, x3, x4, x5, x6, x7, x8, x9, y0, y1, y2, y3, y4, y5, y6, y7, y8, y9, rfl⟩ := twenty hd
    refine (least_form 300 _ _ _ _ _ _ _ _ _ _ _ _ _ _ _ _ _ _ _ _).trans ?_
    exact (congrArg (fun z => mo z none _) l1).trans rfl
  have hV : num d = num r + pF * (i + j) := by rw [← s4, f3, Int.mul_add]; omega
  have n0 := l3.nonneg
  rw [e]
  cases hb : veilref01_below r refP
  · have hge : num refP ≤ num r := by
      rcases Int.lt_or_le (num r) (num refP) with h | h
      · rw [(below_spec l2 rfl l3 dg_refP).2 h] at hb; cases hb
      · exact h
    obtain ⟨m1, m2, m3⟩ := minus_spec l2 rfl l3 dg_refP hge
    rw [num_refP] at m3 hge
    have hlt : num r - pF < pF := by simp only [pF, T255] at *; omega
    refine ⟨_, rfl, ⟨m1, m2, by rw [m3]; exact hlt⟩, ?_⟩
    rw [m3, hV, Int.add_mul_emod_self_left, ← Int.emod_eq_of_lt (by omega) hlt, Int.sub_emod_right]
  · have h := (below_spec l2 rfl l3 dg_refP).1 hb
    rw [num_refP] at h
    exact ⟨_, rfl, ⟨l2, l3, h⟩, by rw [hV, Int.add_mul_emod_self_left, Int.emod_eq_of_lt n0 h]⟩

end Go.Vx.Ref
