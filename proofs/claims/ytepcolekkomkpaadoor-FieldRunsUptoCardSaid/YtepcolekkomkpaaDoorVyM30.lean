/- Numbers, part M30: FieldRuns: a program over elements. -/
import Derived.Test.YtepcolekkomkpaaDoorVyL6
import Derived.Test.YtepcolekkomkpaaDoorVyK0
set_option autoImplicit false
set_option linter.unusedSimpArgs false
namespace Go.Vx.Ref
open Go

theorem lp_in {α β γ : Type} {b : α → Option (α ⊕ (β ⊕ γ))} {v w : α} (h : b v = some (.inl w)) (f : Nat) : loopF b (f + 1) v = loopF b f w := by rw [loopF_succ, h]; rfl
theorem lp_out {α β γ : Type} {b : α → Option (α ⊕ (β ⊕ γ))} {v : α} {x : β ⊕ γ} (h : b v = some (.inr x)) (f : Nat) : loopF b (f + 1) v = some x := by rw [loopF_succ, h]; rfl

/-- One operation, the program's and the document's. -/
structure Op1 (r n : List Int) : Prop where
  can : Can r
  cf : CF n
  is : veillaw01_is 300 r n = some true

theorem op_least {a x : List Int} (ha : L5 a) (cx : CF x) (ex : num x = val a % pF) : Op1 (field_Elem_Least a) x :=
  ⟨(least_spec ha).1, cx, is_spec (least_spec ha).1 cx (by rw [(least_spec ha).2, ex])⟩
theorem op_add {a b x y : List Int} (ha : L5 a) (hb : L5 b) (cx : CF x) (cy : CF y) (ex : num x = val a % pF) (ey : num y = val b % pF) : ∃ n, veilref01_F_Add 300 x y = some n ∧ Op1 (field_Elem_Add a b) n := by
  obtain ⟨r, h1, c1, e1⟩ := radd_spec cx cy
  obtain ⟨f1, g1⟩ := add_spec ha hb
  exact ⟨r, h1, f1, c1, is_spec f1 c1 (by rw [g1, e1, ex, ey, ← Int.add_emod])⟩
theorem op_sub {a b x y : List Int} (ha : L5 a) (hb : L5 b) (cx : CF x) (cy : CF y) (ex : num x = val a % pF) (ey : num y = val b % pF) : ∃ n, veilref01_F_Sub 300 x y = some n ∧ Op1 (field_Elem_Sub a b) n := by
  obtain ⟨r, h1, c1, e1⟩ := rsub_spec cx cy
  obtain ⟨f1, g1⟩ := sub_spec ha hb
  exact ⟨r, h1, f1, c1, is_spec f1 c1 (by rw [g1, e1, ex, ey, ← Int.sub_emod])⟩
theorem op_mul {a b x y : List Int} (ha : L5 a) (hb : L5 b) (cx : CF x) (cy : CF y) (ex : num x = val a % pF) (ey : num y = val b % pF) : ∃ r n, field_Elem_Mul a b = some r ∧ veilref01_F_Mul 300 x y = some n ∧ Op1 r n := by
  obtain ⟨n, h1, c1, e1⟩ := rmul_spec cx cy
  obtain ⟨r, h2, f1, g1⟩ := mul_spec ha hb
  exact ⟨r, n, h2, h1, f1, c1, is_spec f1 c1 (by rw [g1, e1, ex, ey, ← Int.mul_emod])⟩
theorem op_sq {a x : List Int} (ha : L5 a) (cx : CF x) (ex : num x = val a % pF) : ∃ r n, field_Elem_Square a = some r ∧ veilref01_F_Mul 300 x x = some n ∧ Op1 r n := by
  obtain ⟨n, h1, c1, e1⟩ := rmul_spec cx cx
  obtain ⟨r, h2, f1, g1⟩ := sq_spec ha
  exact ⟨r, n, h2, h1, f1, c1, is_spec f1 c1 (by rw [g1, e1, ex, ← Int.mul_emod])⟩
theorem op_neg {a x : List Int} (ha : L5 a) (cx : CF x) (ex : num x = val a % pF) : Op1 (field_Elem_Neg a) (veilref01_F_Neg x) := by
  obtain ⟨c3, e3⟩ := rneg_spec cx
  obtain ⟨f3, g3⟩ := neg_spec ha
  exact ⟨f3, c3, is_spec f3 c3 (by rw [g3, e3, ex, neg_mod])⟩
theorem op_inv {a x : List Int} (ha : L5 a) (cx : CF x) (ex : num x = val a % pF) : ∃ r n, field_Elem_Invert 300 a = some r ∧ veilref01_F_Invert 300 x = some n ∧ Op1 r n := by
  obtain ⟨t, h4, h5⟩ := invert_spec ha
  obtain ⟨u, h6, c6, e6⟩ := rinvert_k cx
  exact ⟨t, u, h4, h6, h5.1, c6, is_k h5.1 c6 (by rw [pow_k h5, e6, kf_of ex]; rfl)⟩
theorem op_abs {a x : List Int} (ha : L5 a) (cx : CF x) (ex : num x = val a % pF) : Op1 (field_Elem_Abs a) (veilref01_F_Abs x) := by
  rw [abs_spec ha, rabs_spec cx, ex]
  by_cases h : val a % pF % 2 = 1
  · rw [if_pos h, if_pos h]
    exact op_neg ha cx ex
  · rw [if_neg h, if_neg h]
    exact op_least ha cx ex
theorem par_enc {b : List Int} (hb : L5 b) : IntKind.wrap .i64 (List.getD (field_Elem_Encode b) 0 0) % 2 = val b % pF % 2 := by
  obtain ⟨⟨h1, h2⟩, h3⟩ := encode_spec hb
  generalize field_Elem_Encode b = c at *
  match c, h1 with
  | x :: r, h1 =>
    have hx := h2 x (by simp)
    rw [List.getD_cons_zero, wrapi (by omega) (by omega), ← h3]
    simp only [numB]
    omega
theorem op_sel {a b x y : List Int} (ha : L5 a) (hb : L5 b) (cx : CF x) (cy : CF y) (ex : num x = val a % pF) (ey : num y = val b % pF) :
    Op1 (field_Select (IntKind.wrap .i64 (List.getD (field_Elem_Encode b) 0 0)) a b) (if veilref01_F_Negative y = true then x else y) := by
  rw [select_spec ha hb, par_enc hb, rnegative_spec cy, ey]
  by_cases h : val b % pF % 2 = 1
  · rw [if_pos h, if_pos (decide_eq_true h)]
    exact op_least ha cx ex
  · rw [if_neg h, if_neg (by rw [decide_eq_false h]; simp)]
    exact op_least hb cy ey
theorem op_sqrt {a b x y : List Int} (ha : L5 a) (hb : L5 b) (cx : CF x) (cy : CF y) (ex0 : num x = val a % pF) (ey0 : num y = val b % pF) :
    ∃ r ok s ok', field_SqrtRatio 300 a b = some (r, ok) ∧ veilref01_SqrtRatio 300 x y = some (s, ok') ∧ Op1 r s := by
  have ex : kf x = kv a := kf_of ex0
  have ey : kf y = kv b := kf_of ey0
  obtain ⟨r, ok, h1, c1, p1, q1, q2, q3⟩ := sqrt_k ha hb
  obtain ⟨s, ok', h2, c2, p2, w1, w2, w3⟩ := rsqrt_k cx cy
  rw [ex] at w1 w2 w3
  rw [ey] at w2 w3
  have key : ok = ok' ∧ kv r ^ 2 = kf s ^ 2 := by
    by_cases hu : kv a = 0
    · rw [(q1 hu).1, (w1 hu).1, (q1 hu).2, (w1 hu).2]; exact ⟨rfl, rfl⟩
    · by_cases hv : kv b = 0
      · rw [(q2 hu hv).1, (w2 hu hv).1, (q2 hu hv).2, (w2 hu hv).2]; exact ⟨rfl, rfl⟩
      · obtain ⟨a1, a2, a3⟩ := q3 hu hv
        obtain ⟨b1, b2, b3⟩ := w3 hu hv
        have hok : ok = ok' := by
          cases ok <;> cases ok'
          · rfl
          · exact absurd (a1.2 (b1.1 rfl)) (by simp)
          · exact absurd (b1.2 (a1.1 rfl)) (by simp)
          · rfl
        subst hok
        refine ⟨rfl, ?_⟩
        have e : kv b * (kv r ^ 2 - kf s ^ 2) = 0 := by
          cases ok
          · have u1 := a3 rfl; have u2 := b3 rfl; grind
          · have u1 := a2 rfl; have u2 := b2 rfl; grind
        rcases K.mul_zero' e with h | h
        · exact absurd h hv
        · grind
  obtain ⟨l, l1, l2, l3⟩ := limbs_can c2
  have hl : kv l = kf s := by unfold kv kf; rw [l3]
  have hr : r = l := even_root c1 l2 p1 (by rw [l3]; exact p2) (by rw [hl]; exact key.2)
  exact ⟨r, ok, s, ok', h1, h2, c1, c2, is_k c1 c2 (by rw [hr, hl])⟩

/-- An element of a list, counted around. -/
theorem made_spec {l : List (List Int)} (h0 : l ≠ []) (hl : l.length ≤ 4611686018427387904) {i : Int} (hi : -9223372036854775808 ≤ i ∧ i ≤ 9223372036854775807) : ∃ a, veillaw01_made (l, ()) i = some a ∧ a ∈ l := by
  have hpos : 0 < l.length := List.length_pos_iff.2 h0
  have hne : ((l.length : Nat) : Int) ≠ 0 := by omega
  unfold veillaw01_made
  have e1 : icmp .eql ((l.length : Nat) : Int) 0 = false := beq_eq_false_iff_ne.2 hne
  have e2 : (((l.length : Nat) : Int) == 0) = false := beq_eq_false_iff_ne.2 hne
  have hr : ibin .rem .i64 i ((l.length : Nat) : Int) = i.tmod ((l.length : Nat) : Int) := rfl
  have h1 := Int.lt_tmod_of_pos i (show (0 : Int) < ((l.length : Nat) : Int) by omega)
  have h2 := Int.tmod_lt_of_pos i (show (0 : Int) < ((l.length : Nat) : Int) by omega)
  simp only [e1, e2, cond_false, hr]
  generalize i.tmod ((l.length : Nat) : Int) = r at *
  have get : ∀ q : Int, 0 ≤ q ∧ q < ((l.length : Nat) : Int) → List.getD l (Int.toNat q) [0, 0, 0, 0, 0] ∈ l := fun q hq => getD_mem' (by omega)
  by_cases hn : r < 0
  · have e3 : icmp .lss r 0 = true := decide_eq_true hn
    have e4 : ibin .add .i64 r ((l.length : Nat) : Int) = r + ((l.length : Nat) : Int) := i_add (by omega) (by omega)
    have e5 : decide (0 ≤ r + ((l.length : Nat) : Int) ∧ r + ((l.length : Nat) : Int) < ((l.length : Nat) : Int)) = true := decide_eq_true (by omega)
    simp only [e3, cond_true, e4, e5]
    exact ⟨_, rfl, get _ (by omega)⟩
  · have e3 : icmp .lss r 0 = false := decide_eq_false hn
    have e5 : decide (0 ≤ r ∧ r < ((l.length : Nat) : Int)) = true := decide_eq_true (by omega)
    simp only [e3, cond_false, e5, cond_true]
    exact ⟨_, rfl, get _ (by omega)⟩

theorem lss_nat {i n : Nat} (h : i < n) : icmp .lss (i : Int) ((n : Nat) : Int) = true := decide_eq_true (by omega)
theorem lss_natf {i n : Nat} (h : n ≤ i) : icmp .lss (i : Int) ((n : Nat) : Int) = false := decide_eq_false (by omega)
theorem rng_nat {i n : Nat} (h : i < n) : decide (0 ≤ (i : Int) ∧ (i : Int) < ((n : Nat) : Int)) = true := decide_eq_true (by omega)
theorem inc_nat {i : Nat} (h : i < 4611686018427387904) : ibin .add .i64 (i : Int) 1 = ((i + 1 : Nat) : Int) := by rw [i_add (by omega) (by omega)]; omega
theorem fits_nat {n k : Nat} (h : n * k ≤ 140737488355328) (h2 : n ≤ 9223372036854775807) : decide (n * k ≤ 140737488355328 ∧ n ≤ 9223372036854775807) = true := decide_eq_true ⟨h, h2⟩

theorem runs_l0 (N : Nat) (hN : N = 300) (M : Nat) (first : List (List Int)) (hf : ∀ x ∈ first, L5 x) (hl : first.length ≤ 1048576) (s nl : Nat) (st : List (Int × Int × Int)) (l : List (List Int)) :
    (k i : Nat) → i + k = first.length → (fuel : Nat) → k < fuel → (m : List (List Int)) → m.length = i → (nm : Nat) → (nm = i) → ∃ m', loopF (veillaw01_FieldRuns_l0 N M) fuel ((first.length, s, (), nl, nm, (i : Int)), (first, st, m, l)) = some (.inl ((s, nl, first.length), (st, m', l))) ∧ m'.length = first.length
  | 0, i, hi, fuel + 1, _, m, hm, nm, hnm => by
    obtain rfl : i = first.length := by omega
    subst hnm
    rw [lp_out (x := .inl ((s, nl, first.length), (st, m, l)))]
    · exact ⟨m, rfl, by omega⟩
    · unfold veillaw01_FieldRuns_l0
      simp only [lss_natf (Nat.le_refl _), cond_false]
  | k + 1, i, hi, fuel + 1, hfu, m, hm, nm, hnm => by
    have hlt : i < first.length := by omega
    obtain ⟨n, h1, -⟩ := lawof_spec (hf _ (getD_mem' (d := [0, 0, 0, 0, 0]) hlt))
    rw [lp_in (w := ((first.length, s, (), nl, (m ++ [n]).length, ((i + 1 : Nat) : Int)), (first, st, m ++ [n], l)))]
    · exact runs_l0 N hN M first hf hl s nl st l k (i + 1) (by omega) fuel (by omega) (m ++ [n]) (by simp [hm]) _ (by simp [hm])
    · unfold veillaw01_FieldRuns_l0
      simp only [lss_nat hlt, cond_true, rng_nat hlt, Int.toNat_natCast, hN, h1, mo, fits_nat (n := (m ++ [n]).length) (k := 80) (by simp [hm]; omega) (by simp [hm]; omega), inc_nat (show i < 4611686018427387904 by omega)]

theorem runs_l2 (N : Nat) (hN : N = 300) (M : Nat) (st : List (Int × Int × Int)) (hs : st.length ≤ 1048576) (hst : ∀ s ∈ st, (-9223372036854775808 ≤ s.2.1 ∧ s.2.1 ≤ 9223372036854775807) ∧ (-9223372036854775808 ≤ s.2.2 ∧ s.2.2 ≤ 9223372036854775807)) :
    (k i : Nat) → i + k = st.length → (fuel : Nat) → k < fuel → (m l : List (List Int)) → m.length = l.length → (∀ x ∈ l, L5 x) → l.length ≤ 1048576 + i → (nl nm : Nat) → nl = l.length → nm = m.length →
    (∃ m' l', loopF (veillaw01_FieldRuns_l2 N M) fuel ((st.length, nl, nm, (i : Int)), (st, m, l)) = some (.inl ((l'.length, l'.length), (m', l')))) ∨ loopF (veillaw01_FieldRuns_l2 N M) fuel ((st.length, nl, nm, (i : Int)), (st, m, l)) = some (.inr (true, ()))
  | 0, i, hi, fuel + 1, _, m, l, hml, hl, hlen, nl, nm, hnl, hnm => by
    left
    rw [lp_out (x := .inl ((l.length, l.length), (m, l)))]
    · exact ⟨m, l, rfl⟩
    · unfold veillaw01_FieldRuns_l2
      simp only [lss_natf (show st.length ≤ i by omega), cond_false, hnl, hnm, hml]
  | k + 1, i, hi, fuel + 1, hfu, m, l, hml, hl, hlen, nl, nm, hnl, hnm => by
    subst hnl
    subst hnm
    have hlt : i < st.length := by omega
    by_cases h0 : l = []
    · right
      rw [lp_out (x := .inr (true, ()))]
      subst h0
      unfold veillaw01_FieldRuns_l2
      simp only [lss_nat hlt, cond_true, rng_nat hlt, List.length_nil, show icmp .eql ((0 : Nat) : Int) 0 = true from rfl]
    · have hpos : 0 < l.length := List.length_pos_iff.2 h0
      have hne : icmp .eql ((l.length : Nat) : Int) 0 = false := beq_eq_false_iff_ne.2 (by omega)
      have hs' := hst _ (getD_mem' (d := (0, 0, 0)) hlt)
      generalize hq : List.getD st i (0, 0, 0) = q at *
      obtain ⟨a, h1, ma⟩ := made_spec h0 (by omega) hs'.1
      obtain ⟨b, h2, mb⟩ := made_spec h0 (by omega) hs'.2
      have ha := hl a ma
      have hb := hl b mb
      obtain ⟨x, hx, cx, ex⟩ := lawof_spec ha
      obtain ⟨y, hy, cy, ey⟩ := lawof_spec hb
      -- whatever the step is, one element comes behind
      have main : ∃ r n, Can r ∧ veillaw01_FieldRuns_l2 N M ((st.length, l.length, m.length, (i : Int)), (st, m, l)) = some (.inl ((st.length, (l ++ [r]).length, (m ++ [n]).length, ((i + 1 : Nat) : Int)), (st, m ++ [n], l ++ [r]))) := by
        have f40 : ∀ r : List Int, decide ((l ++ [r]).length * 40 ≤ 140737488355328 ∧ (l ++ [r]).length ≤ 9223372036854775807) = true := fun r => fits_nat (by simp; omega) (by simp; omega)
        have f80 : ∀ n : List Int, decide ((m ++ [n]).length * 80 ≤ 140737488355328 ∧ (m ++ [n]).length ≤ 9223372036854775807) = true := fun n => fits_nat (by simp [hml]; omega) (by simp [hml]; omega)
        unfold veillaw01_FieldRuns_l2
        simp only [lss_nat hlt, cond_true, rng_nat hlt, hne, cond_false, Int.toNat_natCast, hq, h1, h2, mo, hN, hx, hy, inc_nat (show i < 4611686018427387904 by omega)]
        cases icmp .eql q.1 1
        case true =>
          obtain ⟨n, g1, o⟩ := op_add ha hb cx cy ex ey
          exact ⟨_, n, o.can, by simp only [cond_true, cond_false, g1, o.is, Bool.not_true, f40, f80]⟩
        cases icmp .eql q.1 2
        case true =>
          obtain ⟨n, g1, o⟩ := op_sub ha hb cx cy ex ey
          exact ⟨_, n, o.can, by simp only [cond_true, cond_false, g1, o.is, Bool.not_true, f40, f80]⟩
        cases icmp .eql q.1 3
        case true =>
          obtain ⟨r, n, g1, g2, o⟩ := op_mul ha hb cx cy ex ey
          exact ⟨_, n, o.can, by simp only [cond_true, cond_false, g1, g2, o.is, Bool.not_true, f40, f80]⟩
        cases icmp .eql q.1 4
        case true =>
          obtain ⟨r, n, g1, g2, o⟩ := op_sq ha cx ex
          exact ⟨_, n, o.can, by simp only [cond_true, cond_false, g1, g2, o.is, Bool.not_true, f40, f80]⟩
        cases icmp .eql q.1 5
        case true =>
          have o := op_neg ha cx ex
          exact ⟨_, veilref01_F_Neg x, o.can, by simp only [cond_true, cond_false, o.is, Bool.not_true, f40, f80]⟩
        cases icmp .eql q.1 6
        case true =>
          obtain ⟨r, n, g1, g2, o⟩ := op_inv ha cx ex
          exact ⟨_, n, o.can, by simp only [cond_true, cond_false, g1, g2, o.is, Bool.not_true, f40, f80]⟩
        cases icmp .eql q.1 7
        case true =>
          have o := op_abs ha cx ex
          exact ⟨_, veilref01_F_Abs x, o.can, by simp only [cond_true, cond_false, o.is, Bool.not_true, f40, f80]⟩
        cases icmp .eql q.1 8
        case true =>
          have o := op_sel ha hb cx cy ex ey
          cases hn : veilref01_F_Negative y with
          | true =>
            rw [hn, if_pos rfl] at o
            exact ⟨_, x, o.can, by simp only [cond_true, cond_false, o.is, Bool.not_true, f40, f80]⟩
          | false =>
            rw [hn, if_neg (by simp)] at o
            exact ⟨_, y, o.can, by simp only [cond_true, cond_false, o.is, Bool.not_true, f40, f80]⟩
        cases icmp .eql q.1 9
        case true =>
          obtain ⟨r, ok, s, ok', g1, g2, o⟩ := op_sqrt ha hb cx cy ex ey
          exact ⟨_, s, o.can, by simp only [cond_true, cond_false, g1, g2, o.is, Bool.not_true, f40, f80]⟩
        have o := op_least ha cx ex
        exact ⟨_, x, o.can, by simp only [cond_true, cond_false, o.is, Bool.not_true, f40, f80]⟩
      obtain ⟨r, n, cr, hstep⟩ := main
      rw [lp_in hstep]
      exact runs_l2 N hN M st hs hst k (i + 1) (by omega) fuel (by omega) (m ++ [n]) (l ++ [r]) (by simp [hml]) (fun z hz => by
        rcases List.mem_append.1 hz with hz | hz
        · exact hl z hz
        · simp only [List.mem_singleton] at hz
          rw [hz]; exact cr.L5) (by simp; omega) _ _ rfl rfl

/-- FieldRuns, of lists that are not too long. -/
theorem runs_law (M : Nat) (hM : M = 1100000) (first : List (List Int)) (st : List (Int × Int × Int)) (hf : ∀ x ∈ first, L5 x) (hl : first.length ≤ 1048576) (hs : st.length ≤ 1048576)
    (hst : ∀ s ∈ st, (-9223372036854775808 ≤ s.2.1 ∧ s.2.1 ≤ 9223372036854775807) ∧ (-9223372036854775808 ≤ s.2.2 ∧ s.2.2 ≤ 9223372036854775807)) : veillaw01_FieldRuns 300 M (first, ()) (st, ()) = some true := by
  obtain ⟨m, h1, hm⟩ := runs_l0 300 rfl M first hf hl st.length first.length st first first.length 0 (by omega) M (by omega) [] rfl 0 rfl
  unfold veillaw01_FieldRuns
  have hfit := fits_nat (n := first.length) (k := 40) (by omega) (by omega)
  simp only [hfit, cond_true]
  have h1' : loopF (veillaw01_FieldRuns_l0 300 M) M ((first.length, st.length, (), first.length, 0, 0), (first, st, [], first)) = _ := h1
  simp only [h1', mo]
  rcases runs_l2 300 rfl M st hs hst st.length 0 (by omega) M (by omega) m first hm hf (by omega) first.length first.length rfl hm.symm with ⟨m', l', h2⟩ | h2
  · have h2' : loopF (veillaw01_FieldRuns_l2 300 M) M ((st.length, first.length, first.length, 0), (st, m, first)) = _ := h2
    simp only [h2', mo]
    exact congrArg some (beq_self_eq_true _)
  · have h2' : loopF (veillaw01_FieldRuns_l2 300 M) M ((st.length, first.length, first.length, 0), (st, m, first)) = _ := h2
    simp only [h2', mo]

end Go.Vx.Ref
