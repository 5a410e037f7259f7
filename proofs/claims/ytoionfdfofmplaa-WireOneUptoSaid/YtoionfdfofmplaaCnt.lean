/- The wire's numbers: what a Reader's count answers, and what AppendNumber writes. -/
import Derived.Test.YtoionfdfofmplaaHex
import Derived.KernelRfl
set_option autoImplicit false
set_option linter.unusedVariables false
set_option linter.unusedSimpArgs false
namespace Go.Vx.Wx
open Go Go.Vx

/-- A reader: its bytes; where its rest begins, how long it is, the pointer's offset at the end; the fault. -/
abbrev RdS := ((Nat × List Int) × (Unit × (Nat × Nat × Nat) × Int))
def badR (b : RdS) (e : Int) : Option (Int × RdS) := cond (icmp .eql b.2.2.2 0) (some (0, (b.1, ((), (b.2.2.1, e))))) (some (0, b))
def orD (v x : Int) (i : Nat) : Int := ibin .or .u64 v (ibin .shl .u64 (IntKind.wrap .u64 (ibin .and .u8 x 127)) ((7 * i : Nat) : Int))
def okR (v : Int) (i : Nat) (b : RdS) : Option (Int × RdS) :=
  cond (decide ((0 : Int) ≤ ((i + 1 : Nat) : Int) ∧ ((i + 1 : Nat) : Int) ≤ ((b.2.2.1.2.1 : Nat) : Int))) (some (v, (b.1, ((), ((b.2.2.1.1 + (i + 1), b.2.2.1.2.1 - (i + 1), b.2.2.1.1), b.2.2.2))))) none
def cnt : Nat → Nat → Int → RdS → Option (Int × RdS)
  | 0, _, _, b => badR b 102
  | f + 1, i, v, b => cond (icmp .eql ((i : Nat) : Int) ((b.2.2.1.2.1 : Nat) : Int)) (badR b 100) (
    cond (decide ((0 : Int) ≤ ((i : Nat) : Int) ∧ ((i : Nat) : Int) < ((b.2.2.1.2.1 : Nat) : Int))) (
      let x := List.getD b.1.2 (b.2.2.1.1 + Int.toNat ((i : Nat) : Int)) 0
      cond (cond (Nat.beq i 9) (icmp .gtr x 1) false) (badR b 102) (
        cond (icmp .lss x 128) (cond (icmp .eql x 0) (cond (Nat.beq i 0) (okR (orD v x i) i b) (badR b 102)) (okR (orD v x i) i b)) (cnt f (i + 1) (orD v x i) b))) none)

theorem cnt_io (N : Nat) (b : RdS) : io_veillaw10_WireOne_p_wire_Reader_count N () b = cnt 10 0 0 b := by kernel_rfl


theorem wrap64 (n : Int) : IntKind.wrap .u64 n = n % 18446744073709551616 := by simp [IntKind.wrap, IntKind.signed, IntKind.bits]
theorem wrap8 (n : Int) : IntKind.wrap .u8 n = n % 256 := by simp [IntKind.wrap, IntKind.signed, IntKind.bits]
theorem ofInt64 {a : Int} (h0 : 0 ≤ a) (h1 : a < 18446744073709551616) : (BitVec.ofInt 64 a).toNat = a.toNat := by
  rw [BitVec.toNat_ofInt]
  omega
theorem u_or {a b : Int} (a0 : 0 ≤ a) (a1 : a < 18446744073709551616) (b0 : 0 ≤ b) (b1 : b < 18446744073709551616) : ibin .or .u64 a b = ((a.toNat ||| b.toNat : Nat) : Int) := by
  show IntKind.wrap .u64 ((BitVec.ofInt 64 a ||| BitVec.ofInt 64 b).toNat : Int) = _
  rw [wrap64, BitVec.toNat_or, ofInt64 a0 a1, ofInt64 b0 b1]
  have : a.toNat ||| b.toNat < 2 ^ 64 := Nat.or_lt_two_pow (by omega) (by omega)
  omega
theorem and127 : ∀ n : Nat, n < 256 → ibin .and .u8 (n : Int) 127 = ((n % 128 : Nat) : Int) := by decide +kernel

/-- One more digit on top. -/
theorem orD_eq {v x i : Nat} (hv : v < 128 ^ i) (hx : x < 256) (hi : i ≤ 9) (hs : i = 9 → x ≤ 1) : orD (v : Int) (x : Int) i = ((v + (x % 128) * 128 ^ i : Nat) : Int) := by
  unfold orD
  rw [and127 x hx, wrap64]
  have hd : x % 128 < 128 := Nat.mod_lt _ (by decide)
  have e128 : 128 ^ i = 2 ^ (7 * i) := by rw [show (128 : Nat) = 2 ^ 7 from rfl, ← Nat.pow_mul]
  have hb : (x % 128) * 128 ^ i < 18446744073709551616 := by
    have hc : i = 0 ∨ i = 1 ∨ i = 2 ∨ i = 3 ∨ i = 4 ∨ i = 5 ∨ i = 6 ∨ i = 7 ∨ i = 8 ∨ i = 9 := by omega
    rcases hc with rfl | rfl | rfl | rfl | rfl | rfl | rfl | rfl | rfl | rfl
    all_goals first | omega | (have := hs rfl; omega)
  have hv64 : v < 18446744073709551616 := by
    have hc : i = 0 ∨ i = 1 ∨ i = 2 ∨ i = 3 ∨ i = 4 ∨ i = 5 ∨ i = 6 ∨ i = 7 ∨ i = 8 ∨ i = 9 := by omega
    rcases hc with rfl | rfl | rfl | rfl | rfl | rfl | rfl | rfl | rfl | rfl <;> omega
  have hsh : ibin .shl .u64 (((x % 128 : Nat) : Int) % 18446744073709551616) ((7 * i : Nat) : Int) = (((x % 128) * 128 ^ i : Nat) : Int) := by
    show IntKind.wrap .u64 ((((x % 128 : Nat) : Int) % 18446744073709551616) * 2 ^ (min (((7 * i : Nat) : Int)).toNat 64)) = _
    rw [Int.toNat_natCast, Nat.min_eq_left (by omega), wrap64, show (((x % 128 : Nat) : Int) % 18446744073709551616) = ((x % 128 : Nat) : Int) by omega]
    have : (((x % 128 : Nat) : Int) * 2 ^ (7 * i)) = (((x % 128) * 128 ^ i : Nat) : Int) := by
      rw [e128]
      push_cast
      rfl
    rw [this]
    omega
  rw [hsh, u_or (by omega) (by omega) (by omega) (by omega), Int.toNat_natCast, Int.toNat_natCast]
  congr 1
  have := Nat.two_pow_add_eq_or_of_lt (i := 7 * i) (b := v) (by rw [← e128]; exact hv) (x % 128)
  rw [e128, Nat.or_comm, Nat.mul_comm (x % 128), ← this]
  omega

/-- The bytes of a number, the lowest digit first, in their shortest form. -/
def Enc : Nat → List Int → Prop
  | _, [] => False
  | v, [d] => d = (v : Int) ∧ v < 128
  | v, x :: t => ∃ n w : Nat, x = (n : Int) ∧ 128 ≤ n ∧ n < 256 ∧ v = (n - 128) + 128 * w ∧ 0 < w ∧ Enc w t

theorem getD_at {l : List Int} {k : Nat} {x : Int} {t : List Int} (h : l.drop k = x :: t) : List.getD l k 0 = x := by
  have := congrArg (fun l => l[0]?) h
  simp only [List.getElem?_drop, Nat.add_zero, List.getElem?_cons_zero] at this
  rw [List.getD_eq_getElem?_getD, this]
  rfl

theorem badR_eq (l : List Int) (e : Int) : badR ((l.length, l), ((), (0, l.length, 0), 0)) e = some (0, ((l.length, l), ((), (0, l.length, 0), e))) := by
  have : icmp .eql (0 : Int) 0 = true := rfl
  simp only [badR, this, cond_true]

theorem cnt_spec (l : List Int) (hl : l.length ≤ 2000000) (hb : ∀ x ∈ l, Byte x) : ∀ (f i : Nat) (v : Nat) (suf : List Int), f + i = 10 → l.drop i = suf → i ≤ l.length → v < 128 ^ i →
    (∃ (w : Nat) (t rest : List Int), suf = t ++ rest ∧ Enc w t ∧ (0 < i → 0 < w) ∧ t.length ≤ f ∧ v + 128 ^ i * w < 18446744073709551616 ∧
      cnt f i (v : Int) ((l.length, l), ((), (0, l.length, 0), 0)) = some (((v + 128 ^ i * w : Nat) : Int), ((l.length, l), ((), ((i + t.length, l.length - (i + t.length), 0), 0))))) ∨
    ((∀ x ∈ suf, 128 ≤ x) ∧ suf.length + 1 ≤ f ∧ cnt f i (v : Int) ((l.length, l), ((), (0, l.length, 0), 0)) = some (0, ((l.length, l), ((), (0, l.length, 0), 100)))) ∨
    cnt f i (v : Int) ((l.length, l), ((), (0, l.length, 0), 0)) = some (0, ((l.length, l), ((), (0, l.length, 0), 102))) := by
  intro f
  induction f with
  | zero => intro i v suf _ _ _ _; exact .inr (.inr rfl)
  | succ f ih =>
    intro i v suf hf hd hi hv
    unfold cnt
    cases suf with
    | nil =>
      have : i = l.length := by
        have := congrArg List.length hd
        simp at this
        omega
      have h1 : icmp .eql ((i : Nat) : Int) ((l.length : Nat) : Int) = true := by simp [icmp, this]
      simp only [h1, cond_true]
      exact .inr (.inl ⟨by simp, by simp, badR_eq l 100⟩)
    | cons x suf' =>
      have hlen : l.length - i = suf'.length + 1 := by
        have := congrArg List.length hd
        simpa using this
      obtain ⟨n, hn, rfl⟩ := byte_nat (hb x (by
        have : x ∈ l.drop i := by rw [hd]; simp
        exact List.mem_of_mem_drop this))
      have h1 : icmp .eql ((i : Nat) : Int) ((l.length : Nat) : Int) = false := by
        have : ¬ ((i : Nat) : Int) = ((l.length : Nat) : Int) := by omega
        simpa [icmp] using this
      have h2 : decide ((0 : Int) ≤ ((i : Nat) : Int) ∧ ((i : Nat) : Int) < ((l.length : Nat) : Int)) = true := decide_eq_true (by omega)
      have hg : List.getD l (0 + Int.toNat ((i : Nat) : Int)) 0 = (n : Int) := by rw [Nat.zero_add, Int.toNat_natCast]; exact getD_at hd
      simp only [h1, h2, hg, cond_true, cond_false]
      have hok : ∀ u : Int, okR u i ((l.length, l), ((), (0, l.length, 0), 0)) = some (u, ((l.length, l), ((), ((i + 1, l.length - (i + 1), 0), 0)))) := by
        intro u
        unfold okR
        have : decide ((0 : Int) ≤ ((i + 1 : Nat) : Int) ∧ ((i + 1 : Nat) : Int) ≤ ((l.length : Nat) : Int)) = true := decide_eq_true (by omega)
        simp only [this, cond_true, Nat.zero_add]
      cases hc : cond (Nat.beq i 9) (icmp .gtr (n : Int) 1) false with
      | true => simp only [cond_true]; exact .inr (.inr (badR_eq l 102))
      | false =>
        have hs : i = 9 → n ≤ 1 := by
          rintro rfl
          have : ¬ (1 : Int) < (n : Int) := by simpa [icmp] using hc
          omega
        rw [cond_false]
        by_cases hx : n < 128
        · have h3 : icmp .lss (n : Int) 128 = true := by simp only [icmp, decide_eq_true_eq]; omega
          have hor := orD_eq hv hn (by omega) hs
          rw [Nat.mod_eq_of_lt hx] at hor
          have small : v + 128 ^ i * n < 18446744073709551616 := by
            have hc : i = 0 ∨ i = 1 ∨ i = 2 ∨ i = 3 ∨ i = 4 ∨ i = 5 ∨ i = 6 ∨ i = 7 ∨ i = 8 ∨ i = 9 := by omega
            rcases hc with rfl | rfl | rfl | rfl | rfl | rfl | rfl | rfl | rfl | rfl
            all_goals first | omega | (have := hs rfl; omega)
          have good : (0 < i → 0 < n) → okR (orD (v : Int) (n : Int) i) i ((l.length, l), ((), (0, l.length, 0), 0)) = some (((v + 128 ^ i * n : Nat) : Int), ((l.length, l), ((), ((i + [(n : Int)].length, l.length - (i + [(n : Int)].length), 0), 0)))) := by
            intro _
            rw [hok, hor, Nat.mul_comm n]
            rfl
          simp only [h3, cond_true]
          by_cases h0 : n = 0
          · subst h0
            have h4 : icmp .eql ((0 : Nat) : Int) 0 = true := rfl
            simp only [h4, cond_true]
            by_cases hi0 : i = 0
            · subst hi0
              simp only [Nat.beq, cond_true]
              exact .inl ⟨0, [((0 : Nat) : Int)], suf', rfl, ⟨rfl, by decide⟩, fun h => by omega, by simp, small, good (fun h => by omega)⟩
            · have : Nat.beq i 0 = false := by
                cases hq : Nat.beq i 0 with
                | true => exact absurd (Nat.eq_of_beq_eq_true hq) hi0
                | false => rfl
              simp only [this, cond_false]
              exact .inr (.inr (badR_eq l 102))
          · have h4 : icmp .eql (n : Int) 0 = false := by
              have : ¬ (n : Int) = 0 := by omega
              simpa [icmp] using this
            simp only [h4, cond_false]
            exact .inl ⟨n, [(n : Int)], suf', rfl, ⟨rfl, hx⟩, fun _ => by omega, by simp, small, good (fun _ => by omega)⟩
        · have h3 : icmp .lss (n : Int) 128 = false := by simp only [icmp, decide_eq_false_iff_not]; omega
          have hi8 : i ≤ 8 := by
            rcases Nat.lt_or_ge i 9 with h | h
            · omega
            · have : i = 9 := by omega
              have := hs this
              omega
          have hor := orD_eq hv hn (by omega) hs
          simp only [h3, cond_false, hor]
          have hm : n % 128 = n - 128 := by omega
          have hv' : v + n % 128 * 128 ^ i < 128 ^ (i + 1) := by
            rw [Nat.pow_succ]
            have : n % 128 * 128 ^ i ≤ 127 * 128 ^ i := Nat.mul_le_mul_right _ (by omega)
            omega
          have hd' : l.drop (i + 1) = suf' := by rw [← List.drop_drop, hd]; rfl
          rcases ih (i + 1) (v + n % 128 * 128 ^ i) suf' (by omega) hd' (by omega) hv' with ⟨w, t, rest, q1, q2, q3, q4, q5, q6⟩ | ⟨q1, q2, q3⟩ | q
          · refine .inl ⟨(n - 128) + 128 * w, (n : Int) :: t, rest, by rw [q1]; rfl, ?_, fun _ => by have := q3 (by omega); omega, by simp only [List.length_cons]; omega, ?_, ?_⟩
            · cases t with
              | nil => exact q2.elim
              | cons y t => exact ⟨n, w, rfl, by omega, hn, rfl, q3 (by omega), q2⟩
            · have e : v + 128 ^ i * (n - 128 + 128 * w) = v + n % 128 * 128 ^ i + 128 ^ (i + 1) * w := by
                rw [hm, Nat.pow_succ, Nat.mul_add, Nat.mul_comm (128 ^ i) (n - 128), ← Nat.mul_assoc, Nat.add_assoc]
              rw [e]; exact q5
            · have e : v + 128 ^ i * (n - 128 + 128 * w) = v + n % 128 * 128 ^ i + 128 ^ (i + 1) * w := by
                rw [hm, Nat.pow_succ, Nat.mul_add, Nat.mul_comm (128 ^ i) (n - 128), ← Nat.mul_assoc, Nat.add_assoc]
              rw [e, q6, List.length_cons, show i + 1 + t.length = i + (t.length + 1) by omega]
          · refine .inr (.inl ⟨fun x hx => ?_, by simp only [List.length_cons]; omega, q3⟩)
            rcases List.mem_cons.1 hx with rfl | hx
            · omega
            · exact q1 x hx
          · exact .inr (.inr q)


theorem low_byte : ∀ n : Nat, n < 256 → 128 ≤ n → ibin .or .u8 (((n - 128 : Nat) : Int)) 128 = (n : Int) := by decide +kernel

theorem or128 {v n w : Nat} (h1 : 128 ≤ n) (h2 : n < 256) (hv : v = (n - 128) + 128 * w) : ibin .or .u8 (IntKind.wrap .u8 ((v : Nat) : Int)) 128 = (n : Int) := by
  have key : ∀ m : Nat, m < 256 → ibin .or .u8 (m : Int) 128 = (((m % 128) + 128 : Nat) : Int) := by decide +kernel
  rw [wrap8, show ((v : Nat) : Int) % 256 = ((v % 256 : Nat) : Int) by omega, key _ (Nat.mod_lt _ (by decide))]
  omega

theorem shr7 {v n w : Nat} (h1 : 128 ≤ n) (h2 : n < 256) (hv : v = (n - 128) + 128 * w) (hw : v < 18446744073709551616) : ibin .shr .u64 ((v : Nat) : Int) 7 = ((w : Nat) : Int) := by
  show Int.fdiv ((v : Nat) : Int) (2 ^ (min (7 : Int).toNat 64)) = _
  rw [show (2 : Int) ^ (min (7 : Int).toNat 64) = 128 from rfl, Int.fdiv_eq_ediv_of_nonneg _ (by decide)]
  omega

/-- What AppendNumber writes. -/
theorem app_loop (N : Nat) : ∀ (t : List Int) (w : Nat) (out : List Int) (f : Nat), Enc w t → w < 18446744073709551616 → t.length ≤ f → out.length + t.length ≤ 200 →
    ∃ (init : List Int) (d : Nat), t = init ++ [(d : Int)] ∧ d < 128 ∧ True ∧
      loopF (wire_AppendNumber_nil_l0 N) f ((((w : Nat) : Int), (), out.length), (out.length, out)) = some (.inl (((d : Int), (out ++ init).length), ((out ++ init).length, out ++ init)))
  | [], w, out, f, h, _, _, _ => h.elim
  | [d], w, out, f, h, hw, hf, _ => by
    obtain ⟨k, rfl⟩ : ∃ k, f = k + 1 := ⟨f - 1, by simp at hf; omega⟩
    obtain ⟨h1, h2⟩ := h
    refine ⟨[], w, by rw [h1]; rfl, h2, trivial, ?_⟩
    rw [loopF_succ]
    unfold wire_AppendNumber_nil_l0
    have h3 : icmp .gtr ((w : Nat) : Int) 127 = false := by simp only [icmp, decide_eq_false_iff_not]; omega
    simp only [h3, cond_false, mo, List.append_nil]
  | x :: y :: t, w, out, f, h, hw, hf, ht => by
    obtain ⟨k, rfl⟩ : ∃ k, f = k + 1 := ⟨f - 1, by simp at hf; omega⟩
    obtain ⟨n, w', rfl, h1, h2, h3, h4, h5⟩ := h
    obtain ⟨init, d, q1, q2, -, q4⟩ := app_loop N (y :: t) w' (out ++ [(n : Int)]) k h5 (by omega) (by simp only [List.length_cons] at hf ⊢; omega) (by simp only [List.length_append, List.length_cons, List.length_nil] at ht ⊢; omega)
    refine ⟨(n : Int) :: init, d, by rw [q1]; rfl, q2, trivial, ?_⟩
    rw [loopF_succ]
    unfold wire_AppendNumber_nil_l0
    have g1 : icmp .gtr ((w : Nat) : Int) 127 = true := by simp only [icmp, decide_eq_true_eq]; omega
    have g2 : decide ((out.length + 1) * 1 ≤ 140737488355328 ∧ out.length + 1 ≤ 9223372036854775807) = true := by simp only [decide_eq_true_eq]; simp only [List.length_cons] at ht; omega
    simp only [g1, g2, cond_true, mo, or128 h1 h2 h3, shr7 h1 h2 h3 hw]
    have e : (out ++ [(n : Int)]).length = out.length + 1 := by simp
    rw [e] at q4
    refine Eq.trans q4 ?_
    simp


theorem app_nil (N : Nat) {w : Nat} {t : List Int} (h : Enc w t) (hw : w < 18446744073709551616) (ht : t.length ≤ 10) (hN : 2000000 ≤ N) : wire_AppendNumber_nil N () ((w : Nat) : Int) = some ((t.length, t), ()) := by
  obtain ⟨init, d, q1, q2, -, q4⟩ := app_loop N t w [] N h hw (by omega) (by simp; omega)
  unfold wire_AppendNumber_nil
  simp only [List.length_nil, List.nil_append] at q4
  rw [q4]
  have hl : t.length = init.length + 1 := by rw [q1]; simp
  have g : decide ((init.length + 1) * 1 ≤ 140737488355328 ∧ init.length + 1 ≤ 9223372036854775807) = true := by simp only [decide_eq_true_eq]; omega
  have hd : IntKind.wrap .u8 (d : Int) = (d : Int) := by rw [wrap8]; omega
  simp only [mo, g, cond_true, hd]
  rw [hl, q1]

/-- Every number has its bytes, ten at most. -/
theorem enc_all : ∀ (f : Nat) (w : Nat), w < 128 ^ f → 0 < f → ∃ t, Enc w t ∧ t.length ≤ f
  | 0, w, _, h => absurd h (by decide)
  | f + 1, w, hw, _ => by
    by_cases h : w < 128
    · exact ⟨[(w : Int)], ⟨rfl, h⟩, by simp⟩
    · have hf : 0 < f := by
        rcases Nat.eq_zero_or_pos f with rfl | hf
        · simp at hw; omega
        · exact hf
      obtain ⟨t, h1, h2⟩ := enc_all f (w / 128) (by rw [Nat.pow_succ] at hw; exact Nat.div_lt_of_lt_mul (by rw [Nat.mul_comm]; exact hw)) hf
      cases t with
      | nil => exact h1.elim
      | cons y t => exact ⟨((w % 128 + 128 : Nat) : Int) :: y :: t, ⟨w % 128 + 128, w / 128, rfl, by omega, by omega, by omega, by omega, h1⟩, by simp only [List.length_cons] at h2 ⊢; omega⟩

end Go.Vx.Wx
