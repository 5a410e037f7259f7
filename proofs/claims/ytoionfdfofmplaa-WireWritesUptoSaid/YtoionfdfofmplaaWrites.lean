/- WireWrites: the plain law. -/
import Derived.Test.YtoionfdfofmplaaFp
import Derived.KernelRfl
set_option autoImplicit false
set_option linter.unusedVariables false
set_option linter.unusedSimpArgs false
namespace Go.Vx.Wx
open Go Go.Vx

abbrev Byte (x : Int) : Prop := 0 ≤ x ∧ x ≤ 255

theorem byte_nat {x : Int} (h : Byte x) : ∃ n : Nat, n < 256 ∧ x = (n : Int) := ⟨x.toNat, by omega, by omega⟩

theorem wrapi {n : Int} (h0 : -9223372036854775808 ≤ n) (h1 : n ≤ 9223372036854775807) : IntKind.wrap .i64 n = n := by
  have hm : ∀ m : Int, IntKind.wrap .i64 m = if m % 18446744073709551616 ≥ 9223372036854775808 then m % 18446744073709551616 - 18446744073709551616 else m % 18446744073709551616 := by
    intro m
    simp [IntKind.wrap, IntKind.signed, IntKind.bits]
  rw [hm]
  split <;> omega

theorem beqS (a : ByteArray) : (a == a) = true := by
  show (a.data == a.data) = true
  exact beq_self_eq_true _

theorem wrap64 (n : Int) : IntKind.wrap .u64 n = n % 18446744073709551616 := by simp [IntKind.wrap, IntKind.signed, IntKind.bits]
theorem wrap8 (n : Int) : IntKind.wrap .u8 n = n % 256 := by simp [IntKind.wrap, IntKind.signed, IntKind.bits]
theorem ofInt64 {a : Int} (h0 : 0 ≤ a) (h1 : a < 18446744073709551616) : (BitVec.ofInt 64 a).toNat = a.toNat := by
  rw [BitVec.toNat_ofInt]
  omega
theorem u_or {a b : Int} (a0 : 0 ≤ a) (a1 : a < 18446744073709551616) (b0 : 0 ≤ b) (b1 : b < 18446744073709551616) : ibin .or .u64 a b = ((a.toNat ||| b.toNat : Nat) : Int) := by
  show IntKind.wrap .u64 ((BitVec.ofInt 64 a ||| BitVec.ofInt 64 b).toNat : Int) = _
  rw [wrap64, BitVec.toNat_or, ofInt64 a0 a1, ofInt64 b0 b1]
  have : a.toNat ||| b.toNat < 2 ^ 64 := Nat.or_lt_two_pow (by omega) (by omega)
  omega
theorem and127 : ∀ n : Nat, n < 256 → ibin .and .u8 (n : Int) 127 = ((n % 128 : Nat) : Int) := by decide +kernel

/-- The bytes of a number, the lowest digit first, in their shortest form. -/
def Enc : Nat → List Int → Prop
  | _, [] => False
  | v, [d] => d = (v : Int) ∧ v < 128
  | v, x :: t => ∃ n w : Nat, x = (n : Int) ∧ 128 ≤ n ∧ n < 256 ∧ v = (n - 128) + 128 * w ∧ 0 < w ∧ Enc w t

theorem low_byte : ∀ n : Nat, n < 256 → 128 ≤ n → ibin .or .u8 (((n - 128 : Nat) : Int)) 128 = (n : Int) := by decide +kernel

theorem or128 {v n w : Nat} (h1 : 128 ≤ n) (h2 : n < 256) (hv : v = (n - 128) + 128 * w) : ibin .or .u8 (IntKind.wrap .u8 ((v : Nat) : Int)) 128 = (n : Int) := by
  have key : ∀ m : Nat, m < 256 → ibin .or .u8 (m : Int) 128 = (((m % 128) + 128 : Nat) : Int) := by decide +kernel
  rw [wrap8, show ((v : Nat) : Int) % 256 = ((v % 256 : Nat) : Int) by omega, key _ (Nat.mod_lt _ (by decide))]
  omega

theorem shr7 {v n w : Nat} (h1 : 128 ≤ n) (h2 : n < 256) (hv : v = (n - 128) + 128 * w) (hw : v < 18446744073709551616) : ibin .shr .u64 ((v : Nat) : Int) 7 = ((w : Nat) : Int) := by
  show Int.fdiv ((v : Nat) : Int) (2 ^ (min (7 : Int).toNat 64)) = _
  rw [show (2 : Int) ^ (min (7 : Int).toNat 64) = 128 from rfl, Int.fdiv_eq_ediv_of_nonneg _ (by decide)]
  omega

/-- Every number has its bytes, ten at most. -/
theorem enc_all : ∀ (f : Nat) (w : Nat), w < 128 ^ f → 0 < f → ∃ t, Enc w t ∧ t.length ≤ f
  | 0, w, _, h => absurd h (by decide)
  | f + 1, w, hw, _ => by
    by_cases h : w < 128
    · exact ⟨[(w : Int)], ⟨rfl, h⟩, by simp⟩
    · have hf : 0 < f := by
        rcases Nat.eq_zero_or_pos f with rfl | hf
        · simp at hw; omega
        · exact hf
      obtain ⟨t, h1, h2⟩ := enc_all f (w / 128) (by rw [Nat.pow_succ] at hw; exact Nat.div_lt_of_lt_mul (by rw [Nat.mul_comm]; exact hw)) hf
      cases t with
      | nil => exact h1.elim
      | cons y t => exact ⟨((w % 128 + 128 : Nat) : Int) :: y :: t, ⟨w % 128 + 128, w / 128, rfl, by omega, by omega, by omega, by omega, h1⟩, by simp only [List.length_cons] at h2 ⊢; omega⟩

theorem eql_self (a : Int) : icmp .eql a a = true := by simp [icmp]
theorem eql_ne {a b : Int} (h : a ≠ b) : icmp .eql a b = false := by simpa [icmp] using h
theorem neq_self (a : Int) : icmp .neq a a = false := by simp [icmp]
theorem gtr_self (a : Int) : icmp .gtr a a = false := by simp [icmp]

theorem lss0 (k : Nat) : icmp .lss ((k : Nat) : Int) 0 = false := by simp only [icmp, decide_eq_false_iff_not]; omega
theorem w64n {k : Nat} (h : k ≤ 100000000) : IntKind.wrap .u64 ((k : Nat) : Int) = ((k : Nat) : Int) := by rw [wrap64]; omega

theorem app_loop (N : Nat) : ∀ (t : List Int) (w : Nat) (out : List Int) (f : Nat), Enc w t → w < 18446744073709551616 → t.length ≤ f → out.length + t.length ≤ 200000000 →
    ∃ (init : List Int) (d : Nat), t = init ++ [(d : Int)] ∧ d < 128 ∧
      loopF (wire_AppendNumber_l0 N) f ((((w : Nat) : Int), (), out.length), (out.length, out)) = some (.inl (((d : Int), (out ++ init).length), ((out ++ init).length, out ++ init)))
  | [], w, out, f, h, _, _, _ => h.elim
  | [d], w, out, f, h, hw, hf, _ => by
    obtain ⟨k, rfl⟩ : ∃ k, f = k + 1 := ⟨f - 1, by simp at hf; omega⟩
    obtain ⟨h1, h2⟩ := h
    refine ⟨[], w, by rw [h1]; rfl, h2, ?_⟩
    rw [loopF_succ]
    unfold wire_AppendNumber_l0
    have h3 : icmp .gtr ((w : Nat) : Int) 127 = false := by simp only [icmp, decide_eq_false_iff_not]; omega
    simp only [h3, cond_false, mo, List.append_nil]
  | x :: y :: t, w, out, f, h, hw, hf, ht => by
    obtain ⟨k, rfl⟩ : ∃ k, f = k + 1 := ⟨f - 1, by simp at hf; omega⟩
    obtain ⟨n, w', rfl, h1, h2, h3, h4, h5⟩ := h
    obtain ⟨init, d, q1, q2, q4⟩ := app_loop N (y :: t) w' (out ++ [(n : Int)]) k h5 (by omega) (by simp only [List.length_cons] at hf ⊢; omega) (by simp only [List.length_append, List.length_cons, List.length_nil] at ht ⊢; omega)
    refine ⟨(n : Int) :: init, d, by rw [q1]; rfl, q2, ?_⟩
    rw [loopF_succ]
    unfold wire_AppendNumber_l0
    have g1 : icmp .gtr ((w : Nat) : Int) 127 = true := by simp only [icmp, decide_eq_true_eq]; omega
    have g2 : decide ((out.length + 1) * 1 ≤ 140737488355328 ∧ out.length + 1 ≤ 9223372036854775807) = true := by simp only [decide_eq_true_eq]; simp only [List.length_cons] at ht; omega
    simp only [g1, g2, cond_true, mo, or128 h1 h2 h3, shr7 h1 h2 h3 hw]
    have e : (out ++ [(n : Int)]).length = out.length + 1 := by simp
    rw [e] at q4
    refine Eq.trans q4 ?_
    simp

theorem app_number (N : Nat) {w : Nat} {t b : List Int} (h : Enc w t) (hw : w < 18446744073709551616) (ht : t.length ≤ 10) (hb : b.length ≤ 100000000) (hN : 10 ≤ N) : wire_AppendNumber N ((b.length, b), ()) ((w : Nat) : Int) = some (((b ++ t).length, b ++ t), ()) := by
  obtain ⟨init, d, q1, q2, q4⟩ := app_loop N t w b N h hw (by omega) (by omega)
  have hl : t.length = init.length + 1 := by rw [q1]; simp
  have e1 : ibin .add .i64 0 ((b.length : Nat) : Int) = ((b.length : Nat) : Int) := by
    show IntKind.wrap .i64 _ = _
    rw [Int.zero_add, wrapi (by omega) (by omega)]
  have e2 : ibin .add .i64 ((b.length : Nat) : Int) 0 = ((b.length : Nat) : Int) := by
    show IntKind.wrap .i64 _ = _
    rw [Int.add_zero, wrapi (by omega) (by omega)]
  have e3 : ibin .sub .i64 ((b.length : Nat) : Int) 0 = ((b.length : Nat) : Int) := by
    show IntKind.wrap .i64 _ = _
    rw [Int.sub_zero, wrapi (by omega) (by omega)]
  have g1 : decide (b.length * 1 ≤ 140737488355328 ∧ b.length ≤ 9223372036854775807) = true := decide_eq_true (by omega)
  have g2 : decide ((0 : Int) ≤ 0 ∧ 0 ≤ ((b.length : Nat) : Int)) = true := decide_eq_true (by omega)
  have g3 : decide (((b ++ init).length + 1) * 1 ≤ 140737488355328 ∧ (b ++ init).length + 1 ≤ 9223372036854775807) = true := decide_eq_true (by simp only [List.length_append]; omega)
  have hd : IntKind.wrap .u8 (d : Int) = (d : Int) := by rw [wrap8]; omega
  have fin : (some (((b ++ init).length + 1, (b ++ init) ++ [(d : Int)]), ()) : Option ((Nat × List Int) × Unit)) = some (((b ++ t).length, b ++ t), ()) := by
    rw [q1]
    simp only [List.length_append, List.length_cons, List.length_nil, List.append_assoc]
    rfl
  unfold wire_AppendNumber
  simp only [e1, e2, e3, lss0, cond_false, Int.toNat_natCast, Nat.zero_add, g1, g2, List.take_zero, List.nil_append, q4, mo, g3, hd, cond_true, fin]
  cases hc : icmp .gtr ((b.length : Nat) : Int) 0 with
  | false => rfl
  | true =>
    have g4 : decide ((0 : Int) < ((b.length : Nat) : Int)) = true := hc
    simp only [g4, Bool.and_true, cond_true]

theorem app_bytes (N : Nat) {t b x : List Int} (h : Enc x.length t) (ht : t.length ≤ 10) (hx : x.length ≤ 100000000) (hb : b.length ≤ 100000000) (hN : 10 ≤ N) : wire_AppendBytes N ((b.length, b), ()) ((x.length, x), ()) = some (((b ++ (t ++ x)).length, b ++ (t ++ x)), ()) := by
  unfold wire_AppendBytes
  have k := app_number N h (by omega) ht hb hN
  have g : decide (((b ++ t).length + x.length) * 1 ≤ 140737488355328 ∧ (b ++ t).length + x.length ≤ 9223372036854775807) = true := decide_eq_true (by simp only [List.length_append]; omega)
  simp only [w64n hx, k, mo, g, cond_true]
  rw [← List.append_assoc, List.length_append (as := b ++ t)]

/-! ### The document's Number -/
theorem ref_loop (N : Nat) : ∀ (t : List Int) (w : Nat) (out : List Int) (f : Nat), Enc w t → w < 18446744073709551616 → t.length ≤ f → out.length + t.length ≤ 200000000 →
    ∃ (init : List Int) (d : Nat), t = init ++ [(d : Int)] ∧ d < 128 ∧
      loopF (veilref10_Number_l0 N) f ((((w : Nat) : Int), (), out.length), (out.length, out)) = some (.inl (((d : Int), (out ++ init).length), ((out ++ init).length, out ++ init)))
  | [], w, out, f, h, _, _, _ => h.elim
  | [d], w, out, f, h, hw, hf, _ => by
    obtain ⟨k, rfl⟩ : ∃ k, f = k + 1 := ⟨f - 1, by simp at hf; omega⟩
    obtain ⟨h1, h2⟩ := h
    refine ⟨[], w, by rw [h1]; rfl, h2, ?_⟩
    rw [loopF_succ]
    unfold veilref10_Number_l0
    have h3 : icmp .geq ((w : Nat) : Int) 128 = false := by simp only [icmp, decide_eq_false_iff_not]; omega
    simp only [h3, cond_false, mo, List.append_nil]
  | x :: y :: t, w, out, f, h, hw, hf, ht => by
    obtain ⟨k, rfl⟩ : ∃ k, f = k + 1 := ⟨f - 1, by simp at hf; omega⟩
    obtain ⟨n, w', rfl, h1, h2, h3, h4, h5⟩ := h
    obtain ⟨init, d, q1, q2, q4⟩ := ref_loop N (y :: t) w' (out ++ [(n : Int)]) k h5 (by omega) (by simp only [List.length_cons] at hf ⊢; omega) (by simp only [List.length_append, List.length_cons, List.length_nil] at ht ⊢; omega)
    refine ⟨(n : Int) :: init, d, by rw [q1]; rfl, q2, ?_⟩
    rw [loopF_succ]
    unfold veilref10_Number_l0
    have g1 : icmp .geq ((w : Nat) : Int) 128 = true := by simp only [icmp, decide_eq_true_eq]; omega
    have g2 : decide ((out.length + 1) * 1 ≤ 140737488355328 ∧ out.length + 1 ≤ 9223372036854775807) = true := by simp only [decide_eq_true_eq]; simp only [List.length_cons] at ht; omega
    have g3 : ibin .add .u8 (IntKind.wrap .u8 (ibin .rem .u64 ((w : Nat) : Int) 128)) 128 = (n : Int) := by
      have e1 : ibin .rem .u64 ((w : Nat) : Int) 128 = ((w % 128 : Nat) : Int) := by
        have e0 : ibin .rem .u64 ((w : Nat) : Int) 128 = Int.tmod ((w : Nat) : Int) 128 := rfl
        rw [e0, Int.tmod_eq_emod_of_nonneg (by omega)]
        omega
      show IntKind.wrap .u8 _ = _
      rw [e1, wrap8, wrap8]
      omega
    have g4 : ibin .quo .u64 ((w : Nat) : Int) 128 = ((w' : Nat) : Int) := by
      show IntKind.wrap .u64 (Int.tdiv _ _) = _
      rw [Int.tdiv_eq_ediv_of_nonneg (by omega), wrap64]
      omega
    simp only [g1, g2, g3, g4, cond_true, mo]
    have e : (out ++ [(n : Int)]).length = out.length + 1 := by simp
    rw [e] at q4
    refine Eq.trans q4 ?_
    simp

theorem ref_number (N : Nat) {w : Nat} {t : List Int} (h : Enc w t) (hw : w < 18446744073709551616) (ht : t.length ≤ 10) (hN : 10 ≤ N) : veilref10_Number N ((w : Nat) : Int) = some ((t.length, t), ()) := by
  obtain ⟨init, d, q1, q2, q4⟩ := ref_loop N t w [] N h hw (by omega) (by simp; omega)
  unfold veilref10_Number
  simp only [List.length_nil, List.nil_append] at q4
  have hl : t.length = init.length + 1 := by rw [q1]; simp
  have g : decide ((init.length + 1) * 1 ≤ 140737488355328 ∧ init.length + 1 ≤ 9223372036854775807) = true := decide_eq_true (by omega)
  have hd : IntKind.wrap .u8 (d : Int) = (d : Int) := by rw [wrap8]; omega
  simp only [q4, mo, g, cond_true, hd]
  rw [hl, q1]

/-! ### Written full -/
theorem set_full (i : Nat) (x y : Int) (suf : List Int) : List.set (List.replicate i y ++ x :: suf) i y = List.replicate (i + 1) y ++ suf := by
  have : (List.replicate i y ++ x :: suf).set i y = List.replicate i y ++ y :: suf := by
    rw [List.set_append_right _ _ (by simp)]
    simp
  rw [this, List.replicate_succ', List.append_assoc]
  rfl

theorem fill0 (N0 : Nat) (A B : List Int) (p q dn m f1 g1 d1 : Nat) (f2 g2 d2 : List Int) (hm : m ≤ 100000000) : ∀ (suf : List Int) (i f : Nat), suf.length + 1 ≤ f → i + suf.length = m →
    loopF (veillaw10_WireWrites_l0 N0) f ((A, B, (), p, q, m, dn, ((i : Nat) : Int)), ((f1, f2), (g1, g2), (m, List.replicate i 77 ++ suf), (d1, d2))) = some (.inl ((A, B, p, q, m, dn), ((f1, f2), (g1, g2), (m, List.replicate m 77), (d1, d2)))) := by
  intro suf
  induction suf with
  | nil =>
    intro i f hf hi
    obtain ⟨k, rfl⟩ : ∃ k, f = k + 1 := ⟨f - 1, by omega⟩
    have hi : i = m := by simpa using hi
    subst hi
    rw [loopF_succ]
    unfold veillaw10_WireWrites_l0
    have h1 : icmp .lss ((i : Nat) : Int) ((i : Nat) : Int) = false := by simp [icmp]
    simp only [h1, cond_false, mo, List.append_nil]
  | cons x suf ih =>
    intro i f hf hi
    obtain ⟨k, rfl⟩ : ∃ k, f = k + 1 := ⟨f - 1, by omega⟩
    simp only [List.length_cons] at hf hi
    rw [loopF_succ]
    unfold veillaw10_WireWrites_l0
    have h1 : icmp .lss ((i : Nat) : Int) ((m : Nat) : Int) = true := decide_eq_true (by omega)
    have h2 : decide ((0 : Int) ≤ ((i : Nat) : Int) ∧ ((i : Nat) : Int) < ((m : Nat) : Int)) = true := decide_eq_true (by omega)
    have h3 : ibin .add .i64 ((i : Nat) : Int) 1 = ((i + 1 : Nat) : Int) := wrapi (by omega) (by omega)
    simp only [h1, h2, h3, cond_true, mo, Int.toNat_natCast, set_full]
    exact ih (i + 1) k (by omega) (by omega)

theorem fill2 (N0 : Nat) (A B : List Int) (p q cn m f1 g1 c1 : Nat) (f2 g2 c2 : List Int) (hm : m ≤ 100000000) : ∀ (suf : List Int) (i f : Nat), suf.length + 1 ≤ f → i + suf.length = m →
    loopF (veillaw10_WireWrites_l2 N0) f ((A, B, p, q, cn, m, ((i : Nat) : Int)), ((f1, f2), (g1, g2), (c1, c2), (m, List.replicate i 78 ++ suf))) = some (.inl ((A, B, p, q, cn, m), ((f1, f2), (g1, g2), (c1, c2), (m, List.replicate m 78)))) := by
  intro suf
  induction suf with
  | nil =>
    intro i f hf hi
    obtain ⟨k, rfl⟩ : ∃ k, f = k + 1 := ⟨f - 1, by omega⟩
    have hi : i = m := by simpa using hi
    subst hi
    rw [loopF_succ]
    unfold veillaw10_WireWrites_l2
    have h1 : icmp .lss ((i : Nat) : Int) ((i : Nat) : Int) = false := by simp [icmp]
    simp only [h1, cond_false, mo, List.append_nil]
  | cons x suf ih =>
    intro i f hf hi
    obtain ⟨k, rfl⟩ : ∃ k, f = k + 1 := ⟨f - 1, by omega⟩
    simp only [List.length_cons] at hf hi
    rw [loopF_succ]
    unfold veillaw10_WireWrites_l2
    have h1 : icmp .lss ((i : Nat) : Int) ((m : Nat) : Int) = true := decide_eq_true (by omega)
    have h2 : decide ((0 : Int) ≤ ((i : Nat) : Int) ∧ ((i : Nat) : Int) < ((m : Nat) : Int)) = true := decide_eq_true (by omega)
    have h3 : ibin .add .i64 ((i : Nat) : Int) 1 = ((i + 1 : Nat) : Int) := wrapi (by omega) (by omega)
    simp only [h1, h2, h3, cond_true, mo, Int.toNat_natCast, set_full]
    exact ih (i + 1) k (by omega) (by omega)

/-- THE LAW. -/
theorem wireWrites_law (b x : List Int) (n : Int) (hb : b.length ≤ 1048576) (hx : x.length ≤ 1048576) (hn : 0 ≤ n ∧ n < 18446744073709551616) : veillaw10_WireWrites 3000000 (b, x, n) () () = some (true, ()) := by
  obtain ⟨w, rfl⟩ : ∃ w : Nat, n = (w : Int) := ⟨n.toNat, by omega⟩
  obtain ⟨t, t1, t2⟩ := enc_all 10 w (by have : (128 : Nat) ^ 10 = 1180591620717411303424 := rfl; omega) (by decide)
  obtain ⟨s, s1, s2⟩ := enc_all 10 x.length (by have : (128 : Nat) ^ 10 = 1180591620717411303424 := rfl; omega) (by decide)
  have k1 := app_number (b := b) 3000000 t1 (by omega) t2 (by omega) (by decide)
  have k2 := app_bytes (b := b) 3000000 s1 s2 (by omega) (by omega) (by decide)
  have k3 := ref_number 3000000 t1 (by omega) t2 (by decide)
  have k4 := ref_number 3000000 s1 (by omega) s2 (by decide)
  have f0 := fill0 3000000 b x (b.length + 3) (x.length + 3) ((b ++ (s ++ x)).length) ((b ++ t).length) (b.length + 3) (x.length + 3) ((b ++ (s ++ x)).length) (b ++ [201, 202, 203]) (x ++ [201, 202, 203]) (b ++ (s ++ x)) (by simp only [List.length_append]; omega) (b ++ t) 0 3000000 (by simp only [List.length_append]; omega) (by omega)
  have f2 := fill2 3000000 b x (b.length + 3) (x.length + 3) ((b ++ t).length) ((b ++ (s ++ x)).length) (b.length + 3) (x.length + 3) ((b ++ t).length) (b ++ [201, 202, 203]) (x ++ [201, 202, 203]) (List.replicate (b ++ t).length 77) (by simp only [List.length_append]; omega) (b ++ (s ++ x)) 0 3000000 (by simp only [List.length_append]; omega) (by omega)
  simp only [List.replicate_zero, List.nil_append] at f0 f2
  rw [show ((0 : Nat) : Int) = 0 from rfl] at f0 f2
  have room : ∀ l : List Int, l.length ≤ 1048576 → decide ((0 + l.length) * 1 ≤ 140737488355328 ∧ 0 + l.length ≤ 9223372036854775807) = true ∧ decide ((0 + l.length + 3) * 1 ≤ 140737488355328 ∧ 0 + l.length + 3 ≤ 9223372036854775807) = true ∧
      decide ((0 : Int) ≤ ((l.length : Nat) : Int) ∧ ((l.length : Nat) : Int) ≤ ((l.length + 3 : Nat) : Int)) = true ∧ decide ((0 : Int) ≤ ((l.length : Nat) : Int) ∧ ((l.length : Nat) : Int) < ((l.length + 3 : Nat) : Int)) = true ∧
      ibin .add .i64 ((l.length : Nat) : Int) 1 = ((l.length + 1 : Nat) : Int) ∧ ibin .add .i64 ((l.length : Nat) : Int) 2 = ((l.length + 2 : Nat) : Int) ∧
      decide ((0 : Int) ≤ ((l.length + 1 : Nat) : Int) ∧ ((l.length + 1 : Nat) : Int) < ((l.length + 3 : Nat) : Int)) = true ∧ decide ((0 : Int) ≤ ((l.length + 2 : Nat) : Int) ∧ ((l.length + 2 : Nat) : Int) < ((l.length + 3 : Nat) : Int)) = true ∧
      List.getD (l ++ [201, 202, 203]) l.length 0 = 201 ∧ List.getD (l ++ [201, 202, 203]) (l.length + 1) 0 = 202 ∧ List.getD (l ++ [201, 202, 203]) (l.length + 2) 0 = 203 ∧ List.take l.length (List.drop 0 (l ++ [201, 202, 203])) = l := fun l hl =>
    ⟨decide_eq_true (by omega), decide_eq_true (by omega), decide_eq_true (by omega), decide_eq_true (by omega), wrapi (by omega) (by omega), wrapi (by omega) (by omega), decide_eq_true (by omega), decide_eq_true (by omega), by simp, by simp, by simp, by simp⟩
  obtain ⟨a1, a2, a3, a4, a5, a6, a7, a8, a9, a10, a11, a12⟩ := room b hb
  obtain ⟨c1, c2, c3, c4, c5, c6, c7, c8, c9, c10, c11, c12⟩ := room x hx
  simp only [Nat.zero_add] at a1 a2 c1 c2
  have z1 : decide ((b.length + t.length) * 1 ≤ 140737488355328 ∧ b.length + t.length ≤ 9223372036854775807) = true := decide_eq_true (by omega)
  have z2 : decide ((s.length + x.length) * 1 ≤ 140737488355328 ∧ s.length + x.length ≤ 9223372036854775807) = true := decide_eq_true (by omega)
  have z3 : decide ((b.length + (s.length + x.length)) * 1 ≤ 140737488355328 ∧ b.length + (s.length + x.length) ≤ 9223372036854775807) = true := decide_eq_true (by omega)
  have z4 : decide (((b ++ t).length + 1) * 1 ≤ 140737488355328 ∧ (b ++ t).length + 1 ≤ 9223372036854775807) = true := decide_eq_true (by simp only [List.length_append]; omega)
  have z5 : decide (((b ++ (s ++ x)).length + 1) * 1 ≤ 140737488355328 ∧ (b ++ (s ++ x)).length + 1 ≤ 9223372036854775807) = true := decide_eq_true (by simp only [List.length_append]; omega)
  have aw : IntKind.wrap .u64 ((x.length : Nat) : Int) = ((x.length : Nat) : Int) := w64n (by omega)
  have tail : ∀ (m : Nat) (v : Int), m ≤ 10000000 → ibin .sub .i64 (((List.replicate m v ++ [v]).length : Nat) : Int) 1 = ((m : Nat) : Int) ∧ decide ((0 : Int) ≤ ((m : Nat) : Int) ∧ ((m : Nat) : Int) < (((List.replicate m v ++ [v]).length : Nat) : Int)) = true ∧ List.getD (List.replicate m v ++ [v]) m 0 = v := by
    intro m v hm
    have hl : (List.replicate m v ++ [v]).length = m + 1 := by simp
    rw [hl]
    refine ⟨?_, decide_eq_true (by omega), by simp⟩
    show IntKind.wrap .i64 _ = _
    rw [wrapi (by omega) (by omega)]
    omega
  obtain ⟨e1, e2, e3⟩ := tail (b ++ t).length 77 (by simp only [List.length_append]; omega)
  obtain ⟨h1, h2, h3⟩ := tail (b ++ (s ++ x)).length 78 (by simp only [List.length_append]; omega)
  have head : ∀ (m : Nat) (v : Int), 0 < m → List.getD (List.replicate m v) 0 0 = v := by
    intro m v hm
    obtain ⟨k, rfl⟩ : ∃ k, m = k + 1 := ⟨m - 1, by omega⟩
    rfl
  have pos : ∀ m : Nat, icmp .eql ((m : Nat) : Int) 0 = false → 0 < m := by
    intro m h
    have : ¬ ((m : Nat) : Int) = 0 := by simpa [icmp] using h
    omega
  unfold veillaw10_WireWrites
  simp only [Nat.zero_add, a1, a2, a3, a4, a5, a6, a7, a8, a9, a10, a11, a12, c1, c2, c3, c4, c5, c6, c7, c8, c9, c10, c11, c12, cond_true, Int.toNat_natCast, k1, k2, k3, k4, mo, z1, z2, z3, z4, z5, aw, beqS, Bool.not_true, cond_false, eql_self, f0, f2, e1, e2, e3, h1, h2, h3, List.length_replicate]
  have last : (bif icmp .eql (((b ++ (s ++ x)).length : Nat) : Int) 0 then (some (true, ()) : Option (Bool × Unit)) else bif decide ((0 : Int) ≤ 0 ∧ 0 < (((b ++ (s ++ x)).length : Nat) : Int)) then some (icmp .eql ((List.replicate (b ++ (s ++ x)).length (78 : Int)).getD 0 0) 78, ()) else none) = some (true, ()) := by
    cases hq : icmp .eql (((b ++ (s ++ x)).length : Nat) : Int) 0 with
    | true => rfl
    | false =>
      have hp := pos _ hq
      have hd : decide ((0 : Int) ≤ 0 ∧ 0 < (((b ++ (s ++ x)).length : Nat) : Int)) = true := decide_eq_true (by omega)
      rw [cond_false, hd, cond_true, head _ _ hp, eql_self]
  cases hq : icmp .eql (((b ++ t).length : Nat) : Int) 0 with
  | true => rw [cond_true]; exact last
  | false =>
    have hp := pos _ hq
    have hd : decide ((0 : Int) ≤ 0 ∧ 0 < (((b ++ t).length : Nat) : Int)) = true := decide_eq_true (by omega)
    rw [cond_false, hd, cond_true, head _ _ hp, eql_self, cond_true]
    exact last

end Go.Vx.Wx
