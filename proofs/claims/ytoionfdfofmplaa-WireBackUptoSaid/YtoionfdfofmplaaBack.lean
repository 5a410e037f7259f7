/- WireBack: the plain law. -/
import Derived.Test.YtoionfdfofmplaaFp
import Derived.KernelRfl
set_option autoImplicit false
set_option linter.unusedVariables false
set_option linter.unusedSimpArgs false
namespace Go.Vx.Wx
open Go Go.Vx

abbrev Byte (x : Int) : Prop := 0 ≤ x ∧ x ≤ 255

theorem byte_nat {x : Int} (h : Byte x) : ∃ n : Nat, n < 256 ∧ x = (n : Int) := ⟨x.toNat, by omega, by omega⟩

theorem wrapi {n : Int} (h0 : -9223372036854775808 ≤ n) (h1 : n ≤ 9223372036854775807) : IntKind.wrap .i64 n = n := by
  have hm : ∀ m : Int, IntKind.wrap .i64 m = if m % 18446744073709551616 ≥ 9223372036854775808 then m % 18446744073709551616 - 18446744073709551616 else m % 18446744073709551616 := by
    intro m
    simp [IntKind.wrap, IntKind.signed, IntKind.bits]
  rw [hm]
  split <;> omega

theorem beqS (a : ByteArray) : (a == a) = true := by
  show (a.data == a.data) = true
  exact beq_self_eq_true _

def orD (v x : Int) (i : Nat) : Int := ibin .or .u64 v (ibin .shl .u64 (IntKind.wrap .u64 (ibin .and .u8 x 127)) ((7 * i : Nat) : Int))
abbrev MdS := (Bool × (Nat × Nat × Nat) × Int)
def badF (b : Nat × List Int) (m : MdS) (e : Int) : Option (Int × MdS) :=
  mo (p_wire_Reader_Fail ((), e) (b.1, b.2) (m.1, (m.2.1.1, m.2.1.2.1, m.2.1.2.2), m.2.2)) none fun r => some (0, (r.2.1, (r.2.2.1.1, r.2.2.1.2.1, r.2.2.1.2.2), r.2.2.2))
def okF (v : Int) (i : Nat) (m : MdS) : Option (Int × MdS) :=
  cond (decide ((0 : Int) ≤ ((i + 1 : Nat) : Int) ∧ ((i + 1 : Nat) : Int) ≤ ((m.2.1.2.1 : Nat) : Int))) (some (v, (m.1, (m.2.1.1 + (i + 1), m.2.1.2.1 - (i + 1), m.2.1.1), m.2.2))) none
def cnt : Nat → Nat → Int → Nat × List Int → MdS → Option (Int × MdS)
  | 0, _, _, b, m => badF b m 102
  | f + 1, i, v, b, m => cond (icmp .eql ((i : Nat) : Int) ((m.2.1.2.1 : Nat) : Int)) (badF b m 100) (
    cond (decide ((0 : Int) ≤ ((i : Nat) : Int) ∧ ((i : Nat) : Int) < ((m.2.1.2.1 : Nat) : Int))) (
      let x := List.getD b.2 (m.2.1.1 + Int.toNat ((i : Nat) : Int)) 0
      cond (cond (Nat.beq i 9) (icmp .gtr x 1) false) (badF b m 102) (
        cond (icmp .lss x 128) (cond (icmp .eql x 0) (cond (Nat.beq i 0) (okF (orD v x i) i m) (badF b m 102)) (okF (orD v x i) i m)) (cnt f (i + 1) (orD v x i) b m))) none)

theorem cnt_io (b : Nat × List Int) (m : MdS) : p_wire_Reader_count () b m = cnt 10 0 0 b m := by kernel_rfl

theorem wrap64 (n : Int) : IntKind.wrap .u64 n = n % 18446744073709551616 := by simp [IntKind.wrap, IntKind.signed, IntKind.bits]
theorem wrap8 (n : Int) : IntKind.wrap .u8 n = n % 256 := by simp [IntKind.wrap, IntKind.signed, IntKind.bits]
theorem ofInt64 {a : Int} (h0 : 0 ≤ a) (h1 : a < 18446744073709551616) : (BitVec.ofInt 64 a).toNat = a.toNat := by
  rw [BitVec.toNat_ofInt]
  omega
theorem u_or {a b : Int} (a0 : 0 ≤ a) (a1 : a < 18446744073709551616) (b0 : 0 ≤ b) (b1 : b < 18446744073709551616) : ibin .or .u64 a b = ((a.toNat ||| b.toNat : Nat) : Int) := by
  show IntKind.wrap .u64 ((BitVec.ofInt 64 a ||| BitVec.ofInt 64 b).toNat : Int) = _
  rw [wrap64, BitVec.toNat_or, ofInt64 a0 a1, ofInt64 b0 b1]
  have : a.toNat ||| b.toNat < 2 ^ 64 := Nat.or_lt_two_pow (by omega) (by omega)
  omega
theorem and127 : ∀ n : Nat, n < 256 → ibin .and .u8 (n : Int) 127 = ((n % 128 : Nat) : Int) := by decide +kernel

/-- One more digit on top. -/
theorem orD_eq {v x i : Nat} (hv : v < 128 ^ i) (hx : x < 256) (hi : i ≤ 9) (hs : i = 9 → x ≤ 1) : orD (v : Int) (x : Int) i = ((v + (x % 128) * 128 ^ i : Nat) : Int) := by
  unfold orD
  rw [and127 x hx, wrap64]
  have hd : x % 128 < 128 := Nat.mod_lt _ (by decide)
  have e128 : 128 ^ i = 2 ^ (7 * i) := by rw [show (128 : Nat) = 2 ^ 7 from rfl, ← Nat.pow_mul]
  have hb : (x % 128) * 128 ^ i < 18446744073709551616 := by
    have hc : i = 0 ∨ i = 1 ∨ i = 2 ∨ i = 3 ∨ i = 4 ∨ i = 5 ∨ i = 6 ∨ i = 7 ∨ i = 8 ∨ i = 9 := by omega
    rcases hc with rfl | rfl | rfl | rfl | rfl | rfl | rfl | rfl | rfl | rfl
    all_goals first | omega | (have := hs rfl; omega)
  have hv64 : v < 18446744073709551616 := by
    have hc : i = 0 ∨ i = 1 ∨ i = 2 ∨ i = 3 ∨ i = 4 ∨ i = 5 ∨ i = 6 ∨ i = 7 ∨ i = 8 ∨ i = 9 := by omega
    rcases hc with rfl | rfl | rfl | rfl | rfl | rfl | rfl | rfl | rfl | rfl <;> omega
  have hsh : ibin .shl .u64 (((x % 128 : Nat) : Int) % 18446744073709551616) ((7 * i : Nat) : Int) = (((x % 128) * 128 ^ i : Nat) : Int) := by
    show IntKind.wrap .u64 ((((x % 128 : Nat) : Int) % 18446744073709551616) * 2 ^ (min (((7 * i : Nat) : Int)).toNat 64)) = _
    rw [Int.toNat_natCast, Nat.min_eq_left (by omega), wrap64, show (((x % 128 : Nat) : Int) % 18446744073709551616) = ((x % 128 : Nat) : Int) by omega]
    have : (((x % 128 : Nat) : Int) * 2 ^ (7 * i)) = (((x % 128) * 128 ^ i : Nat) : Int) := by
      rw [e128]
      push_cast
      rfl
    rw [this]
    omega
  rw [hsh, u_or (by omega) (by omega) (by omega) (by omega), Int.toNat_natCast, Int.toNat_natCast]
  congr 1
  have := Nat.two_pow_add_eq_or_of_lt (i := 7 * i) (b := v) (by rw [← e128]; exact hv) (x % 128)
  rw [e128, Nat.or_comm, Nat.mul_comm (x % 128), ← this]
  omega

/-- The bytes of a number, the lowest digit first, in their shortest form. -/
def Enc : Nat → List Int → Prop
  | _, [] => False
  | v, [d] => d = (v : Int) ∧ v < 128
  | v, x :: t => ∃ n w : Nat, x = (n : Int) ∧ 128 ≤ n ∧ n < 256 ∧ v = (n - 128) + 128 * w ∧ 0 < w ∧ Enc w t

theorem getD_at {l : List Int} {k : Nat} {x : Int} {t : List Int} (h : l.drop k = x :: t) : List.getD l k 0 = x := by
  have := congrArg (fun l => l[0]?) h
  simp only [List.getElem?_drop, Nat.add_zero, List.getElem?_cons_zero] at this
  rw [List.getD_eq_getElem?_getD, this]
  rfl

theorem low_byte : ∀ n : Nat, n < 256 → 128 ≤ n → ibin .or .u8 (((n - 128 : Nat) : Int)) 128 = (n : Int) := by decide +kernel

theorem or128 {v n w : Nat} (h1 : 128 ≤ n) (h2 : n < 256) (hv : v = (n - 128) + 128 * w) : ibin .or .u8 (IntKind.wrap .u8 ((v : Nat) : Int)) 128 = (n : Int) := by
  have key : ∀ m : Nat, m < 256 → ibin .or .u8 (m : Int) 128 = (((m % 128) + 128 : Nat) : Int) := by decide +kernel
  rw [wrap8, show ((v : Nat) : Int) % 256 = ((v % 256 : Nat) : Int) by omega, key _ (Nat.mod_lt _ (by decide))]
  omega

theorem shr7 {v n w : Nat} (h1 : 128 ≤ n) (h2 : n < 256) (hv : v = (n - 128) + 128 * w) (hw : v < 18446744073709551616) : ibin .shr .u64 ((v : Nat) : Int) 7 = ((w : Nat) : Int) := by
  show Int.fdiv ((v : Nat) : Int) (2 ^ (min (7 : Int).toNat 64)) = _
  rw [show (2 : Int) ^ (min (7 : Int).toNat 64) = 128 from rfl, Int.fdiv_eq_ediv_of_nonneg _ (by decide)]
  omega

/-- Every number has its bytes, ten at most. -/
theorem enc_all : ∀ (f : Nat) (w : Nat), w < 128 ^ f → 0 < f → ∃ t, Enc w t ∧ t.length ≤ f
  | 0, w, _, h => absurd h (by decide)
  | f + 1, w, hw, _ => by
    by_cases h : w < 128
    · exact ⟨[(w : Int)], ⟨rfl, h⟩, by simp⟩
    · have hf : 0 < f := by
        rcases Nat.eq_zero_or_pos f with rfl | hf
        · simp at hw; omega
        · exact hf
      obtain ⟨t, h1, h2⟩ := enc_all f (w / 128) (by rw [Nat.pow_succ] at hw; exact Nat.div_lt_of_lt_mul (by rw [Nat.mul_comm]; exact hw)) hf
      cases t with
      | nil => exact h1.elim
      | cons y t => exact ⟨((w % 128 + 128 : Nat) : Int) :: y :: t, ⟨w % 128 + 128, w / 128, rfl, by omega, by omega, by omega, by omega, h1⟩, by simp only [List.length_cons] at h2 ⊢; omega⟩


/-! ### A Reader -/
/-- What is left to a Reader, and its fault. -/
def Rst (l : List Int) (e : Int) (rest : List Int) (m : MdS) : Prop := ∃ lo n z, m = (true, (lo, n, z), e) ∧ lo + n ≤ l.length ∧ rest = (l.drop lo).take n

theorem badF_live (b : Nat × List Int) (lo n z : Nat) (e : Int) : badF b (true, (lo, n, z), 0) e = some (0, (true, (lo, n, z), e)) := by rfl

theorem rest_len {l : List Int} {lo n : Nat} (h : lo + n ≤ l.length) : ((l.drop lo).take n).length = n := by simp; omega

theorem rest_at {l : List Int} {lo n i : Nat} {x : Int} {t : List Int} (h : ((l.drop lo).take n).drop i = x :: t) : List.getD l (lo + i) 0 = x ∧ i < n := by
  have hi : i < n := by
    have := congrArg List.length h
    simp at this
    omega
  refine ⟨?_, hi⟩
  have := congrArg (fun l => l[0]?) h
  simp only [List.getElem?_drop, Nat.add_zero, List.getElem?_cons_zero] at this
  rw [List.getElem?_take_of_lt hi, List.getElem?_drop] at this
  rw [List.getD_eq_getElem?_getD, this]
  rfl

theorem sh (i : Nat) (h : i = 0 ∨ 1 ≤ i) : True := trivial
theorem beq_false {i j : Nat} (h : i ≠ j) : Nat.beq i j = false := by
  cases hq : Nat.beq i j with
  | true => exact absurd (Nat.eq_of_beq_eq_true hq) h
  | false => rfl

theorem small9 {i v n : Nat} (hi : i ≤ 9) (h : v + 128 ^ i * n < 18446744073709551616) : i = 9 → n ≤ 1 := by
  rintro rfl
  omega

theorem cnt_good (l : List Int) (B lo n z : Nat) (e : Int) (hl : l.length ≤ 100000000) (hn : lo + n ≤ l.length) : ∀ (f i v w : Nat) (t r : List Int), f + i = 10 → Enc w t → t.length ≤ f → (0 < i → 0 < w) → v < 128 ^ i →
    ((l.drop lo).take n).drop i = t ++ r → v + 128 ^ i * w < 18446744073709551616 →
    cnt f i (v : Int) (B, l) (true, (lo, n, z), e) = some (((v + 128 ^ i * w : Nat) : Int), (true, (lo + (i + t.length), n - (i + t.length), lo), e)) := by
  intro f
  induction f with
  | zero =>
    intro i v w t r hf he ht hp hv hr hb
    cases t with
    | nil => exact he.elim
    | cons x t => simp at ht
  | succ f ih =>
    intro i v w t r hf he ht hp hv hr hb
    unfold cnt
    match t, he, ht, hr with
    | [], he, _, _ => exact he.elim
    | [d], ⟨hd, hw⟩, _, hr =>
      subst hd
      obtain ⟨hg, hin⟩ := rest_at hr
      have h1 : icmp .eql ((i : Nat) : Int) ((n : Nat) : Int) = false := by
        have : ¬ ((i : Nat) : Int) = ((n : Nat) : Int) := by omega
        simpa [icmp] using this
      have h2 : decide ((0 : Int) ≤ ((i : Nat) : Int) ∧ ((i : Nat) : Int) < ((n : Nat) : Int)) = true := decide_eq_true (by omega)
      have hs := small9 (by omega) hb
      have h3 : cond (Nat.beq i 9) (icmp .gtr (w : Int) 1) false = false := by
        by_cases h9 : i = 9
        · have := hs h9
          subst h9
          show decide _ = false
          exact decide_eq_false (by omega)
        · rw [beq_false h9]; rfl
      have h4 : icmp .lss (w : Int) 128 = true := by simp only [icmp, decide_eq_true_eq]; omega
      have hor := orD_eq hv (show w < 256 by omega) (by omega) hs
      rw [Nat.mod_eq_of_lt hw, Nat.mul_comm w] at hor
      have hok : okF (orD (v : Int) (w : Int) i) i (true, (lo, n, z), e) = some (((v + 128 ^ i * w : Nat) : Int), (true, (lo + (i + [(w : Int)].length), n - (i + [(w : Int)].length), lo), e)) := by
        unfold okF
        have : decide ((0 : Int) ≤ ((i + 1 : Nat) : Int) ∧ ((i + 1 : Nat) : Int) ≤ ((n : Nat) : Int)) = true := decide_eq_true (by omega)
        simp only [this, cond_true, hor, List.length_cons, List.length_nil, Nat.zero_add]
      simp only [h1, h2, Int.toNat_natCast, hg, h3, h4, cond_true, cond_false]
      by_cases h0 : w = 0
      · have hi0 : i = 0 := by
          rcases Nat.eq_zero_or_pos i with h | h
          · exact h
          · have := hp h; omega
        have h5 : icmp .eql (w : Int) 0 = true := by rw [h0]; rfl
        have h6 : Nat.beq i 0 = true := by rw [hi0]; rfl
        simp only [h5, h6, cond_true]
        exact hok
      · have h5 : icmp .eql (w : Int) 0 = false := by
          have : ¬ (w : Int) = 0 := by omega
          simpa [icmp] using this
        simp only [h5, cond_false]
        exact hok
    | x :: y :: t, ⟨c, w', hx, c1, c2, c3, c4, c5⟩, ht, hr =>
      subst hx
      obtain ⟨hg, hin⟩ := rest_at hr
      have h1 : icmp .eql ((i : Nat) : Int) ((n : Nat) : Int) = false := by
        have : ¬ ((i : Nat) : Int) = ((n : Nat) : Int) := by omega
        simpa [icmp] using this
      have h2 : decide ((0 : Int) ≤ ((i : Nat) : Int) ∧ ((i : Nat) : Int) < ((n : Nat) : Int)) = true := decide_eq_true (by omega)
      have h9 : i ≠ 9 := by
        intro h
        have := small9 (by omega) hb h
        omega
      have h3 : cond (Nat.beq i 9) (icmp .gtr (c : Int) 1) false = false := by rw [beq_false h9]; rfl
      have h4 : icmp .lss (c : Int) 128 = false := by simp only [icmp, decide_eq_false_iff_not]; omega
      have hor := orD_eq hv c2 (show i ≤ 9 by omega) (fun h => absurd h h9)
      have hm : c % 128 = c - 128 := by omega
      have hv' : v + c % 128 * 128 ^ i < 128 ^ (i + 1) := by
        rw [Nat.pow_succ]
        have : c % 128 * 128 ^ i ≤ 127 * 128 ^ i := Nat.mul_le_mul_right _ (by omega)
        omega
      have e : v + 128 ^ i * w = v + c % 128 * 128 ^ i + 128 ^ (i + 1) * w' := by
        rw [c3, hm, Nat.pow_succ, Nat.mul_add, Nat.mul_comm (128 ^ i) (c - 128), ← Nat.mul_assoc, Nat.add_assoc]
      simp only [h1, h2, Int.toNat_natCast, hg, h3, h4, cond_true, cond_false, hor]
      rw [ih (i + 1) (v + c % 128 * 128 ^ i) w' (y :: t) r (by omega) c5 (by simp only [List.length_cons] at ht ⊢; omega) (fun _ => c4) hv' (by rw [← List.drop_drop, hr]; rfl) (by rw [← e]; exact hb), ← e]
      simp only [List.length_cons]
      rw [show i + 1 + (t.length + 1) = i + (t.length + 1 + 1) by omega]

theorem cnt_cut (l : List Int) (B lo n z : Nat) (hl : l.length ≤ 100000000) (hn : lo + n ≤ l.length) : ∀ (f i v w : Nat) (p q : List Int), f + i = 10 → Enc w (p ++ q) → q ≠ [] → (p ++ q).length ≤ f → v < 128 ^ i →
    ((l.drop lo).take n).drop i = p → i ≤ n → v + 128 ^ i * w < 18446744073709551616 →
    cnt f i (v : Int) (B, l) (true, (lo, n, z), 0) = some (0, (true, (lo, n, z), 100)) := by
  intro f
  induction f with
  | zero =>
    intro i v w p q hf he hq ht
    cases q with
    | nil => exact absurd rfl hq
    | cons x t => simp at ht
  | succ f ih =>
    intro i v w p q hf he hq ht hv hr hin hb
    unfold cnt
    match p, he, ht, hr with
    | [], _, _, hr =>
      have hi : i = n := by
        have := congrArg List.length hr
        simp at this
        omega
      have h1 : icmp .eql ((i : Nat) : Int) ((n : Nat) : Int) = true := by simp [icmp, hi]
      simp only [h1, cond_true]
      exact badF_live _ _ _ _ _
    | [x], he, ht, hr =>
      match q, hq, he with
      | y :: q, _, ⟨c, w', hx, c1, c2, c3, c4, c5⟩ =>
        subst hx
        obtain ⟨hg, hin⟩ := rest_at hr
        have h1 : icmp .eql ((i : Nat) : Int) ((n : Nat) : Int) = false := by
          have : ¬ ((i : Nat) : Int) = ((n : Nat) : Int) := by omega
          simpa [icmp] using this
        have h2 : decide ((0 : Int) ≤ ((i : Nat) : Int) ∧ ((i : Nat) : Int) < ((n : Nat) : Int)) = true := decide_eq_true (by omega)
        have h9 : i ≠ 9 := by
          intro h
          have := small9 (by omega) hb h
          omega
        have h3 : cond (Nat.beq i 9) (icmp .gtr (c : Int) 1) false = false := by rw [beq_false h9]; rfl
        have h4 : icmp .lss (c : Int) 128 = false := by simp only [icmp, decide_eq_false_iff_not]; omega
        have hor := orD_eq hv c2 (show i ≤ 9 by omega) (fun h => absurd h h9)
        have hm : c % 128 = c - 128 := by omega
        have hv' : v + c % 128 * 128 ^ i < 128 ^ (i + 1) := by
          rw [Nat.pow_succ]
          have : c % 128 * 128 ^ i ≤ 127 * 128 ^ i := Nat.mul_le_mul_right _ (by omega)
          omega
        have e : v + 128 ^ i * w = v + c % 128 * 128 ^ i + 128 ^ (i + 1) * w' := by
          rw [c3, hm, Nat.pow_succ, Nat.mul_add, Nat.mul_comm (128 ^ i) (c - 128), ← Nat.mul_assoc, Nat.add_assoc]
        simp only [h1, h2, Int.toNat_natCast, hg, h3, h4, cond_true, cond_false, hor]
        exact ih (i + 1) (v + c % 128 * 128 ^ i) w' [] (y :: q) (by omega) c5 (by simp) (by simp only [List.length_append, List.length_cons, List.length_nil] at ht ⊢; omega) hv' (by rw [← List.drop_drop, hr]; rfl) (by omega) (by rw [← e]; exact hb)
    | x :: y :: p, ⟨c, w', hx, c1, c2, c3, c4, c5⟩, ht, hr =>
      subst hx
      obtain ⟨hg, hin⟩ := rest_at hr
      have h1 : icmp .eql ((i : Nat) : Int) ((n : Nat) : Int) = false := by
        have : ¬ ((i : Nat) : Int) = ((n : Nat) : Int) := by omega
        simpa [icmp] using this
      have h2 : decide ((0 : Int) ≤ ((i : Nat) : Int) ∧ ((i : Nat) : Int) < ((n : Nat) : Int)) = true := decide_eq_true (by omega)
      have h9 : i ≠ 9 := by
        intro h
        have := small9 (by omega) hb h
        omega
      have h3 : cond (Nat.beq i 9) (icmp .gtr (c : Int) 1) false = false := by rw [beq_false h9]; rfl
      have h4 : icmp .lss (c : Int) 128 = false := by simp only [icmp, decide_eq_false_iff_not]; omega
      have hor := orD_eq hv c2 (show i ≤ 9 by omega) (fun h => absurd h h9)
      have hm : c % 128 = c - 128 := by omega
      have hv' : v + c % 128 * 128 ^ i < 128 ^ (i + 1) := by
        rw [Nat.pow_succ]
        have : c % 128 * 128 ^ i ≤ 127 * 128 ^ i := Nat.mul_le_mul_right _ (by omega)
        omega
      have e : v + 128 ^ i * w = v + c % 128 * 128 ^ i + 128 ^ (i + 1) * w' := by
        rw [c3, hm, Nat.pow_succ, Nat.mul_add, Nat.mul_comm (128 ^ i) (c - 128), ← Nat.mul_assoc, Nat.add_assoc]
      simp only [h1, h2, Int.toNat_natCast, hg, h3, h4, cond_true, cond_false, hor]
      exact ih (i + 1) (v + c % 128 * 128 ^ i) w' (y :: p) q (by omega) c5 hq (by simp only [List.length_append, List.length_cons] at ht ⊢; omega) hv' (by rw [← List.drop_drop, hr]; rfl) (by omega) (by rw [← e]; exact hb)

theorem count_good {l : List Int} {B : Nat} {e : Int} {m : MdS} {t r : List Int} {w : Nat} (hl : l.length ≤ 100000000) (h : Rst l e (t ++ r) m) (he : Enc w t) (ht : t.length ≤ 10) (hw : w < 18446744073709551616) :
    ∃ lo n z m', m = (true, (lo, n, z), e) ∧ m' = (true, (lo + t.length, n - t.length, lo), e) ∧ lo + n ≤ l.length ∧ n = t.length + r.length ∧ r = ((l.drop (lo + t.length)).take (n - t.length)) ∧ p_wire_Reader_count () (B, l) m = some ((w : Int), m') := by
  obtain ⟨lo, n, z, rfl, h1, h2⟩ := h
  have hn : n = t.length + r.length := by
    have := congrArg List.length h2
    rw [rest_len h1] at this
    simp at this
    omega
  refine ⟨lo, n, z, _, rfl, rfl, h1, hn, ?_, ?_⟩
  · have := congrArg (List.drop t.length) h2
    rw [List.drop_append, List.drop_length, Nat.sub_self, List.nil_append, List.drop_zero] at this
    rw [this, List.drop_take, List.drop_drop]
  · rw [cnt_io]
    have := cnt_good l B lo n z e hl h1 10 0 0 w t r rfl he ht (fun h => absurd h (by decide)) (by decide) (by rw [List.drop_zero, ← h2]) (by simpa using hw)
    rw [show ((0 : Nat) : Int) = 0 from rfl] at this
    rw [this]
    simp

theorem count_cut {l : List Int} {B : Nat} {m : MdS} {p q : List Int} {w : Nat} (hl : l.length ≤ 100000000) (h : Rst l 0 p m) (he : Enc w (p ++ q)) (hq : q ≠ []) (ht : (p ++ q).length ≤ 10) (hw : w < 18446744073709551616) :
    ∃ lo n z, m = (true, (lo, n, z), 0) ∧ lo + n ≤ l.length ∧ p = ((l.drop lo).take n) ∧ p_wire_Reader_count () (B, l) m = some (0, (true, (lo, n, z), 100)) := by
  obtain ⟨lo, n, z, rfl, h1, h2⟩ := h
  refine ⟨lo, n, z, rfl, h1, h2, ?_⟩
  rw [cnt_io]
  have := cnt_cut l B lo n z hl h1 10 0 0 w p q rfl he hq ht (by decide) (by rw [List.drop_zero, ← h2]) (by omega) (by simpa using hw)
  rw [show ((0 : Nat) : Int) = 0 from rfl] at this
  exact this

theorem eql_self (a : Int) : icmp .eql a a = true := by simp [icmp]
theorem eql_ne {a b : Int} (h : a ≠ b) : icmp .eql a b = false := by simpa [icmp] using h
theorem neq_self (a : Int) : icmp .neq a a = false := by simp [icmp]
theorem gtr_self (a : Int) : icmp .gtr a a = false := by simp [icmp]

theorem number_good {l : List Int} {B : Nat} {m : MdS} {t r : List Int} {w : Nat} (hl : l.length ≤ 100000000) (h : Rst l 0 (t ++ r) m) (he : Enc w t) (ht : t.length ≤ 10) (hw : w < 18446744073709551616) :
    ∃ m', p_wire_Reader_Number ((), (w : Int)) (B, l) m = some ((w : Int), m') ∧ Rst l 0 r m' := by
  obtain ⟨lo, n, z, m', rfl, rfl, h1, h2, h3, h4⟩ := count_good (B := B) hl h he ht hw
  refine ⟨(true, (lo + t.length, n - t.length, lo), 0), ?_, ⟨_, _, _, rfl, by omega, h3⟩⟩
  have e : p_wire_Reader_Number ((), (w : Int)) (B, l) (true, (lo, n, z), 0) = mo (p_wire_Reader_count () (B, l) (true, (lo, n, z), 0)) none fun r2 =>
    cond (icmp .eql r2.2.2.2 0) (
      cond (icmp .gtr r2.1 (w : Int)) (
        mo (p_wire_Reader_Fail ((), 102) (B, l) (r2.2.1, (lo, n, z), r2.2.2.2)) none fun r3 =>
        some (0, (r3.2.1, (r3.2.2.1.1, r3.2.2.1.2.1, r3.2.2.1.2.2), r3.2.2.2))
      ) (
        some (r2.1, (r2.2.1, (r2.2.2.1.1, r2.2.2.1.2.1, r2.2.2.1.2.2), r2.2.2.2))
      )
    ) (
      some (r2.1, (r2.2.1, (r2.2.2.1.1, r2.2.2.1.2.1, r2.2.2.1.2.2), r2.2.2.2))
    ) := rfl
  rw [e, h4]
  simp only [mo, eql_self, gtr_self, cond_true, cond_false]

theorem number_cut {l : List Int} {B : Nat} {m : MdS} {p q : List Int} {w : Nat} (hl : l.length ≤ 100000000) (h : Rst l 0 p m) (he : Enc w (p ++ q)) (hq : q ≠ []) (ht : (p ++ q).length ≤ 10) (hw : w < 18446744073709551616) :
    ∃ m', p_wire_Reader_Number ((), (w : Int)) (B, l) m = some (0, m') ∧ Rst l 100 p m' := by
  obtain ⟨lo, n, z, rfl, h1, h2, h4⟩ := count_cut (B := B) hl h he hq ht hw
  refine ⟨(true, (lo, n, z), 100), ?_, ⟨_, _, _, rfl, h1, h2⟩⟩
  have e : p_wire_Reader_Number ((), (w : Int)) (B, l) (true, (lo, n, z), 0) = mo (p_wire_Reader_count () (B, l) (true, (lo, n, z), 0)) none fun r2 =>
    cond (icmp .eql r2.2.2.2 0) (
      cond (icmp .gtr r2.1 (w : Int)) (
        mo (p_wire_Reader_Fail ((), 102) (B, l) (r2.2.1, (lo, n, z), r2.2.2.2)) none fun r3 =>
        some (0, (r3.2.1, (r3.2.2.1.1, r3.2.2.1.2.1, r3.2.2.1.2.2), r3.2.2.2))
      ) (
        some (r2.1, (r2.2.1, (r2.2.2.1.1, r2.2.2.1.2.1, r2.2.2.1.2.2), r2.2.2.2))
      )
    ) (
      some (r2.1, (r2.2.1, (r2.2.2.1.1, r2.2.2.1.2.1, r2.2.2.1.2.2), r2.2.2.2))
    ) := rfl
  rw [e, h4]
  have : icmp .eql (100 : Int) 0 = false := rfl
  simp only [mo, this, cond_false]

theorem number_dead {l : List Int} {B : Nat} {m : MdS} {p : List Int} {w : Int} (h : Rst l 100 p m) : p_wire_Reader_Number ((), w) (B, l) m = some (0, m) := by
  obtain ⟨lo, n, z, rfl, h1, h2⟩ := h
  rfl

theorem clone_eq {n : Nat} {x : List Int} (hn : x.length = n) (hx : n ≤ 100000000) : slices_Clone_of_byte_byte ((n, x), ()) = some ((n, x), ()) := by
  unfold slices_Clone_of_byte_byte
  have : decide ((0 + n) * 1 ≤ 140737488355328 ∧ 0 + n ≤ 9223372036854775807) = true := decide_eq_true (by omega)
  simp only [this, cond_true, Nat.zero_add, List.drop_zero] at this ⊢
  rw [this, cond_true, List.take_of_length_le (by omega)]

theorem bytes_open (k : Int) (B : Nat) (l : List Int) (lo n z : Nat) (hk : icmp .lss k 0 = false) : p_wire_Reader_Bytes ((), k) (B, l) (true, (lo, n, z), 0) =
      mo (p_wire_Reader_count () (B, l) (true, (lo, n, z), 0)) none fun r3 =>
      cond (icmp .neq r3.2.2.2 0) (
        some (0, ((r3.2.1, (r3.2.2.1.1, r3.2.2.1.2.1, r3.2.2.1.2.2), r3.2.2.2), (0, [])))
      ) (
        cond (icmp .gtr r3.1 (IntKind.wrap .u64 k)) (
          mo (p_wire_Reader_Fail ((), 103) (B, l) (r3.2.1, (lo, n, z), r3.2.2.2)) none fun r4 =>
          some (0, ((r4.2.1, (r4.2.2.1.1, r4.2.2.1.2.1, r4.2.2.1.2.2), r4.2.2.2), (0, [])))
        ) (
          cond (icmp .gtr r3.1 (IntKind.wrap .u64 ((r3.2.2.1.2.1 : Nat) : Int))) (
            mo (p_wire_Reader_Fail ((), 100) (B, l) (r3.2.1, (lo, n, z), r3.2.2.2)) none fun r5 =>
            some (0, ((r5.2.1, (r5.2.2.1.1, r5.2.2.1.2.1, r5.2.2.1.2.2), r5.2.2.2), (0, [])))
          ) (
            let x1 := (decide ((0 : Int) ≤ r3.1 ∧ r3.1 ≤ ((r3.2.2.1.2.1 : Nat) : Int)))
            cond x1 (
              mo (slices_Clone_of_byte_byte (((Int.toNat r3.1), (List.take (Int.toNat r3.1) (List.drop r3.2.2.1.1 l))), ())) none fun r6 =>
              cond x1 (
                some (r6.1.1, ((r3.2.1, ((r3.2.2.1.1 + (Int.toNat r3.1)), (r3.2.2.1.2.1 - (Int.toNat r3.1)), (cond (Nat.beq (Int.toNat r3.1) 0) r3.2.2.1.2.2 r3.2.2.1.1)), r3.2.2.2), (r6.1.1, r6.1.2)))
              ) (
                none
              )
            ) (
              none
            )
          )
        )
      ) := by
  have e : p_wire_Reader_Bytes ((), k) (B, l) (true, (lo, n, z), 0) = cond (icmp .lss k 0) (
      mo (p_wire_Reader_Fail ((), 1) (B, l) (true, (lo, n, z), 0)) none fun r2 =>
      some (0, ((r2.2.1, (r2.2.2.1.1, r2.2.2.1.2.1, r2.2.2.1.2.2), r2.2.2.2), (0, [])))
    ) _ := rfl
  rw [e, hk]
  rfl

theorem lss0 (k : Nat) : icmp .lss ((k : Nat) : Int) 0 = false := by simp only [icmp, decide_eq_false_iff_not]; omega
theorem w64n {k : Nat} (h : k ≤ 100000000) : IntKind.wrap .u64 ((k : Nat) : Int) = ((k : Nat) : Int) := by rw [wrap64]; omega

theorem bytes_good {l : List Int} {B : Nat} {m : MdS} {t x r : List Int} (hl : l.length ≤ 100000000) (h : Rst l 0 (t ++ (x ++ r)) m) (he : Enc x.length t) (ht : t.length ≤ 10) (hx : x.length ≤ 100000000) :
    ∃ m', p_wire_Reader_Bytes ((), ((x.length : Nat) : Int)) (B, l) m = some (x.length, (m', (x.length, x))) ∧ Rst l 0 r m' := by
  obtain ⟨lo, n, z, m', rfl, rfl, h1, h2, h3, h4⟩ := count_good (B := B) hl h he ht (by omega)
  rw [List.length_append] at h2
  refine ⟨_, ?_, ⟨lo + t.length + x.length, n - t.length - x.length, cond (Nat.beq x.length 0) lo (lo + t.length), rfl, by omega, ?_⟩⟩
  · rw [bytes_open _ _ _ _ _ _ (lss0 _), h4]
    have g1 : icmp .neq (0 : Int) 0 = false := rfl
    have g2 : icmp .gtr ((x.length : Nat) : Int) (IntKind.wrap .u64 ((n - t.length : Nat) : Int)) = false := by
      rw [w64n (by omega)]
      simp only [icmp, decide_eq_false_iff_not]
      omega
    have g3 : decide ((0 : Int) ≤ ((x.length : Nat) : Int) ∧ ((x.length : Nat) : Int) ≤ ((n - t.length : Nat) : Int)) = true := decide_eq_true (by omega)
    have g4 : List.take x.length (List.drop (lo + t.length) l) = x := by
      have := congrArg (List.take x.length) h3
      rw [List.take_left, List.take_take, Nat.min_eq_left (by omega)] at this
      exact this.symm
    simp only [mo, g1, g2, g3, w64n hx, gtr_self, cond_true, cond_false, Int.toNat_natCast, g4, clone_eq rfl hx]
  · have := congrArg (List.drop x.length) h3
    rw [List.drop_left, List.drop_take, List.drop_drop] at this
    exact this

theorem bytes_cut {l : List Int} {B : Nat} {m : MdS} {t x p q : List Int} (hl : l.length ≤ 100000000) (h : Rst l 0 p m) (he : Enc x.length t) (ht : t.length ≤ 10) (hx : x.length ≤ 100000000) (hp : t ++ x = p ++ q) (hq : q ≠ []) :
    ∃ m', p_wire_Reader_Bytes ((), ((x.length : Nat) : Int)) (B, l) m = some (0, (m', (0, []))) ∧ Rst l 100 p m' := by
  rcases List.append_eq_append_iff.1 hp with ⟨s, rfl, hs⟩ | ⟨s, rfl, hs⟩
  · -- the number is whole
    obtain ⟨lo, n, z, m', rfl, rfl, h1, h2, h3, h4⟩ := count_good (B := B) hl h he ht (by omega)
    have hxs : s.length < x.length := by
      rw [hs, List.length_append]
      have : q.length ≠ 0 := fun h => hq (List.length_eq_zero_iff.1 h)
      omega
    have hr : t ++ s = (l.drop lo).take n := by
      obtain ⟨a, b, c, k1, k2, k3⟩ := h
      simp only [Prod.mk.injEq] at k1
      obtain ⟨-, ⟨rfl, rfl, rfl⟩, -⟩ := k1
      exact k3
    refine ⟨(true, (lo, n, z), 100), ?_, ⟨_, _, _, rfl, h1, hr⟩⟩
    rw [bytes_open _ _ _ _ _ _ (lss0 _), h4]
    have g1 : icmp .neq (0 : Int) 0 = false := rfl
    have g2 : icmp .gtr ((x.length : Nat) : Int) (IntKind.wrap .u64 ((n - t.length : Nat) : Int)) = true := by
      rw [w64n (by omega)]
      simp only [icmp, decide_eq_true_eq]
      omega
    simp only [mo, g1, g2, w64n hx, gtr_self, cond_true, cond_false]
    rfl
  · by_cases hs0 : s = []
    · subst hs0
      -- cut just behind the number
      simp only [List.append_nil, List.nil_append] at *
      obtain ⟨lo, n, z, m', rfl, rfl, h1, h2, h3, h4⟩ := count_good (B := B) (r := []) hl (by simpa using h) he ht (by omega)
      have hxs : 0 < x.length := by
        rw [← hs]
        have : q.length ≠ 0 := fun h => hq (List.length_eq_zero_iff.1 h)
        omega
      have hr : p = (l.drop lo).take n := by
        obtain ⟨a, b, c, k1, k2, k3⟩ := h
        simp only [Prod.mk.injEq] at k1
        obtain ⟨-, ⟨rfl, rfl, rfl⟩, -⟩ := k1
        exact k3
      refine ⟨(true, (lo, n, z), 100), ?_, ⟨_, _, _, rfl, h1, hr⟩⟩
      rw [bytes_open _ _ _ _ _ _ (lss0 _), h4]
      have g1 : icmp .neq (0 : Int) 0 = false := rfl
      have g2 : icmp .gtr ((x.length : Nat) : Int) (IntKind.wrap .u64 ((n - p.length : Nat) : Int)) = true := by
        rw [w64n (by omega)]
        simp only [icmp, decide_eq_true_eq]
        simp only [List.length_nil] at h2
        omega
      simp only [mo, g1, g2, w64n hx, gtr_self, cond_true, cond_false]
      rfl
    · obtain ⟨lo, n, z, rfl, h1, h2, h4⟩ := count_cut (B := B) hl h he hs0 ht (by omega)
      refine ⟨(true, (lo, n, z), 100), ?_, ⟨_, _, _, rfl, h1, h2⟩⟩
      rw [bytes_open _ _ _ _ _ _ (lss0 _), h4]
      have g1 : icmp .neq (100 : Int) 0 = true := rfl
      simp only [mo, g1, cond_true]

theorem bytes_dead {l : List Int} {B : Nat} {m : MdS} {p : List Int} {w : Int} (h : Rst l 100 p m) : p_wire_Reader_Bytes ((), w) (B, l) m = some (0, (m, (0, []))) := by
  obtain ⟨lo, n, z, rfl, h1, h2⟩ := h
  rfl

theorem end_none {l : List Int} {B : Nat} {m : MdS} (h : Rst l 0 [] m) : ∃ m', p_wire_Reader_End () (B, l) m = some (0, m') := by
  obtain ⟨lo, n, z, rfl, h1, h2⟩ := h
  have hn : n = 0 := by
    have := congrArg List.length h2
    rw [rest_len h1] at this
    exact this.symm
  subst hn
  exact ⟨_, rfl⟩
theorem end_more {l : List Int} {B : Nat} {m : MdS} {r : List Int} (hr : r ≠ []) (h : Rst l 0 r m) : ∃ m', p_wire_Reader_End () (B, l) m = some (101, m') := by
  obtain ⟨lo, n, z, rfl, h1, h2⟩ := h
  have hn : r.length = n := by rw [h2, rest_len h1]
  cases n with
  | zero => exact absurd (List.length_eq_zero_iff.1 hn) hr
  | succ n =>
    have e : p_wire_Reader_End () (B, l) (true, (lo, n + 1, z), 0) = cond (icmp .gtr ((n + 1 : Nat) : Int) 0) (some (101, (true, (lo, n + 1, z), 101))) (some (0, (true, (lo, n + 1, z), 0))) := rfl
    have g : icmp .gtr ((n + 1 : Nat) : Int) 0 = true := by simp only [icmp, decide_eq_true_eq]; omega
    rw [e, g]
    exact ⟨_, rfl⟩
theorem end_dead {l : List Int} {B : Nat} {m : MdS} {r : List Int} (h : Rst l 100 r m) : ∃ m', p_wire_Reader_End () (B, l) m = some (100, m') := by
  obtain ⟨lo, n, z, rfl, h1, h2⟩ := h
  exact ⟨_, rfl⟩
theorem err_of {l : List Int} {B : Nat} {m : MdS} {e : Int} {r : List Int} (h : Rst l e r m) : p_wire_Reader_Err () (m, (B, l)) () = some (e, ()) := by
  obtain ⟨lo, n, z, rfl, h1, h2⟩ := h
  rfl

/-! ### Things -/
abbrev Th := Bool × Int × List Int
def EncT (a : Th) (s : List Int) : Prop := cond a.1 (∃ t, Enc a.2.2.length t ∧ t.length ≤ 10 ∧ s = t ++ a.2.2) (∃ w : Nat, a.2.1 = (w : Int) ∧ w < 18446744073709551616 ∧ Enc w s ∧ s.length ≤ 10)
def EncL : List Th → List Int → Prop
  | [], s => s = []
  | a :: l, s => ∃ s1 s2, EncT a s1 ∧ EncL l s2 ∧ s = s1 ++ s2
def szT : List Th → Nat
  | [] => 0
  | a :: l => 10 + a.2.2.length + szT l

theorem mem_sz : {l : List Th} → {a : Th} → a ∈ l → a.2.2.length ≤ szT l
  | a :: l, _, .head _ => by simp only [szT]; omega
  | a :: l, _, .tail _ h => by have := mem_sz h; simp only [szT]; omega

theorem th_at {things pre suf : List Th} {a : Th} (h : things = pre ++ a :: suf) : List.getD things pre.length (false, 0, []) = a := by rw [h]; simp

theorem icast (k : Nat) (h : k ≤ 100000000) : ibin .add .i64 ((k : Nat) : Int) 1 = ((k + 1 : Nat) : Int) := wrapi (by omega) (by omega)

/-- One thing is read. -/
theorem step_good {N0 : Nat} {l : List Int} {B : Nat} {want : Int} {things pre suf : List Th} {a : Th} {s r : List Int} {m : MdS} (hl : l.length ≤ 100000000) (ht : things.length ≤ 100000000) (hz : szT things ≤ 100000000) (h : things = pre ++ a :: suf) (he : EncT a s) (hm : Rst l 0 (s ++ r) m) :
    ∃ m', veillaw10_reads_l0 N0 ((things, want, (), (), ((pre.length : Nat) : Int)), (m, (B, l))) = some (.inl ((things, want, (), (), (((pre ++ [a]).length : Nat) : Int)), (m', (B, l)))) ∧ Rst l 0 r m' := by
  have hlen : things.length = pre.length + suf.length + 1 := by rw [h]; simp; omega
  have g1 : icmp .lss ((pre.length : Nat) : Int) ((things.length : Nat) : Int) = true := decide_eq_true (by omega)
  have g2 : decide ((0 : Int) ≤ ((pre.length : Nat) : Int) ∧ ((pre.length : Nat) : Int) < ((things.length : Nat) : Int)) = true := decide_eq_true (by omega)
  have g3 := th_at h
  have g4 := icast pre.length (by omega)
  have g5 : (pre ++ [a]).length = pre.length + 1 := by simp
  have ha : a.2.2.length ≤ szT things := mem_sz (by rw [h]; simp)
  obtain ⟨ab, an, al⟩ := a
  unfold EncT at he
  unfold veillaw10_reads_l0
  cases ab with
  | true =>
    simp only [cond_true] at he
    obtain ⟨t, e1, e2, rfl⟩ := he
    obtain ⟨m', k1, k2⟩ := bytes_good (B := B) hl (by rw [← List.append_assoc]; exact hm) e1 e2 (by simp only at ha; omega)
    have k3 := err_of (B := B) k2
    refine ⟨m', ?_, k2⟩
    simp only [g1, g2, g3, cond_true, Int.toNat_natCast]
    have k1' : p_wire_Reader_Bytes ((), ((al.length : Nat) : Int)) (B, l) (m.1, (m.2.1.1, m.2.1.2.1, m.2.1.2.2), m.2.2) = some (al.length, (m', (al.length, al))) := k1
    have k3' : p_wire_Reader_Err () ((m'.1, (m'.2.1.1, m'.2.1.2.1, m'.2.1.2.2), m'.2.2), (B, l)) () = some (0, ()) := k3
    simp only [k1', k3', mo, eql_self, cond_true, beqS, Bool.not_true, cond_false]
    rw [g4, g5]
  | false =>
    simp only [cond_false] at he
    obtain ⟨w, rfl, e2, e3, e4⟩ := he
    obtain ⟨m', k1, k2⟩ := number_good (B := B) hl hm e3 e4 e2
    have k3 := err_of (B := B) k2
    refine ⟨m', ?_, k2⟩
    simp only [g1, g2, g3, cond_true, cond_false, Int.toNat_natCast]
    have k1' : p_wire_Reader_Number ((), (w : Int)) (B, l) (m.1, (m.2.1.1, m.2.1.2.1, m.2.1.2.2), m.2.2) = some ((w : Int), m') := k1
    have k3' : p_wire_Reader_Err () ((m'.1, (m'.2.1.1, m'.2.1.2.1, m'.2.1.2.2), m'.2.2), (B, l)) () = some (0, ()) := k3
    simp only [k1', k3', mo, eql_self, neq_self, cond_true, cond_false]
    rw [g4, g5]

theorem step_cut {N0 : Nat} {l : List Int} {B : Nat} {want : Int} {things pre suf : List Th} {a : Th} {p q : List Int} {m : MdS} (hl : l.length ≤ 100000000) (ht : things.length ≤ 100000000) (hz : szT things ≤ 100000000) (h : things = pre ++ a :: suf) (he : EncT a (p ++ q)) (hq : q ≠ []) (hm : Rst l 0 p m) :
    ∃ m', veillaw10_reads_l0 N0 ((things, want, (), (), ((pre.length : Nat) : Int)), (m, (B, l))) = some (.inl ((things, want, (), (), (((pre ++ [a]).length : Nat) : Int)), (m', (B, l)))) ∧ Rst l 100 p m' := by
  have hlen : things.length = pre.length + suf.length + 1 := by rw [h]; simp; omega
  have g1 : icmp .lss ((pre.length : Nat) : Int) ((things.length : Nat) : Int) = true := decide_eq_true (by omega)
  have g2 : decide ((0 : Int) ≤ ((pre.length : Nat) : Int) ∧ ((pre.length : Nat) : Int) < ((things.length : Nat) : Int)) = true := decide_eq_true (by omega)
  have g3 := th_at h
  have g4 := icast pre.length (by omega)
  have g5 : (pre ++ [a]).length = pre.length + 1 := by simp
  have g6 : icmp .eql (100 : Int) 0 = false := rfl
  have ha : a.2.2.length ≤ szT things := mem_sz (by rw [h]; simp)
  obtain ⟨ab, an, al⟩ := a
  unfold EncT at he
  unfold veillaw10_reads_l0
  cases ab with
  | true =>
    simp only [cond_true] at he
    obtain ⟨t, e1, e2, e3⟩ := he
    obtain ⟨m', k1, k2⟩ := bytes_cut (B := B) hl hm e1 e2 (by simp only at ha; omega) e3.symm hq
    have k3 := err_of (B := B) k2
    refine ⟨m', ?_, k2⟩
    simp only [g1, g2, g3, cond_true, Int.toNat_natCast]
    have k1' : p_wire_Reader_Bytes ((), ((al.length : Nat) : Int)) (B, l) (m.1, (m.2.1.1, m.2.1.2.1, m.2.1.2.2), m.2.2) = some (0, (m', (0, []))) := k1
    have k3' : p_wire_Reader_Err () ((m'.1, (m'.2.1.1, m'.2.1.2.1, m'.2.1.2.2), m'.2.2), (B, l)) () = some (100, ()) := k3
    simp only [k1', k3', mo, g6, cond_false]
    rw [g4, g5]
  | false =>
    simp only [cond_false] at he
    obtain ⟨w, rfl, e2, e3, e4⟩ := he
    obtain ⟨m', k1, k2⟩ := number_cut (B := B) hl hm e3 hq e4 e2
    have k3 := err_of (B := B) k2
    refine ⟨m', ?_, k2⟩
    simp only [g1, g2, g3, cond_true, cond_false, Int.toNat_natCast]
    have k1' : p_wire_Reader_Number ((), (w : Int)) (B, l) (m.1, (m.2.1.1, m.2.1.2.1, m.2.1.2.2), m.2.2) = some (0, m') := k1
    have k3' : p_wire_Reader_Err () ((m'.1, (m'.2.1.1, m'.2.1.2.1, m'.2.1.2.2), m'.2.2), (B, l)) () = some (100, ()) := k3
    simp only [k1', k3', mo, g6, cond_false]
    rw [g4, g5]

theorem step_dead {N0 : Nat} {l : List Int} {B : Nat} {want : Int} {things pre suf : List Th} {a : Th} {p : List Int} {m : MdS} (ht : things.length ≤ 100000000) (h : things = pre ++ a :: suf) (hm : Rst l 100 p m) :
    veillaw10_reads_l0 N0 ((things, want, (), (), ((pre.length : Nat) : Int)), (m, (B, l))) = some (.inl ((things, want, (), (), (((pre ++ [a]).length : Nat) : Int)), (m, (B, l)))) := by
  have hlen : things.length = pre.length + suf.length + 1 := by rw [h]; simp; omega
  have g1 : icmp .lss ((pre.length : Nat) : Int) ((things.length : Nat) : Int) = true := decide_eq_true (by omega)
  have g2 : decide ((0 : Int) ≤ ((pre.length : Nat) : Int) ∧ ((pre.length : Nat) : Int) < ((things.length : Nat) : Int)) = true := decide_eq_true (by omega)
  have g3 := th_at h
  have g4 := icast pre.length (by omega)
  have g5 : (pre ++ [a]).length = pre.length + 1 := by simp
  have g6 : icmp .eql (100 : Int) 0 = false := rfl
  have k3' : p_wire_Reader_Err () ((m.1, (m.2.1.1, m.2.1.2.1, m.2.1.2.2), m.2.2), (B, l)) () = some (100, ()) := err_of (B := B) hm
  obtain ⟨ab, an, al⟩ := a
  unfold veillaw10_reads_l0
  cases ab with
  | true =>
    simp only [g1, g2, g3, cond_true, Int.toNat_natCast]
    have k1' : p_wire_Reader_Bytes ((), ((al.length : Nat) : Int)) (B, l) (m.1, (m.2.1.1, m.2.1.2.1, m.2.1.2.2), m.2.2) = some (0, (m, (0, []))) := bytes_dead hm
    simp only [k1', k3', mo, g6, cond_false]
    rw [g4, g5]
  | false =>
    simp only [g1, g2, g3, cond_true, cond_false, Int.toNat_natCast]
    have k1' : p_wire_Reader_Number ((), an) (B, l) (m.1, (m.2.1.1, m.2.1.2.1, m.2.1.2.2), m.2.2) = some (0, m) := number_dead hm
    simp only [k1', k3', mo, g6, cond_false]
    rw [g4, g5]

theorem loop_end {N0 : Nat} {l : List Int} {B : Nat} {want : Int} {things : List Th} {m : MdS} {k : Nat} : loopF (veillaw10_reads_l0 N0) (k + 1) ((things, want, (), (), ((things.length : Nat) : Int)), (m, (B, l))) = some (.inl ((want, ()), (m, (B, l)))) := by
  rw [loopF_succ]
  unfold veillaw10_reads_l0
  have g1 : icmp .lss ((things.length : Nat) : Int) ((things.length : Nat) : Int) = false := by simp [icmp]
  simp only [g1, cond_false, mo]

theorem dead_loop {N0 : Nat} {l : List Int} {B : Nat} {want : Int} {things : List Th} {p : List Int} {m : MdS} (ht : things.length ≤ 100000000) (hm : Rst l 100 p m) : ∀ (suf pre : List Th) (f : Nat), things = pre ++ suf → suf.length + 1 ≤ f →
    loopF (veillaw10_reads_l0 N0) f ((things, want, (), (), ((pre.length : Nat) : Int)), (m, (B, l))) = some (.inl ((want, ()), (m, (B, l)))) := by
  intro suf
  induction suf with
  | nil =>
    intro pre f h hf
    obtain ⟨k, rfl⟩ : ∃ k, f = k + 1 := ⟨f - 1, by omega⟩
    rw [List.append_nil] at h
    subst h
    exact loop_end
  | cons a suf ih =>
    intro pre f h hf
    obtain ⟨k, rfl⟩ : ∃ k, f = k + 1 := ⟨f - 1, by omega⟩
    rw [loopF_succ, step_dead ht h hm]
    exact ih (pre ++ [a]) k (by rw [h]; simp) (by simp only [List.length_cons] at hf; omega)

theorem good_loop {N0 : Nat} {l : List Int} {B : Nat} {want : Int} {things : List Th} (hl : l.length ≤ 100000000) (ht : things.length ≤ 100000000) (hz : szT things ≤ 100000000) : ∀ (suf pre : List Th) (f : Nat) (s r : List Int) (m : MdS), things = pre ++ suf → suf.length + 1 ≤ f → EncL suf s → Rst l 0 (s ++ r) m →
    ∃ m', loopF (veillaw10_reads_l0 N0) f ((things, want, (), (), ((pre.length : Nat) : Int)), (m, (B, l))) = some (.inl ((want, ()), (m', (B, l)))) ∧ Rst l 0 r m' := by
  intro suf
  induction suf with
  | nil =>
    intro pre f s r m h hf he hm
    obtain ⟨k, rfl⟩ : ∃ k, f = k + 1 := ⟨f - 1, by omega⟩
    rw [List.append_nil] at h
    subst h
    have he : s = [] := he
    subst he
    exact ⟨m, loop_end, hm⟩
  | cons a suf ih =>
    intro pre f s r m h hf he hm
    obtain ⟨k, rfl⟩ : ∃ k, f = k + 1 := ⟨f - 1, by omega⟩
    obtain ⟨s1, s2, e1, e2, rfl⟩ := he
    rw [List.append_assoc] at hm
    obtain ⟨m1, k1, k2⟩ := step_good (N0 := N0) (B := B) (want := want) hl ht hz h e1 hm
    obtain ⟨m2, k3, k4⟩ := ih (pre ++ [a]) k s2 r m1 (by rw [h]; simp) (by simp only [List.length_cons] at hf; omega) e2 k2
    refine ⟨m2, ?_, k4⟩
    rw [loopF_succ, k1]
    exact k3

theorem cut_loop {N0 : Nat} {l : List Int} {B : Nat} {want : Int} {things : List Th} (hl : l.length ≤ 100000000) (ht : things.length ≤ 100000000) (hz : szT things ≤ 100000000) : ∀ (suf pre : List Th) (f : Nat) (p q : List Int) (m : MdS), things = pre ++ suf → suf.length + 1 ≤ f → EncL suf (p ++ q) → q ≠ [] → Rst l 0 p m →
    ∃ m' p', loopF (veillaw10_reads_l0 N0) f ((things, want, (), (), ((pre.length : Nat) : Int)), (m, (B, l))) = some (.inl ((want, ()), (m', (B, l)))) ∧ Rst l 100 p' m' := by
  intro suf
  induction suf with
  | nil =>
    intro pre f p q m h hf he hq hm
    have he : p ++ q = [] := he
    exact absurd (List.append_eq_nil_iff.1 he).2 hq
  | cons a suf ih =>
    intro pre f p q m h hf he hq hm
    obtain ⟨k, rfl⟩ : ∃ k, f = k + 1 := ⟨f - 1, by omega⟩
    obtain ⟨s1, s2, e1, e2, e3⟩ := he
    have go : ∀ (u v : List Int), p = s1 ++ u → s2 = u ++ v → v = q → ∃ m' p', loopF (veillaw10_reads_l0 N0) (k + 1) ((things, want, (), (), ((pre.length : Nat) : Int)), (m, (B, l))) = some (.inl ((want, ()), (m', (B, l)))) ∧ Rst l 100 p' m' := by
      rintro u v rfl rfl rfl
      obtain ⟨m1, k1, k2⟩ := step_good (N0 := N0) (B := B) (want := want) hl ht hz h e1 hm
      obtain ⟨m2, p', k3, k4⟩ := ih (pre ++ [a]) k u v m1 (by rw [h]; simp) (by simp only [List.length_cons] at hf; omega) e2 hq k2
      refine ⟨m2, p', ?_, k4⟩
      rw [loopF_succ, k1]
      exact k3
    rcases List.append_eq_append_iff.1 e3 with ⟨u, hu, hv⟩ | ⟨u, hu, hv⟩
    · -- s1 = p ++ u, q = u ++ s2
      by_cases h0 : u = []
      · subst h0
        exact go [] q (by rw [hu]; simp) (by rw [hv]; simp) rfl
      · obtain ⟨m1, k1, k2⟩ := step_cut (N0 := N0) (B := B) (want := want) hl ht hz h (by rw [← hu]; exact e1) h0 hm
        refine ⟨m1, p, ?_, k2⟩
        rw [loopF_succ, k1]
        exact dead_loop ht k2 suf (pre ++ [a]) k (by rw [h]; simp) (by simp only [List.length_cons] at hf; omega)
    · exact go u q hu hv rfl

/-! ### NewReader and reads -/
theorem new_reader {l : List Int} {B n : Nat} (hl : l.length ≤ 100000000) (hn : n ≤ l.length) : wire_NewReader (0, n, 0) (B, l) () = some ((), ((true, (0, n, 0), 0), (n, l.take n))) := by
  unfold wire_NewReader
  have : (List.take n (List.drop 0 l)).length = n := by simp; omega
  rw [clone_eq this (by omega)]
  rfl
theorem rst_new {l : List Int} {n : Nat} (hn : n ≤ l.length) : Rst (l.take n) 0 (l.take n) (true, (0, n, 0), 0) :=
  ⟨0, n, 0, rfl, by simp; omega, by rw [List.drop_zero, List.take_take, Nat.min_self]⟩

theorem reads_open {N : Nat} {things : List Th} {want : Int} {l : List Int} {B n : Nat} (hl : l.length ≤ 100000000) (hn : n ≤ l.length) {m : MdS} (h : loopF (veillaw10_reads_l0 N) N ((things, want, (), (), (((([] : List Th).length : Nat)) : Int)), ((true, (0, n, 0), 0), (n, l.take n))) = some (.inl ((want, ()), (m, (n, l.take n)))))
    {m' : MdS} (he : p_wire_Reader_End () (n, l.take n) m = some (want, m')) : veillaw10_reads N (things, (0, n, 0), want) (B, l) () = some (true, ()) := by
  unfold veillaw10_reads
  rw [new_reader hl hn]
  have h' : loopF (veillaw10_reads_l0 N) N ((things, want, (), (), 0), ((true, (0, n, 0), 0), (n, l.take n))) = some (.inl ((want, ()), (m, (n, l.take n)))) := h
  have he' : p_wire_Reader_End () (n, l.take n) (m.1, (m.2.1.1, m.2.1.2.1, m.2.1.2.2), m.2.2) = some (want, m') := he
  simp only [mo, h', he', eql_self]

theorem reads_good {N : Nat} {things : List Th} {s l : List Int} {B : Nat} (hN : things.length + 1 ≤ N) (ht : things.length ≤ 100000000) (hz : szT things ≤ 100000000) (he : EncL things s) (hl : l.length ≤ 100000000) (hs : l = s) : veillaw10_reads N (things, (0, l.length, 0), 0) (B, l) () = some (true, ()) := by
  subst hs
  have hr := rst_new (l := l) (n := l.length) (Nat.le_refl _)
  obtain ⟨m', k1, k2⟩ := good_loop (N0 := N) (B := l.length) (want := 0) (l := l.take l.length) (by simp; omega) ht hz things [] N l [] _ rfl hN he (by rw [List.append_nil]; simpa using hr)
  obtain ⟨m2, k3⟩ := end_none (B := l.length) k2
  exact reads_open hl (Nat.le_refl _) k1 k3

theorem reads_more {N : Nat} {things : List Th} {s r l : List Int} {B : Nat} (hN : things.length + 1 ≤ N) (ht : things.length ≤ 100000000) (hz : szT things ≤ 100000000) (he : EncL things s) (hr0 : r ≠ []) (hl : l.length ≤ 100000000) (hs : l = s ++ r) : veillaw10_reads N (things, (0, l.length, 0), 101) (B, l) () = some (true, ()) := by
  have hr := rst_new (l := l) (n := l.length) (Nat.le_refl _)
  obtain ⟨m', k1, k2⟩ := good_loop (N0 := N) (B := l.length) (want := 101) (l := l.take l.length) (by simp; omega) ht hz things [] N s r _ rfl hN he (by rw [← hs]; simpa using hr)
  obtain ⟨m2, k3⟩ := end_more (B := l.length) hr0 k2
  exact reads_open hl (Nat.le_refl _) k1 k3

theorem reads_cut {N : Nat} {things : List Th} {l : List Int} {B n : Nat} (hN : things.length + 1 ≤ N) (ht : things.length ≤ 100000000) (hz : szT things ≤ 100000000) (he : EncL things l) (hl : l.length ≤ 100000000) (hn : n < l.length) : veillaw10_reads N (things, (0, n, 0), 100) (B, l) () = some (true, ()) := by
  have hr := rst_new (l := l) (n := n) (by omega)
  obtain ⟨m', p', k1, k2⟩ := cut_loop (N0 := N) (B := n) (want := 100) (l := l.take n) (by simp; omega) ht hz things [] N (l.take n) (l.drop n) _ rfl hN (by rw [List.take_append_drop]; exact he) (by
    intro h
    have := congrArg List.length h
    simp at this
    omega) hr
  obtain ⟨m2, k3⟩ := end_dead (B := n) k2
  exact reads_open hl (by omega) k1 k3

/-! ### Writing -/
theorem app_loop (N : Nat) : ∀ (t : List Int) (w : Nat) (out : List Int) (f : Nat), Enc w t → w < 18446744073709551616 → t.length ≤ f → out.length + t.length ≤ 200000000 →
    ∃ (init : List Int) (d : Nat), t = init ++ [(d : Int)] ∧ d < 128 ∧
      loopF (wire_AppendNumber_l0 N) f ((((w : Nat) : Int), (), out.length), (out.length, out)) = some (.inl (((d : Int), (out ++ init).length), ((out ++ init).length, out ++ init)))
  | [], w, out, f, h, _, _, _ => h.elim
  | [d], w, out, f, h, hw, hf, _ => by
    obtain ⟨k, rfl⟩ : ∃ k, f = k + 1 := ⟨f - 1, by simp at hf; omega⟩
    obtain ⟨h1, h2⟩ := h
    refine ⟨[], w, by rw [h1]; rfl, h2, ?_⟩
    rw [loopF_succ]
    unfold wire_AppendNumber_l0
    have h3 : icmp .gtr ((w : Nat) : Int) 127 = false := by simp only [icmp, decide_eq_false_iff_not]; omega
    simp only [h3, cond_false, mo, List.append_nil]
  | x :: y :: t, w, out, f, h, hw, hf, ht => by
    obtain ⟨k, rfl⟩ : ∃ k, f = k + 1 := ⟨f - 1, by simp at hf; omega⟩
    obtain ⟨n, w', rfl, h1, h2, h3, h4, h5⟩ := h
    obtain ⟨init, d, q1, q2, q4⟩ := app_loop N (y :: t) w' (out ++ [(n : Int)]) k h5 (by omega) (by simp only [List.length_cons] at hf ⊢; omega) (by simp only [List.length_append, List.length_cons, List.length_nil] at ht ⊢; omega)
    refine ⟨(n : Int) :: init, d, by rw [q1]; rfl, q2, ?_⟩
    rw [loopF_succ]
    unfold wire_AppendNumber_l0
    have g1 : icmp .gtr ((w : Nat) : Int) 127 = true := by simp only [icmp, decide_eq_true_eq]; omega
    have g2 : decide ((out.length + 1) * 1 ≤ 140737488355328 ∧ out.length + 1 ≤ 9223372036854775807) = true := by simp only [decide_eq_true_eq]; simp only [List.length_cons] at ht; omega
    simp only [g1, g2, cond_true, mo, or128 h1 h2 h3, shr7 h1 h2 h3 hw]
    have e : (out ++ [(n : Int)]).length = out.length + 1 := by simp
    rw [e] at q4
    refine Eq.trans q4 ?_
    simp

theorem app_number (N : Nat) {w : Nat} {t b : List Int} (h : Enc w t) (hw : w < 18446744073709551616) (ht : t.length ≤ 10) (hb : b.length ≤ 100000000) (hN : 10 ≤ N) : wire_AppendNumber N ((b.length, b), ()) ((w : Nat) : Int) = some (((b ++ t).length, b ++ t), ()) := by
  obtain ⟨init, d, q1, q2, q4⟩ := app_loop N t w b N h hw (by omega) (by omega)
  have hl : t.length = init.length + 1 := by rw [q1]; simp
  have e1 : ibin .add .i64 0 ((b.length : Nat) : Int) = ((b.length : Nat) : Int) := by
    show IntKind.wrap .i64 _ = _
    rw [Int.zero_add, wrapi (by omega) (by omega)]
  have e2 : ibin .add .i64 ((b.length : Nat) : Int) 0 = ((b.length : Nat) : Int) := by
    show IntKind.wrap .i64 _ = _
    rw [Int.add_zero, wrapi (by omega) (by omega)]
  have e3 : ibin .sub .i64 ((b.length : Nat) : Int) 0 = ((b.length : Nat) : Int) := by
    show IntKind.wrap .i64 _ = _
    rw [Int.sub_zero, wrapi (by omega) (by omega)]
  have g1 : decide (b.length * 1 ≤ 140737488355328 ∧ b.length ≤ 9223372036854775807) = true := decide_eq_true (by omega)
  have g2 : decide ((0 : Int) ≤ 0 ∧ 0 ≤ ((b.length : Nat) : Int)) = true := decide_eq_true (by omega)
  have g3 : decide (((b ++ init).length + 1) * 1 ≤ 140737488355328 ∧ (b ++ init).length + 1 ≤ 9223372036854775807) = true := decide_eq_true (by simp only [List.length_append]; omega)
  have hd : IntKind.wrap .u8 (d : Int) = (d : Int) := by rw [wrap8]; omega
  have fin : (some (((b ++ init).length + 1, (b ++ init) ++ [(d : Int)]), ()) : Option ((Nat × List Int) × Unit)) = some (((b ++ t).length, b ++ t), ()) := by
    rw [q1]
    simp only [List.length_append, List.length_cons, List.length_nil, List.append_assoc]
    rfl
  unfold wire_AppendNumber
  simp only [e1, e2, e3, lss0, cond_false, Int.toNat_natCast, Nat.zero_add, g1, g2, List.take_zero, List.nil_append, q4, mo, g3, hd, cond_true, fin]
  cases hc : icmp .gtr ((b.length : Nat) : Int) 0 with
  | false => rfl
  | true =>
    have g4 : decide ((0 : Int) < ((b.length : Nat) : Int)) = true := hc
    simp only [g4, Bool.and_true, cond_true]

/-- What the things' bytes are. -/
theorem write_loop (N0 : Nat) {things : List Th} {cut : Int} (hk : ∀ a ∈ things, 0 ≤ a.2.1 ∧ a.2.1 < 18446744073709551616) (ht : things.length ≤ 100000000) (hN : 10 ≤ N0) : ∀ (suf pre : List Th) (f : Nat) (b : List Int), things = pre ++ suf → suf.length + 1 ≤ f → b.length + szT suf ≤ 100000000 →
    ∃ s, EncL suf s ∧ b.length + s.length ≤ b.length + szT suf ∧ loopF (veillaw10_WireBack_l0 N0) f ((things, cut, (), b.length, ((pre.length : Nat) : Int)), (b.length, b)) = some (.inl ((things, cut, (b ++ s).length), ((b ++ s).length, b ++ s))) := by
  intro suf
  induction suf with
  | nil =>
    intro pre f b h hf hz
    obtain ⟨k, rfl⟩ : ∃ k, f = k + 1 := ⟨f - 1, by omega⟩
    rw [List.append_nil] at h
    subst h
    refine ⟨[], rfl, by simp, ?_⟩
    rw [loopF_succ]
    unfold veillaw10_WireBack_l0
    have g1 : icmp .lss ((things.length : Nat) : Int) ((things.length : Nat) : Int) = false := by simp [icmp]
    simp only [g1, cond_false, mo, List.append_nil]
  | cons a suf ih =>
    intro pre f b h hf hz
    obtain ⟨k, rfl⟩ : ∃ k, f = k + 1 := ⟨f - 1, by omega⟩
    have hlen : things.length = pre.length + suf.length + 1 := by rw [h]; simp; omega
    have g1 : icmp .lss ((pre.length : Nat) : Int) ((things.length : Nat) : Int) = true := decide_eq_true (by omega)
    have g2 : decide ((0 : Int) ≤ ((pre.length : Nat) : Int) ∧ ((pre.length : Nat) : Int) < ((things.length : Nat) : Int)) = true := decide_eq_true (by omega)
    have g3 := th_at h
    have g4 := icast pre.length (by omega)
    have g5 : (pre ++ [a]).length = pre.length + 1 := by simp
    have ha := hk a (by rw [h]; simp)
    simp only [szT] at hz
    have step : ∃ s1, EncT a s1 ∧ s1.length ≤ 10 + a.2.2.length ∧ veillaw10_WireBack_l0 N0 ((things, cut, (), b.length, ((pre.length : Nat) : Int)), (b.length, b)) = some (.inl ((things, cut, (), (b ++ s1).length, (((pre ++ [a]).length : Nat) : Int)), ((b ++ s1).length, b ++ s1))) := by
      obtain ⟨ab, an, al⟩ := a
      simp only at ha hz
      unfold veillaw10_WireBack_l0
      cases ab with
      | true =>
        obtain ⟨t, t1, t2⟩ := enc_all 10 al.length (by have : (128 : Nat) ^ 10 = 1180591620717411303424 := rfl; omega) (by decide)
        refine ⟨t ++ al, ⟨t, t1, t2, rfl⟩, by simp only [List.length_append]; omega, ?_⟩
        have ab := app_number (b := b) N0 t1 (by omega) t2 (by omega) hN
        have ad : decide (((b ++ t).length + al.length) * 1 ≤ 140737488355328 ∧ (b ++ t).length + al.length ≤ 9223372036854775807) = true := decide_eq_true (by simp only [List.length_append]; omega)
        have aw : IntKind.wrap .u64 ((al.length : Nat) : Int) = ((al.length : Nat) : Int) := w64n (by omega)
        simp only [g1, g2, g3, cond_true, Int.toNat_natCast, aw, ab, ad, mo, g4, g5]
        rw [← List.append_assoc, List.length_append (as := b ++ t)]
      | false =>
        obtain ⟨w, rfl⟩ : ∃ w : Nat, an = (w : Int) := ⟨an.toNat, by omega⟩
        obtain ⟨t, t1, t2⟩ := enc_all 10 w (by have : (128 : Nat) ^ 10 = 1180591620717411303424 := rfl; omega) (by decide)
        refine ⟨t, ⟨w, rfl, by omega, t1, t2⟩, by simp only []; omega, ?_⟩
        have ab := app_number (b := b) N0 t1 (by omega) t2 (by omega) hN
        simp only [g1, g2, g3, cond_true, cond_false, Int.toNat_natCast, ab, mo, g4, g5]
    obtain ⟨s1, e1, e2, e3⟩ := step
    obtain ⟨s2, f1, f2, f3⟩ := ih (pre ++ [a]) k (b ++ s1) (by rw [h]; simp) (by simp only [List.length_cons] at hf; omega) (by simp only [List.length_append]; omega)
    refine ⟨s1 ++ s2, ⟨s1, s2, e1, f1, rfl⟩, by simp only [List.length_append, szT] at f2 ⊢; omega, ?_⟩
    rw [loopF_succ, e3, ← List.append_assoc]
    exact f3

theorem live_ok : veillaw10_live 3000000 = some true := by kernel_rfl

theorem len_sz : (l : List Th) → l.length ≤ szT l
  | [] => Nat.le_refl _
  | a :: l => by have := len_sz l; simp only [szT, List.length_cons]; omega

/-- THE LAW. -/
theorem wireBack_law (things : List Th) (cut : Int) (hk : ∀ a ∈ things, 0 ≤ a.2.1 ∧ a.2.1 < 18446744073709551616) (ht : things.length ≤ 2000000) (hz : szT things ≤ 90000000) : veillaw10_WireBack 3000000 (things, cut) () () = some (true, ()) := by
  obtain ⟨s, w1, w2, w3⟩ := write_loop 3000000 (cut := cut) hk (by omega) (by decide) things [] 3000000 [] rfl (by omega) (by simp; omega)
  simp only [List.nil_append, List.length_nil, Nat.zero_add] at w2 w3
  have w3' : loopF (veillaw10_WireBack_l0 3000000) 3000000 ((things, cut, (), 0, 0), (0, [])) = some (.inl ((things, cut, s.length), (s.length, s))) := w3
  have r1 := reads_good (N := 3000000) (B := s.length) (by omega) (by omega) (by omega) w1 (by omega) (l := s) rfl
  have r2 := reads_more (N := 3000000) (B := s.length + 1) (r := [0]) (by omega) (by omega) (by omega) w1 (by simp) (l := s ++ [0]) (by simp; omega) rfl
  rw [List.length_append, List.length_singleton] at r2
  have g1 : decide (s.length * 1 ≤ 140737488355328 ∧ s.length ≤ 9223372036854775807) = true := decide_eq_true (by omega)
  have g2 : decide ((s.length + 1) * 1 ≤ 140737488355328 ∧ s.length + 1 ≤ 9223372036854775807) = true := decide_eq_true (by omega)
  unfold veillaw10_WireBack
  simp only [live_ok, w3', mo, Bool.not_true, cond_false, r1, r2, Nat.zero_add, g1, g2, cond_true]
  cases h0 : icmp .eql ((s.length : Nat) : Int) 0 with
  | true => rfl
  | false =>
    have h0' : ¬ ((s.length : Nat) : Int) = 0 := by simpa [icmp] using h0
    have h1 : (((s.length : Nat) : Int) == 0) = false := by simpa using h0'
    simp only [h1, cond_false]
    have hr : ibin .rem .i64 cut ((s.length : Nat) : Int) = Int.tmod cut ((s.length : Nat) : Int) := rfl
    have b1 := Int.lt_tmod_of_pos cut (show (0 : Int) < ((s.length : Nat) : Int) by omega)
    have b2 := Int.tmod_lt_of_pos cut (show (0 : Int) < ((s.length : Nat) : Int) by omega)
    rw [hr]
    generalize Int.tmod cut ((s.length : Nat) : Int) = k at b1 b2
    cases hc : icmp .lss k 0 with
    | true =>
      have hc' : k < 0 := by simpa [icmp] using hc
      have ha : ibin .add .i64 k ((s.length : Nat) : Int) = k + ((s.length : Nat) : Int) := wrapi (by omega) (by omega)
      have g3 : decide ((0 : Int) ≤ k + ((s.length : Nat) : Int) ∧ k + ((s.length : Nat) : Int) ≤ ((s.length : Nat) : Int)) = true := decide_eq_true (by omega)
      have r3 := reads_cut (N := 3000000) (B := s.length) (n := (k + ((s.length : Nat) : Int)).toNat) (by omega) (by omega) (by omega) w1 (by omega) (by omega)
      simp only [cond_true, ha, g3, r3]
    | false =>
      have hc' : ¬ k < 0 := by simpa [icmp] using hc
      have g3 : decide ((0 : Int) ≤ k ∧ k ≤ ((s.length : Nat) : Int)) = true := decide_eq_true (by omega)
      have r3 := reads_cut (N := 3000000) (B := s.length) (n := k.toNat) (by omega) (by omega) (by omega) w1 (by omega) (by omega)
      simp only [cond_false, cond_true, g3, r3]

end Go.Vx.Wx
