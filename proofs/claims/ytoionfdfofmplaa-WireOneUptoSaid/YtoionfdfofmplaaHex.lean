/- WireHex: the plain law. -/
import Derived.Test.YtoionfdfofmplaaFp
set_option autoImplicit false
set_option linter.unusedVariables false
set_option linter.unusedSimpArgs false
namespace Go.Vx.Wx
open Go Go.Vx

abbrev Dg : ByteArray := ByteArray.mk (List.toArray [48, 49, 50, 51, 52, 53, 54, 55, 56, 57, 97, 98, 99, 100, 101, 102])
def hexI (x : Int) : List Int := [strAt Dg (ibin .shr .u8 x 4), strAt Dg (ibin .and .u8 x 15)]
abbrev Byte (x : Int) : Prop := 0 ≤ x ∧ x ≤ 255

theorem byte_nat {x : Int} (h : Byte x) : ∃ n : Nat, n < 256 ∧ x = (n : Int) := ⟨x.toNat, by omega, by omega⟩

theorem ct {α : Type} {b : Bool} {x y : α} (h : b = true) : cond b x y = x := by rw [h]; rfl
theorem cf {α : Type} {b : Bool} {x y : α} (h : b = false) : cond b x y = y := by rw [h]; rfl

theorem wrapi {n : Int} (h0 : -9223372036854775808 ≤ n) (h1 : n ≤ 9223372036854775807) : IntKind.wrap .i64 n = n := by
  have hm : ∀ m : Int, IntKind.wrap .i64 m = if m % 18446744073709551616 ≥ 9223372036854775808 then m % 18446744073709551616 - 18446744073709551616 else m % 18446744073709551616 := by
    intro m
    simp [IntKind.wrap, IntKind.signed, IntKind.bits]
  rw [hm]
  split <;> omega

theorem beqS (a : ByteArray) : (a == a) = true := by
  show (a.data == a.data) = true
  exact beq_self_eq_true _

theorem b_shr : ∀ n : Nat, n < 256 → decide (0 ≤ ibin .shr .u8 (n : Int) 4 ∧ ibin .shr .u8 (n : Int) 4 < ((16 : Nat) : Int)) = true := by decide +kernel
theorem b_and : ∀ n : Nat, n < 256 → decide (0 ≤ ibin .and .u8 (n : Int) 15 ∧ ibin .and .u8 (n : Int) 15 < ((16 : Nat) : Int)) = true := by decide +kernel
theorem b_quo : ∀ n : Nat, n < 256 → decide (0 ≤ ibin .add .u8 (ibin .quo .u8 (n : Int) 16) 1 ∧ ibin .add .u8 (ibin .quo .u8 (n : Int) 16) 1 ≤ ((16 : Nat) : Int)) = true := by decide +kernel
theorem b_quo' : ∀ n : Nat, n < 256 → decide (0 ≤ ibin .quo .u8 (n : Int) 16 ∧ ibin .quo .u8 (n : Int) 16 ≤ ((Int.toNat (ibin .add .u8 (ibin .quo .u8 (n : Int) 16) 1) : Nat) : Int)) = true := by decide +kernel
theorem b_rem : ∀ n : Nat, n < 256 → decide (0 ≤ ibin .add .u8 (ibin .rem .u8 (n : Int) 16) 1 ∧ ibin .add .u8 (ibin .rem .u8 (n : Int) 16) 1 ≤ ((16 : Nat) : Int)) = true := by decide +kernel
theorem b_rem' : ∀ n : Nat, n < 256 → decide (0 ≤ ibin .rem .u8 (n : Int) 16 ∧ ibin .rem .u8 (n : Int) 16 ≤ ((Int.toNat (ibin .add .u8 (ibin .rem .u8 (n : Int) 16) 1) : Nat) : Int)) = true := by decide +kernel
theorem b_hi : ∀ n : Nat, n < 256 → (ByteArray.extract Dg (Int.toNat (ibin .quo .u8 (n : Int) 16)) (Int.toNat (ibin .add .u8 (ibin .quo .u8 (n : Int) 16) 1))).data = (List.map (fun m : Int => UInt8.ofNat m.toNat) [strAt Dg (ibin .shr .u8 (n : Int) 4)]).toArray := by decide +kernel
theorem b_lo : ∀ n : Nat, n < 256 → (ByteArray.extract Dg (Int.toNat (ibin .rem .u8 (n : Int) 16)) (Int.toNat (ibin .add .u8 (ibin .rem .u8 (n : Int) 16) 1))).data = (List.map (fun m : Int => UInt8.ofNat m.toNat) [strAt Dg (ibin .and .u8 (n : Int) 15)]).toArray := by decide +kernel
theorem b_dig : ∀ n : Nat, n < 256 → wire_digit (n : Int) = veilref10_digit (n : Int) := by decide +kernel
theorem b_dig16 : ∀ n : Nat, n < 256 → 0 ≤ wire_digit (n : Int) ∧ wire_digit (n : Int) ≤ 16 := by decide +kernel
theorem b_pair : ∀ a : Nat, a < 16 → ∀ b : Nat, b < 16 → ibin .or .u8 (ibin .shl .u8 (ibin .or .u8 (ibin .shl .u8 0 4) (a : Int)) 4) (b : Int) = IntKind.wrap .u8 (ibin .add .i64 (ibin .mul .i64 16 (a : Int)) (b : Int)) := by decide +kernel

theorem dig_high {n : Nat} (h : 128 ≤ n) : wire_digit (n : Int) = 16 := by
  unfold wire_digit
  have h1 : icmp .geq (n : Int) 48 = true := decide_eq_true (by omega)
  have h2 : icmp .leq (n : Int) 57 = false := decide_eq_false (by omega)
  have h3 : icmp .geq (n : Int) 97 = true := decide_eq_true (by omega)
  have h4 : icmp .leq (n : Int) 102 = false := decide_eq_false (by omega)
  rw [ct h1, cf h2, ct h3, cf h4]

theorem getD_mid {α : Type} (pre : List α) (a : α) (suf : List α) (d : α) : List.getD (pre ++ a :: suf) pre.length d = a := by simp

/-! ### Hex -/
theorem hex_loop (N0 : Nat) (l : List Int) (hb : ∀ x ∈ l, Byte x) (hl : l.length ≤ 2000000) (e0 : ByteArray) : ∀ (suf pre : List Int) (fuel : Nat) (out : List Int), l = pre ++ suf → out.length = 2 * pre.length → suf.length + 1 ≤ fuel →
    loopF (wire_Hex_l0 N0) fuel ((e0, out.length, l.length, ((l.length : Nat) : Int), ((pre.length : Nat) : Int)), ((l.length, l), (out.length, out))) = some (.inl ((out ++ suf.flatMap hexI).length, ((out ++ suf.flatMap hexI).length, out ++ suf.flatMap hexI))) := by
  intro suf
  induction suf with
  | nil =>
    intro pre fuel out h1 h2 h3
    obtain ⟨k, rfl⟩ : ∃ k, fuel = k + 1 := ⟨fuel - 1, by omega⟩
    have : pre.length = l.length := by rw [h1]; simp
    rw [loopF_succ]
    unfold wire_Hex_l0
    have h4 : icmp .lss ((pre.length : Nat) : Int) ((l.length : Nat) : Int) = false := decide_eq_false (by omega)
    simp only [h4, cond_false, mo, List.flatMap_nil, List.append_nil]
  | cons a suf ih =>
    intro pre fuel out h1 h2 h3
    obtain ⟨k, rfl⟩ : ∃ k, fuel = k + 1 := ⟨fuel - 1, by omega⟩
    have hlen : l.length = pre.length + suf.length + 1 := by rw [h1]; simp; omega
    obtain ⟨n, hn, rfl⟩ := byte_nat (hb a (by rw [h1]; simp))
    have hg : List.getD l (Int.toNat ((pre.length : Nat) : Int)) 0 = (n : Int) := by rw [Int.toNat_natCast, h1]; exact getD_mid _ _ _ _
    rw [loopF_succ]
    unfold wire_Hex_l0
    have h4 : icmp .lss ((pre.length : Nat) : Int) ((l.length : Nat) : Int) = true := decide_eq_true (by omega)
    have h5 : decide (0 ≤ ((pre.length : Nat) : Int) ∧ ((pre.length : Nat) : Int) < ((l.length : Nat) : Int)) = true := decide_eq_true (by omega)
    have h6 : decide ((out.length + 2) * 1 ≤ 140737488355328 ∧ out.length + 2 ≤ 9223372036854775807) = true := decide_eq_true (by simp only [List.length_cons] at h3; omega)
    have h7 : ibin .add .i64 ((pre.length : Nat) : Int) 1 = (((pre ++ [(n : Int)]).length : Nat) : Int) := by
      show IntKind.wrap .i64 _ = _
      rw [wrapi (by omega) (by omega), List.length_append]
      rfl
    simp only [h4, h5, h6, h7, hg, b_shr n hn, b_and n hn, cond_true, mo]
    have := ih (pre ++ [(n : Int)]) k (out ++ hexI (n : Int)) (by rw [h1]; simp) (by simp [hexI]; omega) (by simp only [List.length_cons] at h3; omega)
    rw [show (out ++ hexI (n : Int)).length = out.length + 2 by simp [hexI]] at this
    rw [List.flatMap_cons, ← List.append_assoc]
    exact this

theorem hex_law (N : Nat) (l : List Int) (hb : ∀ x ∈ l, Byte x) (hl : l.length ≤ 1048576) (hN : 2200000 ≤ N) : wire_Hex N ((l.length, l), ()) = some (bStr (l.flatMap hexI)) := by
  unfold wire_Hex
  have h0 : ibin .mul .i64 2 ((l.length : Nat) : Int) = 2 * ((l.length : Nat) : Int) := wrapi (by omega) (by omega)
  have h1 : ((decide ((0 : Int) ≤ 0 ∧ (0 : Int) ≤ (ibin .mul .i64 2 ((l.length : Nat) : Int))) && decide (Int.toNat (ibin .mul .i64 2 ((l.length : Nat) : Int)) * 1 ≤ 140737488355328 ∧ Int.toNat (ibin .mul .i64 2 ((l.length : Nat) : Int)) ≤ 9223372036854775807)) && true) = true := by
    rw [h0, decide_eq_true (by omega), decide_eq_true (by omega)]
    rfl
  simp only [h1, cond_true]
  have := hex_loop N l hb (by omega) (ByteArray.mk (List.toArray [])) l [] N [] rfl rfl (by omega)
  simp only [List.length_nil, List.nil_append] at this
  rw [show ((0 : Nat) : Int) = 0 from rfl] at this
  rw [this]
  rfl

theorem bStr_append (a b : List Int) : bStr (a ++ b) = bStr a ++ bStr b := by
  apply ByteArray.ext
  simp [bStr, ByteArray.data_append]

theorem bStr_size (a : List Int) : (bStr a).size = a.length := by
  simp [bStr, ByteArray.size]

theorem ref_hex_loop (N0 : Nat) (l : List Int) (hb : ∀ x ∈ l, Byte x) (hl : l.length ≤ 2000000) (e0 : ByteArray) : ∀ (suf pre : List Int) (fuel : Nat) (out : List Int), l = pre ++ suf → out.length = 2 * pre.length → suf.length + 1 ≤ fuel →
    loopF (veilref10_Hex_l0 N0) fuel ((l.length, e0, bStr out, ((pre.length : Nat) : Int)), (l.length, l)) = some (.inl (bStr (out ++ suf.flatMap hexI), ())) := by
  intro suf
  induction suf with
  | nil =>
    intro pre fuel out h1 h2 h3
    obtain ⟨k, rfl⟩ : ∃ k, fuel = k + 1 := ⟨fuel - 1, by omega⟩
    have : pre.length = l.length := by rw [h1]; simp
    rw [loopF_succ]
    unfold veilref10_Hex_l0
    have h4 : icmp .lss ((pre.length : Nat) : Int) ((l.length : Nat) : Int) = false := decide_eq_false (by omega)
    simp only [h4, cond_false, mo, List.flatMap_nil, List.append_nil]
  | cons a suf ih =>
    intro pre fuel out h1 h2 h3
    obtain ⟨k, rfl⟩ : ∃ k, fuel = k + 1 := ⟨fuel - 1, by omega⟩
    have hlen : l.length = pre.length + suf.length + 1 := by rw [h1]; simp; omega
    obtain ⟨n, hn, rfl⟩ := byte_nat (hb a (by rw [h1]; simp))
    have hg : List.getD l (Int.toNat ((pre.length : Nat) : Int)) 0 = (n : Int) := by rw [Int.toNat_natCast, h1]; exact getD_mid _ _ _ _
    have e1 : ByteArray.extract Dg (Int.toNat (ibin .quo .u8 (n : Int) 16)) (Int.toNat (ibin .add .u8 (ibin .quo .u8 (n : Int) 16) 1)) = bStr [strAt Dg (ibin .shr .u8 (n : Int) 4)] := ByteArray.ext (b_hi n hn)
    have e2 : ByteArray.extract Dg (Int.toNat (ibin .rem .u8 (n : Int) 16)) (Int.toNat (ibin .add .u8 (ibin .rem .u8 (n : Int) 16) 1)) = bStr [strAt Dg (ibin .and .u8 (n : Int) 15)] := ByteArray.ext (b_lo n hn)
    have h8 : inR .i64 ((ByteArray.size (bStr out) + ByteArray.size (bStr [strAt Dg (ibin .shr .u8 (n : Int) 4)]) : Nat) : Int) = true := by
      rw [bStr_size, bStr_size]
      simp only [List.length_cons, List.length_nil, inR]
      exact decide_eq_true (by simp only [List.length_cons] at h3; simp only [IntKind.min, IntKind.max, IntKind.signed, IntKind.bits, if_true]; omega)
    have h9 : inR .i64 ((ByteArray.size (bStr out ++ bStr [strAt Dg (ibin .shr .u8 (n : Int) 4)]) + ByteArray.size (bStr [strAt Dg (ibin .and .u8 (n : Int) 15)]) : Nat) : Int) = true := by
      rw [← bStr_append, bStr_size, bStr_size]
      simp only [List.length_append, List.length_cons, List.length_nil, inR]
      exact decide_eq_true (by simp only [List.length_cons] at h3; simp only [IntKind.min, IntKind.max, IntKind.signed, IntKind.bits, if_true]; omega)
    rw [loopF_succ]
    unfold veilref10_Hex_l0
    have h4 : icmp .lss ((pre.length : Nat) : Int) ((l.length : Nat) : Int) = true := decide_eq_true (by omega)
    have h5 : decide (0 ≤ ((pre.length : Nat) : Int) ∧ ((pre.length : Nat) : Int) < ((l.length : Nat) : Int)) = true := decide_eq_true (by omega)
    have h7 : ibin .add .i64 ((pre.length : Nat) : Int) 1 = (((pre ++ [(n : Int)]).length : Nat) : Int) := by
      show IntKind.wrap .i64 _ = _
      rw [wrapi (by omega) (by omega), List.length_append]
      rfl
    simp only [h4, h5, h7, hg, b_quo n hn, b_quo' n hn, b_rem n hn, b_rem' n hn, e1, e2, h8, h9, cond_true, mo]
    have := ih (pre ++ [(n : Int)]) k (out ++ hexI (n : Int)) (by rw [h1]; simp) (by simp [hexI]; omega) (by simp only [List.length_cons] at h3; omega)
    rw [show bStr (out ++ hexI (n : Int)) = bStr out ++ bStr [strAt Dg (ibin .shr .u8 (n : Int) 4)] ++ bStr [strAt Dg (ibin .and .u8 (n : Int) 15)] by
      rw [← bStr_append, ← bStr_append]; simp [hexI]] at this
    rw [List.flatMap_cons, ← List.append_assoc]
    exact this

theorem ref_hex_law (N : Nat) (l : List Int) (hb : ∀ x ∈ l, Byte x) (hl : l.length ≤ 1048576) (hN : 2200000 ≤ N) : veilref10_Hex N ((l.length, l), ()) = some (bStr (l.flatMap hexI)) := by
  unfold veilref10_Hex
  have := ref_hex_loop N l hb (by omega) (ByteArray.mk (List.toArray [])) l [] N [] rfl rfl (by omega)
  simp only [List.length_nil, List.nil_append] at this
  rw [show ((0 : Nat) : Int) = 0 from rfl, show bStr [] = (ByteArray.mk (List.toArray [])) from rfl] at this
  rw [this]
  rfl

/-! ### Room -/
theorem same_self (x : ((Nat × List Int) × Unit)) (y : ((Nat × List Int) × Unit)) (h : x.1.2 = y.1.2) : veillaw10_same x y = true := by
  unfold veillaw10_same
  rw [h]
  exact beqS _

theorem room_law (l : List Int) (hl : l.length ≤ 1048576) : veillaw10_room ((l.length, l), ()) = some ((l.length + 3, l ++ [201, 202, 203]), ()) := by
  unfold veillaw10_room
  have h1 : decide ((0 + l.length) * 1 ≤ 140737488355328 ∧ 0 + l.length ≤ 9223372036854775807) = true := decide_eq_true (by omega)
  have h2 : decide ((0 + l.length + 3) * 1 ≤ 140737488355328 ∧ 0 + l.length + 3 ≤ 9223372036854775807) = true := decide_eq_true (by omega)
  simp only [Nat.zero_add] at h1 h2
  simp only [Nat.zero_add, h1, h2, cond_true]

theorem roomy_law (l : List Int) (hl : l.length ≤ 1048576) : veillaw10_roomy ((l.length + 3, l ++ [201, 202, 203]), ()) ((l.length, l), ()) = some true := by
  unfold veillaw10_roomy
  have h1 : decide (0 ≤ ((l.length : Nat) : Int) ∧ ((l.length : Nat) : Int) ≤ ((l.length + 3 : Nat) : Int)) = true := decide_eq_true (by omega)
  have h2 : decide (0 ≤ ((l.length : Nat) : Int) ∧ ((l.length : Nat) : Int) < ((l.length + 3 : Nat) : Int)) = true := decide_eq_true (by omega)
  have e1 : ibin .add .i64 ((l.length : Nat) : Int) 1 = ((l.length + 1 : Nat) : Int) := wrapi (by omega) (by omega)
  have e2 : ibin .add .i64 ((l.length : Nat) : Int) 2 = ((l.length + 2 : Nat) : Int) := wrapi (by omega) (by omega)
  have h3 : decide (0 ≤ ((l.length + 1 : Nat) : Int) ∧ ((l.length + 1 : Nat) : Int) < ((l.length + 3 : Nat) : Int)) = true := decide_eq_true (by omega)
  have h4 : decide (0 ≤ ((l.length + 2 : Nat) : Int) ∧ ((l.length + 2 : Nat) : Int) < ((l.length + 3 : Nat) : Int)) = true := decide_eq_true (by omega)
  have h5 : veillaw10_same ((l.length, (List.take l.length (List.drop 0 (l ++ [201, 202, 203])))), ()) ((l.length, l), ()) = true := same_self _ _ (by simp)
  have g0 : List.getD (l ++ [201, 202, 203]) l.length 0 = 201 := by simp
  have g1 : List.getD (l ++ [201, 202, 203]) (l.length + 1) 0 = 202 := by simp
  have g2 : List.getD (l ++ [201, 202, 203]) (l.length + 2) 0 = 203 := by simp
  simp only [h1, h2, h3, h4, h5, e1, e2, g0, g1, g2, cond_true, Int.toNat_natCast]
  rfl


/-! ### Unhex -/
/-- Two letters by two letters. -/
def pairs : List UInt8 → Option (List Int)
  | a :: b :: r => cond (icmp .gtr (wire_digit ((a.toNat : Nat) : Int)) 15 || icmp .gtr (wire_digit ((b.toNat : Nat) : Int)) 15) none ((pairs r).map (IntKind.wrap .u8 (ibin .add .i64 (ibin .mul .i64 16 (wire_digit ((a.toNat : Nat) : Int))) (wire_digit ((b.toNat : Nat) : Int))) :: ·))
  | _ => some []

theorem get!_drop {s : ByteArray} {i : Nat} {a : UInt8} {r : List UInt8} (h : s.data.toList.drop i = a :: r) : s.get! i = a := by
  have h1 : s.data.toList[i]? = some a := by
    have := congrArg (fun l => l[0]?) h
    simpa using this
  show s.data.get!Internal i = a
  simp only [Array.getElem?_toList] at h1
  simp [Array.get!Internal_eq_getElem!, Array.getElem!_eq_getD, h1]

theorem strAt_drop {s : ByteArray} {i : Nat} {a : UInt8} {r : List UInt8} (h : s.data.toList.drop i = a :: r) : strAt s ((i : Nat) : Int) = ((a.toNat : Nat) : Int) := by
  have h1 : s.data.toList[i]? = some a := by
    have := congrArg (fun l => l[0]?) h
    simpa using this
  unfold strAt
  rw [Int.toNat_natCast, List.getD_eq_getElem?_getD, h1]
  rfl

/-- The letter there, as 'range' reads it: where it is a digit, it is the byte. -/
theorem dec_digit {s : ByteArray} {i : Nat} {a : UInt8} {r : List UInt8} (h : s.data.toList.drop i = a :: r) :
    wire_digit (((Utf8.decode s i).1 : Nat) : Int) = wire_digit ((a.toNat : Nat) : Int) ∧ (icmp .gtr (wire_digit ((a.toNat : Nat) : Int)) 15 = false → (Utf8.decode s i).2 = 1) := by
  have hg : (s.get! (i + 0)).toNat = a.toNat := by rw [Nat.add_zero, get!_drop h]
  rcases Nat.lt_or_ge a.toNat 128 with ha | ha
  · have : Utf8.decode s i = (a.toNat, 1) := by
      unfold Utf8.decode
      simp only [hg]
      rw [if_pos ha]
    rw [this]
    exact ⟨rfl, fun _ => rfl⟩
  · refine ⟨?_, fun hh => ?_⟩
    · rw [dig_high ha, dig_high]
      unfold Utf8.decode
      simp only [hg]
      rw [if_neg (by omega)]
      repeat' split
      all_goals first | exact ha | (simp only [Utf8.runeError]; omega) | (rename_i hx; first | omega | (simp only [Bool.and_eq_true, decide_eq_true_eq] at hx; omega)) 
    · rw [dig_high ha] at hh
      cases hh


theorem drop_size {s : ByteArray} {i : Nat} {r : List UInt8} (h : s.data.toList.drop i = r) (hr : r ≠ []) : i + r.length = s.size := by
  have := congrArg List.length h
  rw [List.length_drop] at this
  have h0 : r.length ≠ 0 := fun h => hr (List.length_eq_zero_iff.1 h)
  have : s.data.toList.length = s.size := rfl
  omega
theorem drop_next {s : ByteArray} {i : Nat} {a : UInt8} {r : List UInt8} (h : s.data.toList.drop i = a :: r) : s.data.toList.drop (i + 1) = r := by
  rw [← List.drop_drop, h]
  rfl

theorem quo2 {n : Nat} (h : n ≤ 1000000000) : ibin .quo .i64 ((n : Nat) : Int) 2 = ((n / 2 : Nat) : Int) := by
  show IntKind.wrap .i64 (Int.tdiv _ _) = _
  rw [Int.tdiv_eq_ediv_of_nonneg (by omega), wrapi (by omega) (by omega)]
  omega

theorem dig_nat (a : UInt8) : ∃ n : Nat, wire_digit ((a.toNat : Nat) : Int) = (n : Int) ∧ n ≤ 16 := by
  have := b_dig16 a.toNat a.toNat_lt
  exact ⟨(wire_digit ((a.toNat : Nat) : Int)).toNat, by omega, by omega⟩

/-- One letter of the program's Unhex. -/
theorem unhex_step {N0 : Nat} {s : ByteArray} {i m : Nat} {row : List Int} {a : UInt8} {r : List UInt8} (h : s.data.toList.drop i = a :: r) (hs : s.size ≤ 2100000) (hm : i / 2 < m) :
    wire_Unhex_l0 N0 (((), (), m, ()), ((m, row), (s, i))) = cond (icmp .gtr (wire_digit ((a.toNat : Nat) : Int)) 15) (some (.inr (.inr (((), ()), ()))))
      (some (.inl (((), (), m, ()), ((m, (List.set row (i / 2) (ibin .or .u8 (ibin .shl .u8 (List.getD row (i / 2) 0) 4) (wire_digit ((a.toNat : Nat) : Int))))), (s, i + 1))))) := by
  have hsz := drop_size h (by simp)
  obtain ⟨d1, d2⟩ := dec_digit h
  unfold wire_Unhex_l0
  have h1 : Nat.blt i s.size = true := by
    rw [Nat.blt_eq]
    simp only [List.length_cons] at hsz
    omega
  have h2 : ibin .quo .i64 ((i : Nat) : Int) 2 = ((i / 2 : Nat) : Int) := quo2 (by omega)
  have h3 : decide (0 ≤ ((i / 2 : Nat) : Int) ∧ ((i / 2 : Nat) : Int) < ((m : Nat) : Int)) = true := decide_eq_true (by omega)
  simp only [h1, h2, h3, d1, cond_true, Int.toNat_natCast]
  cases hc : icmp .gtr (wire_digit ((a.toNat : Nat) : Int)) 15 with
  | true => rfl
  | false => rw [cond_false, cond_false, d2 hc]

theorem unhex_loop (N0 : Nat) (s : ByteArray) (hs : s.size ≤ 2100000) : ∀ (suf : List UInt8) (j : Nat) (out : List Int) (fuel : Nat), suf.length % 2 = 0 → s.data.toList.drop (2 * j) = suf → out.length = j → suf.length + 1 ≤ fuel → (suf = [] → 2 * j = s.size) →
    loopF (wire_Unhex_l0 N0) fuel (((), (), j + suf.length / 2, ()), ((j + suf.length / 2, out ++ List.replicate (suf.length / 2) 0), (s, 2 * j))) = mo (pairs suf) (some (.inr (((), ()), ()))) fun l => some (.inl (j + suf.length / 2, (j + suf.length / 2, out ++ l)))
  | [], j, out, fuel, h0, h1, h2, h3, h4 => by
    obtain ⟨k, rfl⟩ : ∃ k, fuel = k + 1 := ⟨fuel - 1, by omega⟩
    rw [loopF_succ]
    unfold wire_Unhex_l0
    have : Nat.blt (2 * j) s.size = false := by
      rw [h4 rfl]
      exact Bool.eq_false_iff.2 fun h => by rw [Nat.blt_eq] at h; omega
    simp only [this, cond_false, mo, pairs]
    simp
  | [a], j, out, fuel, h0, h1, h2, h3, h4 => by simp at h0
  | a :: b :: r, j, out, fuel, h0, h1, h2, h3, h4 => by
    obtain ⟨k, rfl⟩ : ∃ k, fuel = k + 2 := ⟨fuel - 2, by simp only [List.length_cons] at h3; omega⟩
    have hl : (a :: b :: r).length / 2 = r.length / 2 + 1 := by simp only [List.length_cons]; omega
    have hb := drop_next h1
    have hr := drop_next hb
    obtain ⟨da, ea, la⟩ := dig_nat a
    obtain ⟨db, eb, lb⟩ := dig_nat b
    rw [hl, loopF_succ, unhex_step h1 hs (by omega)]
    rw [show 2 * j / 2 = j by omega]
    cases hca : icmp .gtr (wire_digit ((a.toNat : Nat) : Int)) 15 with
    | true => simp only [pairs, hca, Bool.true_or, cond_true, mo]
    | false =>
      have hca' : ¬ (15 : Int) < wire_digit ((a.toNat : Nat) : Int) := by simpa [icmp] using hca
      simp only [cond_false, mo]
      rw [loopF_succ, unhex_step hb hs (by omega)]
      rw [show (2 * j + 1) / 2 = j by omega]
      cases hcb : icmp .gtr (wire_digit ((b.toNat : Nat) : Int)) 15 with
      | true => simp only [pairs, hca, hcb, Bool.false_or, cond_true, mo]
      | false =>
        have hcb' : ¬ (15 : Int) < wire_digit ((b.toNat : Nat) : Int) := by simpa [icmp] using hcb
        simp only [cond_false, mo]
        have g0 : List.getD (out ++ List.replicate (r.length / 2 + 1) (0 : Int)) j 0 = 0 := by rw [← h2, List.replicate_succ]; exact getD_mid _ _ _ _
        have s0 : ∀ x : Int, List.set (out ++ List.replicate (r.length / 2 + 1) (0 : Int)) j x = out ++ x :: List.replicate (r.length / 2) 0 := by
          intro x
          rw [← h2, List.replicate_succ, List.set_append_right _ _ (Nat.le_refl _), Nat.sub_self, List.set_cons_zero]
        have g1 : ∀ x : Int, List.getD (out ++ x :: List.replicate (r.length / 2) (0 : Int)) j 0 = x := by intro x; rw [← h2]; exact getD_mid _ _ _ _
        have s1 : ∀ x y : Int, List.set (out ++ x :: List.replicate (r.length / 2) (0 : Int)) j y = out ++ y :: List.replicate (r.length / 2) 0 := by
          intro x y
          rw [← h2, List.set_append_right _ _ (Nat.le_refl _), Nat.sub_self, List.set_cons_zero]
        rw [g0, s0, g1, s1]
        have hp : ibin .or .u8 (ibin .shl .u8 (ibin .or .u8 (ibin .shl .u8 0 4) (wire_digit ((a.toNat : Nat) : Int))) 4) (wire_digit ((b.toNat : Nat) : Int)) = IntKind.wrap .u8 (ibin .add .i64 (ibin .mul .i64 16 (wire_digit ((a.toNat : Nat) : Int))) (wire_digit ((b.toNat : Nat) : Int))) := by
          rw [ea, eb]
          exact b_pair da (by omega) db (by omega)
        rw [hp]
        have ih := unhex_loop N0 s hs r (j + 1) (out ++ [IntKind.wrap .u8 (ibin .add .i64 (ibin .mul .i64 16 (wire_digit ((a.toNat : Nat) : Int))) (wire_digit ((b.toNat : Nat) : Int)))]) k (by simp only [List.length_cons] at h0; omega) (by rw [show 2 * (j + 1) = 2 * j + 1 + 1 by omega]; exact hr) (by simp [h2]) (by simp only [List.length_cons] at h3; omega) (fun e => by
          have := drop_size h1 (by simp)
          rw [e] at this
          simp only [List.length_cons, List.length_nil] at this
          omega)
        rw [show j + (r.length / 2 + 1) = j + 1 + r.length / 2 by omega, show 2 * j + 1 + 1 = 2 * (j + 1) by omega]
        rw [List.append_assoc, List.singleton_append] at ih
        rw [ih]
        simp only [pairs, hca, hcb, Bool.or_false, cond_false]
        cases pairs r with
        | none => rfl
        | some l => simp only [Option.map_some, mo, List.append_assoc, List.singleton_append]

theorem ref_unhex_loop (N0 : Nat) (s : ByteArray) (hs : s.size ≤ 2100000) : ∀ (suf : List UInt8) (j : Nat) (out : List Int) (fuel : Nat), suf.length % 2 = 0 → s.data.toList.drop (2 * j) = suf → out.length = j → suf.length + 1 ≤ fuel → (suf = [] → 2 * j = s.size) →
    loopF (veilref10_Unhex_l0 N0) fuel ((s, (), (), j, ((2 * j : Nat) : Int)), (j, out)) = mo (pairs suf) (some (.inr (((), ()), ()))) fun l => some (.inl (j + suf.length / 2, (j + suf.length / 2, out ++ l)))
  | [], j, out, fuel, h0, h1, h2, h3, h4 => by
    obtain ⟨k, rfl⟩ : ∃ k, fuel = k + 1 := ⟨fuel - 1, by omega⟩
    rw [loopF_succ]
    unfold veilref10_Unhex_l0
    have : icmp .lss ((2 * j : Nat) : Int) ((s.size : Nat) : Int) = false := decide_eq_false (by have := h4 rfl; omega)
    simp only [this, cond_false, mo, pairs]
    simp
  | [a], j, out, fuel, h0, h1, h2, h3, h4 => by simp at h0
  | a :: b :: r, j, out, fuel, h0, h1, h2, h3, h4 => by
    obtain ⟨k, rfl⟩ : ∃ k, fuel = k + 1 := ⟨fuel - 1, by omega⟩
    have hl : (a :: b :: r).length / 2 = r.length / 2 + 1 := by simp only [List.length_cons]; omega
    have hb := drop_next h1
    have hr := drop_next hb
    have hsz := drop_size h1 (by simp)
    simp only [List.length_cons] at hsz
    obtain ⟨da, ea, la⟩ := dig_nat a
    obtain ⟨db, eb, lb⟩ := dig_nat b
    have fa := b_dig a.toNat a.toNat_lt
    have fb := b_dig b.toNat b.toNat_lt
    rw [hl, loopF_succ]
    unfold veilref10_Unhex_l0
    have k1 : icmp .lss ((2 * j : Nat) : Int) ((s.size : Nat) : Int) = true := decide_eq_true (by omega)
    have k2 : decide (0 ≤ ((2 * j : Nat) : Int) ∧ ((2 * j : Nat) : Int) < ((s.size : Nat) : Int)) = true := decide_eq_true (by omega)
    have k3 : ibin .add .i64 ((2 * j : Nat) : Int) 1 = ((2 * j + 1 : Nat) : Int) := wrapi (by omega) (by omega)
    have k4 : decide (0 ≤ ((2 * j + 1 : Nat) : Int) ∧ ((2 * j + 1 : Nat) : Int) < ((s.size : Nat) : Int)) = true := decide_eq_true (by omega)
    have k5 : ibin .add .i64 ((2 * j : Nat) : Int) 2 = ((2 * (j + 1) : Nat) : Int) := wrapi (by omega) (by omega)
    have k6 : decide ((j + 1) * 1 ≤ 140737488355328 ∧ j + 1 ≤ 9223372036854775807) = true := decide_eq_true (by omega)
    have s1 : strAt s ((2 * j : Nat) : Int) = ((a.toNat : Nat) : Int) := strAt_drop h1
    have s2 : strAt s ((2 * j + 1 : Nat) : Int) = ((b.toNat : Nat) : Int) := strAt_drop hb
    simp only [k1, k2, k3, k4, k5, k6, s1, s2, ← fa, ← fb, cond_true]
    have q : ∀ x : Nat, x ≤ 16 → icmp .eql (x : Int) 16 = icmp .gtr (x : Int) 15 := by decide
    simp only [pairs]
    rw [ea, eb, q da la, q db lb]
    cases hca : icmp .gtr (da : Int) 15 with
    | true => simp only [Bool.true_or, cond_true, mo]
    | false =>
      cases hcb : icmp .gtr (db : Int) 15 with
      | true => simp only [Bool.false_or, cond_true, cond_false, mo]
      | false =>
        simp only [cond_false, mo, Bool.or_false]
        have ih := ref_unhex_loop N0 s hs r (j + 1) (out ++ [IntKind.wrap .u8 (ibin .add .i64 (ibin .mul .i64 16 (da : Int)) (db : Int))]) k (by simp only [List.length_cons] at h0; omega) (by rw [show 2 * (j + 1) = 2 * j + 1 + 1 by omega]; exact hr) (by simp [h2]) (by simp only [List.length_cons] at h3; omega) (fun e => by
          rw [e] at hsz
          simp only [List.length_nil] at hsz
          omega)
        rw [show j + (r.length / 2 + 1) = j + 1 + r.length / 2 by omega]
        refine Eq.trans ih ?_
        cases pairs r with
        | none => rfl
        | some l => simp only [Option.map_some, mo, List.append_assoc, List.singleton_append]

theorem unhex_law (N : Nat) (s : ByteArray) (hs : s.size ≤ 2100000) (hN : 2200000 ≤ N) : ∃ r, wire_Unhex N s = some r ∧ veilref10_Unhex N s = some r := by
  unfold wire_Unhex veilref10_Unhex
  cases hc : icmp .eql (ibin .rem .i64 (((ByteArray.size s) : Nat) : Int) 2) 1 with
  | true => exact ⟨_, rfl, rfl⟩
  | false =>
    have he : s.size % 2 = 0 := by
      have : ¬ (((ByteArray.size s) : Nat) : Int).tmod 2 = 1 := by simpa [icmp, ibin] using hc
      rw [Int.tmod_eq_emod_of_nonneg (by omega)] at this
      omega
    have hl : s.data.toList.length = s.size := rfl
    have hq : ibin .quo .i64 (((ByteArray.size s) : Nat) : Int) 2 = ((s.size / 2 : Nat) : Int) := quo2 (by omega)
    have h1 : ((decide ((0 : Int) ≤ ((s.size / 2 : Nat) : Int) ∧ (((s.size / 2 : Nat) : Int) : Int) ≤ ((s.size / 2 : Nat) : Int)) && decide ((s.size / 2) * 1 ≤ 140737488355328 ∧ s.size / 2 ≤ 9223372036854775807)) && true) = true := by
      rw [decide_eq_true (by omega), decide_eq_true (by omega)]
      rfl
    have k1 := unhex_loop N s hs s.data.toList 0 [] N (by omega) rfl rfl (by omega) (fun e => by rw [e] at hl; simp at hl; omega)
    have k2 := ref_unhex_loop N s hs s.data.toList 0 [] N (by omega) rfl rfl (by omega) (fun e => by rw [e] at hl; simp at hl; omega)
    simp only [hl, Nat.mul_zero, Nat.zero_add, List.nil_append] at k1 k2
    rw [show ((0 : Nat) : Int) = 0 from rfl] at k2
    simp only [cond_false, hq, h1, cond_true, Int.toNat_natCast]
    rw [k1, k2]
    cases pairs s.data.toList with
    | none => exact ⟨_, rfl, rfl⟩
    | some l => exact ⟨_, rfl, rfl⟩

theorem wireHex_law (N : Nat) (l : List Int) (s : ByteArray) (hb : ∀ x ∈ l, Byte x) (hl : l.length ≤ 1048576) (hs0 : s.size ≤ 1048576) (hN : 2200000 ≤ N) : veillaw10_WireHex N ((l.length, l), ()) s = some true := by
  unfold veillaw10_WireHex
  obtain ⟨r, u1, u2⟩ := unhex_law N s (by omega) hN
  have h1 : decide (0 ≤ ((l.length : Nat) : Int) ∧ ((l.length : Nat) : Int) ≤ ((l.length + 3 : Nat) : Int)) = true := decide_eq_true (by omega)
  have ht : List.take l.length (List.drop 0 (l ++ [201, 202, 203])) = l := by simp
  simp only [room_law l hl, mo, h1, cond_true, Int.toNat_natCast, ht, hex_law N l hb hl hN, ref_hex_law N l hb hl hN, roomy_law l hl, u1, u2, beqS, Bool.not_true, cond_false]
  have : icmp .eql r.2 r.2 = true := by simp [icmp]
  rw [this]
  simp only [cond_true]
  rw [same_self _ _ rfl]

end Go.Vx.Wx
