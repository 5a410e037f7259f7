/- WireTexts: the plain law. -/
import Derived.Test.YtoionfdfofmplaaHex
import Derived.KernelRfl
set_option autoImplicit false
set_option linter.unusedVariables false
set_option linter.unusedSimpArgs false
namespace Go.Vx.Wx
open Go Go.Vx

theorem live_law : veillaw10_live 3000000 = some true := by kernel_rfl

abbrev u8 (n : Int) : UInt8 := UInt8.ofNat n.toNat

theorem hx_back : ∀ n : Nat, n < 256 → icmp .gtr (wire_digit (((u8 (strAt Dg (ibin .shr .u8 (n : Int) 4))).toNat : Nat) : Int)) 15 = false ∧ icmp .gtr (wire_digit (((u8 (strAt Dg (ibin .and .u8 (n : Int) 15))).toNat : Nat) : Int)) 15 = false ∧
    IntKind.wrap .u8 (ibin .add .i64 (ibin .mul .i64 16 (wire_digit (((u8 (strAt Dg (ibin .shr .u8 (n : Int) 4))).toNat : Nat) : Int))) (wire_digit (((u8 (strAt Dg (ibin .and .u8 (n : Int) 15))).toNat : Nat) : Int))) = (n : Int) := by decide +kernel
theorem dg_letter : ∀ n : Nat, n < 256 → icmp .gtr (wire_digit (n : Int)) 15 = false → u8 (strAt Dg (wire_digit (n : Int))) = UInt8.ofNat n := by decide +kernel
theorem dg_split : ∀ a : Nat, a < 16 → ∀ b : Nat, b < 16 → ibin .shr .u8 (IntKind.wrap .u8 (ibin .add .i64 (ibin .mul .i64 16 (a : Int)) (b : Int))) 4 = (a : Int) ∧ ibin .and .u8 (IntKind.wrap .u8 (ibin .add .i64 (ibin .mul .i64 16 (a : Int)) (b : Int))) 15 = (b : Int) ∧
    Byte (IntKind.wrap .u8 (ibin .add .i64 (ibin .mul .i64 16 (a : Int)) (b : Int))) := by decide +kernel

theorem pairs_hex : ∀ l : List Int, (∀ x ∈ l, Byte x) → pairs ((l.flatMap hexI).map u8) = some l := by
  intro l
  induction l with
  | nil => intro _; rfl
  | cons a l ih =>
    intro hb
    obtain ⟨n, hn, rfl⟩ := byte_nat (hb a (by simp))
    obtain ⟨h1, h2, h3⟩ := hx_back n hn
    rw [List.flatMap_cons, List.map_append]
    simp only [hexI, List.map_cons, List.map_nil, List.cons_append, List.nil_append, pairs, h1, h2, h3, Bool.or_false, cond_false, ih fun x hx => hb x (by simp [hx])]
    rfl

theorem hex_pairs : ∀ (s : List UInt8) (l : List Int), s.length % 2 = 0 → pairs s = some l → l.length = s.length / 2 ∧ (∀ x ∈ l, Byte x) ∧ (l.flatMap hexI).map u8 = s
  | [], l, _, h => by
    simp only [pairs, Option.some.injEq] at h
    subst h
    exact ⟨rfl, by simp, rfl⟩
  | [a], l, h0, _ => by simp at h0
  | a :: b :: r, l, h0, h => by
    unfold pairs at h
    obtain ⟨da, ea, la⟩ := dig_nat a
    obtain ⟨db, eb, lb⟩ := dig_nat b
    cases hca : icmp .gtr (wire_digit ((a.toNat : Nat) : Int)) 15 with
    | true => rw [hca] at h; simp at h
    | false =>
      cases hcb : icmp .gtr (wire_digit ((b.toNat : Nat) : Int)) 15 with
      | true => rw [hca, hcb] at h; simp at h
      | false =>
        rw [hca, hcb] at h
        simp only [Bool.or_false, cond_false, Option.map_eq_some_iff] at h
        obtain ⟨l', h1, rfl⟩ := h
        obtain ⟨k1, k2, k3⟩ := hex_pairs r l' (by simp only [List.length_cons] at h0; omega) h1
        have ga := dg_letter a.toNat a.toNat_lt hca
        have gb := dg_letter b.toNat b.toNat_lt hcb
        have ha : ¬ (15 : Int) < wire_digit ((a.toNat : Nat) : Int) := by simpa [icmp] using hca
        have hb : ¬ (15 : Int) < wire_digit ((b.toNat : Nat) : Int) := by simpa [icmp] using hcb
        rw [ea] at ha ga ⊢
        rw [eb] at hb gb ⊢
        obtain ⟨s1, s2, s3⟩ := dg_split da (by omega) db (by omega)
        refine ⟨by simp only [List.length_cons]; omega, fun x hx => ?_, ?_⟩
        · rcases List.mem_cons.1 hx with rfl | hx
          · exact s3
          · exact k2 x hx
        · rw [List.flatMap_cons, List.map_append, k3]
          simp only [hexI, s1, s2, List.map_cons, List.map_nil, List.cons_append, List.nil_append]
          rw [ga, gb]
          simp

/-- What Unhex answers. -/
theorem unhex_spec (N : Nat) (s : ByteArray) (hs : s.size ≤ 2100000) (hN : 2200000 ≤ N) :
    (s.size % 2 = 0 ∧ ∃ l, pairs s.data.toList = some l ∧ wire_Unhex N s = some (((s.size / 2, l), ()), 0)) ∨ wire_Unhex N s = some (((0, []), ()), 104) := by
  unfold wire_Unhex
  cases hc : icmp .eql (ibin .rem .i64 (((ByteArray.size s) : Nat) : Int) 2) 1 with
  | true => exact .inr rfl
  | false =>
    have he : s.size % 2 = 0 := by
      have : ¬ (((ByteArray.size s) : Nat) : Int).tmod 2 = 1 := by simpa [icmp, ibin] using hc
      rw [Int.tmod_eq_emod_of_nonneg (by omega)] at this
      omega
    have hl : s.data.toList.length = s.size := rfl
    have hq : ibin .quo .i64 (((ByteArray.size s) : Nat) : Int) 2 = ((s.size / 2 : Nat) : Int) := quo2 (by omega)
    have h1 : ((decide ((0 : Int) ≤ ((s.size / 2 : Nat) : Int) ∧ (((s.size / 2 : Nat) : Int) : Int) ≤ ((s.size / 2 : Nat) : Int)) && decide ((s.size / 2) * 1 ≤ 140737488355328 ∧ s.size / 2 ≤ 9223372036854775807)) && true) = true := by
      rw [decide_eq_true (by omega), decide_eq_true (by omega)]
      rfl
    have k1 := unhex_loop N s hs s.data.toList 0 [] N (by omega) rfl rfl (by omega) (fun e => by rw [e] at hl; simp at hl; omega)
    simp only [hl, Nat.mul_zero, Nat.zero_add, List.nil_append] at k1
    simp only [cond_false, hq, h1, cond_true, Int.toNat_natCast]
    rw [k1]
    cases hp : pairs s.data.toList with
    | none => exact .inr rfl
    | some l => exact .inl ⟨he, l, rfl, rfl⟩

theorem bStr_list (l : List Int) : (bStr l).data.toList = l.map u8 := by simp [bStr]

theorem hexI_len (l : List Int) : (l.flatMap hexI).length = 2 * l.length := by
  induction l with
  | nil => rfl
  | cons a l ih => rw [List.flatMap_cons, List.length_append, ih]; simp [hexI]; omega

theorem wireTexts_law (l : List Int) (s : ByteArray) (hb : ∀ x ∈ l, Byte x) (hl : l.length ≤ 1048576) (hs : s.size ≤ 1048576) : veillaw10_WireTexts 3000000 ((l.length, l), ()) s = some true := by
  unfold veillaw10_WireTexts
  have hsz : (bStr (l.flatMap hexI)).size = 2 * l.length := by rw [bStr_size, hexI_len]
  have u1 : wire_Unhex 3000000 (bStr (l.flatMap hexI)) = some (((l.length, l), ()), 0) := by
    have hp : pairs (bStr (l.flatMap hexI)).data.toList = some l := by rw [bStr_list]; exact pairs_hex l hb
    rcases unhex_spec 3000000 (bStr (l.flatMap hexI)) (by omega) (by decide) with ⟨he, l', h1, h2⟩ | h2
    · rw [h2]
      rw [hp] at h1
      obtain rfl := Option.some.inj h1
      rw [hsz, show 2 * l.length / 2 = l.length by omega]
    · exfalso
      obtain ⟨r, e1, -⟩ := unhex_law 3000000 (bStr (l.flatMap hexI)) (by omega) (by decide)
      have k1 := unhex_loop 3000000 (bStr (l.flatMap hexI)) (by omega) (bStr (l.flatMap hexI)).data.toList 0 [] 3000000 (by show (bStr (l.flatMap hexI)).size % 2 = 0; omega) rfl rfl (by show (bStr (l.flatMap hexI)).size + 1 ≤ _; omega) (fun e => by
        have : (bStr (l.flatMap hexI)).data.toList.length = (bStr (l.flatMap hexI)).size := rfl
        rw [e] at this; simp at this; omega)
      have hll : (bStr (l.flatMap hexI)).data.toList.length = 2 * l.length := by rw [← hsz]; rfl
      rw [hp] at k1
      simp only [hll, Nat.mul_zero, Nat.zero_add, List.nil_append, mo] at k1
      unfold wire_Unhex at h2
      have hc : icmp .eql (ibin .rem .i64 (((ByteArray.size (bStr (l.flatMap hexI))) : Nat) : Int) 2) 1 = false := by
        rw [hsz]
        have : (((2 * l.length : Nat) : Int).tmod 2) ≠ 1 := by rw [Int.tmod_eq_emod_of_nonneg (by omega)]; omega
        simp [icmp, ibin, this]
      have hq : ibin .quo .i64 (((ByteArray.size (bStr (l.flatMap hexI))) : Nat) : Int) 2 = ((l.length : Nat) : Int) := by rw [hsz, quo2 (by omega)]; omega
      have h1 : ((decide ((0 : Int) ≤ ((l.length : Nat) : Int) ∧ (((l.length : Nat) : Int) : Int) ≤ ((l.length : Nat) : Int)) && decide (l.length * 1 ≤ 140737488355328 ∧ l.length ≤ 9223372036854775807)) && true) = true := by
        rw [decide_eq_true (by omega), decide_eq_true (by omega)]
        rfl
      simp only [hc, cond_false, hq, h1, cond_true, Int.toNat_natCast] at h2
      rw [show 2 * l.length / 2 = l.length by omega] at k1
      rw [k1] at h2
      simp [mo] at h2
  have hm : ibin .mul .i64 2 ((l.length : Nat) : Int) = ((2 * l.length : Nat) : Int) := by
    have : ibin .mul .i64 2 ((l.length : Nat) : Int) = 2 * ((l.length : Nat) : Int) := wrapi (by omega) (by omega)
    rw [this]; omega
  have q0 : icmp .neq (0 : Int) 0 = false := rfl
  have q1 : icmp .neq (((ByteArray.size (bStr (l.flatMap hexI))) : Nat) : Int) (ibin .mul .i64 2 ((l.length : Nat) : Int)) = false := by rw [hsz, hm]; simp [icmp]
  simp only [live_law, mo, Bool.not_true, cond_false, hex_law 3000000 l hb hl (by decide), u1, q0, q1, same_self _ _ (rfl : (((l.length, l), ()) : ((Nat × List Int) × Unit)).1.2 = l)]
  rcases unhex_spec 3000000 s (by omega) (by decide) with ⟨he, l', h1, h2⟩ | h2
  · obtain ⟨k1, k2, k3⟩ := hex_pairs s.data.toList l' he h1
    have hl' : l'.length = s.size / 2 := k1
    simp only [h2, mo, q0, cond_false]
    rw [← hl', hex_law 3000000 l' k2 (by omega) (by decide)]
    have : bStr (l'.flatMap hexI) = s := ByteArray.ext (by
      have := bStr_list (l'.flatMap hexI)
      rw [k3] at this
      exact Array.ext' this)
    simp only [this, beqS]
  · simp only [h2, mo, show icmp .neq (104 : Int) 0 = true from rfl, cond_true, show icmp .eql (104 : Int) 104 = true from rfl]
    rfl

end Go.Vx.Wx
