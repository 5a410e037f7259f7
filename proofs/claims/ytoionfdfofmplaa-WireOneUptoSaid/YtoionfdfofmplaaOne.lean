/- WireOne: the plain law. -/
import Derived.Test.YtoionfdfofmplaaCnt
import Derived.Test.YtoionfdfofmplaaTexts
set_option autoImplicit false
set_option linter.unusedVariables false
set_option linter.unusedSimpArgs false
namespace Go.Vx.Wx
open Go Go.Vx

def one_tail (N : Nat) (a : ((Nat × List Int) × Unit)) : Option Bool :=
  mo (slices_Clone_of_byte_byte ((a.1.1, a.1.2), ())) none fun r23 =>
  cond (icmp .lss ((a.1.1 : Nat) : Int) 0) (
    some (icmp .eql ((r23.1.1 : Nat) : Int) ((a.1.1 : Nat) : Int))
  ) (
    mo (io_veillaw10_WireOne_p_wire_Reader_count N () ((r23.1.1, r23.1.2), ((), (0, r23.1.1, 0), 0))) none fun r24 =>
    cond (icmp .neq r24.2.2.2.2 0) (
      cond (icmp .eql r24.2.2.2.2 0) (
        none
      ) (
        some (icmp .eql ((r24.2.2.2.1.2.1 : Nat) : Int) ((a.1.1 : Nat) : Int))
      )
    ) (
      cond (icmp .gtr r24.1 (IntKind.wrap .u64 ((a.1.1 : Nat) : Int))) (
        let x17 := (icmp .eql r24.2.2.2.2 0)
        cond x17 (
          some (icmp .eql ((r23.1.1 : Nat) : Int) ((a.1.1 : Nat) : Int))
        ) (
          cond x17 (
            none
          ) (
            some (icmp .eql ((r23.1.1 : Nat) : Int) ((a.1.1 : Nat) : Int))
          )
        )
      ) (
        cond (icmp .gtr r24.1 (IntKind.wrap .u64 ((r24.2.2.2.1.2.1 : Nat) : Int))) (
          let x18 := (icmp .eql r24.2.2.2.2 0)
          cond x18 (
            some (icmp .eql ((r23.1.1 : Nat) : Int) ((a.1.1 : Nat) : Int))
          ) (
            cond x18 (
              none
            ) (
              some (icmp .eql ((r23.1.1 : Nat) : Int) ((a.1.1 : Nat) : Int))
            )
          )
        ) (
          let x19 := (decide ((0 : Int) ≤ r24.1 ∧ r24.1 ≤ ((r24.2.2.2.1.2.1 : Nat) : Int)))
          cond x19 (
            mo (slices_Clone_of_byte_byte (((Int.toNat r24.1), (List.take (Int.toNat r24.1) (List.drop r24.2.2.2.1.1 r24.2.1.2))), ())) none fun r25 =>
            cond x19 (
              cond (icmp .eql r24.2.2.2.2 0) (
                mo (wire_AppendBytes_nil N () ((r25.1.1, r25.1.2), ())) none fun r26 =>
                let x20 := (ibin .sub .i64 ((a.1.1 : Nat) : Int) (((r24.2.2.2.1.2.1 - (Int.toNat r24.1)) : Nat) : Int))
                cond (decide ((0 : Int) ≤ x20 ∧ x20 ≤ ((a.1.1 : Nat) : Int))) (
                  let x21 := (Int.toNat x20)
                  some (veillaw10_same ((r26.1.1, r26.1.2), ()) ((x21, (List.take x21 (List.drop 0 a.1.2))), ()))
                ) (
                  none
                )
              ) (
                cond (icmp .eql ((r25.1.1 : Nat) : Int) 0) (
                  some (icmp .eql (((r24.2.2.2.1.2.1 - (Int.toNat r24.1)) : Nat) : Int) ((a.1.1 : Nat) : Int))
                ) (
                  some false
                )
              )
            ) (
              none
            )
          ) (
            none
          )
        )
      )
    )
  )

theorem clone_all (l : List Int) (hl : l.length ≤ 2000000) : slices_Clone_of_byte_byte ((l.length, l), ()) = some ((l.length, l), ()) := by
  unfold slices_Clone_of_byte_byte
  have : decide ((0 + l.length) * 1 ≤ 140737488355328 ∧ 0 + l.length ≤ 9223372036854775807) = true := by simp only [decide_eq_true_eq]; omega
  simp only [Nat.zero_add] at this
  simp only [Nat.zero_add, this, cond_true, List.drop_zero, List.take_length]

/-- What a fresh reader's first number is. -/
theorem first_num (N : Nat) (l : List Int) (hl : l.length ≤ 1048576) (hb : ∀ x ∈ l, Byte x) :
    (∃ (w : Nat) (t rest : List Int), l = t ++ rest ∧ Enc w t ∧ t.length ≤ 10 ∧ w < 18446744073709551616 ∧
      io_veillaw10_WireOne_p_wire_Reader_count N () ((l.length, l), ((), (0, l.length, 0), 0)) = some (((w : Nat) : Int), ((l.length, l), ((), ((t.length, l.length - t.length, 0), 0))))) ∨
    ((∀ x ∈ l, 128 ≤ x) ∧ l.length ≤ 9 ∧ io_veillaw10_WireOne_p_wire_Reader_count N () ((l.length, l), ((), (0, l.length, 0), 0)) = some (0, ((l.length, l), ((), (0, l.length, 0), 100)))) ∨
    io_veillaw10_WireOne_p_wire_Reader_count N () ((l.length, l), ((), (0, l.length, 0), 0)) = some (0, ((l.length, l), ((), (0, l.length, 0), 102))) := by
  rw [cnt_io]
  rcases cnt_spec l (by omega) hb 10 0 0 l (by omega) rfl (by omega) (by decide) with ⟨w, t, rest, q1, q2, q3, q4, q5, q6⟩ | ⟨q1, q2, q3⟩ | q
  · refine .inl ⟨w, t, rest, q1, q2, q4, by simpa using q5, ?_⟩
    simp only [Nat.pow_zero, Nat.one_mul, Nat.zero_add] at q6
    exact q6
  · exact .inr (.inl ⟨q1, by omega, q3⟩)
  · exact .inr (.inr q)

theorem wrapU {n : Nat} (h : n < 18446744073709551616) : IntKind.wrap .u64 ((n : Nat) : Int) = ((n : Nat) : Int) := by rw [wrap64]; omega

theorem eql_self (x : Int) : icmp .eql x x = true := by simp [icmp]

theorem one_tail_law (l : List Int) (hl : l.length ≤ 1048576) (hb : ∀ x ∈ l, Byte x) : one_tail 3000000 ((l.length, l), ()) = some true := by
  unfold one_tail
  have h0 : icmp .lss ((l.length : Nat) : Int) 0 = false := by simp only [icmp, decide_eq_false_iff_not]; omega
  simp only [clone_all l (by omega), mo, h0, cond_false]
  rcases first_num 3000000 l hl hb with ⟨w, t, rest, q1, q2, q3, q4, q5⟩ | ⟨q1, q2, q5⟩ | q5
  · have n0 : icmp .neq (0 : Int) 0 = false := rfl
    have e0 : icmp .eql (0 : Int) 0 = true := rfl
    simp only [q5, mo, n0, e0, cond_false, cond_true, wrapU (show l.length < 18446744073709551616 by omega), wrapU (show l.length - t.length < 18446744073709551616 by omega), eql_self]
    have htl : t.length ≤ l.length := by rw [q1]; simp
    cases g1 : icmp .gtr ((w : Nat) : Int) ((l.length : Nat) : Int) with
    | true => rfl
    | false =>
      cases g2 : icmp .gtr ((w : Nat) : Int) ((l.length - t.length : Nat) : Int) with
      | true => rfl
      | false =>
        have hw : w ≤ l.length - t.length := by
          have : ¬ ((l.length - t.length : Nat) : Int) < ((w : Nat) : Int) := by simpa [icmp] using g2
          omega
        have g3 : decide ((0 : Int) ≤ ((w : Nat) : Int) ∧ ((w : Nat) : Int) ≤ ((l.length - t.length : Nat) : Int)) = true := by simp only [decide_eq_true_eq]; omega
        have hd : l.drop t.length = rest := by rw [q1]; simp
        have hlr : (List.take w rest).length = w := by
          rw [List.length_take]
          have : rest.length = l.length - t.length := by rw [← hd]; simp
          omega
        have hcl : slices_Clone_of_byte_byte ((w, List.take w rest), ()) = some ((w, List.take w rest), ()) := by
          have := clone_all (List.take w rest) (by omega)
          rw [hlr] at this
          exact this
        simp only [g3, cond_false, cond_true, Int.toNat_natCast, hd, hcl, mo]
        have hab : wire_AppendBytes_nil 3000000 () ((w, List.take w rest), ()) = some ((t.length + w, t ++ List.take w rest), ()) := by
          unfold wire_AppendBytes_nil
          have g4 : decide ((t.length + w) * 1 ≤ 140737488355328 ∧ t.length + w ≤ 9223372036854775807) = true := by simp only [decide_eq_true_eq]; omega
          simp only [wrapU q4, app_nil 3000000 q2 q4 q3 (by decide), mo, g4, cond_true]
        have hx : ibin .sub .i64 ((l.length : Nat) : Int) (((l.length - t.length - w : Nat)) : Int) = ((t.length + w : Nat) : Int) := by
          show IntKind.wrap .i64 _ = _
          rw [wrapi (by omega) (by omega)]
          omega
        have g5 : decide ((0 : Int) ≤ ((t.length + w : Nat) : Int) ∧ ((t.length + w : Nat) : Int) ≤ ((l.length : Nat) : Int)) = true := by simp only [decide_eq_true_eq]; omega
        simp only [hab, hx, g5, cond_true, Int.toNat_natCast]
        rw [same_self]
        show t ++ List.take w rest = List.take (t.length + w) (List.drop 0 l)
        rw [List.drop_zero, q1, List.take_append, List.take_of_length_le (show t.length ≤ t.length + w by omega), show t.length + w - t.length = w by omega]
  · have n1 : icmp .neq (100 : Int) 0 = true := rfl
    have e1 : icmp .eql (100 : Int) 0 = false := rfl
    simp only [q5, mo, n1, e1, cond_false, cond_true, eql_self]
  · have n1 : icmp .neq (102 : Int) 0 = true := rfl
    have e1 : icmp .eql (102 : Int) 0 = false := rfl
    simp only [q5, mo, n1, e1, cond_false, cond_true, eql_self]


theorem one_loop (N0 : Nat) (l : List Int) (hl : l.length ≤ 1048576) (h : ∀ x ∈ l, 128 ≤ x) : ∀ (suf pre : List Int) (f : Nat), l = pre ++ suf → suf.length + 1 ≤ f →
    loopF (veillaw10_WireOne_l0 N0) f ((l.length, (), ((pre.length : Nat) : Int)), (l.length, l)) = some (.inl (l.length, (l.length, l))) := by
  intro suf
  induction suf with
  | nil =>
    intro pre f h1 hf
    obtain ⟨k, rfl⟩ : ∃ k, f = k + 1 := ⟨f - 1, by omega⟩
    have : pre.length = l.length := by rw [h1]; simp
    rw [loopF_succ]
    unfold veillaw10_WireOne_l0
    have h4 : icmp .lss ((pre.length : Nat) : Int) ((l.length : Nat) : Int) = false := by simp only [icmp, decide_eq_false_iff_not]; omega
    simp only [h4, cond_false, mo]
  | cons a suf ih =>
    intro pre f h1 hf
    obtain ⟨k, rfl⟩ : ∃ k, f = k + 1 := ⟨f - 1, by omega⟩
    have hlen : l.length = pre.length + suf.length + 1 := by rw [h1]; simp; omega
    have ha : 128 ≤ a := h a (by rw [h1]; simp)
    have hg : List.getD l (Int.toNat ((pre.length : Nat) : Int)) 0 = a := by rw [Int.toNat_natCast, h1]; exact getD_mid _ _ _ _
    rw [loopF_succ]
    unfold veillaw10_WireOne_l0
    have h4 : icmp .lss ((pre.length : Nat) : Int) ((l.length : Nat) : Int) = true := by simp only [icmp, decide_eq_true_eq]; omega
    have h5 : decide ((0 : Int) ≤ ((pre.length : Nat) : Int) ∧ ((pre.length : Nat) : Int) < ((l.length : Nat) : Int)) = true := by simp only [decide_eq_true_eq]; omega
    have h6 : icmp .lss a 128 = false := by simp only [icmp, decide_eq_false_iff_not]; omega
    have h7 : ibin .add .i64 ((pre.length : Nat) : Int) 1 = (((pre ++ [a]).length : Nat) : Int) := by
      show IntKind.wrap .i64 _ = _
      rw [wrapi (by omega) (by omega), List.length_append]
      rfl
    simp only [h4, h5, hg, h6, h7, cond_true, cond_false, mo]
    exact ih (pre ++ [a]) k (by rw [h1]; simp) (by simp only [List.length_cons] at hf; omega)

theorem mo_go {α β : Type} (a : α) (k : α → Option β) : mo (some a) none k = k a := rfl

set_option maxHeartbeats 4000000 in
set_option maxRecDepth 20000 in
theorem wireOne_law (l : List Int) (hb : ∀ x ∈ l, Byte x) (hl : l.length ≤ 1048576) : veillaw10_WireOne 3000000 ((l.length, l), ()) = some true := by
  have tl := one_tail_law l hl hb
  unfold one_tail at tl
  have hcl := clone_all l (by omega)
  have hxl : ∀ k : Nat, k ≤ l.length → ibin .sub .i64 ((l.length : Nat) : Int) ((l.length - k : Nat) : Int) = ((k : Nat) : Int) := by
    intro k hk
    show IntKind.wrap .i64 _ = _
    rw [wrapi (by omega) (by omega)]
    omega
  have nself : icmp .neq ((l.length : Nat) : Int) ((l.length : Nat) : Int) = false := by simp [icmp]
  unfold veillaw10_WireOne
  rcases first_num 3000000 l hl hb with ⟨w, t, rest, q1, q2, q3, q4, q5⟩ | ⟨q1, q2, q5⟩ | q5
  · have htl : t.length ≤ l.length := by rw [q1]; simp
    have c1 : icmp .gtr ((w : Nat) : Int) 18446744073709551615 = false := by simp only [icmp, decide_eq_false_iff_not]; omega
    have c2 : decide ((0 : Int) ≤ ((t.length : Nat) : Int) ∧ ((t.length : Nat) : Int) ≤ ((l.length : Nat) : Int)) = true := by simp only [decide_eq_true_eq]; omega
    have c3 : veillaw10_same ((t.length, t), ()) ((t.length, List.take t.length (List.drop 0 l)), ()) = true := same_self _ _ (by rw [List.drop_zero, q1]; simp)
    have c4 : wire_AppendNumber_nil 3000000 () ((w : Nat) : Int) = some ((t.length, t), ()) := app_nil 3000000 q2 q4 q3 (by decide)
    have e0 : icmp .eql (0 : Int) 0 = true := rfl
    have e1 : icmp .eql (0 : Int) 100 = false := rfl
    have e2 : icmp .neq (102 : Int) 102 = false := rfl
    rw [live_law, mo_go]
    dsimp only
    rw [Bool.not_true, cond_false, hcl, mo_go]
    dsimp only
    rw [q5, mo_go]
    dsimp only
    rw [e0, cond_true, c1, cond_false, cond_true, c4, mo_go]
    dsimp only
    rw [hxl _ htl, c2, cond_true, Int.toNat_natCast, c3, Bool.not_true, cond_false]
    by_cases hw : w = 0
    · have c5 : icmp .gtr ((w : Nat) : Int) 0 = false := by simp only [icmp, decide_eq_false_iff_not]; omega
      rw [c5, cond_false, e1, cond_false]
      rw [hcl] at tl
      exact tl
    · have c5 : icmp .gtr ((w : Nat) : Int) 0 = true := by simp only [icmp, decide_eq_true_eq]; omega
      have c6 : icmp .gtr ((w : Nat) : Int) (ibin .sub .u64 ((w : Nat) : Int) 1) = true := by
        have : ibin .sub .u64 ((w : Nat) : Int) 1 = ((w - 1 : Nat) : Int) := by
          show IntKind.wrap .u64 _ = _
          rw [wrap64]; omega
        rw [this]
        simp only [icmp, decide_eq_true_eq]; omega
      rw [c5, cond_true, mo_go]
      dsimp only
      rw [q5, mo_go]
      dsimp only
      rw [e0, cond_true, c6, cond_true, cond_true, nself, cond_false, e1, cond_false]
      rw [hcl] at tl
      exact tl
  · have f1 : icmp .eql (100 : Int) 0 = false := rfl
    have f2 : icmp .neq (0 : Int) 0 = false := rfl
    have f3 : icmp .neq (100 : Int) 100 = false := rfl
    have f4 : icmp .eql (100 : Int) 100 = true := rfl
    have f5 := one_loop 3000000 l hl q1 l [] 3000000 rfl (by omega)
    have f6 : icmp .gtr ((l.length : Nat) : Int) 9 = false := by simp only [icmp, decide_eq_false_iff_not]; omega
    simp only [List.length_nil] at f5
    rw [show ((0 : Nat) : Int) = 0 from rfl] at f5
    rw [live_law, mo_go]
    dsimp only
    rw [Bool.not_true, cond_false, hcl, mo_go]
    dsimp only
    rw [q5, mo_go]
    dsimp only
    rw [f1, cond_false, cond_false, nself, cond_false, f2, cond_false, f3, cond_false, f4, cond_true, f5, mo_go]
    dsimp only
    rw [f6, cond_false]
    exact tl
  · have f1 : icmp .eql (102 : Int) 0 = false := rfl
    have f2 : icmp .neq (0 : Int) 0 = false := rfl
    have f3 : icmp .neq (102 : Int) 100 = true := rfl
    have f3' : icmp .neq (102 : Int) 102 = false := rfl
    have f4 : icmp .eql (102 : Int) 100 = false := rfl
    rw [live_law, mo_go]
    dsimp only
    rw [Bool.not_true, cond_false, hcl, mo_go]
    dsimp only
    rw [q5, mo_go]
    dsimp only
    rw [f1, cond_false, cond_false, nself, cond_false, f2, cond_false, f3, cond_true, f3', cond_false, f4, cond_false]
    rw [hcl] at tl
    exact tl

end Go.Vx.Wx
