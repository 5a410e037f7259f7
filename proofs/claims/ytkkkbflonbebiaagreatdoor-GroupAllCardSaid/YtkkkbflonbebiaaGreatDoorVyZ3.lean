/- Numbers, part Z3: bytes in their order; lists in order; the sorting of four things by comparisons. No program in sight. -/
import Derived.Test.YtkkkbflonbebiaaGreatDoorVxU2
set_option autoImplicit false
set_option linter.unusedSimpArgs false
namespace Go.Vx
open Go
theorem ZFt : (a b : List Int) → cmpI a b = 0 → a = b
  | [], [], _ => rfl
  | [], _ :: _, h => by simp [cmpI] at h
  | _ :: _, [], h => by simp [cmpI] at h
  | x :: a, y :: b, h => by
    unfold cmpI at h
    split at h
    · omega
    · split at h
      · omega
      · rw [ZFt a b h, show x = y by omega]
theorem ZAX : (a b : List Int) → cmpI b a = - cmpI a b
  | [], [] => rfl
  | [], _ :: _ => rfl
  | _ :: _, [] => rfl
  | x :: a, y :: b => by
    unfold cmpI
    have := ZAX a b
    rcases Int.lt_trichotomy x y with h | h | h
    · rw [if_neg (by omega), if_pos h, if_pos h]; rfl
    · rw [if_neg (by omega), if_neg (by omega), if_neg (by omega), if_neg (by omega)]; exact this
    · rw [if_pos h, if_neg (by omega), if_pos h]
theorem Zs7 : (a b c : List Int) → cmpI a b ≤ 0 → cmpI b c ≤ 0 → cmpI a c ≤ 0
  | [], _, [], _, _ => by simp [cmpI]
  | [], _, _ :: _, _, _ => by simp [cmpI]
  | _ :: _, [], _, h, _ => by simp [cmpI] at h
  | _ :: _, _ :: _, [], _, h => by simp [cmpI] at h
  | x :: a, y :: b, z :: c, h, g => by
    unfold cmpI at h g ⊢
    have ih := Zs7 a b c
    split at h
    · split at g
      · rw [if_pos (by omega)]; omega
      · split at g
        · omega
        · rw [if_pos (by omega)]; omega
    · split at h
      · omega
      · split at g
        · rw [if_pos (by omega)]; omega
        · split at g
          · omega
          · rw [if_neg (by omega), if_neg (by omega)]; exact ih h g
abbrev leI (a b : List Int) : Prop := cmpI a b ≤ 0
theorem ZLo {a b : List Int} (h : leI a b) (g : leI b a) : a = b := by
  have := ZAX a b
  unfold leI at h g
  exact ZFt a b (by omega)
theorem ZCV {a b : List Int} (h : icmp .lss (cmpI b a) 0 = false) : leI a b := by
  have h' : ¬ (cmpI b a < 0) := of_decide_eq_false h
  have := ZAX a b
  unfold leI
  omega
theorem ZGS {a b : List Int} (h : icmp .lss (cmpI a b) 0 = true) : icmp .lss (cmpI b a) 0 = false := by
  have h' : cmpI a b < 0 := of_decide_eq_true h
  have := ZAX a b
  exact decide_eq_false (by omega)
def sortT {α : Type} (f : Nat → α) (B : Nat → Nat → Bool) : Option (α × α × α × α) :=
  cond (B 1 0) (cond (B 2 0) (cond (B 2 1) (cond (B 3 0) (cond (B 3 1) (cond (B 3 2) (some (f 3, f 2, f 1, f 0)) (some (f 2, f 3, f 1, f 0))) (some (f 2, f 1, f 3, f 0))) (some (f 2, f 1, f 0, f 3))) (cond (B 3 0) (cond (B 3 2) (cond (B 3 1) (some (f 3, f 1, f 2, f 0)) (some (f 1, f 3, f 2, f 0))) (some (f 1, f 2, f 3, f 0))) (some (f 1, f 2, f 0, f 3)))) (cond (B 3 2) (cond (B 3 0) (cond (B 3 1) (some (f 3, f 1, f 0, f 2)) (some (f 1, f 3, f 0, f 2))) (some (f 1, f 0, f 3, f 2))) (some (f 1, f 0, f 2, f 3)))) (cond (B 2 1) (cond (B 2 0) (cond (B 3 1) (cond (B 3 0) (cond (B 3 2) (some (f 3, f 2, f 0, f 1)) (some (f 2, f 3, f 0, f 1))) (some (f 2, f 0, f 3, f 1))) (some (f 2, f 0, f 1, f 3))) (cond (B 3 1) (cond (B 3 2) (cond (B 3 0) (some (f 3, f 0, f 2, f 1)) (some (f 0, f 3, f 2, f 1))) (some (f 0, f 2, f 3, f 1))) (some (f 0, f 2, f 1, f 3)))) (cond (B 3 2) (cond (B 3 1) (cond (B 3 0) (some (f 3, f 0, f 1, f 2)) (some (f 0, f 3, f 1, f 2))) (some (f 0, f 1, f 3, f 2))) (some (f 0, f 1, f 2, f 3))))
theorem ZA2 {α : Type} (f : Nat → α) (B : Nat → Nat → Bool) (asym : ∀ i j, B i j = true → B j i = false) :
    ∃ i j k l, [i, j, k, l].Perm [0, 1, 2, 3] ∧ sortT f B = some (f i, f j, f k, f l) ∧ B j i = false ∧ B k j = false ∧ B l k = false := by
  cases h10 : B 1 0 with
  | true =>
    cases h20 : B 2 0 with
    | true =>
      cases h21 : B 2 1 with
      | true =>
        cases h30 : B 3 0 with
        | true =>
          cases h31 : B 3 1 with
          | true =>
            cases h32 : B 3 2 with
            | true =>
              exact ⟨3, 2, 1, 0, by decide, by unfold sortT; simp only [h10, h20, h21, h30, h31, h32, cond_true, cond_false], asym _ _ h32, asym _ _ h21, asym _ _ h10⟩
            | false =>
              exact ⟨2, 3, 1, 0, by decide, by unfold sortT; simp only [h10, h20, h21, h30, h31, h32, cond_true, cond_false], h32, asym _ _ h31, asym _ _ h10⟩
          | false =>
            exact ⟨2, 1, 3, 0, by decide, by unfold sortT; simp only [h10, h20, h21, h30, h31, cond_true, cond_false], asym _ _ h21, h31, asym _ _ h30⟩
        | false =>
          exact ⟨2, 1, 0, 3, by decide, by unfold sortT; simp only [h10, h20, h21, h30, cond_true, cond_false], asym _ _ h21, asym _ _ h10, h30⟩
      | false =>
        cases h30 : B 3 0 with
        | true =>
          cases h32 : B 3 2 with
          | true =>
            cases h31 : B 3 1 with
            | true =>
              exact ⟨3, 1, 2, 0, by decide, by unfold sortT; simp only [h10, h20, h21, h30, h32, h31, cond_true, cond_false], asym _ _ h31, h21, asym _ _ h20⟩
            | false =>
              exact ⟨1, 3, 2, 0, by decide, by unfold sortT; simp only [h10, h20, h21, h30, h32, h31, cond_true, cond_false], h31, asym _ _ h32, asym _ _ h20⟩
          | false =>
            exact ⟨1, 2, 3, 0, by decide, by unfold sortT; simp only [h10, h20, h21, h30, h32, cond_true, cond_false], h21, h32, asym _ _ h30⟩
        | false =>
          exact ⟨1, 2, 0, 3, by decide, by unfold sortT; simp only [h10, h20, h21, h30, cond_true, cond_false], h21, asym _ _ h20, h30⟩
    | false =>
      cases h32 : B 3 2 with
      | true =>
        cases h30 : B 3 0 with
        | true =>
          cases h31 : B 3 1 with
          | true =>
            exact ⟨3, 1, 0, 2, by decide, by unfold sortT; simp only [h10, h20, h32, h30, h31, cond_true, cond_false], asym _ _ h31, asym _ _ h10, h20⟩
          | false =>
            exact ⟨1, 3, 0, 2, by decide, by unfold sortT; simp only [h10, h20, h32, h30, h31, cond_true, cond_false], h31, asym _ _ h30, h20⟩
        | false =>
          exact ⟨1, 0, 3, 2, by decide, by unfold sortT; simp only [h10, h20, h32, h30, cond_true, cond_false], asym _ _ h10, h30, asym _ _ h32⟩
      | false =>
        exact ⟨1, 0, 2, 3, by decide, by unfold sortT; simp only [h10, h20, h32, cond_true, cond_false], asym _ _ h10, h20, h32⟩
  | false =>
    cases h21 : B 2 1 with
    | true =>
      cases h20 : B 2 0 with
      | true =>
        cases h31 : B 3 1 with
        | true =>
          cases h30 : B 3 0 with
          | true =>
            cases h32 : B 3 2 with
            | true =>
              exact ⟨3, 2, 0, 1, by decide, by unfold sortT; simp only [h10, h21, h20, h31, h30, h32, cond_true, cond_false], asym _ _ h32, asym _ _ h20, h10⟩
            | false =>
              exact ⟨2, 3, 0, 1, by decide, by unfold sortT; simp only [h10, h21, h20, h31, h30, h32, cond_true, cond_false], h32, asym _ _ h30, h10⟩
          | false =>
            exact ⟨2, 0, 3, 1, by decide, by unfold sortT; simp only [h10, h21, h20, h31, h30, cond_true, cond_false], asym _ _ h20, h30, asym _ _ h31⟩
        | false =>
          exact ⟨2, 0, 1, 3, by decide, by unfold sortT; simp only [h10, h21, h20, h31, cond_true, cond_false], asym _ _ h20, h10, h31⟩
      | false =>
        cases h31 : B 3 1 with
        | true =>
          cases h32 : B 3 2 with
          | true =>
            cases h30 : B 3 0 with
            | true =>
              exact ⟨3, 0, 2, 1, by decide, by unfold sortT; simp only [h10, h21, h20, h31, h32, h30, cond_true, cond_false], asym _ _ h30, h20, asym _ _ h21⟩
            | false =>
              exact ⟨0, 3, 2, 1, by decide, by unfold sortT; simp only [h10, h21, h20, h31, h32, h30, cond_true, cond_false], h30, asym _ _ h32, asym _ _ h21⟩
          | false =>
            exact ⟨0, 2, 3, 1, by decide, by unfold sortT; simp only [h10, h21, h20, h31, h32, cond_true, cond_false], h20, h32, asym _ _ h31⟩
        | false =>
          exact ⟨0, 2, 1, 3, by decide, by unfold sortT; simp only [h10, h21, h20, h31, cond_true, cond_false], h20, asym _ _ h21, h31⟩
    | false =>
      cases h32 : B 3 2 with
      | true =>
        cases h31 : B 3 1 with
        | true =>
          cases h30 : B 3 0 with
          | true =>
            exact ⟨3, 0, 1, 2, by decide, by unfold sortT; simp only [h10, h21, h32, h31, h30, cond_true, cond_false], asym _ _ h30, h10, h21⟩
          | false =>
            exact ⟨0, 3, 1, 2, by decide, by unfold sortT; simp only [h10, h21, h32, h31, h30, cond_true, cond_false], h30, asym _ _ h31, h21⟩
        | false =>
          exact ⟨0, 1, 3, 2, by decide, by unfold sortT; simp only [h10, h21, h32, h31, cond_true, cond_false], h10, h31, asym _ _ h32⟩
      | false =>
        exact ⟨0, 1, 2, 3, by decide, by unfold sortT; simp only [h10, h21, h32, cond_true, cond_false], h10, h21, h32⟩
theorem ZIE {l m : List (List Int)} (h : l.Perm m) (hl : l.Pairwise leI) (hm : m.Pairwise leI) : l = m :=
  h.eq_of_pairwise (fun _ _ _ _ => ZLo) hl hm
theorem pair4 {a b c d : List Int} (h1 : leI a b) (h2 : leI b c) (h3 : leI c d) : [a, b, c, d].Pairwise leI := by
  have h4 := Zs7 _ _ _ h1 h2
  have h5 := Zs7 _ _ _ h2 h3
  have h6 := Zs7 _ _ _ h1 h5
  simp only [List.pairwise_cons, List.mem_cons, List.not_mem_nil, or_false, forall_eq_or_imp, forall_eq, List.Pairwise.nil, and_true]
  exact ⟨⟨h1, h4, h6⟩, ⟨h2, h5⟩, h3, fun _ h => h.elim⟩
end Go.Vx
