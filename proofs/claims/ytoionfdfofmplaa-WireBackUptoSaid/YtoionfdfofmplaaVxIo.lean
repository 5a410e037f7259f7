/- The engine, part Io: a call in place whose work is told by forms: arguments and memory at the call, answer and memory behind it. -/
import Derived.Test.YtoionfdfofmplaaVxR
set_option autoImplicit false
set_option linter.unusedSimpArgs false
set_option linter.unusedVariables false
namespace Go.Vx
open Go Go.RowKit

theorem Ent.lk_names {α : Type} : (e : Ent α) → (x : α) → ∀ d, d ∈ e.names → ∃ v, lk d (e.mk x) = some v
  | .nil, x, d, h => by simp [Ent.names] at h
  | .one d0 p, x, d, h => by
    simp only [Ent.names, List.mem_singleton] at h
    subst h
    exact ⟨_, by rw [Ent.mk, lk_cons_self]⟩
  | .cons d0 p r, x, d, h => by
    by_cases hd : d0 = d
    · subst hd
      exact ⟨_, by rw [Ent.mk, lk_cons_self]⟩
    · simp only [Ent.names, List.mem_cons] at h
      obtain ⟨v, hv⟩ := Ent.lk_names r x.2 d (h.resolve_left fun e => hd e.symm)
      exact ⟨v, by rw [Ent.mk, lk_cons_ne hd]; exact hv⟩

def dropN (ns : List Nat) : List (Nat × AV) → List (Nat × AV)
  | [] => []
  | p :: l => cond (hasN p.1 ns) (dropN ns l) (p :: dropN ns l)
theorem dropN_lk {ns : List Nat} {b : Nat} {T : AV} : {l : List (Nat × AV)} → lk b (dropN ns l) = some T → lk b l = some T ∧ b ∉ ns
  | [], h => by simp [dropN, lk] at h
  | p :: l, h => by
    rw [dropN] at h
    cases hq : hasN p.1 ns with
    | true =>
      rw [hq] at h
      obtain ⟨h1, h2⟩ := dropN_lk (l := l) h
      have : p.1 ≠ b := fun e => h2 (e ▸ hasN_iff.1 hq)
      exact ⟨by rw [show p = (p.1, p.2) from rfl, lk_cons_ne this]; exact h1, h2⟩
    | false =>
      rw [hq, cond_false] at h
      by_cases hb : p.1 = b
      · subst hb
        have hn : p.1 ∉ ns := fun hh => by rw [hasN_iff.2 hh] at hq; cases hq
        rw [show p = (p.1, p.2) from rfl, lk_cons_self] at h ⊢
        exact ⟨h, hn⟩
      · rw [show p = (p.1, p.2) from rfl, lk_cons_ne hb] at h ⊢
        exact dropN_lk h

def noItr : List (Nat × AV) → Bool
  | [] => true
  | p :: l => match p.2 with
    | .itr _ _ => false
    | _ => noItr l
theorem noItr_lk {b : Nat} {s : ByteArray} {q : Nat} : {l : List (Nat × AV)} → noItr l = true → lk b l ≠ some (.itr s q)
  | [], _, h => by simp [lk] at h
  | p :: l, hn, h => by
    rw [noItr] at hn
    by_cases hb : p.1 = b
    · subst hb
      rw [show p = (p.1, p.2) from rfl, lk_cons_self] at h
      rw [Option.some.inj h] at hn
      cases hn
    · rw [show p = (p.1, p.2) from rfl, lk_cons_ne hb] at h
      refine noItr_lk (l := l) ?_ h
      split at hn
      · cases hn
      · exact hn

theorem lk_app2 {b : Nat} {T : AV} {l r : List (Nat × AV)} (h : lk b (l ++ r) = some T) : lk b l = some T ∨ (lk b l = none ∧ lk b r = some T) := by
  induction l with
  | nil => exact .inr ⟨rfl, h⟩
  | cons p l ih =>
    by_cases hb : p.1 = b
    · subst hb
      rw [List.cons_append, show p = (p.1, p.2) from rfl, lk_cons_self] at h
      exact .inl (by rw [show p = (p.1, p.2) from rfl, lk_cons_self]; exact h)
    · rw [List.cons_append, show p = (p.1, p.2) from rfl, lk_cons_ne hb] at h
      rcases ih h with h | ⟨h1, h2⟩
      · exact .inl (by rw [show p = (p.1, p.2) from rfl, lk_cons_ne hb]; exact h)
      · exact .inr ⟨by rw [show p = (p.1, p.2) from rfl, lk_cons_ne hb]; exact h1, h2⟩

end Go.Vx
