/- The engine, part F: soundness, operation by operation. -/
import Derived.Test.YtoionfdfofmplaaVxE
set_option autoImplicit false
set_option linter.unusedVariables false
set_option linter.unusedSimpArgs false
namespace Go.Vx
open Go Go.RowKit

theorem kEq_eq {a b : IntKind} (h : kEq a b = true) : a = b := by
  have h := beq_eq h
  revert h
  cases a <;> cases b <;> simp [kix]

theorem cond_some {α : Type} {b : Bool} {x : Option α} {r : α} (h : cond b x none = some r) : b = true ∧ x = some r := by cases b <;> simp_all
theorem cond_some' {α : Type} {b : Bool} {x : Option α} {r : α} (h : cond b none x = some r) : b = false ∧ x = some r := by cases b <;> simp_all
theorem mo_some {α β : Type} {x : Option α} {k : α → Option β} {r : β} (h : mo x none k = some r) : ∃ a, x = some a ∧ k a = some r := by
  cases x with
  | none => simp [mo] at h
  | some a => exact ⟨a, rfl, h⟩

theorem okL_get {P : Program} {ρ : Rho} : {l : List AV} → OKL P ρ l → {i : Nat} → {v : AV} → l[i]? = some v → OK P ρ v
  | [], _, _, _, h => by simp at h
  | u :: l, ok, 0, v, h => by simp only [OKL] at ok; simp at h; subst h; exact ok.1
  | u :: l, ok, i + 1, v, h => by simp only [OKL] at ok; exact okL_get ok.2 (by simpa using h)

theorem denT_get {P : Program} {ρ : Rho} : {l : List AV} → {i : Nat} → {v : AV} → l[i]? = some v → (denT P ρ l)[i]? = some (den P ρ v)
  | [], _, _, h => by simp at h
  | u :: l, 0, v, h => by simp at h; subst h; simp [denT]
  | u :: l, i + 1, v, h => by simp [denT]; exact denT_get (by simpa using h)

section
variable {P : Program} {w0 : Base} {ro : Nat} {ρ : Rho} {tm mem : List (Nat × AV)} {a : Act} {w : World} (S : Sim P w0 ro ρ tm mem a.tmps w)
  {gl : Nat → Option AV} (hgl : GL P ρ gl)
include S hgl

theorem evL_sound : {l : List Operand} → {vs : List AV} → evL (evO gl tm) l = some vs → l.map a.eval = denT P ρ vs ∧ OKL P ρ vs
  | [], vs, h => by simp only [evL, Option.some.injEq] at h; subst h; simp [denT, OKL]
  | x :: l, vs, h => by
    simp only [evL] at h
    split at h
    · rename_i v hv
      split at h
      · rename_i r hr
        simp only [Option.some.injEq] at h
        subst h
        obtain ⟨h1, h2⟩ := ev_sound S hgl hv
        obtain ⟨h3, h4⟩ := evL_sound hr
        exact ⟨by simp [denT, h1, h3], by simp [OKL, h2, h4]⟩
      · simp at h
    · simp at h

theorem evP_sound : {l : List (Nat × Operand)} → {vs : List (Nat × AV)} → evP (evO gl tm) l = some vs → l.map (fun x => (x.1, a.eval x.2)) = vs.map (fun x => (x.1, den P ρ x.2)) ∧ ∀ x ∈ vs, OK P ρ x.2
  | [], vs, h => by simp only [evP, Option.some.injEq] at h; subst h; simp
  | (i, x) :: l, vs, h => by
    simp only [evP] at h
    split at h
    · rename_i v hv
      split at h
      · rename_i r hr
        simp only [Option.some.injEq] at h
        subst h
        obtain ⟨h1, h2⟩ := ev_sound S hgl hv
        obtain ⟨h3, h4⟩ := evP_sound hr
        refine ⟨by simp [h1, h3], fun y hy => ?_⟩
        rcases List.mem_cons.1 hy with rfl | hy
        · exact h2
        · exact h4 y hy
      · simp at h
    · simp at h
end

theorem takeI_sound (P : Program) (ρ : Rho) (k : IntKind) : (n : Nat) → (cs : List Value) → (r : List Int × List Value) → takeI k n cs = some r →
    cs = r.1.map (Value.int k) ++ r.2 ∧ r.1.length = n ∧ ∀ x ∈ r.1, k.min ≤ x ∧ x ≤ k.max
  | 0, cs, r, h => by simp only [takeI, Option.some.injEq] at h; subst h; simp
  | n + 1, [], r, h => by simp [takeI] at h
  | n + 1, c :: cs, r, h => by
    cases c with
    | int k' x =>
      rw [takeI] at h
      replace h := cond_some h; obtain ⟨hb, h⟩ := h
      simp only [Bool.and_eq_true] at hb
      have hk := kEq_eq hb.1
      subst hk
      split at h
      · rename_i q hq
        simp only [Option.some.injEq] at h
        subst h
        obtain ⟨a, b, c⟩ := takeI_sound P ρ k n cs q hq
        refine ⟨by simp [← a], by simp [b], fun y hy => ?_⟩
        rcases List.mem_cons.1 hy with rfl | hy
        · simpa [inR] using hb.2
        · exact c y hy
      · simp at h
    | _ => simp [takeI] at h

theorem goN_sound (P : Program) (ρ : Rho) (p : List Value → Option (AV × List Value)) (hp : ∀ cs r, p cs = some r → cs = cells P ρ r.1 ++ r.2 ∧ OK P ρ r.1) :
    (n : Nat) → (cs : List Value) → (q : List AV × List Value) → goN p n cs = some q → cs = denC P ρ q.1 ++ q.2 ∧ OKL P ρ q.1
  | 0, cs, q, h => by simp only [goN, Option.some.injEq] at h; subst h; simp [denC, OKL]
  | n + 1, cs, q, h => by
    simp only [goN] at h
    split at h
    · rename_i r hr
      split at h
      · rename_i q' hq
        simp only [Option.some.injEq] at h
        subst h
        obtain ⟨h1, h2⟩ := hp cs r hr
        obtain ⟨h3, h4⟩ := goN_sound P ρ p hp n r.2 q' hq
        exact ⟨by rw [denC_cons, List.append_assoc, ← h3]; exact h1, by simp [OKL, h2, h4]⟩
      · simp at h
    · simp at h

theorem goF_sound (P : Program) (ρ : Rho) (p : TypeId → List Value → Option (AV × List Value)) (hp : ∀ t cs r, p t cs = some r → cs = cells P ρ r.1 ++ r.2 ∧ OK P ρ r.1) :
    (fs : List Field) → (cs : List Value) → (q : List AV × List Value) → goF p fs cs = some q → cs = denC P ρ q.1 ++ q.2 ∧ OKL P ρ q.1
  | [], cs, q, h => by simp only [goF, Option.some.injEq] at h; subst h; simp [denC, OKL]
  | f :: fs, cs, q, h => by
    simp only [goF] at h
    split at h
    · rename_i r hr
      split at h
      · rename_i q' hq
        simp only [Option.some.injEq] at h
        subst h
        obtain ⟨h1, h2⟩ := hp _ cs r hr
        obtain ⟨h3, h4⟩ := goF_sound P ρ p hp fs r.2 q' hq
        exact ⟨by rw [denC_cons, List.append_assoc, ← h3]; exact h1, by simp [OKL, h2, h4]⟩
      · simp at h
    · simp at h

theorem ofV_cells (P : Program) (ρ : Rho) (c : Value) (v : AV) (h : ofV c = some v) : cells P ρ v = [c] := by
  obtain ⟨h1, -⟩ := ofV_sound P ρ c v h
  unfold cells
  rw [h1]
  unfold ofV at h
  split at h <;> simp [Value.cells] <;> simp at h

theorem parse_sound (P : Program) (ρ : Rho) : (d : Nat) → (t : TypeId) → (cs : List Value) → (r : AV × List Value) → parse P d t cs = some r → cs = cells P ρ r.1 ++ r.2 ∧ OK P ρ r.1
  | 0, _, _, _, h => by simp [parse] at h
  | d + 1, t, cs, r, h => by
    unfold parse at h
    split at h
    · split at h
      · split at h
        · rename_i q hq
          simp only [Option.some.injEq] at h
          subst h
          obtain ⟨a, b, c⟩ := takeI_sound P ρ _ _ _ _ hq
          exact ⟨by rw [cells_ints]; exact a, by simp only [OK]; exact ⟨b, c⟩⟩
        · simp at h
      · split at h
        · rename_i q hq
          simp only [Option.some.injEq] at h
          subst h
          obtain ⟨a, b⟩ := goN_sound P ρ _ (parse_sound P ρ d _) _ _ _ hq
          exact ⟨by rw [cells_agg]; exact a, by simp only [OK]; exact b⟩
        · simp at h
    · split at h
      · rename_i q hq
        simp only [Option.some.injEq] at h
        subst h
        obtain ⟨a, b⟩ := goF_sound P ρ _ (parse_sound P ρ d) _ _ _ hq
        exact ⟨by rw [cells_agg]; exact a, by simp only [OK]; exact b⟩
      · simp at h
    · split at h
      · split at h
        · rename_i v hv
          simp only [Option.some.injEq] at h
          subst h
          exact ⟨by rw [ofV_cells P ρ _ _ hv]; rfl, (ofV_sound P ρ _ _ hv).2⟩
        · simp at h
      · simp at h

theorem zero_sound {P : Program} {t : TypeId} {z : AV} (h : zeroAV P t = some z) (ρ : Rho) :
    ∃ i v, P.info? t = some i ∧ i.zero = some v ∧ (∀ w : World, (zeroValue t).run P w = .ok v w) ∧ v.cells.toList = cells P ρ z ∧ Has P z t ∧ OK P ρ z := by
  unfold zeroAV at h
  split at h
  · rename_i i hi
    split at h
    · rename_i v hv
      split at h
      · rename_i r hr
        split at h
        · rename_i hr2
          replace h := cond_some h; obtain ⟨hc, h⟩ := h
          simp only [Option.some.injEq] at h
          subst h
          obtain ⟨a, b⟩ := parse_sound P ρ _ _ _ _ hr
          rw [hr2, List.append_nil] at a
          exact ⟨i, v, hi, hv, fun w => by simp [zeroValue, typeInfo, hi, hv], a, has_of_chk P _ _ hc, b⟩
        · simp at h
      · simp at h
    · simp at h
  · simp at h

theorem one_put {P : Program} {next : Act → World → Prop} {Q : Exit → Act → World → Prop} {o : Oper} {a : Act} {w w' : World} {v : Value}
    (h : (execOp a.eval o).run P w = .ok (.value v) w') (hn : next (a.put o.dst v) w') : o.wp P a w next Q := by
  unfold Oper.wp; rw [h]; exact hn
theorem one_skip {P : Program} {next : Act → World → Prop} {Q : Exit → Act → World → Prop} {o : Oper} {a : Act} {w w' : World}
    (h : (execOp a.eval o).run P w = .ok .skip w') (hn : next (a.put o.dst undef) w') : o.wp P a w next Q := by
  unfold Oper.wp; rw [h]; exact hn

end Go.Vx
