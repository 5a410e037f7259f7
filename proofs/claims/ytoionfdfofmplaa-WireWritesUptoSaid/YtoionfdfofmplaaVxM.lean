/- The engine, part M: operations that do not see each other change places. -/
import Derived.Test.YtoionfdfofmplaaVxL
set_option autoImplicit false
set_option linter.unusedVariables false
set_option linter.unusedSimpArgs false
namespace Go.Vx
open Go Go.RowKit

theorem evL_congr {ev ev' : Operand → Option AV} : (l : List Operand) → (∀ x ∈ l, ev x = ev' x) → evL ev l = evL ev' l
  | [], _ => rfl
  | x :: l, h => by
    unfold evL
    rw [h x (by simp), evL_congr l fun y hy => h y (by simp [hy])]
theorem evP_congr {ev ev' : Operand → Option AV} : (l : List (Nat × Operand)) → (∀ x ∈ l, ev x.2 = ev' x.2) → evP ev l = evP ev' l
  | [], _ => rfl
  | (i, x) :: l, h => by
    unfold evP
    rw [h (i, x) (by simp), evP_congr l fun y hy => h y (by simp [hy])]

theorem dense_congr {ev ev' : Operand → Option AV} {k : IntKind} : (l : List (Nat × Operand)) → (i : Nat) → (∀ x ∈ l, ev x.2 = ev' x.2) → dense ev k i l = dense ev' k i l
  | [], _, _ => rfl
  | x :: l, i, h => by
    rw [dense, dense, h x (by simp), dense_congr l (i + 1) fun y hy => h y (by simp [hy])]

theorem denseA_congr {P : Program} {ev ev' : Operand → Option AV} {e : TypeId} : (l : List (Nat × Operand)) → (i : Nat) → (∀ x ∈ l, ev x.2 = ev' x.2) → denseA P ev e i l = denseA P ev' e i l
  | [], i, _ => rfl
  | x :: l, i, h => by
    simp only [denseA]
    rw [h x (by simp), denseA_congr l (i + 1) fun y hy => h y (by simp [hy])]
theorem bnd_congr {R : Type} {ev ev' : Operand → Option AV} {x : Option Operand} (h : ∀ o, x = some o → ev o = ev' o) (d y : Nat) (f : R) {k k' : Nat → R} (hk : ∀ n, k n = k' n) : bnd ev x d y f k = bnd ev' x d y f k' := by
  have : k = k' := funext hk
  subst this
  unfold bnd
  cases x with
  | none => rfl
  | some o => simp only; rw [h o rfl]

theorem retK_eff {v : AV} {e : Eff} (h : retK v (fun e => some e) = some e) : (∃ T g, e = .grow none T g) ∨ ∃ u, e = .val u := by
  unfold retK at h
  split at h
  · simp only [Option.some.injEq] at h; exact .inl ⟨_, _, h.symm⟩
  · simp only [Option.some.injEq] at h; exact .inl ⟨_, _, h.symm⟩
  · simp only [Option.some.injEq] at h; exact .inr ⟨_, h.symm⟩

theorem appK_grow {P : Program} {ro : Nat} {e : TypeId} {x y : AV} {get : Nat → Option AV} {ef : Eff} (h : appK P ro e x y get none some = some ef) :
    ∃ b V g, ef = .grow b V g ∧ ∀ b0, b = some b0 → ro ≤ b0 ∧ ∃ T0, get b0 = some T0 := by
  unfold appK at h
  split at h
  · replace h := cond_some h
    obtain ⟨-, h⟩ := h
    split at h
    · split at h
      · split at h
        · split at h
          · replace h := cond_some h
            obtain ⟨-, h⟩ := h
            simp only [Option.some.injEq] at h
            exact ⟨_, _, _, h.symm, fun b0 hb => by cases hb⟩
          · simp at h
        · simp at h
      · replace h := cond_some h
        obtain ⟨hc, h⟩ := h
        simp only [Bool.and_eq_true] at hc
        have hro := Nat.le_of_ble_eq_true hc.2
        split at h
        · rename_i T hT
          split at h
          · replace h := cond_some h
            obtain ⟨-, h⟩ := h
            simp only [Option.some.injEq] at h
            refine ⟨_, _, _, h.symm, fun b0 hb => ?_⟩
            obtain rfl := Option.some.inj hb
            exact ⟨hro, T, hT⟩
          · simp at h
        · simp at h
      · simp at h
    · simp at h
  · simp at h

theorem opK_congr {R : Type} (P : Program) (Γ : FuncId → Option Ct) (ro : Nat) (o : Op) {ev ev' : Operand → Option AV} (h : ∀ x ∈ o.operands.toList, ev x = ev' x) {get get' : Nat → Option AV} (hg : isM o = true → get = get') (f : R) (k : Eff → R) :
    opK P Γ ro o ev get f k = opK P Γ ro o ev' get' f k := by
  cases o <;> simp only [Op.operands] at h <;> try (simp only [opK]; done)
  case move x => simp only [opK, h x (by simp)]
  case assign x => simp only [opK, h x (by simp)]
  case pick c a b => simp only [opK, h c (by simp), h a (by simp), h b (by simp)]
  case box t x => simp only [opK, h x (by simp)]
  case build t ps => simp only [opK]; rw [evP_congr ps.toList fun x hx => h x.2 (by simp; exact ⟨x.1, by simpa using hx⟩)]
  case load t x => simp only [opK, h x (by simp), hg rfl]
  case store t x y => simp only [opK, h x (by simp), h y (by simp), hg rfl]
  case nilCheck x => simp only [opK, h x (by simp)]
  case sliceToArrayPointer t x => simp only [opK, h x (by simp)]
  case binOp op t x y ty => simp only [opK, h x (by simp), h y (by simp)]
  case unOp op t x => simp only [opK, h x (by simp)]
  case convert s d x => simp only [opK, h x (by simp)]
  case fieldAddr s x i => simp only [opK, h x (by simp)]
  case field s x i => simp only [opK, h x (by simp)]
  case indexAddr t x y => simp only [opK, h x (by simp), h y (by simp)]
  case index t x y => simp only [opK, h x (by simp), h y (by simp)]
  case slice t x lo hi mx =>
    have hx := h x (by simp)
    have hlo : ∀ o, lo = some o → ev o = ev' o := by rintro o rfl; exact h o (by simp)
    have hhi : ∀ o, hi = some o → ev o = ev' o := by rintro o rfl; exact h o (by simp)
    cases mx with
    | some _ => rfl
    | none =>
      simp only [opK, hx]
      have e : ∀ (y : Nat) (g : Nat → R), bnd ev lo 0 y f g = bnd ev' lo 0 y f g := fun y g => bnd_congr hlo 0 y f fun _ => rfl
      have e' : ∀ (d y : Nat) (g : Nat → R), bnd ev hi d y f g = bnd ev' hi d y f g := fun d y g => bnd_congr hhi d y f fun _ => rfl
      simp only [e, e']
  case extract x i => simp only [opK, h x (by simp)]
  case buildSlice t n ps =>
    have hd : ∀ q, dense ev q 0 ps.toList = dense ev' q 0 ps.toList := fun q => dense_congr ps.toList 0 fun x hx => h x.2 (by simp; exact ⟨x.1, by simpa using hx⟩)
    have hA : ∀ e, denseA P ev e 0 ps.toList = denseA P ev' e 0 ps.toList := fun e => denseA_congr ps.toList 0 fun x hx => h x.2 (by simp; exact ⟨x.1, by simpa using hx⟩)
    simp only [opK, hd, hA]
  case makeFunc g first caps =>
    have hc := evL_congr caps.toList fun x hx => h x (by simp; right; simpa using hx)
    cases g <;> simp only [opK, hc]
  case makeInterface t x => simp only [opK, h x (by simp)]
  case call c =>
    have hc := evL_congr c.args.toList fun x hx => h x (by simp [Call.operands]; right; simpa using hx)
    simp only [opK, hc, hg rfl]
    split
    · rename_i fo hfo
      rw [h fo (by simp [Call.operands, hfo])]
    · rfl
    · rfl
    · rfl

theorem opE_congr {R : Type} (P : Program) (Γ : FuncId → Option Ct) (ro : Nat) (o : Op) {ev ev' : Operand → Option AV} (h : ∀ x ∈ o.operands.toList, ev x = ev' x) {get get' : Nat → Option AV} (hg : isM o = true → get = get') (f : R) (k : Eff → R) :
    opE P Γ ro o ev get f k = opE P Γ ro o ev' get' f k := by
  unfold opE
  split
  · rename_i t x y ty
    simp only [Op.operands] at h
    rw [h x (by simp), h y (by simp)]
  · rename_i t x y ty
    simp only [Op.operands] at h
    rw [h x (by simp), h y (by simp)]
  · exact opK_congr P Γ ro _ h hg f k

/-- A block that is turned was seen, by a store. -/
theorem updE_seen {P : Program} {Γ : FuncId → Option Ct} {ro : Nat} {o : Op} {ev : Operand → Option AV} {get : Nat → Option AV} {b : Nat} {T : AV} (h0 : opE P Γ ro o ev get none some = some (.upd b T)) : isW o = true ∧ ∃ T0, get b = some T0 := by
  have main : opK P Γ ro o ev get none some = some (.upd b T) → isW o = true ∧ ∃ T0, get b = some T0 := by
    clear h0
    intro h
    cases o
    case slice t x lo hi mx =>
      exfalso
      have nb : ∀ (lo hi : Option Operand) (d y : Nat) (g : Nat → Nat → Eff), (∀ h l, g h l ≠ .upd b T) → bnd ev hi d y none (fun h => bnd ev lo 0 h none fun l => some (g h l)) ≠ some (.upd b T) := by
        intro lo hi d y g hg hh
        have one : ∀ (x : Option Operand) (d y : Nat) (k : Nat → Option Eff), bnd ev x d y none k = some (.upd b T) → ∃ n, k n = some (.upd b T) := by
          intro x d y k hk
          unfold bnd at hk
          split at hk
          · exact ⟨_, hk⟩
          · split at hk
            · exact ⟨_, (cond_some hk).2⟩
            · simp at hk
        obtain ⟨n, hn⟩ := one _ _ _ _ hh
        obtain ⟨l, hl⟩ := one _ _ _ _ hn
        exact hg n l (Option.some.inj hl)
      cases mx with
      | some _ => simp [opK] at h
      | none =>
        simp only [opK] at h
        split at h
        · replace h := cond_some h
          obtain ⟨-, h⟩ := h
          split at h
          · replace h := cond_some h
            exact nb _ _ _ _ (fun h l => _) (fun _ _ => by simp) h.2
          · simp at h
        · split at h
          · replace h := cond_some h
            exact nb _ _ _ _ (fun h l => _) (fun _ _ => by simp) h.2
          · simp at h
        · split at h
          · replace h := cond_some h
            exact nb _ _ _ _ (fun h l => _) (fun _ _ => by simp) h.2
          · simp at h
        · simp at h
    all_goals simp only [opK] at h
    case store t x y =>
      refine ⟨rfl, ?_⟩
      split at h
      · replace h := cond_some h
        obtain ⟨-, h⟩ := h
        split at h
        · rename_i T0 hT0
          split at h
          · simp only [Option.some.injEq, Eff.upd.injEq] at h
            obtain ⟨rfl, -⟩ := h
            exact ⟨T0, hT0⟩
          · simp at h
        · simp at h
      · simp at h
    case call c =>
      exfalso
      split at h
      · split at h
        · split at h
          · split at h
            · rw [Res.run_par] at h
              obtain ⟨v, -, h⟩ := mo_some h
              rcases retK_eff h with ⟨_, _, h⟩ | ⟨_, h⟩ <;> cases h
            · simp at h
          · simp at h
        · simp at h
      · split at h
        · replace h := cond_some h
          obtain ⟨-, h⟩ := h
          split at h
          · obtain ⟨b1, V, g, h1, -⟩ := appK_grow h
            cases h1
          · simp at h
        · simp at h
      · split at h
        all_goals (try (split at h))
        all_goals (try (replace h := cond_some h; obtain ⟨-, h⟩ := h))
        all_goals (simp at h; done)
      · simp at h
    case pick c x y =>
      exfalso
      split at h
      · rename_i c _ _ _ _ _; cases c <;> simp at h
      · simp at h
    case makeFunc g f c =>
      exfalso
      cases g <;> simp only at h
      case func => split at h <;> (try (split at h)) <;> simp at h
      all_goals simp at h
    all_goals exfalso
    all_goals (repeat' (first | (simp at h; done) | (replace h := (cond_some h).2) | (replace h := (cond_some' h).2) | split at h))
  have h := h0
  clear h0
  unfold opE at h
  split at h
  · exfalso
    split at h
    · replace h := cond_some h; simp at h
    · unfold eqK at h
      split at h
      · replace h := cond_some h; simp at h
      · simp at h
    · simp at h
  · exfalso
    split at h
    · replace h := cond_some h; simp at h
    · unfold eqK at h
      split at h
      · replace h := cond_some h; simp at h
      · simp at h
    · simp at h
  · exact main h

/-- A row that has grown was seen. -/
theorem growE_seen {P : Program} {Γ : FuncId → Option Ct} {ro : Nat} {o : Op} {ev : Operand → Option AV} {get : Nat → Option AV} {b : Option Nat} {T : AV} {gm : Nat → AV} (h0 : opE P Γ ro o ev get none some = some (.grow b T gm)) : ∀ b0, b = some b0 → isW o = true ∧ ∃ T0, get b0 = some T0 := by
  have main : opK P Γ ro o ev get none some = some (.grow b T gm) → ∀ b0, b = some b0 → isW o = true ∧ ∃ T0, get b0 = some T0 := by
    clear h0
    intro h
    cases o
    case slice t x lo hi mx =>
      exfalso
      have nb : ∀ (lo hi : Option Operand) (d y : Nat) (g : Nat → Nat → Eff), (∀ h l, g h l ≠ .grow b T gm) → bnd ev hi d y none (fun h => bnd ev lo 0 h none fun l => some (g h l)) ≠ some (.grow b T gm) := by
        intro lo hi d y g hg hh
        have one : ∀ (x : Option Operand) (d y : Nat) (k : Nat → Option Eff), bnd ev x d y none k = some (.grow b T gm) → ∃ n, k n = some (.grow b T gm) := by
          intro x d y k hk
          unfold bnd at hk
          split at hk
          · exact ⟨_, hk⟩
          · split at hk
            · exact ⟨_, (cond_some hk).2⟩
            · simp at hk
        obtain ⟨n, hn⟩ := one _ _ _ _ hh
        obtain ⟨l, hl⟩ := one _ _ _ _ hn
        exact hg n l (Option.some.inj hl)
      cases mx with
      | some _ => simp [opK] at h
      | none =>
        simp only [opK] at h
        split at h
        · replace h := cond_some h
          obtain ⟨-, h⟩ := h
          split at h
          · replace h := cond_some h
            exact nb _ _ _ _ (fun h l => _) (fun _ _ => by simp) h.2
          · simp at h
        · split at h
          · replace h := cond_some h
            exact nb _ _ _ _ (fun h l => _) (fun _ _ => by simp) h.2
          · simp at h
        · split at h
          · replace h := cond_some h
            exact nb _ _ _ _ (fun h l => _) (fun _ _ => by simp) h.2
          · simp at h
        · simp at h
    all_goals simp only [opK] at h
    case store t x y =>
      exfalso
      split at h
      · replace h := cond_some h
        obtain ⟨-, h⟩ := h
        split at h
        · split at h
          · simp at h
          · simp at h
        · simp at h
      · simp at h
    case call c =>
      split at h
      · split at h
        · split at h
          · split at h
            · rw [Res.run_par] at h
              obtain ⟨v, -, h⟩ := mo_some h
              rcases retK_eff h with ⟨_, _, h⟩ | ⟨_, h⟩
              · cases h; exact fun b0 hb => by cases hb
              · cases h
            · simp at h
          · simp at h
        · simp at h
      · rename_i hcal
        split at h
        · replace h := cond_some h
          obtain ⟨-, h⟩ := h
          split at h
          · obtain ⟨b1, V, g, h1, h2⟩ := appK_grow h
            simp only [Eff.grow.injEq] at h1
            obtain ⟨rfl, -, -⟩ := h1
            exact fun b0 hb => ⟨by simp [isW, hcal], (h2 b0 hb).2⟩
          · simp at h
        · simp at h
      · exfalso
        split at h
        all_goals (try (split at h))
        all_goals (try (replace h := cond_some h; obtain ⟨-, h⟩ := h))
        all_goals (simp at h; done)
      · simp at h
    case buildSlice t n ps =>
      split at h
      · split at h
        · split at h
          · replace h := cond_some h
            obtain ⟨-, h⟩ := h
            simp only [Option.some.injEq, Eff.grow.injEq] at h
            obtain ⟨rfl, -⟩ := h
            exact fun b0 hb => by cases hb
          · simp at h
        · split at h
          · replace h := cond_some h
            obtain ⟨-, h⟩ := h
            simp only [Option.some.injEq, Eff.grow.injEq] at h
            obtain ⟨rfl, -⟩ := h
            exact fun b0 hb => by cases hb
          · simp at h
      · simp at h
    case pick c x y =>
      exfalso
      split at h
      · rename_i c _ _ _ _ _; cases c <;> simp at h
      · simp at h
    case makeFunc g f c =>
      exfalso
      cases g <;> simp only at h
      case func => split at h <;> (try (split at h)) <;> simp at h
      all_goals simp at h
    all_goals exfalso
    all_goals (repeat' (first | (simp at h; done) | (replace h := (cond_some h).2) | (replace h := (cond_some' h).2) | split at h))
  have h := h0
  clear h0
  unfold opE at h
  split at h
  · exfalso
    split at h
    · replace h := cond_some h; simp at h
    · unfold eqK at h
      split at h
      · replace h := cond_some h; simp at h
      · simp at h
    · simp at h
  · exfalso
    split at h
    · replace h := cond_some h; simp at h
    · unfold eqK at h
      split at h
      · replace h := cond_some h; simp at h
      · simp at h
    · simp at h
  · exact main h

theorem opK'_congr {R : Type} (P : Program) (Γ : FuncId → Option Ct) (ro : Nat) (o : Op) {ev ev' : Operand → Option AV} (h : ∀ x ∈ o.operands.toList, ev x = ev' x) {get get' : Nat → Option AV} (hg : isM o = true → get = get') (f : R) (k : Eff → R) :
    opK' P Γ ro o ev get f k = opK' P Γ ro o ev' get' f k := by
  have old := opE_congr P Γ ro o h hg f k
  cases o <;> simp only [opK'] <;> try exact old
  all_goals simp only [Op.operands] at h
  case slice t x lo hi mx =>
    have hx := h x (by simp)
    have hlo : ∀ o, lo = some o → ev o = ev' o := by rintro o rfl; exact h o (by simp)
    have hhi : ∀ o, hi = some o → ev o = ev' o := by rintro o rfl; exact h o (by simp)
    cases mx with
    | some _ => exact old
    | none =>
      simp only [hx, old]
      have e : ∀ (y : Nat) (g : Nat → R), bnd ev lo 0 y f g = bnd ev' lo 0 y f g := fun y g => bnd_congr hlo 0 y f fun _ => rfl
      have e' : ∀ (d y : Nat) (g : Nat → R), bnd ev hi d y f g = bnd ev' hi d y f g := fun d y g => bnd_congr hhi d y f fun _ => rfl
      simp only [e, e']
      cases lo with
      | none => rfl
      | some z => simp only [e]
  case fieldAddr st x i => simp only [h x (by simp), old]
  case load t x => simp only [h x (by simp), old]
  case binOp op t x y ty =>
    cases op
    case add => simp only [h x (by simp), h y (by simp), old]
    case eql => simp only [h x (by simp), h y (by simp), old]
    all_goals exact old
  case convert s d x =>
    have e := hg rfl
    subst e
    simp only [h x (by simp), old]
  case indexAddr t x y => simp only [h x (by simp), h y (by simp), old]
  case makeSlice t x y => simp only [h x (by simp), h y (by simp)]
  case buildSlice t n ps =>
    cases n with
    | zero => rfl
    | succ n => exact old
  case call c =>
    have hc := evL_congr c.args.toList fun x hx => h x (by simp [Call.operands]; right; simpa using hx)
    simp only [hc, hg rfl]
    rw [hg rfl] at old
    split
    · rfl
    · rfl
    · split
      · rfl
      · rfl
      · exact old
    · exact old

theorem appZ_grow {P : Program} {el : TypeId} {x y : AV} {e : Eff} (h : appZ P el x y none some = some e) : ∃ V g, e = .grow none V g := by
  unfold appZ at h
  split at h
  · split at h
    · split at h
      · exact ⟨_, _, (Option.some.inj (cond_some h).2).symm⟩
      · cases h
    · cases h
  · cases h

/-- What appends yield. -/
theorem appX_grow {P : Program} {ro : Nat} {el : TypeId} {x y : AV} {get : Nat → Option AV} {e : Eff} (h : appX P ro el x y get none some = some e) : (∃ v, e = .val v) ∨ ∃ b V g, e = .grow b V g ∧ ∀ b0, b = some b0 → ∃ T0, get b0 = some T0 := by
  unfold appX at h
  split at h
  · split at h
    · exact .inl ⟨_, (Option.some.inj (cond_some h).2).symm⟩
    · replace h := (cond_some h).2
      split at h
      · exact .inl ⟨_, (Option.some.inj (cond_some h).2).symm⟩
      · cases h
    · cases h
  · split at h
    · replace h := (cond_some h).2
      split at h
      · split at h
        · split at h
          · exact .inr ⟨_, _, _, (Option.some.inj (cond_some h).2).symm, fun b0 hb => by cases hb⟩
          · cases h
        · cases h
      · replace h := (cond_some h).2
        split at h
        · rename_i T hT
          split at h
          · refine .inr ⟨_, _, _, (Option.some.inj (cond_some h).2).symm, fun b0 hb => ?_⟩
            obtain rfl := Option.some.inj hb
            exact ⟨T, hT⟩
          · cases h
        · cases h
      · replace h := (cond_some h).2
        split at h
        · rename_i T hT
          split at h
          · split at h
            · refine .inr ⟨_, _, _, (Option.some.inj (cond_some h).2).symm, fun b0 hb => ?_⟩
              obtain rfl := Option.some.inj hb
              exact ⟨T, hT⟩
            · cases h
          · cases h
        · cases h
      · cases h
    · cases h

theorem bnd_some {ev : Operand → Option AV} {x : Option Operand} {d y : Nat} {α : Type} {k : Nat → Option α} {r : α} (h : bnd ev x d y none k = some r) : ∃ n, k n = some r := by
  unfold bnd at h
  split at h
  · exact ⟨_, h⟩
  · split at h
    · exact ⟨_, (cond_some h).2⟩
    · simp at h

/-- What more operations yield: a value, a new row, an append, or what was told before. -/
theorem opX_eff {P : Program} {Γ : FuncId → Option Ct} {ro : Nat} {o : Op} {ev : Operand → Option AV} {get : Nat → Option AV} {e : Eff} (h : opK' P Γ ro o ev get none some = some e) :
    opE P Γ ro o ev get none some = some e ∨ (∃ v, e = .val v) ∨ (∃ V g, e = .grow none V g) ∨ (isW o = true ∧ ∃ b V g, e = .grow b V g ∧ ∀ b0, b = some b0 → ∃ T0, get b0 = some T0) := by
  cases o <;> simp only [opK'] at h <;> try exact .inl h
  case slice t x lo hi mx =>
    cases mx with
    | some _ => exact .inl h
    | none =>
      simp only at h
      have two : ∀ {lo hi : Option Operand} {d y : Nat} {g : Nat → Nat → Eff}, bnd ev hi d y none (fun h => bnd ev lo 0 h none fun l => some (g h l)) = some e → ∃ h l, e = g h l := by
        intro lo hi d y g h
        obtain ⟨n, h⟩ := bnd_some h
        obtain ⟨l, h⟩ := bnd_some h
        exact ⟨n, l, (Option.some.inj h).symm⟩
      split at h
      · split at h
        · obtain ⟨_, _, rfl⟩ := two (cond_some h).2
          exact .inr (.inl ⟨_, rfl⟩)
        · cases h
      · split at h
        · replace h := (cond_some h).2
          split at h
          · obtain ⟨n, h⟩ := bnd_some h
            exact .inr (.inl ⟨_, (Option.some.inj h).symm⟩)
          · obtain ⟨_, _, rfl⟩ := two h
            exact .inr (.inl ⟨_, rfl⟩)
        · cases h
      · split at h
        · obtain ⟨_, _, rfl⟩ := two (cond_some h).2
          exact .inr (.inl ⟨_, rfl⟩)
        · cases h
      · split at h
        · obtain ⟨_, _, rfl⟩ := two h
          exact .inr (.inl ⟨_, rfl⟩)
        · cases h
      · exact .inl h
  case fieldAddr st x i =>
    split at h
    · replace h := (cond_some h).2
      split at h
      · split at h
        · exact .inr (.inl ⟨_, (Option.some.inj (cond_some h).2).symm⟩)
        · cases h
      · cases h
    · exact .inl h
  case load t x =>
    split at h
    · exact .inr (.inl ⟨_, (Option.some.inj (cond_some h).2).symm⟩)
    · exact .inl h
  case binOp op t x y ty =>
    cases op
    case add =>
      simp only at h
      split at h
      · exact .inr (.inl ⟨_, (Option.some.inj (cond_some h).2).symm⟩)
      · exact .inl h
    case eql =>
      simp only at h
      split at h
      · split at h
        · exact .inr (.inl ⟨_, (Option.some.inj h).symm⟩)
        · cases h
      · exact .inl h
    all_goals exact .inl h
  case convert s d x =>
    split at h
    · exact .inl h
    · split at h
      · split at h
        · exact .inr (.inl ⟨_, (Option.some.inj h).symm⟩)
        · cases h
      · cases h
    · split at h
      · split at h
        · split at h
          · exact .inr (.inl ⟨_, (Option.some.inj (cond_some h).2).symm⟩)
          · cases h
        · cases h
      · cases h
    · cases h
  case indexAddr t x y =>
    split at h
    · split at h
      · exact .inr (.inl ⟨_, (Option.some.inj (cond_some (cond_some h).2).2).symm⟩)
      · cases h
    · split at h
      · exact .inr (.inl ⟨_, (Option.some.inj (cond_some (cond_some h).2).2).symm⟩)
      · cases h
    · exact .inl h
  case makeSlice t x y =>
    split at h
    · split at h
      · split at h
        · exact .inr (.inr (.inl ⟨_, _, (Option.some.inj (cond_some h).2).symm⟩))
        · cases h
      · cases h
    · cases h
  case buildSlice t n ps =>
    cases n with
    | zero =>
      simp only at h
      split at h
      · split at h
        · exact .inr (.inr (.inl ⟨_, _, (Option.some.inj (cond_some h).2).symm⟩))
        · cases h
      · cases h
    | succ n => exact .inl h
  case call c =>
    split at h
    · rename_i hc
      split at h
      · rename_i x y t t' _ _
        cases hq : Nat.beq t t' with
        | true =>
          rw [hq, cond_true] at h
          split at h
          · rcases appX_grow h with h | h
            · exact .inr (.inl h)
            · exact .inr (.inr (.inr ⟨by simp [isW, hc], h⟩))
          · cases h
        | false =>
          rw [hq, cond_false] at h
          split at h
          · exact .inr (.inr (.inl (appZ_grow h)))
          · cases h
      · cases h
    · split at h
      · split at h
        · exact .inr (.inl ⟨_, (Option.some.inj h).symm⟩)
        · cases h
      · cases h
    · split at h
      · split at h
        · exact .inr (.inl ⟨_, (Option.some.inj h).symm⟩)
        · cases h
      · split at h
        · exact .inr (.inl ⟨_, (Option.some.inj h).symm⟩)
        · cases h
      · exact .inl h
    · exact .inl h

theorem upd_seen {P : Program} {Γ : FuncId → Option Ct} {ro : Nat} {o : Op} {ev : Operand → Option AV} {get : Nat → Option AV} {b : Nat} {T : AV} (h0 : opK' P Γ ro o ev get none some = some (.upd b T)) : isW o = true ∧ ∃ T0, get b = some T0 := by
  rcases opX_eff h0 with h | ⟨_, h⟩ | ⟨_, _, h⟩ | ⟨_, _, _, _, h, _⟩
  · exact updE_seen h
  · cases h
  · cases h
  · cases h

theorem grow_seen {P : Program} {Γ : FuncId → Option Ct} {ro : Nat} {o : Op} {ev : Operand → Option AV} {get : Nat → Option AV} {b : Option Nat} {T : AV} {gm : Nat → AV} (h0 : opK' P Γ ro o ev get none some = some (.grow b T gm)) : ∀ b0, b = some b0 → isW o = true ∧ ∃ T0, get b0 = some T0 := by
  rcases opX_eff h0 with h | ⟨_, h⟩ | ⟨_, _, h⟩ | ⟨hw, _, _, _, h, h2⟩
  · exact growE_seen h
  · cases h
  · simp only [Eff.grow.injEq] at h
    obtain ⟨rfl, -⟩ := h
    exact fun b0 hb => by cases hb
  · simp only [Eff.grow.injEq] at h
    obtain ⟨rfl, -⟩ := h
    exact fun b0 hb => ⟨hw, h2 b0 hb⟩

end Go.Vx
