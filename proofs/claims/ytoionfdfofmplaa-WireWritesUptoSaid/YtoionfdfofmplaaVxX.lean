/- The engine, part X: a state's form, met under other names. -/
import Derived.Test.YtoionfdfofmplaaVxIo2
set_option autoImplicit false
set_option linter.unusedSimpArgs false
set_option linter.unusedVariables false
namespace Go.Vx
open Go Go.RowKit

mutual
/-- The names turned. -/
def rn (f : Nat → Nat) : AV → AV
  | .ptr b p t => .ptr (f b) p t
  | .sl b p o n c t => .sl (f b) p o n c t
  | .pa b p o n t => .pa (f b) p o n t
  | .gs b n t => .gs (f b) n t
  | .gp b lo n t nn z => .gp (f b) lo n t nn z
  | .dv b p t d x => .dv (f b) p t d x
  | .dq b p o t d x => .dq (f b) p o t d x
  | .itp b => .itp (f b)
  | .clo g l => .clo g (rnL f l)
  | .ifc t v => .ifc t (rn f v)
  | .agg l => .agg (rnL f l)
  | .rows n g => .rows n fun i => rn f (g i)
  | .tup l => .tup (rnL f l)
  | v => v
def rnL (f : Nat → Nat) : List AV → List AV
  | [] => []
  | v :: l => rn f v :: rnL f l
end

mutual
theorem rn_den (P : Program) (ρ : Rho) (f : Nat → Nat) : (v : AV) → den P ρ (rn f v) = den P (fun b => ρ (f b)) v ∧ (OK P ρ (rn f v) ↔ OK P (fun b => ρ (f b)) v)
  | .int _ _ => ⟨rfl, Iff.rfl⟩
  | .bool _ => ⟨rfl, Iff.rfl⟩
  | .str _ => ⟨rfl, Iff.rfl⟩
  | .ptr _ _ _ => ⟨rfl, Iff.rfl⟩
  | .nilp => ⟨rfl, Iff.rfl⟩
  | .sl _ _ _ _ _ _ => ⟨rfl, Iff.rfl⟩
  | .pa _ _ _ _ _ => ⟨rfl, Iff.rfl⟩
  | .nils => ⟨rfl, Iff.rfl⟩
  | .gs _ _ _ => ⟨rfl, Iff.rfl⟩
  | .clo g l => by
    obtain ⟨-, h2, h3⟩ := rnL_den P ρ f l
    exact ⟨by simp only [rn, den, h2], by simp only [rn, OK]; exact h3⟩
  | .nilfn => ⟨rfl, Iff.rfl⟩
  | .nilif => ⟨rfl, Iff.rfl⟩
  | .ifc t v => by
    obtain ⟨h1, h2⟩ := rn_den P ρ f v
    exact ⟨by simp only [rn, den, h1], by simp only [rn, OK]; exact h2⟩
  | .ints _ _ _ => ⟨rfl, Iff.rfl⟩
  | .agg l => by
    obtain ⟨h1, -, h3⟩ := rnL_den P ρ f l
    exact ⟨by simp only [rn, den, h1], by simp only [rn, OK]; exact h3⟩
  | .rows n g => by
    refine ⟨?_, ?_⟩
    · simp only [rn, den]
      congr 2
      exact congrArg (fun h => (List.range n).flatMap h) (funext fun i => by rw [(rn_den P ρ f (g i)).1])
    · simp only [rn, OK]
      exact forall_congr' fun i => (rn_den P ρ f (g i)).2
  | .tup l => by
    obtain ⟨-, h2, h3⟩ := rnL_den P ρ f l
    exact ⟨by simp only [rn, den, h2], by simp only [rn, OK]; exact h3⟩
  | .vec _ _ => ⟨rfl, Iff.rfl⟩
  | .gp _ _ _ _ _ _ => ⟨rfl, Iff.rfl⟩
  | .dv _ _ _ _ _ => ⟨rfl, Iff.rfl⟩
  | .dq _ _ _ _ _ _ => ⟨rfl, Iff.rfl⟩
  | .dc _ _ => ⟨rfl, Iff.rfl⟩
  | .itr _ _ => ⟨rfl, Iff.rfl⟩
  | .itp _ => ⟨rfl, Iff.rfl⟩
theorem rnL_den (P : Program) (ρ : Rho) (f : Nat → Nat) : (l : List AV) → denC P ρ (rnL f l) = denC P (fun b => ρ (f b)) l ∧ denT P ρ (rnL f l) = denT P (fun b => ρ (f b)) l ∧ (OKL P ρ (rnL f l) ↔ OKL P (fun b => ρ (f b)) l)
  | [] => ⟨rfl, rfl, Iff.rfl⟩
  | v :: l => by
    obtain ⟨h1, h2⟩ := rn_den P ρ f v
    obtain ⟨k1, k2, k3⟩ := rnL_den P ρ f l
    exact ⟨by simp only [rnL, denC, h1, k1], by simp only [rnL, denT, h1, k2], by simp only [rnL, OKL, h2, k3]⟩
end

mutual
theorem rn_has (P : Program) (f : Nat → Nat) : (v : AV) → (t : TypeId) → Has P v t → Has P (rn f v) t
  | .int _ _, _, h => h
  | .bool _, _, h => h
  | .str _, _, h => h
  | .ptr _ _ _, _, h => h
  | .nilp, _, h => h
  | .sl _ _ _ _ _ _, _, h => h
  | .pa _ _ _ _ _, _, h => h
  | .nils, _, h => h
  | .gs _ _ _, _, h => h
  | .clo g l, _, h => by simp only [rn, Has] at h ⊢; exact h
  | .nilfn, _, h => h
  | .nilif, _, h => h
  | .ifc t v, _, h => by simp only [rn, Has] at h ⊢; exact h
  | .ints _ _ _, _, h => h
  | .agg l, t, h => by
    simp only [rn, Has] at h ⊢
    rcases h with ⟨fs, h1, h2⟩ | ⟨n, e, h1, h2, h3, h4⟩
    · exact .inl ⟨fs, h1, (rnL_has P f l).1 _ _ _ h2⟩
    · exact .inr ⟨n, e, h1, by rw [(rnL_has P f l).2.2]; exact h2, (rnL_has P f l).2.1 e h3, h4⟩
  | .rows n g, t, h => by
    simp only [rn, Has] at h ⊢
    obtain ⟨e, h1, h2, h3⟩ := h
    exact ⟨e, h1, fun i => rn_has P f (g i) e (h2 i), h3⟩
  | .tup l, _, h => by simp [Has] at h
  | .vec _ _, _, h => h
  | .gp _ _ _ _ _ _, _, h => h
  | .dv _ _ _ _ _, _, h => h
  | .dq _ _ _ _ _ _, _, h => h
  | .dc _ _, _, h => h
  | .itr _ _, _, h => h
  | .itp _, _, h => h
theorem rnL_has (P : Program) (f : Nat → Nat) : (l : List AV) → (∀ fs o s, HasF P l fs o s → HasF P (rnL f l) fs o s) ∧ (∀ e, HasA P l e → HasA P (rnL f l) e) ∧ (rnL f l).length = l.length
  | [] => ⟨fun fs o s h => h, fun e h => h, rfl⟩
  | v :: l => by
    obtain ⟨h1, h2, h3⟩ := rnL_has P f l
    refine ⟨fun fs o s h => ?_, fun e h => ?_, by simp [rnL, h3]⟩
    · cases fs with
      | nil => simp [HasF] at h
      | cons fd fs => simp only [rnL, HasF] at h ⊢; exact ⟨h.1, rn_has P f v _ h.2.1, h1 _ _ _ h.2.2⟩
    · simp only [rnL, HasA] at h ⊢
      exact ⟨rn_has P f v e h.1, h2 e h.2⟩
end
/-- What a name of a form is: a name of the state's; a nil row of such elements. -/
inductive Src where
  | nm (b : Nat)
  | nil (te : TypeId)
  | sub (b : Nat) (p : List Ds) (te : TypeId)
abbrev Sg := List (Nat × Src)
def Src.same : Src → Src → Bool
  | .nm b, .nm c => Nat.beq b c
  | .nil t, .nil u => Nat.beq t u
  | .sub b p t, .sub c q u => Nat.beq b c && (decide (p = q) && Nat.beq t u)
  | _, _ => false
theorem Src.same_eq {a b : Src} (h : a.same b = true) : a = b := by
  cases a <;> cases b <;> simp only [Src.same, Bool.and_eq_true, decide_eq_true_eq, Bool.false_eq_true] at h
  · rw [beq_eq h]
  · rw [beq_eq h]
  · rw [beq_eq h.1, h.2.1, beq_eq h.2.2]
def lkS (c : Nat) : Sg → Option Src
  | [] => none
  | x :: l => cond (Nat.beq x.1 c) (some x.2) (lkS c l)
def bindS (c : Nat) (s : Src) (σ : Sg) : Option Sg :=
  match lkS c σ with
  | some s' => cond (s'.same s) (some σ) none
  | none => some ((c, s) :: σ)
def SgSub (σ σ' : Sg) : Prop := ∀ c s, lkS c σ = some s → lkS c σ' = some s
theorem SgSub.refl (σ : Sg) : SgSub σ σ := fun _ _ h => h
theorem SgSub.trans {a b c : Sg} (h : SgSub a b) (k : SgSub b c) : SgSub a c := fun x s hx => k x s (h x s hx)
theorem bindS_spec {c : Nat} {s : Src} {σ σ' : Sg} (h : bindS c s σ = some σ') : lkS c σ' = some s ∧ SgSub σ σ' := by
  unfold bindS at h
  split at h
  · rename_i s' hs
    obtain ⟨h1, h2⟩ := cond_some h
    obtain rfl := Option.some.inj h2
    rw [Src.same_eq h1] at hs
    exact ⟨hs, SgSub.refl _⟩
  · rename_i hn
    obtain rfl := Option.some.inj h
    have h1 : lkS c ((c, s) :: σ) = some s := by simp [lkS]
    refine ⟨h1, fun d u hd => ?_⟩
    rw [lkS]
    cases hq : Nat.beq c d with
    | true => rw [beq_eq hq] at hn; rw [hn] at hd; cases hd
    | false => exact hd

/-- Data that nobody writes to, at the end of a way, under a name of their own. -/
def subN (nm : Option Nm) (p : List Ds) (te : TypeId) : Option Nm :=
  match nm with
  | some nm => match dloc nm.K (nmL nm) p with
    | some (some a, c) => some ⟨a.block, a.off, c, te, true, c, false, nm.K⟩
    | some (none, _) => some ⟨0, 0, 0, te, true, 0, true, nm.K⟩
    | none => none
  | none => none
theorem subN_K {o : Option Nm} {p : List Ds} {te : TypeId} {nm : Nm} (h : subN o p te = some nm) : ∃ nm0, o = some nm0 ∧ nm.K = nm0.K := by
  unfold subN at h
  split at h
  · rename_i nm0
    split at h
    · obtain rfl := Option.some.inj h; exact ⟨nm0, rfl, rfl⟩
    · obtain rfl := Option.some.inj h; exact ⟨nm0, rfl, rfl⟩
    · cases h
  · cases h
/-- The form's names stand for what they were found to be. -/
def Agr (hs : Nat) (ρ ρc : Rho) (σ : Sg) : Prop := ∀ c s, lkS c σ = some s → match s with
  | .nm b => ρc c = ρ b
  | .nil te => ρc c = some ⟨hs, 0, 0, te, true, 0, true, nk⟩
  | .sub b p te => ρc c = subN (ρ b) p te
theorem Agr.sub {hs : Nat} {ρ ρc : Rho} {σ σ' : Sg} (h : Agr hs ρ ρc σ') (k : SgSub σ σ') : Agr hs ρ ρc σ := fun c s hc => h c s (k c s hc)
def rhoS (hs : Nat) (ρ : Rho) (σ : Sg) : Rho := fun c => match lkS c σ with
  | some (.nm b) => ρ b
  | some (.nil te) => some ⟨hs, 0, 0, te, true, 0, true, nk⟩
  | some (.sub b p te) => subN (ρ b) p te
  | none => none
theorem agr_rhoS (hs : Nat) (ρ : Rho) (σ : Sg) : Agr hs ρ (rhoS hs ρ σ) σ := by
  intro c s h
  cases s <;> simp [rhoS, h]

mutual
/-- A closed value, names for names. -/
def matS : AV → AV → Sg → Option Sg
  | .ptr c p t, v, σ => match v with
    | .ptr b p' t' => cond (decide (p = p') && Nat.beq t t') (bindS c (.nm b) σ) none
    | _ => none
  | .agg l, v, σ => match v with
    | .agg l' => matL l l' σ
    | _ => none
  | .clo g l, v, σ => match v with
    | .clo g' l' => cond (Nat.beq g g') (matL l l' σ) none
    | _ => none
  | u, v, σ => cond (pl u && eqv u v) (some σ) none
def matL : List AV → List AV → Sg → Option Sg
  | [], [], σ => some σ
  | u :: l, v :: l', σ => match matS u v σ with
    | some σ' => matL l l' σ'
    | none => none
  | _, _, _ => none
end

/-- One value is the other under the form's names. -/
def Like (P : Program) (hs : Nat) (u v : AV) (σ : Sg) : Prop :=
  (∀ ρ ρc, Agr hs ρ ρc σ → OK P ρ v → OK P ρc u ∧ den P ρc u = den P ρ v) ∧ (∀ t, Has P v t → Has P u t)
def LikeL (P : Program) (hs : Nat) (l l' : List AV) (σ : Sg) : Prop :=
  (∀ ρ ρc, Agr hs ρ ρc σ → OKL P ρ l' → OKL P ρc l ∧ denC P ρc l = denC P ρ l' ∧ denT P ρc l = denT P ρ l') ∧ (∀ fs o s, HasF P l' fs o s → HasF P l fs o s) ∧ (∀ e, HasA P l' e → HasA P l e) ∧ l.length = l'.length
theorem Like.sub {P : Program} {hs : Nat} {u v : AV} {σ σ' : Sg} (h : Like P hs u v σ) (k : SgSub σ σ') : Like P hs u v σ' := ⟨fun ρ ρc a => h.1 ρ ρc (a.sub k), h.2⟩
theorem LikeL.nil {P : Program} {hs : Nat} {σ : Sg} : LikeL P hs [] [] σ := ⟨fun _ _ _ _ => ⟨trivial, rfl, rfl⟩, fun _ _ _ h => h, fun _ h => h, rfl⟩
theorem LikeL.cons {P : Program} {hs : Nat} {u v : AV} {l l' : List AV} {σ σ' : Sg} (h : Like P hs u v σ) (hl : LikeL P hs l l' σ') (k : SgSub σ σ') : LikeL P hs (u :: l) (v :: l') σ' := by
  obtain ⟨h1, h2⟩ := h.sub k
  obtain ⟨k1, k2, k3, k4⟩ := hl
  refine ⟨fun ρ ρc a ok => ?_, fun fs o s hh => ?_, fun e hh => ?_, by simp [k4]⟩
  · simp only [OKL] at ok ⊢
    obtain ⟨a1, a2⟩ := h1 ρ ρc a ok.1
    obtain ⟨b1, b2, b3⟩ := k1 ρ ρc a ok.2
    exact ⟨⟨a1, b1⟩, by simp only [denC, a2, b2], by simp only [denT, a2, b3]⟩
  · cases fs with
    | nil => simp [HasF] at hh
    | cons f fs => simp only [HasF] at hh ⊢; exact ⟨hh.1, h2 _ hh.2.1, k2 _ _ _ hh.2.2⟩
  · simp only [HasA] at hh ⊢
    exact ⟨h2 e hh.1, k3 e hh.2⟩
theorem LikeL.agg {P : Program} {hs : Nat} {l l' : List AV} {σ : Sg} (h : LikeL P hs l l' σ) : Like P hs (.agg l) (.agg l') σ := by
  obtain ⟨k1, k2, k3, k4⟩ := h
  refine ⟨fun ρ ρc a ok => ?_, fun t hh => ?_⟩
  · simp only [OK] at ok ⊢
    obtain ⟨b1, b2, -⟩ := k1 ρ ρc a ok
    exact ⟨b1, by simp only [den, b2]⟩
  · simp only [Has] at hh ⊢
    rcases hh with ⟨fs, h1, h2⟩ | ⟨n, e, h1, h2, h3, h4⟩
    · exact .inl ⟨fs, h1, k2 _ _ _ h2⟩
    · exact .inr ⟨n, e, h1, k4.trans h2, k3 e h3, h4⟩
theorem LikeL.tup {P : Program} {hs : Nat} {l l' : List AV} {σ : Sg} (h : LikeL P hs l l' σ) : Like P hs (.tup l) (.tup l') σ := by
  obtain ⟨k1, k2, k3, k4⟩ := h
  refine ⟨fun ρ ρc a ok => ?_, fun t hh => ?_⟩
  · simp only [OK] at ok ⊢
    obtain ⟨b1, -, b3⟩ := k1 ρ ρc a ok
    exact ⟨b1, by simp only [den, b3]⟩
  · simp [Has] at hh
theorem like_pl {P : Program} {hs : Nat} {v : AV} {σ : Sg} (h : pl v = true) : Like P hs v v σ := by
  refine ⟨fun ρ ρc _ ok => ?_, fun _ h => h⟩
  have k := pl_ok P v h ok
  obtain ⟨h1, h2⟩ := den_ext P (Ext.empty ρc) v k
  exact ⟨h2, h1.trans (den_ext P (Ext.empty ρ) v k).1.symm⟩
theorem like_ptr {P : Program} {hs : Nat} {b c : Nat} {p : List Nat} {t : TypeId} {σ : Sg} (h : lkS c σ = some (.nm b)) : Like P hs (.ptr c p t) (.ptr b p t) σ := by
  refine ⟨fun ρ ρc a ok => ?_, fun t h => h⟩
  have e : ρc c = ρ b := a c _ h
  simp only [OK, den] at ok ⊢
  rw [e]; exact ⟨ok, rfl⟩
theorem like_gs {P : Program} {hs : Nat} {b c n : Nat} {t : TypeId} {σ : Sg} (h : lkS c σ = some (.nm b)) : Like P hs (.gs c n t) (.gs b n t) σ := by
  refine ⟨fun ρ ρc a ok => ?_, fun t h => h⟩
  have e : ρc c = ρ b := a c _ h
  simp only [OK, den] at ok ⊢
  rw [e]; exact ⟨ok, rfl⟩
theorem like_nil {P : Program} {hs : Nat} {c : Nat} {t : TypeId} {σ : Sg} (h : lkS c σ = some (.nil t)) : Like P hs (.gs c 0 t) .nils σ := by
  refine ⟨fun ρ ρc a ok => ?_, fun t h => h⟩
  have e : ρc c = some ⟨hs, 0, 0, t, true, 0, true, nk⟩ := a c _ h
  simp only [OK, den]
  rw [e]
  exact ⟨⟨_, rfl, by simp⟩, rfl⟩
theorem like_gp {P : Program} {hs : Nat} {b c lo n z : Nat} {t : TypeId} {nn : Bool} {σ : Sg} (h : lkS c σ = some (.nm b)) : Like P hs (.gp c lo n t false z) (.gp b lo n t nn z) σ := by
  refine ⟨fun ρ ρc a ok => ?_, fun t h => h⟩
  have e : ρc c = ρ b := a c _ h
  simp only [OK, den] at ok ⊢
  rw [e]
  obtain ⟨nm, h1, h2, h3⟩ := ok
  exact ⟨⟨nm, h1, fun h => by simp at h, h3⟩, rfl⟩

theorem like_gs_gp {P : Program} {hs : Nat} {b c n : Nat} {t : TypeId} {σ : Sg} (h : lkS c σ = some (.nm b)) : Like P hs (.gp c 0 n t false 0) (.gs b n t) σ := by
  refine ⟨fun ρ ρc a ok => ?_, fun t h => h⟩
  have e : ρc c = ρ b := a c _ h
  obtain ⟨k1, k2⟩ := toGpF_ok P (ρ := ρ) [b] (.gs b n t) ok
  have hq : hasN b [b] = true := hasN_iff.2 (by simp)
  simp only [toGpF, hq, cond_true] at k1 k2
  simp only [OK, den] at k1 k2 ⊢
  rw [e]; exact ⟨k1, k2⟩
theorem like_dv {P : Program} {hs : Nat} {b c : Nat} {p : List Ds} {t : TypeId} {d : Dc} {x : List d.T} {σ : Sg} (h : lkS c σ = some (.sub b p t)) (hp : p.isEmpty = true) : Like P hs (.dv c [] t d x) (.dv b p t d x) σ := by
  refine ⟨fun ρ ρc a ok => ?_, fun t h => h⟩
  have e : ρc c = subN (ρ b) p t := a c _ h
  simp only [OK] at ok
  obtain ⟨nm, l, hb, hl, hf, hadr, h1, h2, h3⟩ := ok
  obtain ⟨la, lc⟩ := l
  cases la with
  | none =>
    have hc0 : lc = 0 := hadr.1 rfl
    subst hc0
    have e' : ρc c = some ⟨0, 0, 0, t, true, 0, true, nm.K⟩ := by rw [e, hb]; simp only [subN, hl]
    refine ⟨?_, ?_⟩
    · simp only [OK]
      exact ⟨_, (none, 0), e', rfl, hf, hadr, h1, h2, h3⟩
    · simp only [den, e', hb, dvV, dloc, hl]
      rfl
  | some ad =>
    have hsp : ad.spot = none := by
      cases p with
      | cons s p => simp at hp
      | nil =>
        simp only [dloc, Option.some.injEq] at hl
        unfold nmL at hl
        cases hn : nm.non with
        | true => rw [hn] at hl; simp at hl
        | false =>
          rw [hn] at hl
          simp only [cond_false, Prod.mk.injEq, Option.some.injEq] at hl
          rw [← hl.1]
    have e' : ρc c = some ⟨ad.block, ad.off, lc, t, true, lc, false, nm.K⟩ := by rw [e, hb]; simp only [subN, hl]
    obtain ⟨ab, ao, as⟩ := ad
    simp only at hsp
    subst hsp
    refine ⟨?_, ?_⟩
    · simp only [OK]
      exact ⟨_, (some ⟨ab, ao, none⟩, lc), e', rfl, hf, hadr, h1, h2, h3⟩
    · simp only [den, e', hb, dvV, dloc, hl]
      rfl

mutual
theorem matS_spec (P : Program) (hs : Nat) : (u v : AV) → (σ σ' : Sg) → matS u v σ = some σ' → SgSub σ σ' ∧ Like P hs u v σ'
  | .ptr c p t, v, σ, σ', h => by
    simp only [matS] at h
    split at h
    · obtain ⟨h1, h2⟩ := cond_some h
      simp only [Bool.and_eq_true, decide_eq_true_eq] at h1
      obtain ⟨rfl, h3⟩ := h1
      rw [← beq_eq h3]
      obtain ⟨k1, k2⟩ := bindS_spec h2
      exact ⟨k2, like_ptr k1⟩
    · cases h
  | .agg l, v, σ, σ', h => by
    simp only [matS] at h
    split at h
    · obtain ⟨h1, h2⟩ := matL_spec P hs l _ σ σ' h
      exact ⟨h1, h2.agg⟩
    · cases h
  | .clo g l, v, σ, σ', h => by
    simp only [matS] at h
    split at h
    · obtain ⟨h1, h2⟩ := cond_some h
      rw [← beq_eq h1]
      obtain ⟨k1, k2⟩ := matL_spec P hs l _ σ σ' h2
      refine ⟨k1, fun ρ ρc a ok => ?_, fun t hh => by simp only [Has] at hh ⊢; exact hh⟩
      simp only [OK] at ok ⊢
      obtain ⟨b1, -, b3⟩ := k2.1 ρ ρc a ok
      exact ⟨b1, by simp only [den, b3]⟩
    · cases h
  | .int k n, v, σ, σ', h => mat_rest (by simpa only [matS] using h)
  | .bool b, v, σ, σ', h => mat_rest (by simpa only [matS] using h)
  | .str s, v, σ, σ', h => mat_rest (by simpa only [matS] using h)
  | .nilp, v, σ, σ', h => mat_rest (by simpa only [matS] using h)
  | .sl _ _ _ _ _ _, v, σ, σ', h => mat_rest (by simpa only [matS] using h)
  | .pa _ _ _ _ _, v, σ, σ', h => mat_rest (by simpa only [matS] using h)
  | .nils, v, σ, σ', h => mat_rest (by simpa only [matS] using h)
  | .gs _ _ _, v, σ, σ', h => mat_rest (by simpa only [matS] using h)
  | .nilfn, v, σ, σ', h => mat_rest (by simpa only [matS] using h)
  | .nilif, v, σ, σ', h => mat_rest (by simpa only [matS] using h)
  | .ifc _ _, v, σ, σ', h => mat_rest (by simpa only [matS] using h)
  | .ints _ _ _, v, σ, σ', h => mat_rest (by simpa only [matS] using h)
  | .rows _ _, v, σ, σ', h => mat_rest (by simpa only [matS] using h)
  | .tup _, v, σ, σ', h => mat_rest (by simpa only [matS] using h)
  | .vec _ _, v, σ, σ', h => mat_rest (by simpa only [matS] using h)
  | .gp _ _ _ _ _ _, v, σ, σ', h => mat_rest (by simpa only [matS] using h)
  | .dv _ _ _ _ _, v, σ, σ', h => mat_rest (by simpa only [matS] using h)
  | .dq _ _ _ _ _ _, v, σ, σ', h => mat_rest (by simpa only [matS] using h)
  | .dc _ _, v, σ, σ', h => mat_rest (by simpa only [matS] using h)
  | .itr _ _, v, σ, σ', h => mat_rest (by simpa only [matS] using h)
  | .itp _, v, σ, σ', h => mat_rest (by simpa only [matS] using h)
theorem mat_rest {P : Program} {hs : Nat} {u v : AV} {σ σ' : Sg} (h : cond (pl u && eqv u v) (some σ) none = some σ') : SgSub σ σ' ∧ Like P hs u v σ' := by
  obtain ⟨h1, h2⟩ := cond_some h
  simp only [Bool.and_eq_true] at h1
  obtain rfl := Option.some.inj h2
  rw [← eqv_eq _ _ h1.2]
  exact ⟨SgSub.refl _, like_pl h1.1⟩
theorem matL_spec (P : Program) (hs : Nat) : (l l' : List AV) → (σ σ' : Sg) → matL l l' σ = some σ' → SgSub σ σ' ∧ LikeL P hs l l' σ'
  | [], [], σ, σ', h => by
    simp only [matL, Option.some.injEq] at h
    subst h
    exact ⟨SgSub.refl _, LikeL.nil⟩
  | u :: l, v :: l', σ, σ', h => by
    simp only [matL] at h
    split at h
    · rename_i σ1 h1
      obtain ⟨a1, a2⟩ := matS_spec P hs u v σ σ1 h1
      obtain ⟨b1, b2⟩ := matL_spec P hs l l' σ1 σ' h
      exact ⟨a1.trans b1, LikeL.cons a2 b2 b1⟩
    · cases h
  | [], _ :: _, _, _, h => by simp [matL] at h
  | _ :: _, [], _, _, h => by simp [matL] at h
end

mutual
/-- A value read by a form, under the form's names. -/
def Pt.gS {α : Type} : Pt α → AV → Sg → Option (α × Sg)
  | .slw c te, v, σ => match v with
    | .gs b n te' => cond (Nat.beq te te') (match bindS c (.nm b) σ with | some σ' => some (n, σ') | none => none) none
    | .nils => match bindS c (.nil te) σ with | some σ' => some (0, σ') | none => none
    | _ => none
  | .gsw c te, v, σ => match v with
    | .gs b n te' => cond (Nat.beq te te') (match bindS c (.nm b) σ with | some σ' => some (n, σ') | none => none) none
    | .nils => match bindS c (.nil te) σ with | some σ' => some (0, σ') | none => none
    | _ => none
  | .gpw c te, v, σ => match v with
    | .gp b lo n te' _ z => cond (Nat.beq te te') (match bindS c (.nm b) σ with | some σ' => some ((lo, n, z), σ') | none => none) none
    | .gs b n te' => cond (Nat.beq te te') (match bindS c (.nm b) σ with | some σ' => some ((0, n, 0), σ') | none => none) none
    | _ => none
  | .dvw c te d, v, σ => match v with
    | .dv b p te' d' x => (match h : d'.same d with
      | true => cond (Nat.beq te te' && p.isEmpty) (match bindS c (.sub b p te) σ with | some σ' => some (castD (Dc.same_eq d' d h) x, σ') | none => none) none
      | false => none)
    | _ => none
  | .lit u, v, σ => match matS u v σ with
    | some σ' => some ((), σ')
    | none => none
  | .agg e, v, σ => match v with
    | .agg l => e.gS l σ
    | _ => none
  | .tup e, v, σ => match v with
    | .tup l => e.gS l σ
    | _ => none
  | .itr, _, _ => none
  | p, v, σ => match p.get v with
    | some x => some (x, σ)
    | none => none
def Ag.gS {α : Type} : Ag α → List AV → Sg → Option (α × Sg)
  | .nil, l, σ => match l with | [] => some ((), σ) | _ :: _ => none
  | .one p, l, σ => match l with
    | [] => none
    | v :: l => match l with | [] => p.gS v σ | _ :: _ => none
  | .cons p r, l, σ => match l with
    | v :: l => match p.gS v σ with
      | some x => match r.gS l x.2 with
        | some y => some ((x.1, y.1), y.2)
        | none => none
      | none => none
    | [] => none
end

theorem gS_plain {P : Program} {hs : Nat} {α : Type} {p : Pt α} {v : AV} {σ σ' : Sg} {x : α} (hp : ∀ x, pl (p.mk x) = true) (h : (match p.get v with | some x => some (x, σ) | none => none) = some (x, σ')) : SgSub σ σ' ∧ Like P hs (p.mk x) v σ' := by
  split at h
  · rename_i y hy
    simp only [Option.some.injEq, Prod.mk.injEq] at h
    obtain ⟨rfl, rfl⟩ := h
    rw [Pt.get_mk p v y hy]
    exact ⟨SgSub.refl _, like_pl (hp y)⟩
  · cases h

mutual
theorem Pt.gS_spec (P : Program) (hs : Nat) {α : Type} : (p : Pt α) → (v : AV) → (σ σ' : Sg) → (x : α) → p.gS v σ = some (x, σ') → SgSub σ σ' ∧ Like P hs (p.mk x) v σ'
  | .int k, v, σ, σ', x, h => gS_plain (fun _ => rfl) (by simpa only [Pt.gS] using h)
  | .bool, v, σ, σ', x, h => gS_plain (fun _ => rfl) (by simpa only [Pt.gS] using h)
  | .ints k n, v, σ, σ', x, h => gS_plain (fun _ => rfl) (by simpa only [Pt.gS] using h)
  | .lst k, v, σ, σ', x, h => gS_plain (fun _ => rfl) (by simpa only [Pt.gS] using h)
  | .vec c, v, σ, σ', x, h => gS_plain (fun _ => rfl) (by simpa only [Pt.gS] using h)
  | .str, v, σ, σ', x, h => gS_plain (fun _ => rfl) (by simpa only [Pt.gS] using h)
  | .itr, v, σ, σ', x, h => by simp [Pt.gS] at h
  | .slw c te, v, σ, σ', x, h => by
    simp only [Pt.gS] at h
    split at h
    · obtain ⟨h1, h2⟩ := cond_some h
      split at h2
      · rename_i σ1 h3
        simp only [Option.some.injEq, Prod.mk.injEq] at h2
        obtain ⟨rfl, rfl⟩ := h2
        obtain ⟨k1, k2⟩ := bindS_spec h3
        rw [← beq_eq h1]
        exact ⟨k2, like_gs k1⟩
      · cases h2
    · split at h
      · rename_i σ1 h3
        simp only [Option.some.injEq, Prod.mk.injEq] at h
        obtain ⟨rfl, rfl⟩ := h
        obtain ⟨k1, k2⟩ := bindS_spec h3
        exact ⟨k2, like_nil k1⟩
      · cases h
    · cases h
  | .gsw c te, v, σ, σ', x, h => by
    simp only [Pt.gS] at h
    split at h
    · obtain ⟨h1, h2⟩ := cond_some h
      split at h2
      · rename_i σ1 h3
        simp only [Option.some.injEq, Prod.mk.injEq] at h2
        obtain ⟨rfl, rfl⟩ := h2
        obtain ⟨k1, k2⟩ := bindS_spec h3
        rw [← beq_eq h1]
        exact ⟨k2, like_gs k1⟩
      · cases h2
    · split at h
      · rename_i σ1 h3
        simp only [Option.some.injEq, Prod.mk.injEq] at h
        obtain ⟨rfl, rfl⟩ := h
        obtain ⟨k1, k2⟩ := bindS_spec h3
        exact ⟨k2, like_nil k1⟩
      · cases h
    · cases h
  | .gpw c te, v, σ, σ', x, h => by
    simp only [Pt.gS] at h
    split at h
    · obtain ⟨h1, h2⟩ := cond_some h
      split at h2
      · rename_i σ1 h3
        simp only [Option.some.injEq, Prod.mk.injEq] at h2
        obtain ⟨rfl, rfl⟩ := h2
        obtain ⟨k1, k2⟩ := bindS_spec h3
        rw [← beq_eq h1]
        exact ⟨k2, like_gp k1⟩
      · cases h2
    · obtain ⟨h1, h2⟩ := cond_some h
      split at h2
      · rename_i σ1 h3
        simp only [Option.some.injEq, Prod.mk.injEq] at h2
        obtain ⟨rfl, rfl⟩ := h2
        obtain ⟨k1, k2⟩ := bindS_spec h3
        rw [← beq_eq h1]
        exact ⟨k2, like_gs_gp k1⟩
      · cases h2
    · cases h
  | .dvw c te d, v, σ, σ', x, h => by
    simp only [Pt.gS] at h
    split at h
    · split at h
      · rename_i d' x0 hs
        obtain ⟨h1, h2⟩ := cond_some h
        split at h2
        · rename_i σ1 h3
          simp only [Option.some.injEq, Prod.mk.injEq] at h2
          obtain ⟨h2, rfl⟩ := h2
          obtain ⟨k1, k2⟩ := bindS_spec h3
          have e := Dc.same_eq d' d hs
          subst e
          simp only [Bool.and_eq_true] at h1
          rw [← beq_eq h1.1, ← h2]
          exact ⟨k2, like_dv k1 h1.2⟩
        · cases h2
      · cases h
    · cases h
  | .lit u, v, σ, σ', x, h => by
    simp only [Pt.gS] at h
    split at h
    · rename_i σ1 h1
      simp only [Option.some.injEq, Prod.mk.injEq] at h
      obtain ⟨-, rfl⟩ := h
      exact matS_spec P hs u v σ σ1 h1
    · cases h
  | .agg e, v, σ, σ', x, h => by
    simp only [Pt.gS] at h
    split at h
    · obtain ⟨h1, h2⟩ := Ag.gS_spec P hs e _ σ σ' x h
      exact ⟨h1, h2.agg⟩
    · cases h
  | .tup e, v, σ, σ', x, h => by
    simp only [Pt.gS] at h
    split at h
    · obtain ⟨h1, h2⟩ := Ag.gS_spec P hs e _ σ σ' x h
      exact ⟨h1, h2.tup⟩
    · cases h
theorem Ag.gS_spec (P : Program) (hs : Nat) {α : Type} : (e : Ag α) → (l : List AV) → (σ σ' : Sg) → (x : α) → e.gS l σ = some (x, σ') → SgSub σ σ' ∧ LikeL P hs (e.mk x) l σ'
  | .nil, l, σ, σ', x, h => by
    simp only [Ag.gS] at h
    split at h
    · simp only [Option.some.injEq, Prod.mk.injEq] at h
      obtain ⟨-, rfl⟩ := h
      exact ⟨SgSub.refl _, LikeL.nil⟩
    · cases h
  | .one p, l, σ, σ', x, h => by
    simp only [Ag.gS] at h
    split at h
    · cases h
    · split at h
      · obtain ⟨h1, h2⟩ := Pt.gS_spec P hs p _ σ σ' x h
        exact ⟨h1, LikeL.cons h2 LikeL.nil (SgSub.refl _)⟩
      · cases h
  | .cons p r, l, σ, σ', x, h => by
    simp only [Ag.gS] at h
    split at h
    · split at h
      · rename_i y hy
        split at h
        · rename_i z hz
          simp only [Option.some.injEq, Prod.mk.injEq] at h
          obtain ⟨rfl, rfl⟩ := h
          obtain ⟨h1, h2⟩ := Pt.gS_spec P hs p _ σ y.2 y.1 (by rw [hy])
          obtain ⟨k1, k2⟩ := Ag.gS_spec P hs r _ y.2 z.2 z.1 (by rw [hz])
          exact ⟨h1.trans k1, LikeL.cons h2 k2 k1⟩
        · cases h
      · cases h
    · cases h
end

end Go.Vx
