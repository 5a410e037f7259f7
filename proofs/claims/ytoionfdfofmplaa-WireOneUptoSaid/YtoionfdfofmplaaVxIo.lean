/- The engine, part Io: a call in place whose work is told by forms: arguments and memory at the call, answer and memory behind it. -/
import Derived.Test.YtoionfdfofmplaaVxR
set_option autoImplicit false
set_option linter.unusedVariables false
namespace Go.Vx
open Go Go.RowKit

theorem Ent.lk_names {α : Type} : (e : Ent α) → (x : α) → ∀ d, d ∈ e.names → ∃ v, lk d (e.mk x) = some v
  | .nil, x, d, h => by simp [Ent.names] at h
  | .one d0 p, x, d, h => by
    simp only [Ent.names, List.mem_singleton] at h
    subst h
    exact ⟨_, by rw [Ent.mk, lk_cons_self]⟩
  | .cons d0 p r, x, d, h => by
    by_cases hd : d0 = d
    · subst hd
      exact ⟨_, by rw [Ent.mk, lk_cons_self]⟩
    · simp only [Ent.names, List.mem_cons] at h
      obtain ⟨v, hv⟩ := Ent.lk_names r x.2 d (h.resolve_left fun e => hd e.symm)
      exact ⟨v, by rw [Ent.mk, lk_cons_ne hd]; exact hv⟩

def hasN : Nat → List Nat → Bool
  | _, [] => false
  | b, c :: l => cond (Nat.beq b c) true (hasN b l)
theorem hasN_iff {b : Nat} : {l : List Nat} → hasN b l = true ↔ b ∈ l
  | [] => by simp [hasN]
  | c :: l => by
    rw [hasN]
    cases hq : Nat.beq b c with
    | true => simp [beq_eq hq]
    | false =>
      have : b ≠ c := fun h => by rw [h] at hq; simp at hq
      rw [cond_false, hasN_iff]
      simp [this]

def dropN (ns : List Nat) : List (Nat × AV) → List (Nat × AV)
  | [] => []
  | p :: l => cond (hasN p.1 ns) (dropN ns l) (p :: dropN ns l)
theorem dropN_lk {ns : List Nat} {b : Nat} {T : AV} : {l : List (Nat × AV)} → lk b (dropN ns l) = some T → lk b l = some T ∧ b ∉ ns
  | [], h => by simp [dropN, lk] at h
  | p :: l, h => by
    rw [dropN] at h
    cases hq : hasN p.1 ns with
    | true =>
      rw [hq] at h
      obtain ⟨h1, h2⟩ := dropN_lk (l := l) h
      have : p.1 ≠ b := fun e => h2 (e ▸ hasN_iff.1 hq)
      exact ⟨by rw [show p = (p.1, p.2) from rfl, lk_cons_ne this]; exact h1, h2⟩
    | false =>
      rw [hq, cond_false] at h
      by_cases hb : p.1 = b
      · subst hb
        have hn : p.1 ∉ ns := fun hh => by rw [hasN_iff.2 hh] at hq; cases hq
        rw [show p = (p.1, p.2) from rfl, lk_cons_self] at h ⊢
        exact ⟨h, hn⟩
      · rw [show p = (p.1, p.2) from rfl, lk_cons_ne hb] at h ⊢
        exact dropN_lk h

def noItr : List (Nat × AV) → Bool
  | [] => true
  | p :: l => match p.2 with
    | .itr _ _ => false
    | _ => noItr l
theorem noItr_lk {b : Nat} {s : ByteArray} {q : Nat} : {l : List (Nat × AV)} → noItr l = true → lk b l ≠ some (.itr s q)
  | [], _, h => by simp [lk] at h
  | p :: l, hn, h => by
    rw [noItr] at hn
    by_cases hb : p.1 = b
    · subst hb
      rw [show p = (p.1, p.2) from rfl, lk_cons_self] at h
      rw [Option.some.inj h] at hn
      cases hn
    · rw [show p = (p.1, p.2) from rfl, lk_cons_ne hb] at h
      refine noItr_lk (l := l) ?_ h
      split at hn
      · cases hn
      · exact hn

/-- A whole row as a part of itself. -/
def toGpF (cs : List Nat) : AV → AV
  | .gs b n t => cond (hasN b cs) (.gp b 0 n t false 0) (.gs b n t)
  | v => v
def toGpL (cs : List Nat) : List AV → List AV
  | [] => []
  | v :: l => toGpF cs v :: toGpL cs l
def toGp (cs : List Nat) : AV → AV
  | .agg l => .agg (toGpL cs l)
  | v => v
def gpAll (cs : List Nat) : List (Nat × AV) → List (Nat × AV)
  | [] => []
  | p :: l => (p.1, toGp cs p.2) :: gpAll cs l

theorem gpAll_lk {cs : List Nat} {b : Nat} {T : AV} : {l : List (Nat × AV)} → lk b (gpAll cs l) = some T → ∃ T0, lk b l = some T0 ∧ T = toGp cs T0
  | [], h => by simp [gpAll, lk] at h
  | p :: l, h => by
    rw [gpAll] at h
    by_cases hb : p.1 = b
    · subst hb
      rw [lk_cons_self] at h
      exact ⟨p.2, by rw [show p = (p.1, p.2) from rfl, lk_cons_self], (Option.some.inj h).symm⟩
    · rw [lk_cons_ne hb] at h
      obtain ⟨T0, h1, h2⟩ := gpAll_lk h
      exact ⟨T0, by rw [show p = (p.1, p.2) from rfl, lk_cons_ne hb]; exact h1, h2⟩

theorem toGpF_ok (P : Program) {ρ : Rho} (cs : List Nat) (v : AV) (ok : OK P ρ v) : OK P ρ (toGpF cs v) ∧ den P ρ (toGpF cs v) = den P ρ v := by
  cases v with
  | gs b n t =>
    simp only [toGpF]
    cases hasN b cs with
    | false => exact ⟨ok, rfl⟩
    | true =>
      rw [cond_true]
      simp only [OK] at ok ⊢
      obtain ⟨nm, h1, h2, h3, h4, h5, h6, h7⟩ := ok
      refine ⟨⟨nm, h1, fun h => (by cases h), h2, h3, by omega, by omega, fun h => by have := h6 h; omega, h7⟩, ?_⟩
      simp only [den, h1, gpV, gsV]
      cases hq : nm.non with
      | true => rfl
      | false =>
        simp only [cond_false, Nat.zero_mul, Nat.sub_zero]
        by_cases ht : nm.tot = 0 <;> simp [ht, Addr.add]
  | _ => exact ⟨ok, rfl⟩
theorem toGpL_ok (P : Program) {ρ : Rho} (cs : List Nat) : (l : List AV) → OKL P ρ l → OKL P ρ (toGpL cs l) ∧ denC P ρ (toGpL cs l) = denC P ρ l
  | [], _ => ⟨trivial, rfl⟩
  | v :: l, ok => by
    simp only [OKL] at ok
    obtain ⟨h1, h2⟩ := toGpF_ok P cs v ok.1
    obtain ⟨h3, h4⟩ := toGpL_ok P cs l ok.2
    refine ⟨⟨h1, h3⟩, ?_⟩
    simp only [toGpL, denC_cons, h4]
    unfold cells
    rw [h2]
theorem toGp_ok (P : Program) {ρ : Rho} (cs : List Nat) (v : AV) (ok : OK P ρ v) : OK P ρ (toGp cs v) ∧ den P ρ (toGp cs v) = den P ρ v := by
  cases v with
  | agg l =>
    simp only [toGp, OK] at ok ⊢
    obtain ⟨h1, h2⟩ := toGpL_ok P cs l ok
    exact ⟨h1, by simp only [den, h2]⟩
  | _ => exact ⟨ok, rfl⟩
theorem toGpF_has (P : Program) (cs : List Nat) (v : AV) (t : TypeId) (h : Has P v t) : Has P (toGpF cs v) t := by
  cases v with
  | gs b n te =>
    simp only [toGpF]
    cases hasN b cs with
    | false => exact h
    | true => simpa only [cond_true, Has] using h
  | _ => exact h
theorem toGpL_len (cs : List Nat) : (l : List AV) → (toGpL cs l).length = l.length
  | [] => rfl
  | v :: l => by simp [toGpL, toGpL_len cs l]
theorem toGpL_hasA (P : Program) (cs : List Nat) (e : TypeId) : (l : List AV) → HasA P l e → HasA P (toGpL cs l) e
  | [], h => by simp [toGpL, HasA]
  | v :: l, h => by
    simp only [HasA] at h
    simp only [toGpL, HasA]
    exact ⟨toGpF_has P cs v e h.1, toGpL_hasA P cs e l h.2⟩
theorem toGpL_hasF (P : Program) (cs : List Nat) : (l : List AV) → (fs : List Field) → (o s : Nat) → HasF P l fs o s → HasF P (toGpL cs l) fs o s
  | [], fs, o, s, h => by simpa [toGpL] using h
  | v :: l, [], o, s, h => by simp [HasF] at h
  | v :: l, f :: fs, o, s, h => by
    simp only [HasF] at h
    simp only [toGpL, HasF]
    exact ⟨h.1, toGpF_has P cs v f.type h.2.1, toGpL_hasF P cs l fs _ s h.2.2⟩
theorem toGp_hasN (P : Program) (cs : List Nat) (nm : Nm) (v : AV) (h : HasN P nm v) : HasN P nm (toGp cs v) := by
  cases v with
  | agg l =>
    simp only [HasN, toGp] at h ⊢
    split
    · rename_i hr
      rw [if_pos hr] at h
      exact ⟨by rw [toGpL_len]; exact h.1, toGpL_hasA P cs _ l h.2⟩
    · rename_i hr
      rw [if_neg hr] at h
      simp only [Has] at h ⊢
      rcases h with ⟨fs, h1, h2⟩ | ⟨n, e, h1, h2, h3, h4⟩
      · exact .inl ⟨fs, h1, toGpL_hasF P cs l _ _ _ h2⟩
      · exact .inr ⟨n, e, h1, by rw [toGpL_len]; exact h2, toGpL_hasA P cs _ l h3, h4⟩
  | _ => exact h

theorem Sim.gp {P : Program} {w0 : Base} {ro : Nat} {ρ : Rho} {tm mem : List (Nat × AV)} {tmps : Array Value} {w : World} (S : Sim P w0 ro ρ tm mem tmps w) (cs : List Nat) : Sim P w0 ro ρ tm (gpAll cs mem) tmps w := by
  have hit : ∀ {b : Nat} {s : ByteArray} {p : Nat}, lk b (gpAll cs mem) = some (.itr s p) → lk b mem = some (.itr s p) := by
    intro b s p h
    obtain ⟨T0, h1, h2⟩ := gpAll_lk h
    cases T0 <;> simp only [toGp] at h2 <;> first | (cases h2; done) | (rw [h2]; exact h1)
  have hc : ∀ T0, OK P ρ T0 → cells P ρ (toGp cs T0) = cells P ρ T0 := fun T0 ok => by unfold cells; rw [(toGp_ok P cs T0 ok).2]
  refine ⟨S.slot, ?_, ?_, ?_, ?_, S.below, ?_⟩
  · intro b T hT
    obtain ⟨T0, h1, rfl⟩ := gpAll_lk hT
    obtain ⟨nm, g1, g2, g3, g4, g5⟩ := S.cell b T0 h1
    exact ⟨nm, g1, toGp_hasN P cs nm T0 g2, (toGp_ok P cs T0 g3).1, by rw [hc T0 g3]; exact g4, fun j x hx => g5 j x (by rw [← hc T0 g3]; exact hx)⟩
  · intro b T nm hT hnm hro
    obtain ⟨T0, h1, rfl⟩ := gpAll_lk hT
    obtain ⟨nm', g1, -, g3, -⟩ := S.cell b T0 h1
    obtain ⟨k1, k2⟩ := S.own b T0 nm h1 hnm hro
    exact ⟨k1, fun j hj => k2 j (by rw [hc T0 g3] at hj; exact hj)⟩
  · intro b b' T T' nm nm' hT hT'
    obtain ⟨T0, h1, -⟩ := gpAll_lk hT
    obtain ⟨T0', h1', -⟩ := gpAll_lk hT'
    exact S.apart b b' T0 T0' nm nm' h1 h1'
  · intro b T nm hT
    obtain ⟨T0, h1, -⟩ := gpAll_lk hT
    exact S.rows b T0 nm h1
  · refine ⟨S.ex.froz, S.ex.fhs, S.ex.org, ?_, fun b s p h => S.ex.its b s p (hit h), ?_, fun b b' s s' p p' nm nm' h h' => S.ex.itd b b' s s' p p' nm nm' (hit h) (hit h')⟩
    · intro b T nm hT
      obtain ⟨T0, h1, -⟩ := gpAll_lk hT
      exact S.ex.away b T0 nm h1
    · intro b s p nm h hnm b' T nm' hT
      obtain ⟨T0, h1, -⟩ := gpAll_lk hT
      exact S.ex.ita b s p nm (hit h) hnm b' T0 nm' h1

/-- A call in place, told by forms: arguments A, memory M; answer B, memory M' behind it (of no other names). -/
def Inl.io {α β γ δ : Type} (A : Ag α) (M : Ent β) (B : Pt γ) (M' : Ent δ) (nh : Nat) (cs : List Nat) (F : α × β → Option (γ × δ)) : Inl where
  run := fun {R} f vs mem nx k => cond (Nat.ble nh nx) (match A.get vs with
    | some x1 => match M.get (gpAll cs mem) with
      | some x2 => mo (F (x1, x2)) f fun y => cond (noItr (M.mk x2) && noItr (M'.mk y.2)) (k (B.mk y.1) (M'.mk y.2 ++ dropN M.names (gpAll cs mem)) nx) f
      | none => f
    | none => f) f
  par := by
    intro R f vs mem nx k
    refine cond_par _ ?_ rfl
    split
    · split
      · rw [mo_mo]
        congr 1
        funext y
        exact cond_par _ rfl rfl
      · rfl
    · rfl


theorem lk_app2 {b : Nat} {T : AV} {l r : List (Nat × AV)} (h : lk b (l ++ r) = some T) : lk b l = some T ∨ (lk b l = none ∧ lk b r = some T) := by
  induction l with
  | nil => exact .inr ⟨rfl, h⟩
  | cons p l ih =>
    by_cases hb : p.1 = b
    · subst hb
      rw [List.cons_append, show p = (p.1, p.2) from rfl, lk_cons_self] at h
      exact .inl (by rw [show p = (p.1, p.2) from rfl, lk_cons_self]; exact h)
    · rw [List.cons_append, show p = (p.1, p.2) from rfl, lk_cons_ne hb] at h
      rcases ih h with h | ⟨h1, h2⟩
      · exact .inl (by rw [show p = (p.1, p.2) from rfl, lk_cons_ne hb]; exact h)
      · exact .inr ⟨by rw [show p = (p.1, p.2) from rfl, lk_cons_ne hb]; exact h1, h2⟩

/-- The run of the function's own code from the form at the call to the form behind it. -/
def IoStep {α β γ δ : Type} (I : Inl) (A : Ag α) (M : Ent β) (B : Pt γ) (M' : Ent δ) (nh : Nat) (cs : List Nat) (F : α × β → Option (γ × δ)) : Prop :=
  ∀ x : α × β, I.run none (A.mk x.1) (M.mk x.2) nh (fun v mem _ => match B.get v with | some y => (match M'.get (gpAll cs mem) with | some z => some (y, z) | none => none) | none => none) = F x

theorem io_ok {P : Program} {cx : Cx} {w0 : Base} {g : FuncId} {I : Inl} (hI : ∀ B : Base, B.g = w0.g → InlOK P cx B g I) {α β γ δ : Type} {A : Ag α} {M : Ent β} {B : Pt γ} {M' : Ent δ} {nh : Nat} {cs : List Nat} {F : α × β → Option (γ × δ)}
    (hstep : IoStep I A M B M' nh cs F) (hA : A.low nh = true) (hM : M.low nh = true) (hM' : M'.low nh = true) (hn : (M.names.all fun d => Nat.blt d nh) = true) (hsub : (M'.names.all fun d => hasN d M.names) = true) (hB : ∀ y, pl (B.mk y) = true)
    (hgl : ∀ g v, cx.gl g = some v → nb nh v = true) : InlOK P cx w0 g (Inl.io A M B M' nh cs F) := by
  intro vs memA nx v mem' nx' h ρ w SA G fr okv
  have S := SA.gp cs
  simp only [Inl.io] at h
  generalize gpAll cs memA = mem at S h
  obtain ⟨hnx, h⟩ := cond_some h
  have hnx := Nat.le_of_ble_eq_true hnx
  split at h
  · rename_i x1 hx1
    split at h
    · rename_i x2 hx2
      obtain ⟨y, hF, h⟩ := mo_some h
      obtain ⟨hno, h⟩ := cond_some h
      simp only [Bool.and_eq_true] at hno
      have hno' := hno
      simp only [Option.some.injEq, Prod.mk.injEq] at h
      obtain ⟨rfl, rfl, rfl⟩ := h
      have evs := Ag.get_mk A vs x1 hx1
      subst evs
      have hget := Ent.get_lk M mem x2 hx2
      have hlow : ∀ b T, lk b (M.mk x2) = some T → b < nh := fun b T hT => by
        have := List.all_eq_true.1 hn b (Ent.names_lk M x2 b T hT)
        simpa using this
      have low' : ∀ b, b ∈ M.names → b < nh := fun b hb => by simpa using List.all_eq_true.1 hn b hb
      let dm : Nm := ⟨0, 0, 0, 0, true, 0, true, nk⟩
      let ρ0 : Rho := fun b => if b < nh then (match ρ b with | some nm => some nm | none => some dm) else none
      have r0 : ∀ b nm, b < nh → ρ b = some nm → ρ0 b = some nm := fun b nm hb h => by simp [ρ0, hb, h]
      have r0' : ∀ b nm, ρ0 b = some nm → (ρ b = some nm ∨ nm.K = nk) ∧ b < nh := by
        intro b nm h
        by_cases hb : b < nh
        · simp only [ρ0, hb, if_true] at h
          cases hq : ρ b with
          | some nm' => rw [hq] at h; exact ⟨.inl h, hb⟩
          | none => rw [hq] at h; obtain rfl := Option.some.inj h; exact ⟨.inr rfl, hb⟩
        · simp [ρ0, hb] at h
      have rtot : ∀ b, b < nh → ∃ nm, ρ0 b = some nm := by
        intro b hb
        cases hq : ρ b with
        | some nm => exact ⟨nm, r0 b nm hb hq⟩
        | none => exact ⟨dm, by simp [ρ0, hb, hq]⟩
      have ec : Ext (Vx.cut ρ nh) ρ0 := fun b nm h => by
        unfold Vx.cut at h
        split at h
        · rename_i hb; exact r0 b nm hb h
        · cases h
      have E0 : ∀ v, nb nh v = true → OK P ρ v → OK P ρ0 v ∧ den P ρ0 v = den P ρ v := by
        intro v h1 h2
        have h3 := nb_ok P v h1 h2
        obtain ⟨k1, k2⟩ := den_ext P ec v h3
        exact ⟨k2, k1.trans (den_ext P (cut_ext ρ nh) v h3).1.symm⟩
      have E0c : ∀ v, nb nh v = true → OK P ρ v → cells P ρ0 v = cells P ρ v := fun v h1 h2 => by unfold cells; rw [(E0 v h1 h2).2]
      have EL : OKL P ρ0 (A.mk x1) ∧ denT P ρ0 (A.mk x1) = denT P ρ (A.mk x1) := by
        have h3 := nbL_ok P _ (Ag.low_nb A hA x1) okv
        obtain ⟨-, k1, k2⟩ := denL_ext P ec _ h3
        exact ⟨k2, k1.trans (denL_ext P (cut_ext ρ nh) _ h3).2.1.symm⟩
      -- the callee's own ground
      let Ab : Nat → Prop := fun k => ∃ b T nm, lk b (M.mk x2) = some T ∧ cx.ro ≤ b ∧ ρ b = some nm ∧ nm.non = false ∧ k = nm.blk
      have Aown : ∀ k, Ab k → w0.own k := by
        rintro k ⟨b, T, nm, h1, h2, h3, h4, rfl⟩
        exact (S.own b T nm (hget b T h1) h3 h2).1 h4
      let B' : Base := ⟨w0.g, w, Ab, fun k => w0.own k ∨ w0.F k, S.below.below, fun k hk => Base.own_ge (Aown k hk)⟩
      have nmOf : ∀ b T, lk b (M.mk x2) = some T → ∃ nm, ρ b = some nm ∧ ρ0 b = some nm := by
        intro b T hT
        obtain ⟨nm, h1, -⟩ := S.cell b T (hget b T hT)
        exact ⟨nm, h1, r0 b nm (hlow b T hT) h1⟩
      have toρ : ∀ b T nm, lk b (M.mk x2) = some T → ρ0 b = some nm → ρ b = some nm := by
        intro b T nm hT h
        obtain ⟨nm', h1, h2⟩ := nmOf b T hT
        rw [h2] at h
        rw [h1]; exact h
      have S0 : Sim P B' cx.ro ρ0 [] (M.mk x2) #[] w := by
        refine ⟨fun d v h => by simp [lk] at h, ?_, ?_, ?_, ?_, Kept.refl _, ?_⟩
        · intro b T hT
          obtain ⟨nm, h1, h2, h3, h4, h5⟩ := S.cell b T (hget b T hT)
          have hnb := Ent.low_nb M hM x2 b T hT
          have hce := E0c T hnb h3
          exact ⟨nm, r0 b nm (hlow b T hT) h1, h2, (E0 T hnb h3).1, by rw [hce]; exact h4, fun j x hx => h5 j x (by rw [← hce]; exact hx)⟩
        · intro b T nm hT hnm hro
          have hnm' := toρ b T nm hT hnm
          obtain ⟨h1, h2⟩ := S.own b T nm (hget b T hT) hnm' hro
          obtain ⟨nm', g1, -, g3, -⟩ := S.cell b T (hget b T hT)
          refine ⟨fun hq => .inr ⟨b, T, nm, hT, hro, hnm', hq, rfl⟩, fun j hj => h2 j ?_⟩
          rw [E0c T (Ent.low_nb M hM x2 b T hT) g3] at hj
          exact hj
        · intro b b' T T' nm nm' hT hT' hnm hnm'
          exact S.apart b b' T T' nm nm' (hget b T hT) (hget b' T' hT') (toρ b T nm hT hnm) (toρ b' T' nm' hT' hnm')
        · intro b T nm hT hnm
          exact S.rows b T nm (hget b T hT) (toρ b T nm hT hnm)
        · have noI : ∀ b s p, lk b (M.mk x2) ≠ some (.itr s p) := fun b s p => noItr_lk hno.1
          refine ⟨fun b nm hb k o v hk => ?_, fun b nm hb => ?_, fun b nm hb k o v hk => ?_, fun b T nm hT hnm hro hnon b' nm' hb' k o v hk => ?_, fun b s p hT => (noI b s p hT).elim, fun b s p nm hT => (noI b s p hT).elim, fun b b' s s' p p' nm nm' hT => (noI b s p hT).elim⟩
          · rcases (r0' b nm hb).1 with h | h
            · exact S.ex.froz b nm h k o v hk
            · rw [h] at hk; simp [nk] at hk
          · rcases (r0' b nm hb).1 with h | h
            · exact S.ex.fhs b nm h
            · rw [h]; exact Nat.zero_le _
          · rcases (r0' b nm hb).1 with h | h
            · exact .inr (S.ex.org b nm h k o v hk)
            · rw [h] at hk; simp [nk] at hk
          · rcases (r0' b' nm' hb').1 with h | h
            · exact S.ex.away b T nm (hget b T hT) (toρ b T nm hT hnm) hro hnon b' nm' h k o v hk
            · rw [h] at hk; simp [nk] at hk
      have G0 : GL P ρ0 cx.gl := fun g v hg => by
        obtain ⟨h1, h2⟩ := G g v hg
        obtain ⟨h3, h4⟩ := E0 v (hgl g v hg) h2
        exact ⟨h4.trans h1, h3⟩
      have fr0 : ∀ b, nh ≤ b → ρ0 b = none := fun b hb => by simp [ρ0, Nat.not_lt.2 hb]
      -- the code's run
      have hs := hstep (x1, x2)
      rw [I.par, hF] at hs
      obtain ⟨⟨v0, mem0, nx0⟩, hrun, hs⟩ := mo_some hs
      simp only at hs
      split at hs
      · rename_i y' hy
        split at hs
        · rename_i z hz
          obtain rfl := Option.some.inj hs
          have ev0 := Pt.get_mk B v0 y' hy
          have hget' := Ent.get_lk M' (gpAll cs mem0) z hz
          obtain ⟨k1, k2⟩ := hI B' rfl (A.mk x1) (M.mk x2) nh v0 mem0 nx0 hrun ρ0 w S0 G0 fr0 EL.1
          rw [EL.2] at k1 k2
          refine ⟨k1, k2.mono ?_⟩
          rintro e w' ⟨a, ρ1, rfl, rfl, ok1, S1A, e1, fr1⟩
          have S1 := S1A.gp cs
          have K := S1.below
          -- the names behind the call
          let ρ' : Rho := fun b => if b < nh then ρ0 b else ρ b
          have x0 : Ext ρ0 ρ' := fun b nm h => by
            have := (r0' b nm h).2
            simp only [ρ', this, if_true]; exact h
          have xρ : Ext ρ ρ' := fun b nm h => by
            by_cases hb : b < nh
            · simp only [ρ', hb, if_true]; exact r0 b nm hb h
            · simp only [ρ', hb, if_false]; exact h
          have ρ'K : ∀ b nm, ρ' b = some nm → ρ b = some nm ∨ nm.K = nk := by
            intro b nm h
            by_cases hb : b < nh
            · simp only [ρ', hb, if_true] at h
              exact (r0' b nm h).1
            · simp only [ρ', hb, if_false] at h
              exact .inl h
          have hcut : Vx.cut ρ1 nh = ρ0 := by
            funext b
            unfold Vx.cut
            split
            · rename_i hb
              obtain ⟨nm, h⟩ := rtot b hb
              rw [h]; exact e1 b nm h
            · rename_i hb
              exact (fr0 b (by omega)).symm
          have E1 : ∀ v, nb nh v = true → OK P ρ1 v → OK P ρ' v ∧ den P ρ' v = den P ρ1 v := by
            intro v h1 h2
            have h3 := nb_ok P v h1 h2
            rw [hcut] at h3
            obtain ⟨q1, q2⟩ := den_ext P x0 v h3
            exact ⟨q2, q1.trans (den_ext P e1 v h3).1.symm⟩
          have E1c : ∀ v, nb nh v = true → OK P ρ1 v → cells P ρ' v = cells P ρ1 v := fun v h1 h2 => by unfold cells; rw [(E1 v h1 h2).2]
          have pv : pl v0 = true := by rw [ev0]; exact hB y'
          have okn := pl_ok P v0 pv ok1
          have d0 := den_ext P (Ext.empty ρ') v0 okn
          have d1 := den_ext P (Ext.empty ρ1) v0 okn
          -- which names are there
          have inM : ∀ b T, lk b (M'.mk z) = some T → ∃ T0 nm, lk b (M.mk x2) = some T0 ∧ ρ b = some nm ∧ ρ0 b = some nm ∧ ρ1 b = some nm ∧ ρ' b = some nm := by
            intro b T hT
            have h1 : b ∈ M.names := hasN_iff.1 (List.all_eq_true.1 hsub b (Ent.names_lk M' z b T hT))
            obtain ⟨T0, h2⟩ := Ent.lk_names M x2 b h1
            obtain ⟨nm, h3, h4⟩ := nmOf b T0 h2
            exact ⟨T0, nm, h2, h3, h4, e1 b nm h4, xρ b nm h3⟩
          have live : ∀ b T, lk b (M'.mk z ++ dropN M.names mem) = some T → lk b (M'.mk z) = some T ∨ (b ∉ M.names ∧ lk b mem = some T) := by
            intro b T hT
            rcases lk_app2 hT with h | ⟨-, h⟩
            · exact .inl h
            · obtain ⟨h1, h2⟩ := dropN_lk h
              exact .inr ⟨h2, h1⟩
          -- what is not handed over stays as it is
          have same : ∀ b T nm, b ∉ M.names → lk b mem = some T → ρ b = some nm → nm.non = false → nm.blk < w.heap.size → w'.heap[nm.blk]? = w.heap[nm.blk]? := by
            intro b T nm hb hT hnm hq hlt
            refine K.block nm.blk hlt ?_
            rintro ⟨b1, T1, nm1, h1, h2, h3, h4, h5⟩
            have hne : b1 ≠ b := fun e => hb (e ▸ Ent.names_lk M x2 b1 T1 h1)
            exact S.apart b1 b T1 T nm1 nm (hget b1 T1 h1) hT h3 hnm h2 hne h4 hq h5.symm
          have toρ' : ∀ b T nm, lk b mem = some T → ρ' b = some nm → ρ b = some nm := by
            intro b T nm hT h
            obtain ⟨nm', h1, -⟩ := S.cell b T hT
            rw [xρ b nm' h1] at h
            rw [h1]; exact h
          have any : ∀ b T nm, lk b (M'.mk z ++ dropN M.names mem) = some T → ρ' b = some nm → ∃ T0, lk b mem = some T0 ∧ ρ b = some nm := by
            intro b T nm hT hnm
            rcases live b T hT with h | ⟨-, h⟩
            · obtain ⟨T0, nm', q1, q2, q3, q4, q5⟩ := inM b T h
              rw [q5] at hnm
              exact ⟨T0, hget b T0 q1, by rw [q2]; exact hnm⟩
            · exact ⟨T, h, toρ' b T nm h hnm⟩
          refine ⟨den P ρ1 v0, ρ', rfl, ?_, ?_, ?_, xρ, fun b hb => ?_⟩
          · rw [← ev0, d0.1, d1.1]
          · rw [← ev0]; exact d0.2
          · refine ⟨fun d v h => by simp [lk] at h, ?_, ?_, ?_, ?_, ?_, ?_⟩
            · intro b T hT
              rcases live b T hT with h | ⟨hb, h⟩
              · obtain ⟨T0, nm, q1, q2, q3, q4, q5⟩ := inM b T h
                obtain ⟨nm', g1, g2, g3, g4, g5⟩ := S1.cell b T (hget' b T h)
                rw [q4] at g1
                obtain rfl := Option.some.inj g1
                have hnb := Ent.low_nb M' hM' z b T h
                have hce := E1c T hnb g3
                exact ⟨nm, q5, g2, (E1 T hnb g3).1, by rw [hce]; exact g4, fun j x hx => g5 j x (by rw [← hce]; exact hx)⟩
              · obtain ⟨nm, g1, g2, g3, g4, g5⟩ := S.cell b T h
                have hce := cells_ext P xρ T g3
                refine ⟨nm, xρ b nm g1, g2, (den_ext P xρ T g3).2, by rw [hce]; exact Liv.size g4 K.size, fun j x hx => ?_⟩
                rw [hce] at hx
                rcases g4 with ⟨z1, z2⟩ | ⟨-, z2⟩
                · rw [World.cell?_of_block (same b T nm hb h g1 z1 z2)]; exact g5 j x hx
                · rw [z2] at hx; simp at hx
            · intro b T nm hT hnm hro
              rcases live b T hT with h | ⟨hb, h⟩
              · obtain ⟨T0, nm', q1, q2, q3, q4, q5⟩ := inM b T h
                rw [q5] at hnm
                obtain rfl := Option.some.inj hnm
                obtain ⟨g1, g2, g3⟩ := S1.cell b T (hget' b T h)
                refine ⟨(S.own b T0 nm' (hget b T0 q1) q2 hro).1, fun j hj => (S1.own b T nm' (hget' b T h) q4 hro).2 j ?_⟩
                rw [E1c T (Ent.low_nb M' hM' z b T h) g3.2.1] at hj
                exact hj
              · have hnm := toρ' b T nm h hnm
                obtain ⟨h1, h2⟩ := S.own b T nm h hnm hro
                obtain ⟨nm', g1, -, g3, g4, -⟩ := S.cell b T h
                rw [hnm] at g1
                obtain rfl := Option.some.inj g1
                refine ⟨h1, fun j hj => ?_⟩
                rw [cells_ext P xρ T g3] at hj
                rcases g4 with ⟨z1, z2⟩ | ⟨-, z2⟩
                · rw [World.frozen?_of_block (same b T nm hb h hnm z1 z2)]; exact h2 j hj
                · rw [z2] at hj; simp at hj
            · intro b b' T T' nm nm' hT hT' hnm hnm' hro hne z1 z2
              obtain ⟨U, u1, u2⟩ := any b T nm hT hnm
              obtain ⟨U', u1', u2'⟩ := any b' T' nm' hT' hnm'
              exact S.apart b b' U U' nm nm' u1 u1' u2 u2' hro hne z1 z2
            · intro b T nm hT hnm hro hr
              rcases live b T hT with h | ⟨hb, h⟩
              · obtain ⟨T0, nm', q1, q2, q3, q4, q5⟩ := inM b T h
                rw [q5] at hnm
                obtain rfl := Option.some.inj hnm
                exact S1.rows b T nm' (hget' b T h) q4 hro hr
              · have hnm := toρ' b T nm h hnm
                cases hq : nm.non with
                | true => exact .inl rfl
                | false =>
                  rcases S.rows b T nm h hnm hro hr with z | z
                  · rw [hq] at z; cases z
                  · exact .inr (z.same (same b T nm hb h hnm hq z.lt))
            · exact S.below.step K.os K.tape K.output K.size fun k hk hno => K.block k hk fun hA => hno (Aown k hA)
            · refine S.ex.step ρ'K (fun b T hT => .inl ?_) K.size fun k hk hno => K.block k hk ?_
              · rcases live b T hT with h | ⟨hb, h⟩
                · obtain ⟨T0, nm, q1, q2, q3, q4, q5⟩ := inM b T h
                  exact ⟨T0, hget b T0 q1, by rw [q5, q2], .inr fun s p e => by rw [e] at h; exact noItr_lk hno'.2 h⟩
                · obtain ⟨nm, g1, -⟩ := S.cell b T h
                  exact ⟨T, h, by rw [xρ b nm g1, g1], .inl rfl⟩
              · rintro ⟨b1, T1, nm1, h1, h2, h3, h4, h5⟩
                exact hno b1 T1 nm1 (hget b1 T1 h1) h3 h2 h4 h5
          · have hb' : ¬ b < nh := by omega
            simp only [ρ', hb', if_false]
            exact fr b hb
        · cases hs
      · cases hs
    · cases h
  · cases h

/-- The first form that fits; else another way. -/
def Inl.ioOr {α β γ δ : Type} (A : Ag α) (M : Ent β) (B : Pt γ) (M' : Ent δ) (nh : Nat) (cs : List Nat) (F : α × β → Option (γ × δ)) (J : Inl) : Inl where
  run := fun {R} f vs mem nx k => cond (Nat.ble nh nx) (match A.get vs with
    | some x1 => match M.get (gpAll cs mem) with
      | some x2 => mo (F (x1, x2)) f fun y => cond (noItr (M.mk x2) && noItr (M'.mk y.2)) (k (B.mk y.1) (M'.mk y.2 ++ dropN M.names (gpAll cs mem)) nx) f
      | none => J.run f vs mem nx k
    | none => J.run f vs mem nx k) (J.run f vs mem nx k)
  par := by
    intro R f vs mem nx k
    refine cond_par _ ?_ (J.par f vs mem nx k)
    split
    · split
      · rw [mo_mo]
        congr 1
        funext y
        exact cond_par _ rfl rfl
      · exact J.par f vs mem nx k
    · exact J.par f vs mem nx k

theorem ioOr_ok {P : Program} {cx : Cx} {w0 : Base} {g : FuncId} {α β γ δ : Type} {A : Ag α} {M : Ent β} {B : Pt γ} {M' : Ent δ} {nh : Nat} {cs : List Nat} {F : α × β → Option (γ × δ)} {J : Inl}
    (h1 : InlOK P cx w0 g (Inl.io A M B M' nh cs F)) (h2 : InlOK P cx w0 g J) : InlOK P cx w0 g (Inl.ioOr A M B M' nh cs F J) := by
  intro vs mem nx v mem' nx' h
  have a := h1 vs mem nx v mem' nx'
  have b := h2 vs mem nx v mem' nx'
  simp only [Inl.ioOr] at h
  simp only [Inl.io] at a
  cases hc : Nat.ble nh nx with
  | false => rw [hc, cond_false] at h; exact b h
  | true =>
    rw [hc, cond_true] at h a
    split at h
    · rename_i x1 hx1
      split at h
      · rename_i x2 hx2
        simp only [hx1, hx2] at a
        exact a h
      · exact b h
    · exact b h

end Go.Vx
