/- The engine, part Pb: a whole row, looked at as a part of itself. -/
import Derived.Test.YtoionfdfofmplaaVxPa
set_option autoImplicit false
set_option linter.unusedSimpArgs false
set_option linter.unusedVariables false
namespace Go.Vx
open Go Go.RowKit

def hasN : Nat → List Nat → Bool
  | _, [] => false
  | b, c :: l => cond (Nat.beq b c) true (hasN b l)
theorem hasN_iff {b : Nat} : {l : List Nat} → hasN b l = true ↔ b ∈ l
  | [] => by simp [hasN]
  | c :: l => by
    rw [hasN]
    cases hq : Nat.beq b c with
    | true => simp [beq_eq hq]
    | false =>
      have : b ≠ c := fun h => by rw [h] at hq; simp at hq
      rw [cond_false, hasN_iff]
      simp [this]

/-- A whole row as a part of itself. -/
def toGpF (cs : List Nat) : AV → AV
  | .gs b n t => cond (hasN b cs) (.gp b 0 n t false 0) (.gs b n t)
  | v => v
def toGpL (cs : List Nat) : List AV → List AV
  | [] => []
  | v :: l => toGpF cs v :: toGpL cs l
def toGp (cs : List Nat) : AV → AV
  | .agg l => .agg (toGpL cs l)
  | v => v
def gpAll (cs : List Nat) : List (Nat × AV) → List (Nat × AV)
  | [] => []
  | p :: l => (p.1, toGp cs p.2) :: gpAll cs l

theorem gpAll_lk {cs : List Nat} {b : Nat} {T : AV} : {l : List (Nat × AV)} → lk b (gpAll cs l) = some T → ∃ T0, lk b l = some T0 ∧ T = toGp cs T0
  | [], h => by simp [gpAll, lk] at h
  | p :: l, h => by
    rw [gpAll] at h
    by_cases hb : p.1 = b
    · subst hb
      rw [lk_cons_self] at h
      exact ⟨p.2, by rw [show p = (p.1, p.2) from rfl, lk_cons_self], (Option.some.inj h).symm⟩
    · rw [lk_cons_ne hb] at h
      obtain ⟨T0, h1, h2⟩ := gpAll_lk h
      exact ⟨T0, by rw [show p = (p.1, p.2) from rfl, lk_cons_ne hb]; exact h1, h2⟩

theorem toGpF_ok (P : Program) {ρ : Rho} (cs : List Nat) (v : AV) (ok : OK P ρ v) : OK P ρ (toGpF cs v) ∧ den P ρ (toGpF cs v) = den P ρ v := by
  cases v with
  | gs b n t =>
    simp only [toGpF]
    cases hasN b cs with
    | false => exact ⟨ok, rfl⟩
    | true =>
      rw [cond_true]
      simp only [OK] at ok ⊢
      obtain ⟨nm, h1, h2, h3, h4, h5, h6, h7⟩ := ok
      refine ⟨⟨nm, h1, fun h => (by cases h), h2, h3, by omega, by omega, fun h => by have := h6 h; omega, h7⟩, ?_⟩
      simp only [den, h1, gpV, gsV]
      cases hq : nm.non with
      | true => rfl
      | false =>
        simp only [cond_false, Nat.zero_mul, Nat.sub_zero]
        by_cases ht : nm.tot = 0 <;> simp [ht, Addr.add]
  | _ => exact ⟨ok, rfl⟩
theorem toGpL_ok (P : Program) {ρ : Rho} (cs : List Nat) : (l : List AV) → OKL P ρ l → OKL P ρ (toGpL cs l) ∧ denC P ρ (toGpL cs l) = denC P ρ l
  | [], _ => ⟨trivial, rfl⟩
  | v :: l, ok => by
    simp only [OKL] at ok
    obtain ⟨h1, h2⟩ := toGpF_ok P cs v ok.1
    obtain ⟨h3, h4⟩ := toGpL_ok P cs l ok.2
    refine ⟨⟨h1, h3⟩, ?_⟩
    simp only [toGpL, denC_cons, h4]
    unfold cells
    rw [h2]
theorem toGp_ok (P : Program) {ρ : Rho} (cs : List Nat) (v : AV) (ok : OK P ρ v) : OK P ρ (toGp cs v) ∧ den P ρ (toGp cs v) = den P ρ v := by
  cases v with
  | agg l =>
    simp only [toGp, OK] at ok ⊢
    obtain ⟨h1, h2⟩ := toGpL_ok P cs l ok
    exact ⟨h1, by simp only [den, h2]⟩
  | _ => exact ⟨ok, rfl⟩
theorem toGpF_has (P : Program) (cs : List Nat) (v : AV) (t : TypeId) (h : Has P v t) : Has P (toGpF cs v) t := by
  cases v with
  | gs b n te =>
    simp only [toGpF]
    cases hasN b cs with
    | false => exact h
    | true => simpa only [cond_true, Has] using h
  | _ => exact h
theorem toGpL_len (cs : List Nat) : (l : List AV) → (toGpL cs l).length = l.length
  | [] => rfl
  | v :: l => by simp [toGpL, toGpL_len cs l]
theorem toGpL_hasA (P : Program) (cs : List Nat) (e : TypeId) : (l : List AV) → HasA P l e → HasA P (toGpL cs l) e
  | [], h => by simp [toGpL, HasA]
  | v :: l, h => by
    simp only [HasA] at h
    simp only [toGpL, HasA]
    exact ⟨toGpF_has P cs v e h.1, toGpL_hasA P cs e l h.2⟩
theorem toGpL_hasF (P : Program) (cs : List Nat) : (l : List AV) → (fs : List Field) → (o s : Nat) → HasF P l fs o s → HasF P (toGpL cs l) fs o s
  | [], fs, o, s, h => by simpa [toGpL] using h
  | v :: l, [], o, s, h => by simp [HasF] at h
  | v :: l, f :: fs, o, s, h => by
    simp only [HasF] at h
    simp only [toGpL, HasF]
    exact ⟨h.1, toGpF_has P cs v f.type h.2.1, toGpL_hasF P cs l fs _ s h.2.2⟩
theorem toGp_hasN (P : Program) (cs : List Nat) (nm : Nm) (v : AV) (h : HasN P nm v) : HasN P nm (toGp cs v) := by
  cases v with
  | agg l =>
    simp only [HasN, toGp] at h ⊢
    split
    · rename_i hr
      rw [if_pos hr] at h
      exact ⟨by rw [toGpL_len]; exact h.1, toGpL_hasA P cs _ l h.2⟩
    · rename_i hr
      rw [if_neg hr] at h
      simp only [Has] at h ⊢
      rcases h with ⟨fs, h1, h2⟩ | ⟨n, e, h1, h2, h3, h4⟩
      · exact .inl ⟨fs, h1, toGpL_hasF P cs l _ _ _ h2⟩
      · exact .inr ⟨n, e, h1, by rw [toGpL_len]; exact h2, toGpL_hasA P cs _ l h3, h4⟩
  | _ => exact h

theorem Sim.gp {P : Program} {w0 : Base} {ro : Nat} {ρ : Rho} {tm mem : List (Nat × AV)} {tmps : Array Value} {w : World} (S : Sim P w0 ro ρ tm mem tmps w) (cs : List Nat) : Sim P w0 ro ρ tm (gpAll cs mem) tmps w := by
  have hit : ∀ {b : Nat} {s : ByteArray} {p : Nat}, lk b (gpAll cs mem) = some (.itr s p) → lk b mem = some (.itr s p) := by
    intro b s p h
    obtain ⟨T0, h1, h2⟩ := gpAll_lk h
    cases T0 <;> simp only [toGp] at h2 <;> first | (cases h2; done) | (rw [h2]; exact h1)
  have hc : ∀ T0, OK P ρ T0 → cells P ρ (toGp cs T0) = cells P ρ T0 := fun T0 ok => by unfold cells; rw [(toGp_ok P cs T0 ok).2]
  refine ⟨S.slot, ?_, ?_, ?_, ?_, S.below, ?_⟩
  · intro b T hT
    obtain ⟨T0, h1, rfl⟩ := gpAll_lk hT
    obtain ⟨nm, g1, g2, g3, g4, g5⟩ := S.cell b T0 h1
    exact ⟨nm, g1, toGp_hasN P cs nm T0 g2, (toGp_ok P cs T0 g3).1, by rw [hc T0 g3]; exact g4, fun j x hx => g5 j x (by rw [← hc T0 g3]; exact hx)⟩
  · intro b T nm hT hnm hro
    obtain ⟨T0, h1, rfl⟩ := gpAll_lk hT
    obtain ⟨nm', g1, -, g3, -⟩ := S.cell b T0 h1
    obtain ⟨k1, k2⟩ := S.own b T0 nm h1 hnm hro
    exact ⟨k1, fun j hj => k2 j (by rw [hc T0 g3] at hj; exact hj)⟩
  · intro b b' T T' nm nm' hT hT'
    obtain ⟨T0, h1, -⟩ := gpAll_lk hT
    obtain ⟨T0', h1', -⟩ := gpAll_lk hT'
    exact S.apart b b' T0 T0' nm nm' h1 h1'
  · intro b T nm hT
    obtain ⟨T0, h1, -⟩ := gpAll_lk hT
    exact S.rows b T0 nm h1
  · refine ⟨S.ex.froz, S.ex.fhs, S.ex.org, ?_, fun b s p h => S.ex.its b s p (hit h), ?_, fun b b' s s' p p' nm nm' h h' => S.ex.itd b b' s s' p p' nm nm' (hit h) (hit h')⟩
    · intro b T nm hT
      obtain ⟨T0, h1, -⟩ := gpAll_lk hT
      exact S.ex.away b T0 nm h1
    · intro b s p nm h hnm b' T nm' hT
      obtain ⟨T0, h1, -⟩ := gpAll_lk hT
      exact S.ex.ita b s p nm (hit h) hnm b' T0 nm' h1

def St.gp (cs : List Nat) (st : St) : St :=
  match cs with
  | [] => st
  | cs => { st with mem := gpAll cs st.mem }

theorem In.gp {P : Program} {cx : Cx} {w0 : Base} {ρ : Rho} {st : St} {a : Act} {w : World} (I : In P cx w0 ρ st a w) (cs : List Nat) : In P cx w0 ρ (st.gp cs) a w := by
  cases cs with
  | nil => exact I
  | cons c cs => exact ⟨I.sim.gp (c :: cs), I.fresh, I.nt, I.gl, I.df⟩

end Go.Vx
