/- The engine, part J2: any operation. -/
import Derived.Test.YtoionfdfofmplaaVxJ
import Derived.Test.YtoionfdfofmplaaVxI2
set_option autoImplicit false
set_option linter.unusedVariables false
set_option linter.unusedSimpArgs false
namespace Go.Vx
open Go Go.RowKit

theorem op_sound {P : Program} {w0 : Base} {ro : Nat} {ρ : Rho} {tm mem : List (Nat × AV)} {a : Act} {w : World} (S : Sim P w0 ro ρ tm mem a.tmps w)
    {gl : Nat → Option AV} (hgl : GL P ρ gl) {Γ : FuncId → Option Ct} (hΓ : ∀ g C, Γ g = some C → SoundAt P w0.g g C) {get : Nat → Option AV} (hget : ∀ b T, get b = some T → lk b mem = some T) {m : Nat}
    {o : Oper} {e : Eff} {next : Act → World → Prop} {Q : Exit → Act → World → Prop} (hn : ∀ v ρ' w', After P ro ρ mem w m e v ρ' w' → next (a.put o.dst v) w')
    (h : opK' P Γ ro o.op (evO gl tm) get none some = some e) : o.wp P a w next Q := by
  have old : opE P Γ ro o.op (evO gl tm) get none some = some e → o.wp P a w next Q := fun h => opE_sound S hgl hΓ hget hn h
  cases ho : o.op <;> simp only [ho, opK'] at h old
  case slice t x lo hi mx =>
    cases mx with
    | some _ => exact old h
    | none =>
      simp only at h
      split at h
      · split at h
        · replace h := cond_some h
          obtain ⟨hc, h⟩ := h
          simp only [Bool.and_eq_true] at hc
          obtain rfl := beq_eq hc.1
          exact s_sliceG S hgl hn ho ‹_› ‹_› (by simpa using hc.2) h
        · cases h
      · split at h
        · replace h := cond_some h
          obtain ⟨hc, h⟩ := h
          simp only [Bool.and_eq_true] at hc
          obtain rfl := beq_eq hc.1
          cases lo with
          | none => exact s_sliceP S hgl hn ho ‹_› ‹_› (by simpa using hc.2) h
          | some lo => exact s_sliceP S hgl hn ho ‹_› ‹_› (by simpa using hc.2) h
        · cases h
      · split at h
        · replace h := cond_some h
          obtain ⟨hc, h⟩ := h
          simp only [Bool.and_eq_true] at hc
          obtain rfl := beq_eq hc.1
          exact s_sliceD S hgl hn ho ‹_› ‹_› (by simpa using hc.2) h
        · cases h
      · split at h
        · exact s_sliceT S hgl hn ho ‹_› ‹_› h
        · cases h
      · exact old h
  case indexAddr t x y =>
    split at h
    · split at h
      · replace h := cond_some h
        obtain ⟨hc, h⟩ := h
        simp only [Bool.and_eq_true] at hc
        obtain rfl := beq_eq hc.1
        replace h := cond_some h
        obtain ⟨hi, h⟩ := h
        exact s_indexAddrP S hgl hn ho ‹_› ‹_› ‹_› (by simpa using hc.2) (by simpa using hi) (Option.some.inj h).symm
      · cases h
    · split at h
      · replace h := cond_some h
        obtain ⟨hc, h⟩ := h
        simp only [Bool.and_eq_true] at hc
        obtain rfl := beq_eq hc.1
        replace h := cond_some h
        obtain ⟨hi, h⟩ := h
        exact s_indexAddrD S hgl hn ho ‹_› ‹_› ‹_› (by simpa using hc.2) (by simpa using hi) (Option.some.inj h).symm
      · cases h
    · exact old h
  case fieldAddr st x i =>
    split at h
    · replace h := cond_some h
      obtain ⟨hc, h⟩ := h
      simp only [Bool.and_eq_true] at hc
      obtain rfl := beq_eq hc.1
      split at h
      · split at h
        · replace h := cond_some h
          obtain ⟨hz, h⟩ := h
          exact s_fieldD S hgl hn ho ‹_› hc.2 ‹_› ‹_› ‹_› (by simpa using hz) (Option.some.inj h).symm
        · cases h
      · cases h
    · exact old h
  case load t x =>
    split at h
    · replace h := cond_some h
      obtain ⟨hc, h⟩ := h
      simp only [Bool.and_eq_true] at hc
      obtain rfl := beq_eq hc.1
      exact s_loadD S hgl hn ho ‹_› hc.2 (Option.some.inj h).symm
    · exact old h
  case convert s d x =>
    split at h
    · exact old h
    · split at h
      · split at h
        · exact s_bstr0 S hgl hn ho ‹_› ‹_› ‹_› ‹_› (Option.some.inj h).symm
        · cases h
      · cases h
    · split at h
      · split at h
        · rename_i r hr
          obtain ⟨T, te⟩ := r
          split at h
          · rename_i hT
            simp only at hT
            subst hT
            replace h := cond_some h
            obtain ⟨hc, h⟩ := h
            obtain rfl := beq_eq hc
            exact s_bstr S hgl hn hget ho ‹_› ‹_› ‹_› hr (Option.some.inj h).symm
          · cases h
        · cases h
      · cases h
    · cases h
  case binOp op t x y ty =>
    cases op
    case add =>
      simp only at h
      split at h
      · replace h := cond_some h
        obtain ⟨hc, h⟩ := h
        exact s_strAdd S hgl hn ho ‹_› ‹_› hc (Option.some.inj h).symm
      · exact old h
    case eql =>
      simp only at h
      split at h
      · split at h
        · exact s_eqNil S hgl hn ho ‹_› ‹_› ‹_› (Option.some.inj h).symm
        · cases h
      · exact old h
    all_goals exact old h
  case makeSlice t x y =>
    split at h
    · split at h
      · split at h
        · replace h := cond_some h
          obtain ⟨hc, h⟩ := h
          simp only [Bool.and_eq_true, decide_eq_true_eq] at hc
          exact s_make S hgl hn ho ‹_› ‹_› ‹_› ‹_› hc.1.1 hc.1.2 hc.2 (Option.some.inj h).symm
        · cases h
      · cases h
    · cases h
  case buildSlice t n ps =>
    cases n with
    | zero =>
      simp only at h
      split at h
      · split at h
        · replace h := cond_some h
          obtain ⟨hc, h⟩ := h
          simp only [Bool.and_eq_true] at hc
          have hps : ps.toList = [] := by
            have := hc.2
            split at this
            · assumption
            · cases this
          exact s_empty hn ho hps ‹_› ‹_› hc.1 (Option.some.inj h).symm
        · cases h
      · cases h
    | succ n => exact old h
  case call c =>
    split at h
    · split at h
      · rename_i x y t t' hx ht
        cases hq : Nat.beq t t' with
        | true =>
          rw [hq, cond_true] at h
          obtain rfl := beq_eq hq
          split at h
          · exact s_appX S hgl hn hget ho ‹_› hx ht ‹_› h
          · cases h
        | false =>
          rw [hq, cond_false] at h
          split at h
          · exact s_appZ S hgl hn ho ‹_› hx ht ‹_› ‹_› h
          · cases h
      · cases h
    · split at h
      · split at h
        · exact s_capN S hgl hn ho ‹_› ‹_› ‹_› ‹_› (Option.some.inj h).symm
        · cases h
      · cases h
    · split at h
      · split at h
        · exact s_lenX S hgl hn ho ‹_› ‹_› ‹_› ‹_› (.inl ⟨_, _, _, _, _, rfl⟩) (Option.some.inj h).symm
        · cases h
      · split at h
        · exact s_lenX S hgl hn ho ‹_› ‹_› ‹_› ‹_› (.inr ⟨_, _, _, _, _, rfl, rfl⟩) (Option.some.inj h).symm
        · cases h
      · exact old h
    · exact old h
  all_goals exact old h

end Go.Vx
