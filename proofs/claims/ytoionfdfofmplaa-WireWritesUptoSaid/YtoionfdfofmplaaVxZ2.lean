/- The engine, part Z2: what the printed texts call, for functions told by forms. -/
import Derived.Test.YtoionfdfofmplaaVxZ
set_option autoImplicit false
set_option linter.unusedVariables false
set_option linter.unusedSimpArgs false
namespace Go.Vx
open Go Go.RowKit

/-- A loop of a function that is told by forms. -/
theorem loop_printedK {P : Program} {w0 : World} {fn : Func} {cs : List (FuncId × Ct)} (hcs : ∀ x ∈ cs, SoundAt P w0 x.1 x.2) {gs : List Gv} {S : Nat} {is : List (FuncId × Inl)} {ls : List (Nat × Lf)} {n id : Nat} (his : AllOK P w0 gs S is) {α β γ δ ε ζ : Type} {H : Fm α β} {O : Fm γ δ} {T : Fm ε ζ} {nx : Nat} {K : List Nat}
    {step : α × β → Option ((α × β) ⊕ ((γ × δ) ⊕ (ε × ζ)))} {cz : List Nat} (hok : (H.ok nx && O.ok nx && T.ok nx && Nat.ble (gs.length + S) nx && (H.sok P (gs.length + S) && O.sok P (gs.length + S) && T.sok P (gs.length + S)) && (K.all fun b => Nat.blt b nx && (notIn b (H.gsl.map (·.2.1)) && notIn b (O.gsl.map (·.2.1)) && notIn b (T.gsl.map (·.2.1))))) = true)
    (hstep : ∀ v, exec P (cxIn fn cs gs S is) (fun i => lkL i ls) n none (loopBody fn id) (H.st nx v) (fun e st => rdEnd H O T nx id e st cz) = step v) (N : Nat)
    (hΛ : ∀ w : Base, w.g = w0 → ∀ ρk, LoopsOKX P (cxIn fn cs gs S is) w (Kp K ρk) (fun i => lkL i ls) (loopBody fn id)) :
    ∀ w : Base, w.g = w0 → ∀ ρk, LoopOKX P (cxIn fn cs gs S is) w (Kp K ρk) id (.loop (loopBody fn id)) (loopCt H O T nx step N cz) := by
  intro w hw ρk
  simp only [Bool.and_eq_true] at hok
  obtain ⟨⟨⟨⟨⟨h1, h2⟩, h3⟩, h4⟩, ⟨s1, s2⟩, s3⟩, hk⟩ := hok
  have h4 := Nat.le_of_ble_eq_true h4
  refine loop_okX (lkG_sound cs fun x hx => by rw [hw]; exact hcs x hx) (lkI_sound is (his w hw _ rfl rfl)) (hΛ w hw ρk) h1 h2 h3 s1 s2 s3 h4 (fun g v h => glAt_nb0 gs 0 (gs.length + S) g v (by omega) h) (fun g v h => glAt_nb gs 0 nx g v (by omega) h) hstep (fun b hb => ?_) N
  have := List.all_eq_true.1 hk b hb
  simp only [Bool.and_eq_true] at this
  exact ⟨by simpa using this.1, notIn_spec this.2.1.1, notIn_spec this.2.1.2, notIn_spec this.2.2⟩

/-- A function that is told by forms. -/
theorem io_printed {P : Program} {w0 : World} {g : FuncId} {fn : Func} {cs : List (FuncId × Ct)} (hcs : ∀ x ∈ cs, SoundAt P w0 x.1 x.2) {gs : List Gv} {S : Nat} (hgs : GlobOK P w0 gs) {is : List (FuncId × Inl)} {ls : List (Nat × Lf)} {n : Nat} (his : AllOK P w0 gs S is) {K : List Nat} (hfn : P.funcs[g]? = some fn)
    (hname : (fn.name == "runtime.NumGoroutine") = false) (hb : fn.body = some (bodyOf fn)) (hΛ : ∀ w : Base, w.g = w0 → ∀ ρk, LoopsOKX P (cxIn fn cs gs S is) w (Kp K ρk) (fun i => lkL i ls) (bodyOf fn))
    {α β μ γ δ : Type} {A : Ag α} {R : Ent β} {M : Ent μ} {B : Pt γ} {M' : Ent δ} {F : α × β × μ → Option (γ × δ)} {ro nh : Nat} (hc : (Nat.ble gs.length 32 && Nat.ble 32 ro && Nat.ble 32 nh && Nat.beq (gs.length + S) ro) = true)
    (hrun : ∀ x, runIo P (cxIn fn cs gs S is) (fun i => lkL i ls) n fn (memAt gs 0) nh A R M B M' K x = F x) : SoundIo P w0 g ro nh A R M B M' K F := by
  simp only [Bool.and_eq_true] at hc
  obtain ⟨hc, hr⟩ := hc
  exact io_run (cx := cxIn fn cs gs S is) hgs rfl rfl (beq_eq hr) (lkG_sound cs hcs) (fun W hW => lkI_sound is (his W hW _ rfl rfl)) (fun W hW ρk c hcb => by rw [hb] at hcb; obtain rfl := Option.some.inj hcb; exact hΛ W hW ρk) hfn hname (by rw [hb]; rfl) (by simp only [Bool.and_eq_true]; exact hc) hrun

abbrev IoRunIs (P : Program) (cs : List (FuncId × Ct)) (gs : List Gv) (S : Nat) (is : List (FuncId × Inl)) (ls : List (Nat × Lf)) (fn : Func) (nh : Nat) {α β μ γ δ : Type} (A : Ag α) (R : Ent β) (M : Ent μ) (B : Pt γ) (M' : Ent δ) (K : List Nat) (F : α × β × μ → Option (γ × δ)) : Prop :=
  ∀ x, runIo P (cxIn fn cs gs S is) (fun i => lkL i ls) 100 fn (memAt gs 0) nh A R M B M' K x = F x

end Go.Vx
