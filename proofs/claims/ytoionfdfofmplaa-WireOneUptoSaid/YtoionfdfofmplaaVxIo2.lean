/- The engine, part Io2: what the printed texts call, for calls told by forms. -/
import Derived.Test.YtoionfdfofmplaaVxIo
set_option autoImplicit false
namespace Go.Vx
open Go Go.RowKit

def OneOK (P : Program) (w0 : World) (gs : List Gv) (S : Nat) (g : FuncId) (I : Inl) : Prop :=
  ∀ w : Base, w.g = w0 → ∀ cx : Cx, cx.ro = gs.length + S → cx.gl = glAt gs 0 → InlOK P cx w g I
def AllOK (P : Program) (w0 : World) (gs : List Gv) (S : Nat) (is : List (FuncId × Inl)) : Prop :=
  ∀ w : Base, w.g = w0 → ∀ cx : Cx, cx.ro = gs.length + S → cx.gl = glAt gs 0 → ∀ x ∈ is, InlOK P cx w x.1 x.2

theorem allok_nil {P : Program} {w0 : World} {gs : List Gv} {S : Nat} : AllOK P w0 gs S [] := fun _ _ _ _ _ x hx => by simp at hx
theorem allok_cons {P : Program} {w0 : World} {gs : List Gv} {S : Nat} {g : FuncId} {I : Inl} {l : List (FuncId × Inl)} (h1 : OneOK P w0 gs S g I) (h : AllOK P w0 gs S l) : AllOK P w0 gs S ((g, I) :: l) := fun w hw cx e1 e2 x hx => by
  rcases List.mem_cons.1 hx with rfl | hx
  · exact h1 w hw cx e1 e2
  · exact h w hw cx e1 e2 x hx

theorem one_of {P : Program} {w0 : World} {cs : List (FuncId × Ct)} (hcs : ∀ x ∈ cs, SoundAt P w0 x.1 x.2) {gs : List Gv} {S n : Nat} {l : List (FuncId × Inl)} (h : AllOK P w0 gs S l) {g : FuncId} {fn : Func} (k1 : P.funcs[g]? = some fn) (k2 : (fn.name == "runtime.NumGoroutine") = false) (k3 : fn.body.isNone = false) :
    OneOK P w0 gs S g (inlOf P cs gs S n l fn) := fun w hw cx h1 h2 =>
  inl_ok (cx := cxIn fn cs gs S l) (lkG_sound cs fun x hx => by rw [hw]; exact hcs x hx) n (lkI_sound l (h w hw _ rfl rfl)) k1 k2 k3 h1 h2

theorem one_io {P : Program} {w0 : World} {gs : List Gv} {S : Nat} {g : FuncId} {J E : Inl} (hJ : OneOK P w0 gs S g J) (hE : OneOK P w0 gs S g E) {α β γ δ : Type} {A : Ag α} {M : Ent β} {B : Pt γ} {M' : Ent δ} {nh : Nat} {cs : List Nat} {F : α × β → Option (γ × δ)}
    (hstep : IoStep J A M B M' nh cs F) (hc : (A.low nh && M.low nh && M'.low nh && (M.names.all fun d => Nat.blt d nh) && (M'.names.all fun d => hasN d M.names) && Nat.ble gs.length nh) = true) (hB : ∀ y, pl (B.mk y) = true) :
    OneOK P w0 gs S g (Inl.ioOr A M B M' nh cs F E) := fun w hw cx h1 h2 => by
  simp only [Bool.and_eq_true] at hc
  obtain ⟨⟨⟨⟨⟨c1, c2⟩, c3⟩, c4⟩, c5⟩, c6⟩ := hc
  have c6 := Nat.le_of_ble_eq_true c6
  exact ioOr_ok (io_ok (fun B hB => hJ B (hB.trans hw) cx h1 h2) hstep c1 c2 c3 c4 c5 hB (fun g v hg => by rw [h2] at hg; exact glAt_nb gs 0 nh g v (by omega) hg)) (hE w hw cx h1 h2)

/-- A loop of a printed function, some of whose calls are run in place. -/
theorem loop_printedO {P : Program} {w0 : World} {fn : Func} {cs : List (FuncId × Ct)} (hcs : ∀ x ∈ cs, SoundAt P w0 x.1 x.2) {gs : List Gv} {S : Nat} {is : List (FuncId × Inl)} {ls : List (Nat × Lf)} {n id : Nat} (his : AllOK P w0 gs S is) {α β γ δ ε ζ : Type} {H : Fm α β} {O : Fm γ δ} {T : Fm ε ζ} {nx : Nat}
    {step : α × β → Option ((α × β) ⊕ ((γ × δ) ⊕ (ε × ζ)))} (hok : (H.ok nx && O.ok nx && T.ok nx && Nat.ble (gs.length + S) nx && (H.sok P (gs.length + S) && O.sok P (gs.length + S) && T.sok P (gs.length + S))) = true)
    (hstep : ∀ v, exec P (cxIn fn cs gs S is) (fun i => lkL i ls) n none (loopBody fn id) (H.st nx v) (rdEnd H O T nx id) = step v) (N : Nat)
    (hΛ : ∀ w : Base, w.g = w0 → LoopsOK P (cxIn fn cs gs S is) w (fun i => lkL i ls) (loopBody fn id)) :
    ∀ w : Base, w.g = w0 → LoopOK P (cxIn fn cs gs S is) w id (.loop (loopBody fn id)) (loopCt H O T nx step N) := by
  intro w hw
  simp only [Bool.and_eq_true] at hok
  obtain ⟨⟨⟨⟨h1, h2⟩, h3⟩, h4⟩, ⟨s1, s2⟩, s3⟩ := hok
  have h4 := Nat.le_of_ble_eq_true h4
  exact loop_ok (lkG_sound cs fun x hx => by rw [hw]; exact hcs x hx) (lkI_sound is (his w hw _ rfl rfl)) (hΛ w hw) h1 h2 h3 s1 s2 s3 h4 (fun g v h => glAt_nb0 gs 0 (gs.length + S) g v (by omega) h) (fun g v h => glAt_nb gs 0 nx g v (by omega) h) hstep N

/-- A printed function, some of whose calls are run in place. -/
theorem fn_printedO {P : Program} {w0 : World} {g : FuncId} {fn : Func} {cs : List (FuncId × Ct)} (hcs : ∀ x ∈ cs, SoundAt P w0 x.1 x.2) {gs : List Gv} {S : Nat} (hgs : GlobOK P w0 gs) {is : List (FuncId × Inl)} {ls : List (Nat × Lf)} {n : Nat} (his : AllOK P w0 gs S is) (hfn : P.funcs[g]? = some fn)
    (hname : (fn.name == "runtime.NumGoroutine") = false) (hb : fn.body = some (bodyOf fn)) (hΛ : ∀ w : Base, w.g = w0 → LoopsOK P (cxIn fn cs gs S is) w (fun i => lkL i ls) (bodyOf fn))
    {α β : Type} {A : Ag α} {B : Pt β} {F : α → Option β} (hS : ∀ x, (Nat.beq (unc gs.length (A.mk x)).2.length S && plL (A.mk x)) = true)
    (hrun : ∀ x, run P (fun g => lkG g cs) (glAt gs 0) (gs.length + S) (memAt gs 0 ++ (unc gs.length (A.mk x)).2) (fun i => lkL i ls) n fn (unc gs.length (A.mk x)).1 none B.get (fun g => lkI g is) = F x) : SoundAt P w0 g (fct A B F) :=
  sound_fct (sound_run (lkG_sound cs hcs) hgs n hfn hname (fun c hc w hw => by rw [hb] at hc; obtain rfl := Option.some.inj hc; exact hΛ w hw) (fun w hw => lkI_sound is (his w hw _ rfl rfl)) (by rw [hb]; rfl)) hS hrun

end Go.Vx
