/- The engine, part R: what the printed texts call. -/
import Derived.Test.YtoionfdfofmplaaVxQ
import Derived.Laws.Externs
import Derived.KernelRfl
set_option autoImplicit false
set_option linter.unusedVariables false
set_option linter.unusedSimpArgs false
namespace Go.Vx
open Go Go.RowKit

def blocks : Code → List (Nat × Code)
  | .seq a b => blocks a ++ blocks b
  | .cond _ a b => blocks a ++ blocks b
  | .block id b => (id, b) :: blocks b
  | .loop b => blocks b
  | .scope b => blocks b
  | _ => []

theorem loopsOK_of {P : Program} {cx : Cx} {w : Base} {X : Rho → Prop} {Λ : Nat → Option Lf} : (c : Code) → (∀ p ∈ blocks c, ∀ L, Λ p.1 = some L → LoopOKX P cx w X p.1 p.2 L) → LoopsOKX P cx w X Λ c
  | .seq a b, h => ⟨loopsOK_of a fun p hp => h p (by simp [blocks, hp]), loopsOK_of b fun p hp => h p (by simp [blocks, hp])⟩
  | .cond _ a b, h => ⟨loopsOK_of a fun p hp => h p (by simp [blocks, hp]), loopsOK_of b fun p hp => h p (by simp [blocks, hp])⟩
  | .block id b, h => by
    unfold LoopsOKX
    split
    · rename_i L hL
      exact h (id, b) (by simp [blocks]) L hL
    · exact loopsOK_of b fun p hp => h p (by simp [blocks, hp])
  | .loop b, h => loopsOK_of b fun p hp => h p (by simp [blocks, hp])
  | .skip, _ => trivial
  | .region _ _ _, _ => trivial
  | .rangeFunc _ _ _ _, _ => trivial
  | .exit _, _ => trivial
  | .scope b, h => loopsOK_of b fun p hp => h p (by simp [blocks, hp])
  | .label _, _ => trivial
  | .goto _, _ => trivial
  | .ret, _ => trivial
  | .refuse _, _ => trivial

def atId (c : Code) (id : Nat) : List (Nat × Code) := (blocks c).filter fun p => Nat.beq p.1 id

theorem loopsOK_list {P : Program} {cx : Cx} {w : Base} {X : Rho → Prop} {l : List (Nat × Lf)} {c : Code} (h : ∀ x ∈ l, atId c x.1 = [] ∨ ∃ b, atId c x.1 = [(x.1, b)] ∧ LoopOKX P cx w X x.1 b x.2) : LoopsOKX P cx w X (fun i => lkL i l) c := by
  refine loopsOK_of c fun p hp L hL => ?_
  have key : ∀ (l : List (Nat × Lf)), lkL p.1 l = some L → ∃ x ∈ l, x.1 = p.1 ∧ x.2 = L := by
    intro l
    induction l with
    | nil => intro h; simp [lkL] at h
    | cons x l ih =>
      intro h
      rw [lkL] at h
      cases hq : Nat.beq x.1 p.1 with
      | true => rw [hq] at h; exact ⟨x, by simp, beq_eq hq, Option.some.inj h⟩
      | false =>
        rw [hq] at h
        obtain ⟨y, h1, h2⟩ := ih h
        exact ⟨y, by simp [h1], h2⟩
  obtain ⟨x, hx, h1, rfl⟩ := key l hL
  have hmem : p ∈ atId c x.1 := List.mem_filter.2 ⟨hp, by rw [h1]; simp⟩
  rcases h x hx with h2 | ⟨b, h2, h3⟩
  · rw [h2] at hmem; simp at hmem
  · rw [h2] at hmem
    simp only [List.mem_singleton] at hmem
    rw [hmem]; exact h3

theorem loopsOK_none {P : Program} {cx : Cx} {w : Base} {X : Rho → Prop} (c : Code) : LoopsOKX P cx w X (fun _ => none) c := loopsOK_of c fun p _ L h => by simp at h

/-- The round of a loop. -/
def loopBody (fn : Func) (id : Nat) : Code :=
  match fn.body with
  | some c => match atId c id with
    | [(_, .loop b)] => b
    | _ => .skip
  | none => .skip

def bodyOf (fn : Func) : Code := fn.body.getD .skip

theorem glAt_nb : (gs : List Gv) → (k m g : Nat) → (v : AV) → k + gs.length ≤ m → glAt gs k g = some v → nb m v = true
  | [], _, _, _, _, _, h => by simp [glAt] at h
  | x :: l, k, m, g, v, hk, h => by
    simp only [List.length_cons] at hk
    rw [glAt] at h
    cases hq : Nat.beq x.g g with
    | true =>
      rw [hq] at h
      simp only [cond_true, Option.some.injEq] at h
      subst h
      simp only [nb]
      have : k < m := by omega
      simpa using this
    | false => rw [hq] at h; exact glAt_nb l (k + 1) m g v (by omega) h

/-- The context of a printed run. -/
abbrev cxOf (fn : Func) (cs : List (FuncId × Ct)) (gs : List Gv) (S : Nat) : Cx := { Γ := fun g => lkG g cs, gl := glAt gs 0, ro := gs.length + S, nt := fn.ntmps }

theorem glAt_nb0 : (gs : List Gv) → (k m g : Nat) → (v : AV) → k + gs.length ≤ m → glAt gs k g = some v → nb0 m v = true
  | [], _, _, _, _, _, h => by simp [glAt] at h
  | x :: l, k, m, g, v, hk, h => by
    simp only [List.length_cons] at hk
    rw [glAt] at h
    cases hq : Nat.beq x.g g with
    | true =>
      rw [hq] at h
      simp only [cond_true, Option.some.injEq] at h
      subst h
      simp only [nb0]
      have : k < m := by omega
      simpa using this
    | false => rw [hq] at h; exact glAt_nb0 l (k + 1) m g v (by omega) h

/-- A loop of a printed function. -/
theorem loop_printed {P : Program} {w0 : World} {fn : Func} {cs : List (FuncId × Ct)} (hcs : ∀ x ∈ cs, SoundAt P w0 x.1 x.2) {gs : List Gv} {S : Nat} {ls : List (Nat × Lf)} {n id : Nat} {α β γ δ ε ζ : Type} {H : Fm α β} {O : Fm γ δ} {T : Fm ε ζ} {nx : Nat}
    {step : α × β → Option ((α × β) ⊕ ((γ × δ) ⊕ (ε × ζ)))} {cz : List Nat} (hok : (H.ok nx && O.ok nx && T.ok nx && Nat.ble (gs.length + S) nx && (H.sok P (gs.length + S) && O.sok P (gs.length + S) && T.sok P (gs.length + S))) = true)
    (hstep : ∀ v, exec P (cxOf fn cs gs S) (fun i => lkL i ls) n none (loopBody fn id) (H.st nx v) (fun e st => rdEnd H O T nx id e st cz) = step v) (N : Nat)
    (hΛ : ∀ w : Base, w.g = w0 → LoopsOK P (cxOf fn cs gs S) w (fun i => lkL i ls) (loopBody fn id)) :
    ∀ w : Base, w.g = w0 → LoopOK P (cxOf fn cs gs S) w id (.loop (loopBody fn id)) (loopCt H O T nx step N cz) := by
  intro w hw
  simp only [Bool.and_eq_true] at hok
  obtain ⟨⟨⟨⟨h1, h2⟩, h3⟩, h4⟩, ⟨s1, s2⟩, s3⟩ := hok
  have h4 := Nat.le_of_ble_eq_true h4
  exact loop_ok (lkG_sound cs fun x hx => by rw [hw]; exact hcs x hx) (fun _ _ h => by cases h) (hΛ w hw) h1 h2 h3 s1 s2 s3 h4 (fun g v h => glAt_nb0 gs 0 (gs.length + S) g v (by omega) h) (fun g v h => glAt_nb gs 0 nx g v (by omega) h) hstep N

/-- A printed function, with its loops. -/
theorem fn_printed {P : Program} {w0 : World} {g : FuncId} {fn : Func} {cs : List (FuncId × Ct)} (hcs : ∀ x ∈ cs, SoundAt P w0 x.1 x.2) {gs : List Gv} {S : Nat} (hgs : GlobOK P w0 gs) {ls : List (Nat × Lf)} {n : Nat} (hfn : P.funcs[g]? = some fn)
    (hname : (fn.name == "runtime.NumGoroutine") = false) (hb : fn.body = some (bodyOf fn)) (hΛ : ∀ w : Base, w.g = w0 → LoopsOK P (cxOf fn cs gs S) w (fun i => lkL i ls) (bodyOf fn))
    {α β : Type} {A : Ag α} {B : Pt β} {F : α → Option β} (hS : ∀ x, (Nat.beq (unc gs.length (A.mk x)).2.length S && plL (A.mk x)) = true)
    (hrun : ∀ x, run P (fun g => lkG g cs) (glAt gs 0) (gs.length + S) (memAt gs 0 ++ (unc gs.length (A.mk x)).2) (fun i => lkL i ls) n fn (unc gs.length (A.mk x)).1 none B.get = F x) : SoundAt P w0 g (fct A B F) :=
  sound_fct (sound_run (lkG_sound cs hcs) hgs n hfn hname (fun c hc w hw => by rw [hb] at hc; obtain rfl := Option.some.inj hc; exact hΛ w hw) (fun _ _ _ _ h => by cases h) (by rw [hb]; rfl)) hS hrun

/-- Does the function keep the bases of its appends? -/
def isKp : List (FuncId × Inl) → Bool
  | (g, _) :: _ => Nat.beq g 4294967295
  | [] => false
/-- The same with functions that are run in place. -/
abbrev cxIn (fn : Func) (cs : List (FuncId × Ct)) (gs : List Gv) (S : Nat) (is : List (FuncId × Inl)) : Cx := { Γ := fun g => lkG g cs, gl := glAt gs 0, ro := gs.length + S, nt := fn.ntmps, inl := fun g => lkI g is, kp := isKp is }
/-- A function of the program's, run in place in such a context. -/
noncomputable abbrev inlOf (P : Program) (cs : List (FuncId × Ct)) (gs : List Gv) (S n : Nat) (is : List (FuncId × Inl)) (fn : Func) : Inl := Inl.of P (cxIn fn cs gs S is) n fn

/-- Functions that are run in place, each with those behind it. -/
def InlAll (P : Program) (cs : List (FuncId × Ct)) (gs : List Gv) (S n : Nat) : List (FuncId × Inl) → Prop
  | [] => True
  | x :: l => (∃ fn, P.funcs[x.1]? = some fn ∧ (fn.name == "runtime.NumGoroutine") = false ∧ fn.body.isNone = false ∧ x.2 = inlOf P cs gs S n l fn) ∧ InlAll P cs gs S n l

theorem inlAll_ok {P : Program} {w0 : World} {cs : List (FuncId × Ct)} (hcs : ∀ x ∈ cs, SoundAt P w0 x.1 x.2) {gs : List Gv} {S n : Nat} : (is : List (FuncId × Inl)) → InlAll P cs gs S n is → ∀ w : Base, w.g = w0 → ∀ (cx : Cx), cx.ro = gs.length + S → cx.gl = glAt gs 0 → ∀ x ∈ is, InlOK P cx w x.1 x.2
  | [], _, _, _, _, _, _, x, hx => by simp at hx
  | y :: l, h, w, hw, cx, h1, h2, x, hx => by
    rcases List.mem_cons.1 hx with rfl | hx
    · obtain ⟨⟨fn, k1, k2, k3, k4⟩, hl⟩ := h
      rw [k4]
      exact inl_ok (cx := cxIn fn cs gs S l) (lkG_sound cs fun x hx => by rw [hw]; exact hcs x hx) n (lkI_sound l (inlAll_ok hcs l hl w hw _ rfl rfl)) k1 k2 k3 h1 h2
    · exact inlAll_ok hcs l h.2 w hw cx h1 h2 x hx

/-- A loop of a printed function, some of whose calls are run in place. -/
theorem loop_printedI {P : Program} {w0 : World} {fn : Func} {cs : List (FuncId × Ct)} (hcs : ∀ x ∈ cs, SoundAt P w0 x.1 x.2) {gs : List Gv} {S : Nat} {is : List (FuncId × Inl)} {ls : List (Nat × Lf)} {n id : Nat} (his : InlAll P cs gs S n is) {α β γ δ ε ζ : Type} {H : Fm α β} {O : Fm γ δ} {T : Fm ε ζ} {nx : Nat}
    {step : α × β → Option ((α × β) ⊕ ((γ × δ) ⊕ (ε × ζ)))} {cz : List Nat} (hok : (H.ok nx && O.ok nx && T.ok nx && Nat.ble (gs.length + S) nx && (H.sok P (gs.length + S) && O.sok P (gs.length + S) && T.sok P (gs.length + S))) = true)
    (hstep : ∀ v, exec P (cxIn fn cs gs S is) (fun i => lkL i ls) n none (loopBody fn id) (H.st nx v) (fun e st => rdEnd H O T nx id e st cz) = step v) (N : Nat)
    (hΛ : ∀ w : Base, w.g = w0 → LoopsOK P (cxIn fn cs gs S is) w (fun i => lkL i ls) (loopBody fn id)) :
    ∀ w : Base, w.g = w0 → LoopOK P (cxIn fn cs gs S is) w id (.loop (loopBody fn id)) (loopCt H O T nx step N cz) := by
  intro w hw
  simp only [Bool.and_eq_true] at hok
  obtain ⟨⟨⟨⟨h1, h2⟩, h3⟩, h4⟩, ⟨s1, s2⟩, s3⟩ := hok
  have h4 := Nat.le_of_ble_eq_true h4
  exact loop_ok (lkG_sound cs fun x hx => by rw [hw]; exact hcs x hx) (lkI_sound is (inlAll_ok hcs is his w hw _ rfl rfl)) (hΛ w hw) h1 h2 h3 s1 s2 s3 h4 (fun g v h => glAt_nb0 gs 0 (gs.length + S) g v (by omega) h) (fun g v h => glAt_nb gs 0 nx g v (by omega) h) hstep N

/-- A printed function, some of whose calls are run in place. -/
theorem fn_printedI {P : Program} {w0 : World} {g : FuncId} {fn : Func} {cs : List (FuncId × Ct)} (hcs : ∀ x ∈ cs, SoundAt P w0 x.1 x.2) {gs : List Gv} {S : Nat} (hgs : GlobOK P w0 gs) {is : List (FuncId × Inl)} {ls : List (Nat × Lf)} {n : Nat} (his : InlAll P cs gs S n is) (hfn : P.funcs[g]? = some fn)
    (hname : (fn.name == "runtime.NumGoroutine") = false) (hb : fn.body = some (bodyOf fn)) (hΛ : ∀ w : Base, w.g = w0 → LoopsOK P (cxIn fn cs gs S is) w (fun i => lkL i ls) (bodyOf fn))
    {α β : Type} {A : Ag α} {B : Pt β} {F : α → Option β} (hS : ∀ x, (Nat.beq (unc gs.length (A.mk x)).2.length S && plL (A.mk x)) = true)
    (hrun : ∀ x, run P (fun g => lkG g cs) (glAt gs 0) (gs.length + S) (memAt gs 0 ++ (unc gs.length (A.mk x)).2) (fun i => lkL i ls) n fn (unc gs.length (A.mk x)).1 none B.get (fun g => lkI g is) = F x) (hk : isKp is = false := by rfl) : SoundAt P w0 g (fct A B F) :=
  sound_fct (sound_run (lkG_sound cs hcs) hgs n hfn hname (fun c hc w hw => by
    rw [hb] at hc; obtain rfl := Option.some.inj hc
    have := hΛ w hw
    simp only [cxIn, hk] at this
    exact this) (fun w hw => lkI_sound is (inlAll_ok hcs is his w hw _ rfl rfl)) (by rw [hb]; rfl)) hS hrun

theorem loopsOK_nil {P : Program} {cx : Cx} {w : Base} {X : Rho → Prop} (c : Code) : LoopsOKX P cx w X (fun i => lkL i []) c := loopsOK_none c

theorem glob_nil (P : Program) (w : World) : GlobOK P w [] := fun v h => by simp at h

/- Short forms, for what is printed. -/
theorem cs_nil {P : Program} {w0 : World} : ∀ x ∈ ([] : List (FuncId × Ct)), SoundAt P w0 x.1 x.2 := fun x h => by simp at h
theorem cs_cons {P : Program} {w0 : World} {g : FuncId} {c : Ct} {l : List (FuncId × Ct)} (h : SoundAt P w0 g c) (hs : ∀ x ∈ l, SoundAt P w0 x.1 x.2) : ∀ x ∈ (g, c) :: l, SoundAt P w0 x.1 x.2 := by
  intro x hx
  rcases List.mem_cons.1 hx with rfl | hx
  · exact h
  · exact hs x hx
theorem lp_nil {P : Program} {cx : Cx} {w : Base} {X : Rho → Prop} {c : Code} : ∀ x ∈ ([] : List (Nat × Lf)), atId c x.1 = [] ∨ ∃ b, atId c x.1 = [(x.1, b)] ∧ LoopOKX P cx w X x.1 b x.2 := fun x h => by simp at h
theorem lp_no {P : Program} {cx : Cx} {w : Base} {X : Rho → Prop} {c : Code} {i : Nat} {L : Lf} {l : List (Nat × Lf)} (h : atId c i = []) (hs : ∀ x ∈ l, atId c x.1 = [] ∨ ∃ b, atId c x.1 = [(x.1, b)] ∧ LoopOKX P cx w X x.1 b x.2) : ∀ x ∈ (i, L) :: l, atId c x.1 = [] ∨ ∃ b, atId c x.1 = [(x.1, b)] ∧ LoopOKX P cx w X x.1 b x.2 := by
  intro x hx
  rcases List.mem_cons.1 hx with rfl | hx
  · exact .inl h
  · exact hs x hx
theorem lp_yes {P : Program} {cx : Cx} {w : Base} {X : Rho → Prop} {c : Code} {i : Nat} {L : Lf} {l : List (Nat × Lf)} {b : Code} (hl : LoopOKX P cx w X i b L) (h : atId c i = [(i, b)]) (hs : ∀ x ∈ l, atId c x.1 = [] ∨ ∃ b, atId c x.1 = [(x.1, b)] ∧ LoopOKX P cx w X x.1 b x.2) : ∀ x ∈ (i, L) :: l, atId c x.1 = [] ∨ ∃ b, atId c x.1 = [(x.1, b)] ∧ LoopOKX P cx w X x.1 b x.2 := by
  intro x hx
  rcases List.mem_cons.1 hx with rfl | hx
  · exact .inr ⟨b, h, hl⟩
  · exact hs x hx
abbrev RunIs (P : Program) (cs : List (FuncId × Ct)) (gs : List Gv) (S : Nat) (ls : List (Nat × Lf)) (fn : Func) {α β : Type} (A : Ag α) (B : Pt β) (F : α → Option β) (inl : FuncId → Option Inl := fun _ => none) : Prop :=
  ∀ x, run P (fun g => lkG g cs) (glAt gs 0) (gs.length + S) (memAt gs 0 ++ (unc gs.length (A.mk x)).2) (fun i => lkL i ls) 100 fn (unc gs.length (A.mk x)).1 none B.get inl = F x
abbrev StepIs (P : Program) (cx : Cx) (ls : List (Nat × Lf)) (fn : Func) (id nx : Nat) {α β γ δ ε ζ : Type} (H : Fm α β) (O : Fm γ δ) (T : Fm ε ζ) (step : α × β → Option ((α × β) ⊕ ((γ × δ) ⊕ (ε × ζ)))) (cz : List Nat := []) : Prop :=
  ∀ v, exec P cx (fun i => lkL i ls) 100 none (loopBody fn id) (H.st nx v) (fun e st => rdEnd H O T nx id e st cz) = step v

end Go.Vx
