/- The engine, part R: what the printed texts call. -/
import Derived.Test.YtmoiobmpeohgnaaGreatDoorVxQ
import Derived.Laws.Externs
import Derived.KernelRfl
set_option autoImplicit false
set_option linter.unusedVariables false
set_option linter.unusedSimpArgs false
namespace Go.Vx
open Go Go.RowKit
def blocks : Code → List (Nat × Code)
 | .seq a b => blocks a ++ blocks b
 | .cond _ a b => blocks a ++ blocks b
 | .block id b => (id, b) :: blocks b
 | .loop b => blocks b
 | .scope b => blocks b
 | _ => []
theorem ZgI {P:Program} {cx:Cx} {w:Base} {X:Rho → Prop} {Λ:Nat → Option Lf} : (c:Code) → (∀ p ∈ blocks c, ∀ L, Λ p.1 = some L → LoopOKX P cx w X p.1 p.2 L) → LoopsOKX P cx w X Λ c
 | .seq a b, h => ⟨ZgI a fun p hp => h p (by simp [blocks, hp]), ZgI b fun p hp => h p (by simp [blocks, hp])⟩
 | .cond _ a b, h => ⟨ZgI a fun p hp => h p (by simp [blocks, hp]), ZgI b fun p hp => h p (by simp [blocks, hp])⟩
 | .block id b, h => by
  unfold LoopsOKX
  split
  ·rename_i L hL
   exact h (id, b) (by simp [blocks]) L hL
  ·exact ZgI b fun p hp => h p (by simp [blocks, hp])
 | .loop b, h => ZgI b fun p hp => h p (by simp [blocks, hp])
 | .skip, _ => trivial
 | .region _ _ _, _ => trivial
 | .rangeFunc _ _ _ _, _ => trivial
 | .exit _, _ => trivial
 | .scope b, h => ZgI b fun p hp => h p (by simp [blocks, hp])
 | .label _, _ => trivial
 | .goto _, _ => trivial
 | .ret, _ => trivial
 | .refuse _, _ => trivial
def atId (c:Code) (id:Nat) : List (Nat × Code) := (blocks c).filter fun p => Nat.beq p.1 id
theorem ZaB {P:Program} {cx:Cx} {w:Base} {X:Rho → Prop} {l:List (Nat × Lf)} {c:Code} (h:∀ x ∈ l, atId c x.1 = [] ∨ ∃ b, atId c x.1 = [(x.1, b)] ∧ LoopOKX P cx w X x.1 b x.2) : LoopsOKX P cx w X (fun i => lkL i l) c := by
 refine ZgI c fun p hp L hL => ?_
 have key : ∀ (l:List (Nat × Lf)), lkL p.1 l = some L → ∃ x ∈ l, x.1 = p.1 ∧ x.2 = L := by
  intro l
  induction l with
  | nil => intro h; simp [lkL] at h
  | cons x l ih =>
   intro h
   rw [lkL] at h
   cases hq : Nat.beq x.1 p.1 with
   | true => rw [hq] at h; exact ⟨x, by simp, Zat hq, Option.some.inj h⟩
   | false =>
    rw [hq] at h
    obtain ⟨y, h1, h2⟩ := ih h
    exact ⟨y, by simp [h1], h2⟩
 obtain ⟨x, hx, h1, rfl⟩ := key l hL
 have hmem : p ∈ atId c x.1 := List.mem_filter.2 ⟨hp, by rw [h1]; simp⟩
 rcases h x hx with h2 | ⟨b, h2, h3⟩
 ·rw [h2] at hmem; simp at hmem
 ·rw [h2] at hmem
  simp only [List.mem_singleton] at hmem
  rw [hmem]; exact h3
theorem Zzi {P:Program} {cx:Cx} {w:Base} {X:Rho → Prop} (c:Code) : LoopsOKX P cx w X (fun _ => none) c := ZgI c fun p _ L h => by simp at h
def loopBody (fn:Func) (id:Nat) : Code :=
 match fn.body with
 | some c => match atId c id with
  | [(_, .loop b)] => b
  | _ => .skip
 | none => .skip
def bodyOf (fn:Func) : Code := fn.body.getD .skip
theorem Zv9 : (gs:List Gv) → (k m g:Nat) → (v:AV) → k + gs.length ≤ m → glAt gs k g = some v → nb m v = true
 | [], _, _, _, _, _, h => by simp [glAt] at h
 | x :: l, k, m, g, v, hk, h => by
  simp only [List.length_cons] at hk
  rw [glAt] at h
  cases hq : Nat.beq x.g g with
  | true =>
   rw [hq] at h
   simp only [cond_true, Option.some.injEq] at h
   subst h
   simp only [nb]
   have : k < m := by omega
   simpa using this
  | false => rw [hq] at h; exact Zv9 l (k + 1) m g v (by omega) h
abbrev cxOf (fn:Func) (cs:List (FuncId × Ct)) (gs:List Gv) (S:Nat) : Cx := { Γ := fun g => lkG g cs, gl := glAt gs 0, ro := gs.length + S, nt := fn.ntmps }
theorem Zr6 : (gs:List Gv) → (k m g:Nat) → (v:AV) → k + gs.length ≤ m → glAt gs k g = some v → nb0 m v = true
 | [], _, _, _, _, _, h => by simp [glAt] at h
 | x :: l, k, m, g, v, hk, h => by
  simp only [List.length_cons] at hk
  rw [glAt] at h
  cases hq : Nat.beq x.g g with
  | true =>
   rw [hq] at h
   simp only [cond_true, Option.some.injEq] at h
   subst h
   simp only [nb0]
   have : k < m := by omega
   simpa using this
  | false => rw [hq] at h; exact Zr6 l (k + 1) m g v (by omega) h
theorem ZbH {P:Program} {w0:World} {fn:Func} {cs:List (FuncId × Ct)} (hcs:∀ x ∈ cs, SoundAt P w0 x.1 x.2) {gs:List Gv} {S:Nat} {ls:List (Nat × Lf)} {n id:Nat} {α β γ δ ε ζ:Type} {H:Fm α β} {O:Fm γ δ} {T:Fm ε ζ} {nx:Nat}
  {step : α × β → Option ((α × β) ⊕ ((γ × δ) ⊕ (ε × ζ)))} {cz:List Nat} (hok:(H.ok nx && O.ok nx && T.ok nx && Nat.ble (gs.length + S) nx && (H.sok P (gs.length + S) && O.sok P (gs.length + S) && T.sok P (gs.length + S))) = true)
  (hstep:∀ v, exec P (cxOf fn cs gs S) (fun i => lkL i ls) n none (loopBody fn id) (H.st nx v) (fun e st => rdEnd H O T nx id e st cz) = step v) (N:Nat)
  (hΛ:∀ w : Base, w.g = w0 → LoopsOK P (cxOf fn cs gs S) w (fun i => lkL i ls) (loopBody fn id)) :
  ∀ w : Base, w.g = w0 → LoopOK P (cxOf fn cs gs S) w id (.loop (loopBody fn id)) (loopCt H O T nx step N cz) := by
 intro w hw
 simp only [Bool.and_eq_true] at hok
 obtain ⟨⟨⟨⟨h1, h2⟩, h3⟩, h4⟩, ⟨s1, s2⟩, s3⟩ := hok
 have h4 := Nat.le_of_ble_eq_true h4
 exact ZAz (Zha cs fun x hx => by rw [hw]; exact hcs x hx) (fun _ _ h => by cases h) (hΛ w hw) h1 h2 h3 s1 s2 s3 h4 (fun g v h => Zr6 gs 0 (gs.length + S) g v (by omega) h) (fun g v h => Zv9 gs 0 nx g v (by omega) h) hstep N
theorem Zam {P:Program} {w0:World} {g:FuncId} {fn:Func} {cs:List (FuncId × Ct)} (hcs:∀ x ∈ cs, SoundAt P w0 x.1 x.2) {gs:List Gv} {S:Nat} (hgs:GlobOK P w0 gs) {ls:List (Nat × Lf)} {n:Nat} (hfn:P.funcs[g]? = some fn)
  (hname:(fn.name == "runtime.NumGoroutine") = false) (hb:fn.body = some (bodyOf fn)) (hΛ:∀ w : Base, w.g = w0 → LoopsOK P (cxOf fn cs gs S) w (fun i => lkL i ls) (bodyOf fn))
  {α β:Type} {A:Ag α} {B:Pt β} {F : α → Option β} (hS:∀ x, (Nat.beq (unc gs.length (A.mk x)).2.length S && plL (A.mk x)) = true)
  (hrun:∀ x, run P (fun g => lkG g cs) (glAt gs 0) (gs.length + S) (memAt gs 0 ++ (unc gs.length (A.mk x)).2) (fun i => lkL i ls) n fn (unc gs.length (A.mk x)).1 none B.get = F x) : SoundAt P w0 g (fct A B F) :=
 Zwa (Zwb (Zha cs hcs) hgs n hfn hname (fun c hc w hw => by rw [hb] at hc; obtain rfl := Option.some.inj hc; exact hΛ w hw) (fun _ _ _ _ h => by cases h) (by rw [hb]; rfl)) hS hrun
abbrev cxIn (fn:Func) (cs:List (FuncId × Ct)) (gs:List Gv) (S:Nat) (is:List (FuncId × Inl)) : Cx := { Γ := fun g => lkG g cs, gl := glAt gs 0, ro := gs.length + S, nt := fn.ntmps, inl := fun g => lkI g is }
noncomputable abbrev inlOf (P:Program) (cs:List (FuncId × Ct)) (gs:List Gv) (S n:Nat) (is:List (FuncId × Inl)) (fn:Func) : Inl := Inl.of P (cxIn fn cs gs S is) n fn
def InlAll (P:Program) (cs:List (FuncId × Ct)) (gs:List Gv) (S n:Nat) : List (FuncId × Inl) → Prop
 | [] => True
 | x :: l => (∃ fn, P.funcs[x.1]? = some fn ∧ (fn.name == "runtime.NumGoroutine") = false ∧ fn.body.isNone = false ∧ x.2 = inlOf P cs gs S n l fn) ∧ InlAll P cs gs S n l
theorem Zr7 {P:Program} {w0:World} {cs:List (FuncId × Ct)} (hcs:∀ x ∈ cs, SoundAt P w0 x.1 x.2) {gs:List Gv} {S n:Nat} : (is:List (FuncId × Inl)) → InlAll P cs gs S n is → ∀ w : Base, w.g = w0 → ∀ (cx:Cx), cx.ro = gs.length + S → cx.gl = glAt gs 0 → ∀ x ∈ is, InlOK P cx w x.1 x.2
 | [], _, _, _, _, _, _, x, hx => by simp at hx
 | y :: l, h, w, hw, cx, h1, h2, x, hx => by
  rcases List.mem_cons.1 hx with rfl | hx
  ·obtain ⟨⟨fn, k1, k2, k3, k4⟩, hl⟩ := h
   rw [k4]
   exact inl_ok (cx := cxIn fn cs gs S l) (Zha cs fun x hx => by rw [hw]; exact hcs x hx) n (ZiS l (Zr7 hcs l hl w hw _ rfl rfl)) k1 k2 k3 h1 h2
  ·exact Zr7 hcs l h.2 w hw cx h1 h2 x hx
theorem Zyk {P:Program} {w0:World} {fn:Func} {cs:List (FuncId × Ct)} (hcs:∀ x ∈ cs, SoundAt P w0 x.1 x.2) {gs:List Gv} {S:Nat} {is:List (FuncId × Inl)} {ls:List (Nat × Lf)} {n id:Nat} (his:InlAll P cs gs S n is) {α β γ δ ε ζ:Type} {H:Fm α β} {O:Fm γ δ} {T:Fm ε ζ} {nx:Nat}
  {step : α × β → Option ((α × β) ⊕ ((γ × δ) ⊕ (ε × ζ)))} {cz:List Nat} (hok:(H.ok nx && O.ok nx && T.ok nx && Nat.ble (gs.length + S) nx && (H.sok P (gs.length + S) && O.sok P (gs.length + S) && T.sok P (gs.length + S))) = true)
  (hstep:∀ v, exec P (cxIn fn cs gs S is) (fun i => lkL i ls) n none (loopBody fn id) (H.st nx v) (fun e st => rdEnd H O T nx id e st cz) = step v) (N:Nat)
  (hΛ:∀ w : Base, w.g = w0 → LoopsOK P (cxIn fn cs gs S is) w (fun i => lkL i ls) (loopBody fn id)) :
  ∀ w : Base, w.g = w0 → LoopOK P (cxIn fn cs gs S is) w id (.loop (loopBody fn id)) (loopCt H O T nx step N cz) := by
 intro w hw
 simp only [Bool.and_eq_true] at hok
 obtain ⟨⟨⟨⟨h1, h2⟩, h3⟩, h4⟩, ⟨s1, s2⟩, s3⟩ := hok
 have h4 := Nat.le_of_ble_eq_true h4
 exact ZAz (Zha cs fun x hx => by rw [hw]; exact hcs x hx) (ZiS is (Zr7 hcs is his w hw _ rfl rfl)) (hΛ w hw) h1 h2 h3 s1 s2 s3 h4 (fun g v h => Zr6 gs 0 (gs.length + S) g v (by omega) h) (fun g v h => Zv9 gs 0 nx g v (by omega) h) hstep N
theorem Zq3 {P:Program} {w0:World} {g:FuncId} {fn:Func} {cs:List (FuncId × Ct)} (hcs:∀ x ∈ cs, SoundAt P w0 x.1 x.2) {gs:List Gv} {S:Nat} (hgs:GlobOK P w0 gs) {is:List (FuncId × Inl)} {ls:List (Nat × Lf)} {n:Nat} (his:InlAll P cs gs S n is) (hfn:P.funcs[g]? = some fn)
  (hname:(fn.name == "runtime.NumGoroutine") = false) (hb:fn.body = some (bodyOf fn)) (hΛ:∀ w : Base, w.g = w0 → LoopsOK P (cxIn fn cs gs S is) w (fun i => lkL i ls) (bodyOf fn))
  {α β:Type} {A:Ag α} {B:Pt β} {F : α → Option β} (hS:∀ x, (Nat.beq (unc gs.length (A.mk x)).2.length S && plL (A.mk x)) = true)
  (hrun:∀ x, run P (fun g => lkG g cs) (glAt gs 0) (gs.length + S) (memAt gs 0 ++ (unc gs.length (A.mk x)).2) (fun i => lkL i ls) n fn (unc gs.length (A.mk x)).1 none B.get (fun g => lkI g is) = F x) : SoundAt P w0 g (fct A B F) :=
 Zwa (Zwb (Zha cs hcs) hgs n hfn hname (fun c hc w hw => by rw [hb] at hc; obtain rfl := Option.some.inj hc; exact hΛ w hw) (fun w hw => ZiS is (Zr7 hcs is his w hw _ rfl rfl)) (by rw [hb]; rfl)) hS hrun
theorem Zal {P:Program} {cx:Cx} {w:Base} {X:Rho → Prop} (c:Code) : LoopsOKX P cx w X (fun i => lkL i []) c := Zzi c
theorem Zar (P:Program) (w:World) : GlobOK P w [] := fun v h => by simp at h
theorem ZAA {P:Program} {w0:World} {g:FuncId} {α β:Type} {A:Ag α} {B:Pt β} {F : α → Option β} (h:∀ x, F x = none := by intro _; rfl) : SoundAt P w0 g (fct A B F) := by
 intro vs v hv _
 exfalso
 unfold fct at hv
 split at hv
 ·rename_i x hx
  rw [h x] at hv
  simp [Res.run, mo] at hv
 ·simp [Res.run] at hv
def GlobOne (P:Program) (w:World) (v:Gv) : Prop :=
 Has P v.T v.ty ∧ OK P (fun _ => none) v.T ∧ v.g < w.heap.size ∧ ∀ j x, (cells P (fun _ => none) v.T)[j]? = some x → w.cell? ⟨v.g, j, none⟩ = some x
theorem Za3 {P:Program} {w:World} {v:Gv} {l:List Gv} (h:GlobOne P w v) (hl:GlobOK P w l) : GlobOK P w (v :: l) := by
 intro u hu
 rcases List.mem_cons.1 hu with rfl | hu
 ·exact h
 ·exact hl u hu
theorem Zk5 {α:Type} {b:Bool} {x y : α} {x' y':Option α} (hx:x' = some x) (hy:y' = some y) : cond b x' y' = some (cond b x y) := by cases b <;> simp [hx, hy]
def ZfC (a b c:Int) : Option (Int × Int) := cond (decide (c ≤ 1)) (some ((a - b - c) % 18446744073709551616, cond (decide (a < b + c)) 1 0)) none
def subEntry : Array Value → Sem Value := fun args => do
 let (x, y, b) ← Extern.MathBitsCarry.three "Sub64" args
 pure (Extern.MathBitsCarry.pair ((x + Extern.MathBitsCarry.m64 - y - b) % Extern.MathBitsCarry.m64) (if x < y + b then 1 else 0))
theorem Zzj {P:Program} (x y c:Int) (hx : 0 ≤ x) (hy : 0 ≤ y ∧ y ≤ 18446744073709551615) (hc0 : 0 ≤ c) (hc:c ≤ 1) (w:World) :
  (subEntry #[.int .u64 x, .int .u64 y, .int .u64 c]).run P w = .ok (.tuple #[.int .u64 ((x - y - c) % 18446744073709551616), .int .u64 (cond (decide (x < y + c)) 1 0)]) w := by
 have key : ∀ k : Nat, k ≤ 1 → (subEntry #[.int .u64 x, .int .u64 y, .int .u64 (k:Int)]).run P w =
   .ok (Extern.MathBitsCarry.pair ((x.toNat + Extern.MathBitsCarry.m64 - y.toNat - k) % Extern.MathBitsCarry.m64) (if x.toNat < y.toNat + k then 1 else 0)) w := by
  intro k hk
  have : k = 0 ∨ k = 1 := by omega
  rcases this with rfl | rfl <;> rfl
 obtain ⟨k, rfl⟩ := Int.eq_ofNat_of_zero_le hc0
 rw [key k (by omega)]
 obtain ⟨X, rfl⟩ := Int.eq_ofNat_of_zero_le hx
 obtain ⟨Y, rfl⟩ := Int.eq_ofNat_of_zero_le hy.1
 simp only [Extern.MathBitsCarry.pair, Extern.MathBitsCarry.m64, Int.toNat_natCast]
 have e1 : Int.ofNat ((X + 2 ^ 64 - Y - k) % 2 ^ 64) = ((X:Int) - (Y:Int) - (k:Int)) % 18446744073709551616 := by
  show (((X + 2 ^ 64 - Y - k) % 2 ^ 64 : Nat) : Int) = _
  omega
 have e2 : Int.ofNat (if X < Y + k then 1 else 0) = cond (decide ((X:Int) < (Y:Int) + (k:Int))) 1 0 := by
  by_cases h : X < Y + k
  ·rw [if_pos h, decide_eq_true (show (X:Int) < (Y:Int) + (k:Int) by omega)]; rfl
  ·rw [if_neg h, decide_eq_false (show ¬ (X:Int) < (Y:Int) + (k:Int) by omega)]; rfl
 rw [e1, e2]
theorem ZAB {P:Program} {w0:World} {g:FuncId} {fn:Func} (hf:P.funcs[g]? = some fn) (hname:(fn.name == "runtime.NumGoroutine") = false) (hb:fn.body.isNone = true) (hn:Extern.findNext fn = none)
  (he:Extern.find fn = some subEntry) : SoundAt P w0 g (fct (.cons (.int .u64) (.cons (.int .u64) (.one (.int .u64)))) (.tup (.cons (.int .u64) (.one (.int .u64)))) fun x => ZfC x.1 x.2.1 x.2.2) := by
 intro vs v h ok w hw as has
 unfold fct at h
 split at h
 ·rename_i x hx
  simp only [Res.run] at h
  obtain ⟨y, h1, h2⟩ := ZcA h
  simp only [Option.some.injEq] at h2
  subst h2
  have hvs := Ag.get_mk _ vs x hx
  obtain ⟨a, b, c⟩ := x
  subst hvs
  obtain rfl := Zwc _ as rfl has
  simp only [Ag.mk, Pt.mk, OKL, OK, and_true] at ok
  obtain ⟨⟨a1, a2⟩, ⟨b1, b2⟩, ⟨c1, c2⟩⟩ := ok
  have em : IntKind.u64.min = 0 := by decide
  have ex : IntKind.u64.max = 18446744073709551615 := by decide
  rw [em] at a1 b1 c1
  rw [ex] at a2 b2 c2
  simp only [ZfC] at h1
  obtain ⟨hc, h1⟩ := Zag h1
  simp only [decide_eq_true_eq] at hc
  obtain rfl := Option.some.inj h1
  refine .inr ⟨den P (fun _ => none) _, ?_, (⟨rfl, ?_⟩ : _ ∧ _)⟩
  case refine_2 =>
   simp only [Pt.mk, Ag.mk, OK, OKL, em, ex, and_true]
   refine ⟨by omega, ?_⟩
   cases decide (a < b + c) <;> simp
  ·have hr := Zzj (P := P) a b c a1 ⟨b1, b2⟩ c1 hc w
   have hcall := run_callFunc_extern hf hname hb hn he #[.int .u64 a, .int .u64 b, .int .u64 c] w
   rw [hr] at hcall
   simpa [denT, den, Ag.mk, Pt.mk] using hcall
 ·simp [Res.run] at h
def ZdL (a b c:Int) : Option (Int × Int) := cond (decide (c ≤ 1)) (some ((a + b + c) % 18446744073709551616, (a + b + c) / 18446744073709551616)) none
theorem ZAC {P:Program} {w0:World} {g:FuncId} {fn:Func} (hf:P.funcs[g]? = some fn) (hname:(fn.name == "runtime.NumGoroutine") = false) (hb:fn.body.isNone = true) (hn:Extern.findNext fn = none)
  (he:Extern.find fn = some add64Entry) : SoundAt P w0 g (fct (.cons (.int .u64) (.cons (.int .u64) (.one (.int .u64)))) (.tup (.cons (.int .u64) (.one (.int .u64)))) fun x => ZdL x.1 x.2.1 x.2.2) := by
 intro vs v h ok w hw as has
 unfold fct at h
 split at h
 ·rename_i x hx
  simp only [Res.run] at h
  obtain ⟨y, h1, h2⟩ := ZcA h
  simp only [Option.some.injEq] at h2
  subst h2
  have hvs := Ag.get_mk _ vs x hx
  obtain ⟨a, b, c⟩ := x
  subst hvs
  obtain rfl := Zwc _ as rfl has
  simp only [Ag.mk, Pt.mk, OKL, OK, and_true] at ok
  obtain ⟨⟨a1, a2⟩, ⟨b1, b2⟩, ⟨c1, c2⟩⟩ := ok
  have em : IntKind.u64.min = 0 := by decide
  have ex : IntKind.u64.max = 18446744073709551615 := by decide
  rw [em] at a1 b1 c1
  rw [ex] at a2 b2 c2
  simp only [ZdL] at h1
  obtain ⟨hc, h1⟩ := Zag h1
  simp only [decide_eq_true_eq] at hc
  obtain rfl := Option.some.inj h1
  refine .inr ⟨den P (fun _ => none) _, ?_, (⟨rfl, ?_⟩ : _ ∧ _)⟩
  case refine_2 => simp only [Pt.mk, Ag.mk, OK, OKL, em, ex, and_true]; omega
  ·have hr := run_add64 (P := P) a b c a1 b1 c1 hc w
   have hcall := run_callFunc_extern hf hname hb hn he #[.int .u64 a, .int .u64 b, .int .u64 c] w
   rw [hr] at hcall
   simpa [denT, den, Ag.mk, Pt.mk] using hcall
 ·simp [Res.run] at h
theorem ZaL {P:Program} {w0:World} : ∀ x ∈ ([] : List (FuncId × Ct)), SoundAt P w0 x.1 x.2 := fun x h => by simp at h
theorem Zai {P:Program} {w0:World} {g:FuncId} {c:Ct} {l:List (FuncId × Ct)} (h:SoundAt P w0 g c) (hs:∀ x ∈ l, SoundAt P w0 x.1 x.2) : ∀ x ∈ (g, c) :: l, SoundAt P w0 x.1 x.2 := by
 intro x hx
 rcases List.mem_cons.1 hx with rfl | hx
 ·exact h
 ·exact hs x hx
theorem ZcF {P:Program} {cx:Cx} {w:Base} {X:Rho → Prop} {c:Code} : ∀ x ∈ ([] : List (Nat × Lf)), atId c x.1 = [] ∨ ∃ b, atId c x.1 = [(x.1, b)] ∧ LoopOKX P cx w X x.1 b x.2 := fun x h => by simp at h
theorem lp_no {P:Program} {cx:Cx} {w:Base} {X:Rho → Prop} {c:Code} {i:Nat} {L:Lf} {l:List (Nat × Lf)} (h:atId c i = []) (hs:∀ x ∈ l, atId c x.1 = [] ∨ ∃ b, atId c x.1 = [(x.1, b)] ∧ LoopOKX P cx w X x.1 b x.2) : ∀ x ∈ (i, L) :: l, atId c x.1 = [] ∨ ∃ b, atId c x.1 = [(x.1, b)] ∧ LoopOKX P cx w X x.1 b x.2 := by
 intro x hx
 rcases List.mem_cons.1 hx with rfl | hx
 ·exact .inl h
 ·exact hs x hx
theorem Ze2 {P:Program} {cx:Cx} {w:Base} {X:Rho → Prop} {c:Code} {i:Nat} {L:Lf} {l:List (Nat × Lf)} {b:Code} (hl:LoopOKX P cx w X i b L) (h:atId c i = [(i, b)]) (hs:∀ x ∈ l, atId c x.1 = [] ∨ ∃ b, atId c x.1 = [(x.1, b)] ∧ LoopOKX P cx w X x.1 b x.2) : ∀ x ∈ (i, L) :: l, atId c x.1 = [] ∨ ∃ b, atId c x.1 = [(x.1, b)] ∧ LoopOKX P cx w X x.1 b x.2 := by
 intro x hx
 rcases List.mem_cons.1 hx with rfl | hx
 ·exact .inr ⟨b, h, hl⟩
 ·exact hs x hx
abbrev RunIs (P:Program) (cs:List (FuncId × Ct)) (gs:List Gv) (S:Nat) (ls:List (Nat × Lf)) (fn:Func) {α β:Type} (A:Ag α) (B:Pt β) (F : α → Option β) (inl:FuncId → Option Inl := fun _ => none) : Prop :=
 ∀ x, run P (fun g => lkG g cs) (glAt gs 0) (gs.length + S) (memAt gs 0 ++ (unc gs.length (A.mk x)).2) (fun i => lkL i ls) 100 fn (unc gs.length (A.mk x)).1 none B.get inl = F x
abbrev StepIs (P:Program) (cx:Cx) (ls:List (Nat × Lf)) (fn:Func) (id nx:Nat) {α β γ δ ε ζ:Type} (H:Fm α β) (O:Fm γ δ) (T:Fm ε ζ) (step : α × β → Option ((α × β) ⊕ ((γ × δ) ⊕ (ε × ζ)))) (cz:List Nat := []) : Prop :=
 ∀ v, exec P cx (fun i => lkL i ls) 100 none (loopBody fn id) (H.st nx v) (fun e st => rdEnd H O T nx id e st cz) = step v
end Go.Vx
