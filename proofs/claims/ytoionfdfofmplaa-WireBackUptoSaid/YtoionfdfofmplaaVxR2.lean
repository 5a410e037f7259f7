/- The engine, part R2: a function of one row that asks whether it is nil. -/
import Derived.Test.YtoionfdfofmplaaVxR
set_option autoImplicit false
set_option linter.unusedVariables false
set_option linter.unusedSimpArgs false
namespace Go.Vx
open Go Go.RowKit

/-- A function of one row of numbers, run on nil and on a row that is not nil. -/
theorem fn_nil {P : Program} {w0 : World} {g : FuncId} {fn : Func} {n : Nat} (hfn : P.funcs[g]? = some fn) (hname : (fn.name == "runtime.NumGoroutine") = false) (hb : fn.body.isNone = false)
    {k : IntKind} {te : TypeId} {β : Type} {B : Pt β} {F : ((Nat × List Int) × Unit) → Option β}
    (hrun0 : run P (fun _ => none) (glAt [] 0) 1 [] (fun _ => none) n fn [.nils] none B.get = F ((0, []), ()))
    (hrun1 : ∀ m l, run P (fun _ => none) (glAt [] 0) 1 [(0, .ints k m l)] (fun _ => none) n fn [.gp 0 0 m te true 0] none B.get = F ((m, l), ())) :
    SoundAt P w0 g (fct (.one (.tup (.cons (.lst k) (.one (.lit (.clo te [])))))) B F) := by
  intro vs v h ok w hw as has
  unfold fct at h
  split at h
  · rename_i x hx
    simp only [Res.run] at h
    obtain ⟨y, h1, h2⟩ := mo_some h
    simp only [Option.some.injEq] at h2
    subst h2
    have e := Ag.get_mk _ vs x hx
    obtain ⟨⟨m, l⟩, ⟨⟩⟩ := x
    have e : vs = [.tup [.ints k m l, .clo te []]] := e
    subst e
    have hG : GlobOK P w0 [] := fun v h => by simp at h
    have core := fun (us : List AV) (um : List (Nat × AV)) (ρs : Rho) (v' : AV) => sound_core (P := P) (w0 := w0) (Γ := fun _ => none) (fun g C h => by cases h) (gs := []) hG (S := 1) (Λ := fun _ => none) (inl := fun _ => none) n hfn hname (fun c _ B _ => loopsOK_no c) (fun _ _ _ _ h => by cases h) hb (us := us) (um := um) (ρs := ρs) (w := w) (v' := v')
    cases as with
    | nil => simp [ArgsAt] at has
    | cons a as =>
    cases as with
    | cons b as => simp [ArgsAt] at has
    | nil =>
    simp only [ArgsAt, and_true] at has
    have has : SliceAt P w a (.ints k m l) te := has
    obtain ⟨nm, a1, a2, a3, a4, a5, a6, a7, a8, a9, a10⟩ := has
    have okT : OK P (fun _ => none) (.ints k m l) := by have := ok; simp only [OKL, OK] at this; exact this.1.1
    cases hq : nm.non with
    | true =>
      have m0 : m = 0 := a6 hq
      subst m0
      have l0 : l = [] := List.eq_nil_of_length_eq_zero (by simp only [OK] at okT; exact okT.1)
      subst l0
      rw [← hrun0, run_par] at h1
      obtain ⟨v', h4, h5⟩ := mo_some h1
      rw [← Pt.get_mk B v' y h5]
      have ha : a = .slice none 0 0 := by rw [a1]; simp [gsV, hq]
      have := core [.nils] [] (fun _ => none) v' hw (fun b nm h => by cases h) (by simp [OKL, OK]) (fun b T h => by simp [lk] at h) (fun b T h => by simp [lk] at h) h4
      rw [ha]
      simpa [denT, den] using this
    | false =>
      rw [← hrun1, run_par] at h1
      obtain ⟨v', h4, h5⟩ := mo_some h1
      rw [← Pt.get_mk B v' y h5]
      let nm0 : Nm := { nm with K := nk }
      let ρs : Rho := fun b => if b = 0 then some nm0 else none
      have self : ρs 0 = some nm0 := rfl
      have hc : ∀ b T, lk b [((0 : Nat), AV.ints k m l)] = some T → b = 0 ∧ T = .ints k m l := by
        intro b T h
        rw [lk] at h
        cases hb : Nat.beq 0 b with
        | true => rw [hb] at h; exact ⟨(beq_eq hb).symm, (Option.some.inj h).symm⟩
        | false => rw [hb] at h; simp [lk] at h
      have ha : den P ρs (.gp 0 0 m te true 0) = a := by
        rw [a1]
        simp [den, self, gpV, gsV, hq, nm0, rowN, Addr.add]
      have := core [.gp 0 0 m te true 0] [(0, .ints k m l)] ρs v' hw (fun b nm' h => by
        by_cases hb : b = 0
        · subst hb
          rw [self] at h
          obtain rfl := Option.some.inj h
          exact ⟨Nat.zero_le _, by simp, rfl⟩
        · simp [ρs, hb] at h) (by
        have q1 : 0 + m ≤ nm.cap := by rw [a4]; simp [rowN]
        have q2 : nm.cap ≤ nm.tot := by rw [a4]; exact a5
        have q3 : nm.non = true → nm.cap = 0 := fun h => by rw [hq] at h; cases h
        simp only [OKL, OK]
        exact ⟨⟨nm0, self, fun _ => hq, a2, a3, q1, q2, q3, a7⟩, trivial⟩) (fun b T h => by
        obtain ⟨rfl, rfl⟩ := hc b T h
        refine ⟨⟨Nat.zero_le _, by simp⟩, nm0, self, ?_, okT, ?_, a10⟩
        · simp only [HasN] at a8 ⊢
          exact a8
        · rcases a9 with a9 | a9
          · exact .inl a9
          · rw [a9.1] at hq; cases hq) (fun b T h => by obtain ⟨rfl, rfl⟩ := hc b T h; rfl) h4
      rw [show (denT P ρs [.gp 0 0 m te true 0]) = [a] by simp [denT, ha]] at this
      exact this
  · simp [Res.run] at h

end Go.Vx
