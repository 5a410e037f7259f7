/- Walks, part U2: the entry internal/bytealg.Compare, of two rows of bytes handed over by content. -/
import Derived.Test.YtkkkbflonbebiaaGreatDoorVxR
import Derived.Lib.BytesEntry
set_option autoImplicit false
namespace Go.Vx
open Go
def cmpI : List Int → List Int → Int
  | [], [] => 0
  | [], _ :: _ => -1
  | _ :: _, [] => 1
  | x :: a, y :: b => if x < y then -1 else if y < x then 1 else cmpI a b
theorem ZJ6 : (a b : List Int) → (∀ x ∈ a, 0 ≤ x ∧ x ≤ 255) → (∀ x ∈ b, 0 ≤ x ∧ x ≤ 255) → Lib.compareBytes (Lib.bytesOf a) (Lib.bytesOf b) = cmpI a b
  | [], [], _, _ => rfl
  | [], _ :: _, _, _ => rfl
  | _ :: _, [], _, _ => rfl
  | x :: a, y :: b, ha, hb => by
    have hx := ha x (by simp)
    have hy := hb y (by simp)
    have ih := ZJ6 a b (fun z hz => ha z (by simp [hz])) (fun z hz => hb z (by simp [hz]))
    have key : ∀ u v : Int, 0 ≤ u ∧ u ≤ 255 → 0 ≤ v ∧ v ≤ 255 → (UInt8.ofNat u.toNat < UInt8.ofNat v.toNat ↔ u < v) := by
      intro u v hu hv
      rw [UInt8.lt_iff_toNat_lt, UInt8.toNat_ofNat', UInt8.toNat_ofNat', Nat.mod_eq_of_lt (by omega), Nat.mod_eq_of_lt (by omega)]
      omega
    show Lib.compareBytes (UInt8.ofNat x.toNat :: Lib.bytesOf a) (UInt8.ofNat y.toNat :: Lib.bytesOf b) = _
    unfold Lib.compareBytes cmpI
    rw [ih]
    by_cases h1 : x < y
    · rw [if_pos h1, if_pos ((key x y hx hy).2 h1)]
    · rw [if_neg h1, if_neg (fun h => h1 ((key x y hx hy).1 h))]
      by_cases h2 : y < x
      · rw [if_pos h2, if_pos ((key y x hy hx).2 h2)]
      · rw [if_neg h2, if_neg (fun h => h2 ((key y x hy hx).1 h))]
def ZgS (a b : (Nat × List Int) × Unit) : Int := cmpI a.1.2 b.1.2
theorem ZBI {P : Program} {w : World} {a : Value} {n : Nat} {l : List Int} {te : TypeId} (h : SliceAt P w a (.ints .u8 n l) te) (hl : l.length = n) :
    (Extern.Bytes.bytesOf a).run P w = .ok ⟨(Lib.bytesOf l).toArray⟩ w := by
  obtain ⟨nm, rfl, -, -, -, -, hz, -, -, -, hc⟩ := h
  cases hn : nm.non with
  | true =>
    have h0 : n = 0 := hz hn
    have : l = [] := List.eq_nil_of_length_eq_zero (by omega)
    subst this
    simp only [gsV, hn, cond_true, Extern.Bytes.bytesOf, Sem.run_pure]
    rfl
  | false =>
    simp only [gsV, hn, cond_false, Extern.Bytes.bytesOf, rowN]
    rw [← hl, Lib.run_loadBytesX w l ⟨nm.blk, nm.off, none⟩ .empty (fun j x hj => by
      rw [ZiL]
      exact hc j _ (by rw [ZcZ, List.getElem?_map, hj]; rfl))]
    congr 1
    apply ByteArray.ext
    show (#[] : Array UInt8) ++ (Lib.bytesOf l).toArray = _
    simp
theorem ZDZ {P : Program} {w0 : World} {g : FuncId} {fn : Func} {te : TypeId} (hf : P.funcs[g]? = some fn) (hname : (fn.name == "runtime.NumGoroutine") = false) (hb : fn.body.isNone = true) (hn : Extern.findNext fn = none)
    (he : Extern.find fn = some Extern.BytealgCompare.compare) :
    SoundAt P w0 g (tct (.cons (.tup (.cons (.lst .u8) (.one (.lit (.clo te []))))) (.one (.tup (.cons (.lst .u8) (.one (.lit (.clo te []))))))) (.int .i64) fun x => ZgS x.1 x.2) := by
  intro vs v h ok w hw as has
  unfold tct at h
  split at h
  · rename_i x hx
    simp only [Res.run, Option.some.injEq] at h
    subst h
    have hvs := Ag.get_mk _ vs x hx
    obtain ⟨⟨⟨n, l⟩, u1⟩, ⟨⟨m, k⟩, u2⟩⟩ := x
    subst hvs
    have em : IntKind.u8.min = 0 := by decide
    have ex : IntKind.u8.max = 255 := by decide
    simp only [Ag.mk, Pt.mk, OKL, OK, and_true, em, ex] at ok
    obtain ⟨⟨hl, hlr⟩, hk, hkr⟩ := ok
    match as, has with
    | [a, b], has =>
      simp only [Ag.mk, Pt.mk, ArgsAt, ArgAt, and_true] at has
      obtain ⟨ha, hb'⟩ := has
      refine .inr ⟨den P (fun _ => none) _, ?_, (⟨rfl, ?_⟩ : _ ∧ _)⟩
      case refine_2 =>
        simp only [Pt.mk, OK, ZgS]
        have : ∀ a b : List Int, -1 ≤ cmpI a b ∧ cmpI a b ≤ 1 := by
          intro a
          induction a with
          | nil => intro b; cases b <;> simp [cmpI]
          | cons x a ih =>
            intro b
            cases b with
            | nil => simp [cmpI]
            | cons y b =>
              unfold cmpI
              split
              · simp
              · split
                · simp
                · exact ih b
        have := this l k
        have e1 : IntKind.i64.min = -9223372036854775808 := by decide
        have e2 : IntKind.i64.max = 9223372036854775807 := by decide
        rw [e1, e2]
        omega
      · have hr : (Extern.BytealgCompare.compare #[a, b]).run P w = .ok (.int .i64 (cmpI l k)) w := by
          change Sem.run P (do pure (goInt (Extern.BytealgCompare.cmp (← Extern.Bytes.bytesOf a) (← Extern.Bytes.bytesOf b)))) w = _
          simp only [Sem.run_bind, ZBI ha hl, ZBI hb' hk, Result.andThen, Sem.run_pure]
          rw [Lib.cmp_eq, ← ZJ6 l k hlr hkr]
          rfl
        have hcall := run_callFunc_extern hf hname hb hn he #[a, b] w
        rw [hr] at hcall
        simpa [denT, den, Ag.mk, Pt.mk, ZgS] using hcall
    | [], has => simp [Ag.mk, ArgsAt] at has
    | [_], has => simp [Ag.mk, ArgsAt] at has
    | _ :: _ :: _ :: _, has => simp [Ag.mk, ArgsAt] at has
  · simp [Res.run] at h
end Go.Vx
