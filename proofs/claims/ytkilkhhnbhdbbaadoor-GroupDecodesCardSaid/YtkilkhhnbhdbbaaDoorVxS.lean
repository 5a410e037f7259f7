/- The engine, part S: from a contract to a row: arguments that are numbers and arrays of numbers. -/
import Derived.Test.YtkilkhhnbhdbbaaDoorVxR
import Derived.WalkKit
import Derived.ProofKit
import Derived.OpenShut
set_option autoImplicit false
namespace Go.Vx
open Go Go.RowKit

theorem mapM_same {α β : Type} {f g : α → Option (β × List MemPlace)} : (l : List α) → {xs : List (β × List MemPlace)} → (∀ a x, f a = some x → x.2 = [] ∧ g a = some x) → l.mapM f = some xs → l.mapM g = some xs ∧ xs.flatMap (·.2) = []
  | [], xs, _, h => by
    simp at h
    subst h
    simp
  | a :: l, xs, hfg, h => by
    simp only [List.mapM_cons, Option.bind_eq_bind, Option.bind_eq_some_iff] at h
    obtain ⟨x, h1, ys, h2, h3⟩ := h
    simp only [Option.pure_def, Option.some.injEq] at h3
    subst h3
    obtain ⟨k1, k2⟩ := hfg a x h1
    obtain ⟨j1, j2⟩ := mapM_same l hfg h2
    constructor
    · simp [List.mapM_cons, k2, j1]
    · simp only [List.flatMap_cons, k1, j2, List.append_nil]

variable {H : Type} {enc : TypeId × Value → H} {P : Program}

theorem trod_int_any {W : World} {base : Nat} {sp : Nat → Bool} {held : Bool} {fuel : Nat} {e : TypeId} {k : IntKind} {cs : List Value} {x : DataW H × List MemPlace} (he : P.underlying e = some (.int k))
    (h : DataW.trod enc P W base sp held fuel e cs = some x) : ∃ n, cs = [.int k n] ∧ (k.min ≤ n ∧ n ≤ k.max) ∧ x.2 = [] ∧ ∀ W' base' sp' held', DataW.trod enc P W' base' sp' held' fuel e cs = some x := by
  cases fuel with
  | zero => simp [DataW.trod] at h
  | succ m =>
    unfold DataW.trod at h
    rw [he] at h
    split at h <;> first | (exfalso; simp_all; done) | skip
    rename_i k1 k' n hk
    simp only [Option.some.injEq, TypeDesc.int.injEq] at hk
    subst hk
    split at h
    · rename_i hh
      obtain ⟨rfl, hw⟩ := hh
      obtain rfl := Option.some.inj h
      have hw' := hw
      simp only [Lit.wf, decide_eq_true_eq, Bool.and_eq_true] at hw'
      refine ⟨n, rfl, hw', rfl, fun W' base' sp' held' => ?_⟩
      unfold DataW.trod
      rw [he]
      simp [hw]
    · simp at h

theorem trod_arr {W : World} {base : Nat} {sp : Nat → Bool} {held : Bool} {m : Nat} {t e : TypeId} {n : Nat} {cs : List Value} (hu : P.underlying t = some (.array n e)) :
    DataW.trod enc P W base sp held (m + 1) t cs = if cs.length = P.cellsOf t then ((List.range n).mapM fun i => DataW.trod enc P W base sp held m e ((cs.drop (i * P.cellsOf e)).take (P.cellsOf e))).map fun xs => (.agg (xs.map (·.1)), xs.flatMap (·.2)) else none := by
  conv => lhs; unfold DataW.trod
  rw [hu]

/-- An array of numbers, read. -/
theorem open_arr {W : World} {r : Reach} {b base : Nat} {sp : Nat → Bool} {held : Bool} {t e : TypeId} {n : Nat} {k : IntKind} {v : Value} {d : DataW H} {ps : List MemPlace} (hu : P.underlying t = some (.array n e)) (he : P.underlying e = some (.int k))
    (hce : P.cellsOf e = 1) (hct : P.cellsOf t = n) (hval : Value.okWide P W r b t v) (h : DataW.Trod enc P W base sp held t v d ps) :
    ∃ l : List Int, v = den P (fun _ => none) (.ints k n l) ∧ (l.length = n ∧ ∀ x ∈ l, k.min ≤ x ∧ x ≤ k.max) ∧ ps = [] ∧ ∀ W' base' sp' held', DataW.Trod enc P W' base' sp' held' t v d [] := by
  unfold Value.okWide at hval
  rw [hu] at hval
  obtain ⟨cs, rfl, -, -⟩ := hval
  obtain ⟨fuel, hf⟩ := h
  have hfull := hf
  obtain ⟨xs, m, rfl, hx, hl, hxl, hat⟩ := DataW.trod_array hu hf
  simp only [Prod.mk.injEq] at hx
  obtain ⟨rfl, rfl⟩ := hx
  simp only [Value.cells, hce, Nat.mul_one] at hat hl
  rw [hct] at hl
  -- each cell is a number
  have hc : ∀ i (hi : i < n), ∃ y, cs.toList[i]? = some (.int k y) ∧ k.min ≤ y ∧ y ≤ k.max := by
    intro i hi
    have h1 := hat i hi
    rw [List.getElem?_eq_getElem (show i < xs.length by omega)] at h1
    obtain ⟨y, h2, h3, -, -⟩ := trod_int_any he h1
    refine ⟨y, ?_, h3⟩
    have h4 : (cs.toList.drop i).head? = some (.int k y) := by
      cases hd : cs.toList.drop i with
      | nil => rw [hd] at h2; simp at h2
      | cons a l => rw [hd] at h2; simp at h2; simp [h2]
    rw [List.head?_drop] at h4
    exact h4
  have key : ∀ (l : List Value), (∀ i, i < l.length → ∃ y, l[i]? = some (.int k y) ∧ k.min ≤ y ∧ y ≤ k.max) → ∃ ys : List Int, l = ys.map (Value.int k) ∧ ∀ y ∈ ys, k.min ≤ y ∧ y ≤ k.max := by
    intro l
    induction l with
    | nil => intro _; exact ⟨[], rfl, by simp⟩
    | cons a l ih =>
      intro h
      obtain ⟨y, h1, h2⟩ := h 0 (by simp)
      obtain ⟨ys, rfl, h3⟩ := ih (fun i hi => by have := h (i + 1) (by simp; omega); simpa using this)
      simp at h1
      refine ⟨y :: ys, by simp [h1], ?_⟩
      intro z hz
      rcases List.mem_cons.1 hz with rfl | hz
      · exact h2
      · exact h3 z hz
  obtain ⟨ys, hys, hr⟩ := key cs.toList (fun i hi => hc i (by omega))
  refine ⟨ys, ?_, ⟨by rw [hys] at hl; simpa using hl, hr⟩, ?_⟩
  · have : cs = (ys.map (Value.int k)).toArray := by rw [← hys]
    rw [this]
    simp [den, cells]
  · have hsame : ∀ W' base' sp' held', DataW.trod enc P W' base' sp' held' (m + 1) t (Value.agg cs).cells.toList = some (.agg (xs.map (·.1)), xs.flatMap (·.2)) ∧ xs.flatMap (·.2) = [] := by
      intro W' base' sp' held'
      rw [trod_arr hu] at hfull ⊢
      split at hfull
      · rename_i hlen
        rw [if_pos hlen]
        obtain ⟨ys', h1, h2⟩ := Option.map_eq_some_iff.1 hfull
        obtain ⟨k1, k2⟩ := mapM_same (g := fun i => DataW.trod enc P W' base' sp' held' m e (((Value.agg cs).cells.toList.drop (i * P.cellsOf e)).take (P.cellsOf e))) _ (fun a x hx => by
          obtain ⟨z, -, -, z1, z2⟩ := trod_int_any he hx
          exact ⟨z1, z2 W' base' sp' held'⟩) h1
        rw [k1]
        simp only [Prod.mk.injEq] at h2
        refine ⟨by rw [Option.map_some, h2.1, h2.2], by rw [← h2.2]; exact k2⟩
      · simp at hfull
    obtain ⟨-, h0⟩ := hsame W base sp held
    refine ⟨h0, fun W' base' sp' held' => ⟨m + 1, ?_⟩⟩
    rw [(hsame W' base' sp' held').1, h0]

/-- A number of that kind. -/
theorem int_ok {k : IntKind} {n : Int} (h : (Lit.int k n).wf = true) : k.min ≤ n ∧ n ≤ k.max := by
  simpa [Lit.wf] using h


/-- A function keeps its contract: called, it answers. -/
theorem calls_of {W : World} {g : FuncId} {fn : Func} (hfn : P.funcs[g]? = some fn) (hb : fn.body.isNone = false) (hname : (fn.name == "runtime.NumGoroutine") = false) {α β : Type} {A : Ag α} {B : Pt β} {F : α → Option β}
    (h : SoundAt P W g (fct A B F)) {x : α} {y : β} (hg : A.get (A.mk x) = some x) (hF : F x = some y) (ok : OKL P (fun _ => none) (A.mk x)) (hno : noRow (A.mk x) = true := by rfl) (hnr : ∀ (w w' : World) (a : Value), ResAt P w w' a (B.mk y) → a = den P (fun _ => none) (B.mk y) := by intro _ _ _ h; exact h.1) :
    Calls P g (denT P (fun _ => none) (A.mk x)).toArray W fun e w' => e = .returned (den P (fun _ => none) (B.mk y)) ∧ Below W.heap.size W w' := by
  have hv : (fct A B F (A.mk x)).run none some = some (B.mk y) := by
    unfold fct
    rw [hg]
    simp only [Res.run, hF, mo]
  rcases h _ _ hv ok W (Below.refl _ _) _ (argsAt_plain _ hno) with ⟨-, h1⟩ | ⟨a, h1, -⟩
  · refine h1.mono ?_
    rintro e w' ⟨a, rfl, ha, hb⟩
    exact ⟨by rw [hnr _ _ _ ha], hb⟩
  · rw [callFunc_enter hfn hb hname] at h1
    simp at h1

theorem fct_of_tct {W : World} {g : FuncId} {α β : Type} {A : Ag α} {B : Pt β} {F : α → β} (h : SoundAt P W g (tct A B F)) : SoundAt P W g (fct A B fun x => some (F x)) := by
  refine h.weaken fun vs v _ hv => ?_
  unfold fct at hv
  unfold tct
  split at hv
  · rename_i x hx
    simpa [Res.run, mo] using hv
  · simp [Res.run] at hv

/-- What a row promises, where no place came in. -/
theorem post_plain {f : Func} {s : ChangeSpec} {apart fresh handsOn : Bool} {W W' : World} {args : Array Value} {v : Value} {ds gs : List (DataW H)} {pv : List MemPlace} {before : List MemPlace}
    (hW : DataW.Whole enc P f.params.toList s.vars apart W args.toList ds gs before)
    (hres : ∀ (b : Nat) (sp : Nat → Bool) (hd : Bool), DataW.TrodAll enc P W' b sp hd f.resultTypes.toList (v.resultList f.resultTypes.size) (s.fn H (ds ++ gs)).results [])
    (hargs : DataW.TrodAll enc P W' 0 (fun b => decide (b < W.heap.size)) true f.params.toList args.toList (s.fn H (ds ++ gs)).args [])
    (hvars : DataW.TrodVars enc P W' (fun b => decide (b < W.heap.size)) s.vars (s.fn H (ds ++ gs)).vars pv)
    (hb : Below W.heap.size W W') : s.post enc P f apart fresh handsOn false W args v W' :=
  ⟨ds, gs, before, [], [], pv, hW, hres _ _ _, hargs, hvars, hb.frame _, fun h => by simp at h⟩

end Go.Vx
