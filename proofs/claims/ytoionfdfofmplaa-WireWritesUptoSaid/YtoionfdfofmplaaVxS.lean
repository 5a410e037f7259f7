/- The engine, part S: from a contract to a row: arguments that are numbers and arrays of numbers. -/
import Derived.Test.YtoionfdfofmplaaVxR
import Derived.WalkKit
import Derived.ProofKit
import Derived.OpenShut
set_option autoImplicit false
set_option linter.unusedVariables false
set_option linter.unusedSimpArgs false
namespace Go.Vx
open Go Go.RowKit

variable {H : Type} {enc : TypeId × Value → H} {P : Program}

theorem trod_int_any {W : World} {base : Nat} {sp : Nat → Bool} {held : Bool} {fuel : Nat} {e : TypeId} {k : IntKind} {cs : List Value} {x : DataW H × List MemPlace} (he : P.underlying e = some (.int k))
    (h : DataW.trod enc P W base sp held fuel e cs = some x) : ∃ n, cs = [.int k n] ∧ (k.min ≤ n ∧ n ≤ k.max) ∧ x.2 = [] ∧ ∀ W' base' sp' held', DataW.trod enc P W' base' sp' held' fuel e cs = some x := by
  cases fuel with
  | zero => simp [DataW.trod] at h
  | succ m =>
    unfold DataW.trod at h
    rw [he] at h
    split at h <;> first | (exfalso; simp_all; done) | skip
    rename_i k1 k' n hk
    simp only [Option.some.injEq, TypeDesc.int.injEq] at hk
    subst hk
    split at h
    · rename_i hh
      obtain ⟨rfl, hw⟩ := hh
      obtain rfl := Option.some.inj h
      have hw' := hw
      simp only [Lit.wf, decide_eq_true_eq, Bool.and_eq_true] at hw'
      refine ⟨n, rfl, hw', rfl, fun W' base' sp' held' => ?_⟩
      unfold DataW.trod
      rw [he]
      simp [hw]
    · simp at h

theorem trod_arr {W : World} {base : Nat} {sp : Nat → Bool} {held : Bool} {m : Nat} {t e : TypeId} {n : Nat} {cs : List Value} (hu : P.underlying t = some (.array n e)) :
    DataW.trod enc P W base sp held (m + 1) t cs = if cs.length = P.cellsOf t then ((List.range n).mapM fun i => DataW.trod enc P W base sp held m e ((cs.drop (i * P.cellsOf e)).take (P.cellsOf e))).map fun xs => (.agg (xs.map (·.1)), xs.flatMap (·.2)) else none := by
  conv => lhs; unfold DataW.trod
  rw [hu]

/-- The cells of an array of numbers. -/
theorem arr_cells {W : World} {base : Nat} {sp : Nat → Bool} {held : Bool} {t e : TypeId} {n fuel : Nat} {k : IntKind} {cs : List Value} {x : DataW H × List MemPlace} (hu : P.underlying t = some (.array n e)) (he : P.underlying e = some (.int k))
    (hce : P.cellsOf e = 1) (hct : P.cellsOf t = n) (hf : DataW.trod enc P W base sp held fuel t cs = some x) : ∃ l : List Int, cs = l.map (Value.int k) ∧ l.length = n ∧ ∀ y ∈ l, k.min ≤ y ∧ y ≤ k.max := by
  obtain ⟨xs, m, rfl, hx, hl, hxl, hat⟩ := DataW.trod_array hu hf
  simp only [hce, Nat.mul_one] at hat hl
  rw [hct] at hl
  have hc : ∀ i (hi : i < n), ∃ y, cs[i]? = some (.int k y) ∧ k.min ≤ y ∧ y ≤ k.max := by
    intro i hi
    have h1 := hat i hi
    rw [List.getElem?_eq_getElem (show i < xs.length by omega)] at h1
    obtain ⟨y, h2, h3, -, -⟩ := trod_int_any he h1
    refine ⟨y, ?_, h3⟩
    have h4 : (cs.drop i).head? = some (.int k y) := by
      cases hd : cs.drop i with
      | nil => rw [hd] at h2; simp at h2
      | cons a l => rw [hd] at h2; simp at h2; simp [h2]
    rw [List.head?_drop] at h4
    exact h4
  have key : ∀ (l : List Value), (∀ i, i < l.length → ∃ y, l[i]? = some (.int k y) ∧ k.min ≤ y ∧ y ≤ k.max) → ∃ ys : List Int, l = ys.map (Value.int k) ∧ ∀ y ∈ ys, k.min ≤ y ∧ y ≤ k.max := by
    intro l
    induction l with
    | nil => intro _; exact ⟨[], rfl, by simp⟩
    | cons a l ih =>
      intro h
      obtain ⟨y, h1, h2⟩ := h 0 (by simp)
      obtain ⟨ys, rfl, h3⟩ := ih (fun i hi => by have := h (i + 1) (by simp; omega); simpa using this)
      simp at h1
      refine ⟨y :: ys, by simp [h1], ?_⟩
      intro z hz
      rcases List.mem_cons.1 hz with rfl | hz
      · exact h2
      · exact h3 z hz
  obtain ⟨ys, hys, hr⟩ := key cs (fun i hi => hc i (by omega))
  exact ⟨ys, hys, by rw [hys] at hl; simpa using hl, hr⟩

/-- What is read there hangs on no memory. -/
def Indep (enc : TypeId × Value → H) (P : Program) (t : TypeId) : Prop :=
  ∀ (W : World) (base : Nat) (sp : Nat → Bool) (held : Bool) (fuel : Nat) (cs : List Value) (x : DataW H × List MemPlace), DataW.trod enc P W base sp held fuel t cs = some x → x.2 = [] ∧ ∀ W' base' sp' held', DataW.trod enc P W' base' sp' held' fuel t cs = some x
theorem ind_int {e : TypeId} {k : IntKind} (he : P.underlying e = some (.int k)) : Indep enc P e := fun _ _ _ _ _ _ _ h => by
  obtain ⟨-, -, -, h1, h2⟩ := trod_int_any he h
  exact ⟨h1, h2⟩
theorem mapM_same' {α β : Type} {f g : α → Option (β × List MemPlace)} : (l : List α) → {xs : List (β × List MemPlace)} → (∀ a ∈ l, ∀ x, f a = some x → x.2 = [] ∧ g a = some x) → l.mapM f = some xs → l.mapM g = some xs ∧ xs.flatMap (·.2) = []
  | [], xs, _, h => by
    simp at h
    subst h
    simp
  | a :: l, xs, hfg, h => by
    simp only [List.mapM_cons, Option.bind_eq_bind, Option.bind_eq_some_iff] at h
    obtain ⟨x, h1, ys, h2, h3⟩ := h
    simp only [Option.pure_def, Option.some.injEq] at h3
    subst h3
    obtain ⟨k1, k2⟩ := hfg a (by simp) x h1
    obtain ⟨j1, j2⟩ := mapM_same' l (fun b hb => hfg b (by simp [hb])) h2
    constructor
    · simp [List.mapM_cons, k2, j1]
    · simp only [List.flatMap_cons, k1, j2, List.append_nil]
theorem ind_arr {t e : TypeId} {n : Nat} (hu : P.underlying t = some (.array n e)) (he : Indep enc P e) : Indep enc P t := by
  intro W base sp held fuel cs x h
  cases fuel with
  | zero => simp [DataW.trod] at h
  | succ m =>
    rw [trod_arr hu] at h
    split at h
    · rename_i hlen
      obtain ⟨ys, h1, h2⟩ := Option.map_eq_some_iff.1 h
      have key : ∀ W' base' sp' held', ((List.range n).mapM fun i => DataW.trod enc P W' base' sp' held' m e ((cs.drop (i * P.cellsOf e)).take (P.cellsOf e))) = some ys ∧ ys.flatMap (·.2) = [] := fun W' base' sp' held' =>
        mapM_same' _ (fun a _ x hx => by
          obtain ⟨z1, z2⟩ := he _ _ _ _ _ _ _ hx
          exact ⟨z1, z2 W' base' sp' held'⟩) h1
      subst h2
      refine ⟨(key W base sp held).2, fun W' base' sp' held' => ?_⟩
      rw [trod_arr hu, if_pos hlen, (key W' base' sp' held').1]
      rfl
    · simp at h
theorem trod_str {W : World} {base : Nat} {sp : Nat → Bool} {held : Bool} {m : Nat} {t : TypeId} {fs : Array Field} {cs : List Value} (hu : P.underlying t = some (.struct fs)) :
    DataW.trod enc P W base sp held (m + 1) t cs = if cs.length = P.cellsOf t then (fs.toList.mapM fun f => DataW.trod enc P W base sp held m f.type ((cs.drop f.offset).take (P.cellsOf f.type))).map fun xs => (.agg (xs.map (·.1)), xs.flatMap (·.2)) else none := by
  conv => lhs; unfold DataW.trod
  rw [hu]
theorem ind_str {t : TypeId} {fs : Array Field} (hu : P.underlying t = some (.struct fs)) (hf : ∀ f ∈ fs.toList, Indep enc P f.type) : Indep enc P t := by
  intro W base sp held fuel cs x h
  cases fuel with
  | zero => simp [DataW.trod] at h
  | succ m =>
    rw [trod_str hu] at h
    split at h
    · rename_i hlen
      obtain ⟨ys, h1, h2⟩ := Option.map_eq_some_iff.1 h
      have key : ∀ W' base' sp' held', (fs.toList.mapM fun f => DataW.trod enc P W' base' sp' held' m f.type ((cs.drop f.offset).take (P.cellsOf f.type))) = some ys ∧ ys.flatMap (·.2) = [] := fun W' base' sp' held' =>
        mapM_same' _ (fun a ha x hx => by
          obtain ⟨z1, z2⟩ := hf a ha _ _ _ _ _ _ _ hx
          exact ⟨z1, z2 W' base' sp' held'⟩) h1
      subst h2
      refine ⟨(key W base sp held).2, fun W' base' sp' held' => ?_⟩
      rw [trod_str hu, if_pos hlen, (key W' base' sp' held').1]
      rfl
    · simp at h

mutual
/-- The type has that form, of numbers alone. -/
def PtTy (P : Program) : {α : Type} → Pt α → TypeId → Prop
  | _, .int k, t => P.underlying t = some (.int k)
  | _, .ints k n, t => ∃ e, P.underlying t = some (.array n e) ∧ P.underlying e = some (.int k) ∧ P.cellsOf e = 1 ∧ P.cellsOf t = n
  | _, .agg e, t => ∃ fs, P.underlying t = some (.struct fs) ∧ AgTy P e fs.toList 0 (P.cellsOf t)
  | _, _, _ => False
def AgTy (P : Program) : {α : Type} → Ag α → List Field → Nat → Nat → Prop
  | _, .nil, fl, o, s => fl = [] ∧ o = s
  | _, .one p, fl, o, s => ∃ f, fl = [f] ∧ f.offset = o ∧ PtTy P p f.type ∧ o + P.cellsOf f.type = s
  | _, .cons p r, fl, o, s => ∃ f fl', fl = f :: fl' ∧ f.offset = o ∧ PtTy P p f.type ∧ AgTy P r fl' (o + P.cellsOf f.type) s
end

mutual
theorem PtTy.ind {α : Type} : (p : Pt α) → (t : TypeId) → PtTy P p t → Indep enc P t
  | .int k, t, h => by
    simp only [PtTy] at h
    exact ind_int h
  | .ints k n, t, h => by
    simp only [PtTy] at h
    obtain ⟨e, h1, h2, -⟩ := h
    exact ind_arr h1 (ind_int h2)
  | .agg e, t, h => by
    simp only [PtTy] at h
    obtain ⟨fs, h1, h2⟩ := h
    exact ind_str h1 (AgTy.ind e fs.toList 0 _ h2)
  | .bool, _, h => by simp [PtTy] at h
  | .lst _, _, h => by simp [PtTy] at h
  | .slw _ _, _, h => by simp [PtTy] at h
  | .gsw _ _, _, h => by simp [PtTy] at h
  | .gpw _ _, _, h => by simp [PtTy] at h
  | .lit _, _, h => by simp [PtTy] at h
  | .tup _, _, h => by simp [PtTy] at h
theorem AgTy.ind {α : Type} : (e : Ag α) → (fl : List Field) → (o s : Nat) → AgTy P e fl o s → ∀ f ∈ fl, Indep enc P f.type
  | .nil, fl, o, s, h => by
    simp only [AgTy] at h
    obtain ⟨rfl, -⟩ := h
    simp
  | .one p, fl, o, s, h => by
    simp only [AgTy] at h
    obtain ⟨f, rfl, -, h1, -⟩ := h
    intro g hg
    simp only [List.mem_singleton] at hg
    subst hg
    exact PtTy.ind p _ h1
  | .cons p r, fl, o, s, h => by
    simp only [AgTy] at h
    obtain ⟨f, fl', rfl, -, h1, h2⟩ := h
    intro g hg
    rcases List.mem_cons.1 hg with rfl | hg
    · exact PtTy.ind p _ h1
    · exact AgTy.ind r fl' _ s h2 g hg
end

mutual
theorem PtTy.cells {W : World} {base : Nat} {sp : Nat → Bool} {held : Bool} {α : Type} : (p : Pt α) → (t : TypeId) → PtTy P p t → (fuel : Nat) → (cs : List Value) → (x : DataW H × List MemPlace) → DataW.trod enc P W base sp held fuel t cs = some x →
    ∃ y : α, cs = Vx.cells P (fun _ => none) (p.mk y) ∧ OK P (fun _ => none) (p.mk y)
  | .int k, t, h, fuel, cs, x, ht => by
    simp only [PtTy] at h
    obtain ⟨n, rfl, h2, -⟩ := trod_int_any h ht
    exact ⟨n, by simp [Pt.mk, Vx.cells, den, Value.cells], by simpa only [Pt.mk, OK] using h2⟩
  | .ints k n, t, h, fuel, cs, x, ht => by
    simp only [PtTy] at h
    obtain ⟨e, h1, h2, h3, h4⟩ := h
    obtain ⟨l, rfl, k1, k2⟩ := arr_cells h1 h2 h3 h4 ht
    exact ⟨l, by simp only [Pt.mk]; rw [cells_ints], by simpa only [Pt.mk, OK] using ⟨k1, k2⟩⟩
  | .agg e, t, h, fuel, cs, x, ht => by
    simp only [PtTy] at h
    obtain ⟨fs, h1, h2⟩ := h
    obtain ⟨xs, m, -, -, hl, hxl, hat⟩ := DataW.trod_struct h1 ht
    obtain ⟨y, k1, k2⟩ := AgTy.cells (W := W) (base := base) (sp := sp) (held := held) e fs.toList 0 _ h2 m cs xs hl (by rw [hxl]; simp) (fun i f hf => hat i f (by simpa using hf))
    exact ⟨y, by simp only [Pt.mk]; rw [cells_agg, ← k1, List.drop_zero], by simpa only [Pt.mk, OK] using k2⟩
  | .bool, _, h, _, _, _, _ => by simp [PtTy] at h
  | .lst _, _, h, _, _, _, _ => by simp [PtTy] at h
  | .slw _ _, _, h, _, _, _, _ => by simp [PtTy] at h
  | .gsw _ _, _, h, _, _, _, _ => by simp [PtTy] at h
  | .gpw _ _, _, h, _, _, _, _ => by simp [PtTy] at h
  | .lit _, _, h, _, _, _, _ => by simp [PtTy] at h
  | .tup _, _, h, _, _, _, _ => by simp [PtTy] at h
theorem AgTy.cells {W : World} {base : Nat} {sp : Nat → Bool} {held : Bool} {α : Type} : (e : Ag α) → (fl : List Field) → (o s : Nat) → AgTy P e fl o s → (m : Nat) → (cs : List Value) → (xs : List (DataW H × List MemPlace)) → cs.length = s → xs.length = fl.length →
    (∀ (i : Nat) (f : Field), fl[i]? = some f → DataW.trod enc P W base sp held m f.type ((cs.drop f.offset).take (P.cellsOf f.type)) = xs[i]?) → ∃ y : α, cs.drop o = denC P (fun _ => none) (e.mk y) ∧ OKL P (fun _ => none) (e.mk y)
  | .nil, fl, o, s, h, m, cs, xs, hl, hx, hat => by
    simp only [AgTy] at h
    obtain ⟨rfl, rfl⟩ := h
    exact ⟨(), by simp [Ag.mk, denC, ← hl], by simp [Ag.mk, OKL]⟩
  | .one p, fl, o, s, h, m, cs, xs, hl, hx, hat => by
    simp only [AgTy] at h
    obtain ⟨f, rfl, rfl, h1, h2⟩ := h
    have h0 := hat 0 f rfl
    match xs, hx with
    | [x0], _ =>
      obtain ⟨y, k1, k2⟩ := PtTy.cells p f.type h1 m _ x0 h0
      refine ⟨y, ?_, by simp only [Ag.mk, OKL]; exact ⟨k2, trivial⟩⟩
      rw [List.take_of_length_le (by rw [List.length_drop]; omega)] at k1
      rw [k1]
      simp [Ag.mk, denC, Vx.cells]
  | .cons p r, fl, o, s, h, m, cs, xs, hl, hx, hat => by
    simp only [AgTy] at h
    obtain ⟨f, fl', rfl, rfl, h1, h2⟩ := h
    have h0 := hat 0 f rfl
    match xs, hx with
    | x0 :: xs', hx =>
      obtain ⟨y, k1, k2⟩ := PtTy.cells p f.type h1 m _ x0 h0
      obtain ⟨z, j1, j2⟩ := AgTy.cells (W := W) (base := base) (sp := sp) (held := held) r fl' _ s h2 m cs xs' hl (by simpa using hx) (fun i g hg => by
        have := hat (i + 1) g (by simpa using hg)
        simpa using this)
      refine ⟨(y, z), ?_, by simp only [Ag.mk, OKL]; exact ⟨k2, j2⟩⟩
      have : cs.drop f.offset = (cs.drop f.offset).take (P.cellsOf f.type) ++ (cs.drop f.offset).drop (P.cellsOf f.type) := (List.take_append_drop _ _).symm
      rw [this, k1, List.drop_drop, j1]
      simp [Ag.mk, denC, Vx.cells]
end

/-- A number of that kind. -/
theorem int_ok {k : IntKind} {n : Int} (h : (Lit.int k n).wf = true) : k.min ≤ n ∧ n ≤ k.max := by
  simpa [Lit.wf] using h

end Go.Vx
