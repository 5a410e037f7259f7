/- The engine, part S2: from a contract to a row: arguments that are rows of plain data. -/
import Derived.Test.YtmoiobmpeohgnaaGreatDoorVxS
import Derived.Carry
import Derived.SizedLaws
set_option autoImplicit false
set_option linter.unusedVariables false
set_option linter.unusedSimpArgs false
namespace Go.Vx
open Go Go.RowKit
variable {H:Type} {enc:TypeId × Value → H} {P:Program}
theorem ZA7 {W:World} {base:Nat} {sp:Nat → Bool} {held:Bool} {fuel:Nat} {k:IntKind} {t:TypeId} {cs:List Value} {x:DataW H × List MemPlace} (hf:fitInt P k t = true)
  (h:DataW.trod enc P W base sp held fuel t cs = some x) : ∃ y : Int, cs = [.int k y] ∧ k.min ≤ y ∧ y ≤ k.max := by
 obtain ⟨n, h1, h2, -⟩ := Zlb (Zkb hf).1 h
 exact ⟨n, h1, h2⟩
theorem ZFY {α:Type} {l:List α} {o n:Nat} (h:o + n = l.length) : (l.drop o).take n = l.drop o := List.take_of_length_le (by rw [List.length_drop]; omega)
theorem Tc.trodB {W:World} {base:Nat} {sp:Nat → Bool} {held:Bool} : (c:Tc) →
  (∀ t, (c.fitB P).1 t = true → ∀ (fuel:Nat) (cs:List Value) (x:DataW H × List MemPlace), DataW.trod enc P W base sp held fuel t cs = some x → ∃ y, cs = c.cs y ∧ c.ok y) ∧
  (∀ fl o s, (c.fitB P).2.1 fl o s = true → ∀ (m:Nat) (cs:List Value) (xs:List (DataW H × List MemPlace)), cs.length = s → xs.length = fl.length →
   (∀ (i:Nat) (f:Field), fl[i]? = some f → DataW.trod enc P W base sp held m f.type ((cs.drop f.offset).take (P.cellsOf f.type)) = xs[i]?) → ∃ y, cs.drop o = c.cs y ∧ c.ok y) ∧
  (∀ n e, (c.fitB P).2.2 n e = true → ∀ (m:Nat) (cs:List Value), cs.length = n * P.cellsOf e →
   (∀ i, i < n → ∃ x, DataW.trod enc P W base sp held m e ((cs.drop (i * P.cellsOf e)).take (P.cellsOf e)) = some x) → ∃ y, cs = c.cs y ∧ c.ok y) := by
 have oneF' : ∀ (c:Tc) (g:TypeId → Bool), (∀ t, g t = true → ∀ (fuel:Nat) (cs:List Value) (x:DataW H × List MemPlace), DataW.trod enc P W base sp held fuel t cs = some x → ∃ y, cs = c.cs y ∧ c.ok y) →
   ∀ fl o s, oneF P g fl o s = true → ∀ (m:Nat) (cs:List Value) (xs:List (DataW H × List MemPlace)), cs.length = s → xs.length = fl.length →
   (∀ (i:Nat) (f:Field), fl[i]? = some f → DataW.trod enc P W base sp held m f.type ((cs.drop f.offset).take (P.cellsOf f.type)) = xs[i]?) → ∃ y, cs.drop o = c.cs y ∧ c.ok y := by
  intro c g hg fl o s h m cs xs hl hx hat
  unfold oneF at h
  split at h
  ·cases h
  ·rename_i f r
   split at h
   ·simp only [Bool.and_eq_true] at h
    obtain ⟨⟨h1, h2⟩, h3⟩ := h
    have h1 := Zat h1
    have h3 := Zat h3
    have h0 := hat 0 f rfl
    match xs, hx with
    | [x0], _ =>
     obtain ⟨y, k1, k2⟩ := hg _ h2 m _ x0 h0
     refine ⟨y, ?_, k2⟩
     rw [h1, ZFY (by omega)] at k1
     exact k1
   ·cases h
 have oneN' : ∀ (c:Tc) (g:TypeId → Bool), (∀ t, g t = true → ∀ (fuel:Nat) (cs:List Value) (x:DataW H × List MemPlace), DataW.trod enc P W base sp held fuel t cs = some x → ∃ y, cs = c.cs y ∧ c.ok y) →
   ∀ n e, oneN g n e = true → ∀ (m:Nat) (cs:List Value), cs.length = n * P.cellsOf e →
   (∀ i, i < n → ∃ x, DataW.trod enc P W base sp held m e ((cs.drop (i * P.cellsOf e)).take (P.cellsOf e)) = some x) → ∃ y, cs = c.cs y ∧ c.ok y := by
  intro c g hg n e h m cs hl hat
  simp only [oneN, Bool.and_eq_true] at h
  have h1 := Zat h.1
  subst h1
  obtain ⟨x, hx⟩ := hat 0 (by omega)
  rw [Nat.zero_mul, List.drop_zero, List.take_of_length_le (by omega)] at hx
  exact hg _ h.2 m _ x hx
 intro c
 induction c with
 | int k =>
  have key : ∀ t, fitInt P k t = true → ∀ (fuel:Nat) (cs:List Value) (x:DataW H × List MemPlace), DataW.trod enc P W base sp held fuel t cs = some x → ∃ y : Int, cs = (Tc.int k).cs y ∧ (Tc.int k).ok y := fun t h fuel cs x hx => ZA7 h hx
  exact ⟨key, oneF' (.int k) _ key, oneN' (.int k) _ key⟩
 | bool =>
  have key : ∀ t, fitBool P t = true → ∀ (fuel:Nat) (cs:List Value) (x:DataW H × List MemPlace), DataW.trod enc P W base sp held fuel t cs = some x → ∃ y : Bool, cs = Tc.bool.cs y ∧ Tc.bool.ok y := by
   intro t h fuel cs x hx
   simp only [fitBool, Bool.and_eq_true] at h
   have h := h.1
   split at h
   ·rename_i hu
    obtain ⟨y, rfl, -⟩ := DataW.trod_bool hu hx
    exact ⟨y, rfl, trivial⟩
   ·cases h
  exact ⟨key, oneF' .bool _ key, oneN' .bool _ key⟩
 | ints k n =>
  have key : ∀ t, fitInts P k n t = true → ∀ (fuel:Nat) (cs:List Value) (x:DataW H × List MemPlace), DataW.trod enc P W base sp held fuel t cs = some x → ∃ y : List Int, cs = (Tc.ints k n).cs y ∧ (Tc.ints k n).ok y := by
   intro t h fuel cs x hx
   unfold fitInts at h
   split at h
   ·rename_i m e hu
    simp only [Bool.and_eq_true] at h
    obtain ⟨g1, g2⟩ := Zkb h.1.2
    rw [← Zat h.1.1] at hu
    obtain ⟨l, k1, k2, k3⟩ := Zz2 hu g1 g2 (Zat h.2) hx
    exact ⟨l, k1, k2, k3⟩
   ·cases h
  exact ⟨key, oneF' (.ints k n) _ key, oneN' (.ints k n) _ key⟩
 | nil =>
  refine ⟨fun t h => by simp [Tc.fitB] at h, fun fl o s h m cs xs hl hx hat => ?_, fun n e h m cs hl hat => ?_⟩
  ·cases fl with
   | nil =>
    have := Zat h
    exact ⟨(), by rw [List.drop_eq_nil_of_le (by omega)]; rfl, trivial⟩
   | cons => simp [Tc.fitB] at h
  ·have := Zat h
   subst this
   rw [Nat.zero_mul] at hl
   exact ⟨(), List.eq_nil_of_length_eq_zero hl, trivial⟩
 | cons a b iha ihb =>
  refine ⟨fun t h => by simp [Tc.fitB] at h, fun fl o s h m cs xs hl hx hat => ?_, fun n e h m cs hl hat => ?_⟩
  ·cases fl with
   | nil => simp [Tc.fitB] at h
   | cons f fl =>
    simp only [Tc.fitB, Bool.and_eq_true] at h
    obtain ⟨⟨h1, h2⟩, h3⟩ := h
    have h1 := Zat h1
    have h0 := hat 0 f rfl
    match xs, hx with
    | x0 :: xs', hx =>
     obtain ⟨y, k1, k2⟩ := iha.1 _ h2 m _ x0 h0
     obtain ⟨z, j1, j2⟩ := ihb.2.1 fl _ s h3 m cs xs' hl (by simpa using hx) (fun i g hg => by
      have := hat (i + 1) g (by simpa using hg)
      simpa using this)
     refine ⟨(y, z), ?_, k2, j2⟩
     have e : cs.drop o = (cs.drop o).take (P.cellsOf f.type) ++ (cs.drop o).drop (P.cellsOf f.type) := (List.take_append_drop _ _).symm
     rw [h1] at k1
     rw [e, k1, List.drop_drop, j1]
     rfl
  ·cases n with
   | zero => simp [Tc.fitB] at h
   | succ n =>
    simp only [Tc.fitB, Bool.and_eq_true] at h
    obtain ⟨x, hx⟩ := hat 0 (by omega)
    rw [Nat.zero_mul, List.drop_zero] at hx
    obtain ⟨y, k1, k2⟩ := iha.1 _ h.1 m _ x hx
    obtain ⟨z, j1, j2⟩ := ihb.2.2 n e h.2 m (cs.drop (P.cellsOf e)) (by rw [List.length_drop, hl, Nat.succ_mul]; omega) (fun i hi => by
     obtain ⟨x, hx⟩ := hat (i + 1) (by omega)
     refine ⟨x, ?_⟩
     rw [List.drop_drop, show P.cellsOf e + i * P.cellsOf e = (i + 1) * P.cellsOf e by rw [Nat.succ_mul, Nat.add_comm]]
     exact hx)
    refine ⟨(y, z), ?_, k2, j2⟩
    have e' : cs = cs.take (P.cellsOf e) ++ cs.drop (P.cellsOf e) := (List.take_append_drop _ _).symm
    rw [e', k1, j1]
    rfl
 | agg l ih =>
  have key : ∀ t, fitAgg P (l.fitB P).2.1 (l.fitB P).2.2 t = true → ∀ (fuel:Nat) (cs:List Value) (x:DataW H × List MemPlace), DataW.trod enc P W base sp held fuel t cs = some x → ∃ y : l.T, cs = (Tc.agg l).cs y ∧ (Tc.agg l).ok y := by
   intro t h fuel cs x hx
   unfold fitAgg at h
   split at h
   ·rename_i fs hu
    obtain ⟨xs, m, -, -, hl, hxl, hat⟩ := DataW.trod_struct hu hx
    obtain ⟨y, k1, k2⟩ := ih.2.1 _ _ _ h m cs xs hl (by rw [hxl]; simp) (fun i f hf => hat i f (by simpa using hf))
    rw [List.drop_zero] at k1
    exact ⟨y, k1, k2⟩
   ·rename_i n e hu
    simp only [Bool.and_eq_true] at h
    obtain ⟨xs, m, -, -, hl, hxl, hat⟩ := DataW.trod_array hu hx
    rw [Zat h.2] at hl
    refine ih.2.2 n e h.1 m cs hl fun i hi => ?_
    have hix : i < xs.length := by omega
    exact ⟨xs[i], by rw [hat i hi, List.getElem?_eq_getElem hix]⟩
   ·cases h
  exact ⟨key, oneF' (.agg l) _ key, oneN' (.agg l) _ key⟩
theorem ZA8 {W:World} {base:Nat} {a:Addr} {n:Nat} {cs:List Value} (h:W.cells? base a n = some cs) : cs.length = n ∧ ∀ j x, cs[j]? = some x → W.cell? (a.add j) = some x := by
 unfold World.cells? at h
 split at h
 ·refine ⟨by simpa using mapM_some_length h, fun j x hx => ?_⟩
  have hj : j < n := by
   have := mapM_some_length h
   rw [List.length_range] at this
   rcases Nat.lt_or_ge j cs.length with h | h
   ·omega
   ·rw [List.getElem?_eq_none h] at hx; cases hx
  have := mapM_some_get h j j (by simp [hj])
  rw [hx] at this
  exact this
 ·cases h
theorem ZED {W:World} {r:Reach} {b:Nat} {t e:TypeId} {c:Tc} {v:Value} {d:DataW H} {ps:List MemPlace} (hu:P.underlying t = some (.slice e)) (hf:c.fit P e = true) (hval:Value.okWide P W r b t v)
  (h:DataW.Trod enc P W 0 (fun _ => true) true t v d ps) :
  ∃ l : List c.T, SliceAt P W v (.vec c l) e ∧ (∀ x ∈ l, c.ok x) ∧ ((d = .nil ∧ l = []) ∨ ∃ es sp, d = .slice es sp ∧ es.length = l.length) := by
 obtain ⟨fuel, hh⟩ := h
 obtain ⟨a0, len0, cap0, rfl⟩ := WideShapes.okWide_slice hu hval
 rcases DataW.trod_slice hu hh with ⟨hc, hx⟩ | ⟨a, len, cap, elems, rest, n, -, hc, hx, -, hlc, hcm, hel, hat, -, -⟩
 ·simp only [Value.cells, List.cons.injEq, Value.slice.injEq, and_true] at hc
  obtain ⟨rfl, rfl, rfl⟩ := hc
  simp only [Prod.mk.injEq] at hx
  refine ⟨[], ⟨⟨0, 0, 0, e, true, 0, true, nk⟩, by simp [gsV, rowN], rfl, rfl, rfl, Nat.le_refl _, (fun _ => rfl), (by show ((0 : Nat) : Int) ≤ 9223372036854775807; decide), ?_, .inr ⟨rfl, by rw [ZcG]; rfl⟩, fun j x hx => by rw [ZcG] at hx; simp at hx⟩, fun x hx => by simp at hx, .inl ⟨hx.1, rfl⟩⟩
  simp only [HasN, if_true]
  exact ⟨rfl, hf⟩
 ·simp only [Value.cells, List.cons.injEq, Value.slice.injEq, and_true] at hc
  obtain ⟨rfl, rfl, rfl⟩ := hc
  simp only [Prod.mk.injEq] at hx
  have hval' : Cell.ok P W r b t (.slice (some a) len0 cap0) := by
   simpa only [Value.okWide, hu, Cell.okWide] using hval
  simp only [Cell.ok, hu] at hval'
  obtain ⟨-, hcap, -, hspot, row, cells, hshape, -⟩ := hval'
  have hblk : a.block < W.heap.size := by
   rcases Nat.lt_or_ge a.block W.heap.size with h | h
   ·exact h
   ·exfalso
    simp [World.shape?, Array.getElem?_eq_none h] at hshape
  obtain ⟨ab, ao, as⟩ := a
  simp only at hspot hblk
  subst hspot
  -- each element
  have each : ∀ i, i < len0 → ∃ y : c.T, c.ok y ∧ ∀ j x, (c.cs y)[j]? = some x → W.cell? ⟨ab, ao + (i * P.cellsOf e + j), none⟩ = some x := by
   intro i hi
   have h1 := hat i hi
   rw [List.getElem?_eq_getElem (show i < elems.length by omega)] at h1
   obtain ⟨cs, h2, h3⟩ := Option.bind_eq_some_iff.1 h1
   obtain ⟨h4, h5⟩ := ZA8 h2
   obtain ⟨y, rfl, h6⟩ := (Tc.trodB c).1 e hf n cs _ h3
   refine ⟨y, h6, fun j x hx => ?_⟩
   have := h5 j x hx
   rw [Zc6, Zc6, Nat.add_assoc] at this
   exact this
  have rows : ∀ k, k ≤ len0 → ∃ l : List c.T, l.length = k ∧ (∀ x ∈ l, c.ok x) ∧ ∀ j x, (l.flatMap c.cs)[j]? = some x → W.cell? ⟨ab, ao + j, none⟩ = some x := by
   intro k
   induction k with
   | zero => intro _; exact ⟨[], rfl, by simp, fun j x hx => by simp at hx⟩
   | succ k ih =>
    intro hk
    obtain ⟨l, l1, l2, l3⟩ := ih (by omega)
    obtain ⟨y, y1, y2⟩ := each k (by omega)
    refine ⟨l ++ [y], by simp [l1], fun x hx => ?_, fun j x hx => ?_⟩
    ·rcases List.mem_append.1 hx with hx | hx
     ·exact l2 x hx
     ·simp only [List.mem_singleton] at hx
      subst hx
      exact y1
    ·rw [List.flatMap_append] at hx
     have hlen := ZvW P hf l2
     by_cases hj : j < (l.flatMap c.cs).length
     ·rw [List.getElem?_append_left hj] at hx
      exact l3 j x hx
     ·rw [List.getElem?_append_right (by omega)] at hx
      simp only [List.flatMap_cons, List.flatMap_nil, List.append_nil] at hx
      have := y2 _ x hx
      rw [show k * P.cellsOf e + (j - (l.flatMap c.cs).length) = j by rw [← l1, ← hlen]; omega] at this
      exact this
  obtain ⟨l, l1, l2, l3⟩ := rows len0 (Nat.le_refl _)
  refine ⟨l, ⟨⟨ab, ao, l.length, e, true, cap0, false, nk⟩, by simp [gsV, rowN, l1], rfl, rfl, rfl, (by simp only [rowN]; omega), (fun h => by cases h), ?_, ?_, .inl ⟨rfl, hblk⟩, fun j x hx => ?_⟩, l2, .inr ⟨_, _, hx.1, by simp [hel, l1]⟩⟩
  ·have : IntKind.i64.max = 9223372036854775807 := by decide
   rw [this] at hcap
   exact hcap
  ·simp only [HasN, if_true]
   exact ⟨trivial, hf⟩
  ·rw [ZcG] at hx
   exact l3 j x hx
theorem ZEG {W:World} {g:FuncId} {fn:Func} (hfn:P.funcs[g]? = some fn) (hb:fn.body.isNone = false) (hname:(fn.name == "runtime.NumGoroutine") = false) {α β:Type} {A:Ag α} {B:Pt β} {F : α → Option β}
  (h:SoundAt P W g (fct A B F)) {x : α} {y : β} {vs:List Value} (hg:A.get (A.mk x) = some x) (hF:F x = some y) (ok:OKL P (fun _ => none) (A.mk x)) (ha:ArgsAt P W vs (A.mk x)) (hnr:∀ (w w':World) (a:Value), ResAt P w w' a (B.mk y) → a = den P (fun _ => none) (B.mk y) := by intro _ _ _ h; exact h.1) :
  Calls P g vs.toArray W fun e w' => e = .returned (den P (fun _ => none) (B.mk y)) ∧ Below W.heap.size W w' := by
 have hv : (fct A B F (A.mk x)).run none some = some (B.mk y) := by
  unfold fct
  rw [hg]
  simp only [Res.run, hF, mo]
 rcases h _ _ hv ok W (Below.refl _ _) _ ha with ⟨-, h1⟩ | ⟨a, h1, -⟩
 ·refine h1.mono ?_
  rintro e w' ⟨a, rfl, ha, hb⟩
  exact ⟨by rw [hnr _ _ _ ha], hb⟩
 ·rw [ZiL hfn hb hname] at h1
  simp at h1
theorem ZB4 {f:Func} {s:ChangeSpec} {apart fresh handsOn:Bool} {W W':World} {args:Array Value} {v:Value} {ds gs:List (DataW H)} {pa pv:List MemPlace} {before:List MemPlace}
  (hW:DataW.Whole enc P f.params.toList s.vars apart W args.toList ds gs before)
  (hres:∀ (b:Nat) (sp:Nat → Bool) (hd:Bool), DataW.TrodAll enc P W' b sp hd f.resultTypes.toList (v.resultList f.resultTypes.size) (s.fn H (ds ++ gs)).results [])
  (hargs:DataW.TrodAll enc P W' 0 (fun b => decide (b < W.heap.size)) true f.params.toList args.toList (s.fn H (ds ++ gs)).args pa)
  (hvars:DataW.TrodVars enc P W' (fun b => decide (b < W.heap.size)) s.vars (s.fn H (ds ++ gs)).vars pv)
  (hb:Below W.heap.size W W') : s.post enc P f apart fresh handsOn false W args v W' :=
 ⟨ds, gs, before, [], pa, pv, hW, hres _ _ _, hargs, hvars, hb.frame _, fun h => by simp at h⟩
end Go.Vx
