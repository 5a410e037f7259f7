/- The engine, part S2: from a contract to a row: arguments that are rows of plain data. -/
import Derived.Test.YtoionfdfofmplaaVxS
import Derived.Carry
import Derived.SizedLaws
set_option autoImplicit false
set_option linter.unusedVariables false
set_option linter.unusedSimpArgs false
namespace Go.Vx
open Go Go.RowKit

variable {H : Type} {enc : TypeId × Value → H} {P : Program}

theorem fitInt_trod {W : World} {base : Nat} {sp : Nat → Bool} {held : Bool} {fuel : Nat} {k : IntKind} {t : TypeId} {cs : List Value} {x : DataW H × List MemPlace} (hf : fitInt P k t = true)
    (h : DataW.trod enc P W base sp held fuel t cs = some x) : ∃ y : Int, cs = [.int k y] ∧ k.min ≤ y ∧ y ≤ k.max := by
  obtain ⟨n, h1, h2, -⟩ := trod_int_any (fitInt_spec hf).1 h
  exact ⟨n, h1, h2⟩

theorem take_all {α : Type} {l : List α} {o n : Nat} (h : o + n = l.length) : (l.drop o).take n = l.drop o := List.take_of_length_le (by rw [List.length_drop]; omega)

/-- What is read there is data of the code. -/
theorem Tc.trodB {W : World} {base : Nat} {sp : Nat → Bool} {held : Bool} : (c : Tc) →
    (∀ t, (c.fitB P).1 t = true → ∀ (fuel : Nat) (cs : List Value) (x : DataW H × List MemPlace), DataW.trod enc P W base sp held fuel t cs = some x → ∃ y, cs = c.cs y ∧ c.ok y) ∧
    (∀ fl o s, (c.fitB P).2.1 fl o s = true → ∀ (m : Nat) (cs : List Value) (xs : List (DataW H × List MemPlace)), cs.length = s → xs.length = fl.length →
      (∀ (i : Nat) (f : Field), fl[i]? = some f → DataW.trod enc P W base sp held m f.type ((cs.drop f.offset).take (P.cellsOf f.type)) = xs[i]?) → ∃ y, cs.drop o = c.cs y ∧ c.ok y) ∧
    (∀ n e, (c.fitB P).2.2 n e = true → ∀ (m : Nat) (cs : List Value), cs.length = n * P.cellsOf e →
      (∀ i, i < n → ∃ x, DataW.trod enc P W base sp held m e ((cs.drop (i * P.cellsOf e)).take (P.cellsOf e)) = some x) → ∃ y, cs = c.cs y ∧ c.ok y) := by
  have oneF' : ∀ (c : Tc) (g : TypeId → Bool), (∀ t, g t = true → ∀ (fuel : Nat) (cs : List Value) (x : DataW H × List MemPlace), DataW.trod enc P W base sp held fuel t cs = some x → ∃ y, cs = c.cs y ∧ c.ok y) →
      ∀ fl o s, oneF P g fl o s = true → ∀ (m : Nat) (cs : List Value) (xs : List (DataW H × List MemPlace)), cs.length = s → xs.length = fl.length →
      (∀ (i : Nat) (f : Field), fl[i]? = some f → DataW.trod enc P W base sp held m f.type ((cs.drop f.offset).take (P.cellsOf f.type)) = xs[i]?) → ∃ y, cs.drop o = c.cs y ∧ c.ok y := by
    intro c g hg fl o s h m cs xs hl hx hat
    unfold oneF at h
    split at h
    · cases h
    · rename_i f r
      split at h
      · simp only [Bool.and_eq_true] at h
        obtain ⟨⟨h1, h2⟩, h3⟩ := h
        have h1 := beq_eq h1
        have h3 := beq_eq h3
        have h0 := hat 0 f rfl
        match xs, hx with
        | [x0], _ =>
          obtain ⟨y, k1, k2⟩ := hg _ h2 m _ x0 h0
          refine ⟨y, ?_, k2⟩
          rw [h1, take_all (by omega)] at k1
          exact k1
      · cases h
  have oneN' : ∀ (c : Tc) (g : TypeId → Bool), (∀ t, g t = true → ∀ (fuel : Nat) (cs : List Value) (x : DataW H × List MemPlace), DataW.trod enc P W base sp held fuel t cs = some x → ∃ y, cs = c.cs y ∧ c.ok y) →
      ∀ n e, oneN g n e = true → ∀ (m : Nat) (cs : List Value), cs.length = n * P.cellsOf e →
      (∀ i, i < n → ∃ x, DataW.trod enc P W base sp held m e ((cs.drop (i * P.cellsOf e)).take (P.cellsOf e)) = some x) → ∃ y, cs = c.cs y ∧ c.ok y := by
    intro c g hg n e h m cs hl hat
    simp only [oneN, Bool.and_eq_true] at h
    have h1 := beq_eq h.1
    subst h1
    obtain ⟨x, hx⟩ := hat 0 (by omega)
    rw [Nat.zero_mul, List.drop_zero, List.take_of_length_le (by omega)] at hx
    exact hg _ h.2 m _ x hx
  intro c
  induction c with
  | int k =>
    have key : ∀ t, fitInt P k t = true → ∀ (fuel : Nat) (cs : List Value) (x : DataW H × List MemPlace), DataW.trod enc P W base sp held fuel t cs = some x → ∃ y : Int, cs = (Tc.int k).cs y ∧ (Tc.int k).ok y := fun t h fuel cs x hx => fitInt_trod h hx
    exact ⟨key, oneF' (.int k) _ key, oneN' (.int k) _ key⟩
  | bool =>
    have key : ∀ t, fitBool P t = true → ∀ (fuel : Nat) (cs : List Value) (x : DataW H × List MemPlace), DataW.trod enc P W base sp held fuel t cs = some x → ∃ y : Bool, cs = Tc.bool.cs y ∧ Tc.bool.ok y := by
      intro t h fuel cs x hx
      simp only [fitBool, Bool.and_eq_true] at h
      have h := h.1
      split at h
      · rename_i hu
        obtain ⟨y, rfl, -⟩ := DataW.trod_bool hu hx
        exact ⟨y, rfl, trivial⟩
      · cases h
    exact ⟨key, oneF' .bool _ key, oneN' .bool _ key⟩
  | ints k n =>
    have key : ∀ t, fitInts P k n t = true → ∀ (fuel : Nat) (cs : List Value) (x : DataW H × List MemPlace), DataW.trod enc P W base sp held fuel t cs = some x → ∃ y : List Int, cs = (Tc.ints k n).cs y ∧ (Tc.ints k n).ok y := by
      intro t h fuel cs x hx
      unfold fitInts at h
      split at h
      · rename_i m e hu
        simp only [Bool.and_eq_true] at h
        obtain ⟨g1, g2⟩ := fitInt_spec h.1.2
        rw [← beq_eq h.1.1] at hu
        obtain ⟨l, k1, k2, k3⟩ := arr_cells hu g1 g2 (beq_eq h.2) hx
        exact ⟨l, k1, k2, k3⟩
      · cases h
    exact ⟨key, oneF' (.ints k n) _ key, oneN' (.ints k n) _ key⟩
  | nil =>
    refine ⟨fun t h => by simp [Tc.fitB] at h, fun fl o s h m cs xs hl hx hat => ?_, fun n e h m cs hl hat => ?_⟩
    · cases fl with
      | nil =>
        have := beq_eq h
        exact ⟨(), by rw [List.drop_eq_nil_of_le (by omega)]; rfl, trivial⟩
      | cons => simp [Tc.fitB] at h
    · have := beq_eq h
      subst this
      rw [Nat.zero_mul] at hl
      exact ⟨(), List.eq_nil_of_length_eq_zero hl, trivial⟩
  | cons a b iha ihb =>
    refine ⟨fun t h => by simp [Tc.fitB] at h, fun fl o s h m cs xs hl hx hat => ?_, fun n e h m cs hl hat => ?_⟩
    · cases fl with
      | nil => simp [Tc.fitB] at h
      | cons f fl =>
        simp only [Tc.fitB, Bool.and_eq_true] at h
        obtain ⟨⟨h1, h2⟩, h3⟩ := h
        have h1 := beq_eq h1
        have h0 := hat 0 f rfl
        match xs, hx with
        | x0 :: xs', hx =>
          obtain ⟨y, k1, k2⟩ := iha.1 _ h2 m _ x0 h0
          obtain ⟨z, j1, j2⟩ := ihb.2.1 fl _ s h3 m cs xs' hl (by simpa using hx) (fun i g hg => by
            have := hat (i + 1) g (by simpa using hg)
            simpa using this)
          refine ⟨(y, z), ?_, k2, j2⟩
          have e : cs.drop o = (cs.drop o).take (P.cellsOf f.type) ++ (cs.drop o).drop (P.cellsOf f.type) := (List.take_append_drop _ _).symm
          rw [h1] at k1
          rw [e, k1, List.drop_drop, j1]
          rfl
    · cases n with
      | zero => simp [Tc.fitB] at h
      | succ n =>
        simp only [Tc.fitB, Bool.and_eq_true] at h
        obtain ⟨x, hx⟩ := hat 0 (by omega)
        rw [Nat.zero_mul, List.drop_zero] at hx
        obtain ⟨y, k1, k2⟩ := iha.1 _ h.1 m _ x hx
        obtain ⟨z, j1, j2⟩ := ihb.2.2 n e h.2 m (cs.drop (P.cellsOf e)) (by rw [List.length_drop, hl, Nat.succ_mul]; omega) (fun i hi => by
          obtain ⟨x, hx⟩ := hat (i + 1) (by omega)
          refine ⟨x, ?_⟩
          rw [List.drop_drop, show P.cellsOf e + i * P.cellsOf e = (i + 1) * P.cellsOf e by rw [Nat.succ_mul, Nat.add_comm]]
          exact hx)
        refine ⟨(y, z), ?_, k2, j2⟩
        have e' : cs = cs.take (P.cellsOf e) ++ cs.drop (P.cellsOf e) := (List.take_append_drop _ _).symm
        rw [e', k1, j1]
        rfl
  | agg l ih =>
    have key : ∀ t, fitAgg P (l.fitB P).2.1 (l.fitB P).2.2 t = true → ∀ (fuel : Nat) (cs : List Value) (x : DataW H × List MemPlace), DataW.trod enc P W base sp held fuel t cs = some x → ∃ y : l.T, cs = (Tc.agg l).cs y ∧ (Tc.agg l).ok y := by
      intro t h fuel cs x hx
      unfold fitAgg at h
      split at h
      · rename_i fs hu
        obtain ⟨xs, m, -, -, hl, hxl, hat⟩ := DataW.trod_struct hu hx
        obtain ⟨y, k1, k2⟩ := ih.2.1 _ _ _ h m cs xs hl (by rw [hxl]; simp) (fun i f hf => hat i f (by simpa using hf))
        rw [List.drop_zero] at k1
        exact ⟨y, k1, k2⟩
      · rename_i n e hu
        simp only [Bool.and_eq_true] at h
        obtain ⟨xs, m, -, -, hl, hxl, hat⟩ := DataW.trod_array hu hx
        rw [beq_eq h.2] at hl
        refine ih.2.2 n e h.1 m cs hl fun i hi => ?_
        have hix : i < xs.length := by omega
        exact ⟨xs[i], by rw [hat i hi, List.getElem?_eq_getElem hix]⟩
      · cases h
    exact ⟨key, oneF' (.agg l) _ key, oneN' (.agg l) _ key⟩

theorem cells?_spec {W : World} {base : Nat} {a : Addr} {n : Nat} {cs : List Value} (h : W.cells? base a n = some cs) : cs.length = n ∧ ∀ j x, cs[j]? = some x → W.cell? (a.add j) = some x := by
  unfold World.cells? at h
  split at h
  · refine ⟨by simpa using mapM_some_length h, fun j x hx => ?_⟩
    have hj : j < n := by
      have := mapM_some_length h
      rw [List.length_range] at this
      rcases Nat.lt_or_ge j cs.length with h | h
      · omega
      · rw [List.getElem?_eq_none h] at hx; cases hx
    have := mapM_some_get h j j (by simp [hj])
    rw [hx] at this
    exact this
  · cases h

/-- What a row promises, where nothing that was there is turned. -/
theorem post_below {f : Func} {s : ChangeSpec} {apart fresh handsOn : Bool} {W W' : World} {args : Array Value} {v : Value} {ds gs : List (DataW H)} {pa pv : List MemPlace} {before : List MemPlace}
    (hW : DataW.Whole enc P f.params.toList s.vars apart W args.toList ds gs before)
    (hres : ∀ (b : Nat) (sp : Nat → Bool) (hd : Bool), DataW.TrodAll enc P W' b sp hd f.resultTypes.toList (v.resultList f.resultTypes.size) (s.fn H (ds ++ gs)).results [])
    (hargs : DataW.TrodAll enc P W' 0 (fun b => decide (b < W.heap.size)) true f.params.toList args.toList (s.fn H (ds ++ gs)).args pa)
    (hvars : DataW.TrodVars enc P W' (fun b => decide (b < W.heap.size)) s.vars (s.fn H (ds ++ gs)).vars pv)
    (hb : Below W.heap.size W W') : s.post enc P f apart fresh handsOn false W args v W' :=
  ⟨ds, gs, before, [], pa, pv, hW, hres _ _ _, hargs, hvars, hb.frame _, fun h => by simp at h⟩

end Go.Vx
