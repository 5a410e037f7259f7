/- The engine, part B: where a part of a value lies among the value's cells. -/
import Derived.Test.YtoionfdfofmplaaVxA
set_option autoImplicit false
set_option linter.unusedVariables false
set_option linter.unusedSimpArgs false
namespace Go.Vx
open Go

theorem cells_ints (P : Program) (ρ : Rho) (k : IntKind) (n : Nat) (l : List Int) : cells P ρ (.ints k n l) = l.map (Value.int k) := by
  simp [cells, den, Value.cells]
theorem cells_agg (P : Program) (ρ : Rho) (l : List AV) : cells P ρ (.agg l) = denC P ρ l := by simp [cells, den, Value.cells]
theorem cells_rows (P : Program) (ρ : Rho) (n : Nat) (f : Nat → AV) : cells P ρ (.rows n f) = (List.range n).flatMap fun i => cells P ρ (f i) := by
  simp [cells, den, Value.cells]
theorem cells_vec (P : Program) (ρ : Rho) (c : Tc) (l : List c.T) : cells P ρ (.vec c l) = l.flatMap c.cs := by simp [cells, den, Value.cells]
theorem cells_mk (P : Program) (ρ : Rho) (c : Tc) (x : c.T) : cells P ρ (c.mk x) = c.cs x := (Tc.cs_mkB P ρ c x).1
theorem denC_cons (P : Program) (ρ : Rho) (v : AV) (l : List AV) : denC P ρ (v :: l) = cells P ρ v ++ denC P ρ l := by simp [denC, cells]

mutual
theorem len_cells (P : Program) (ρ : Rho) : (v : AV) → (t : TypeId) → Has P v t → OK P ρ v → (cells P ρ v).length = P.cellsOf t
  | .int _ _, t, h, _ => by simp only [Has] at h; simp [cells, den, Value.cells, h.2]
  | .bool _, t, h, _ => by simp only [Has] at h; simp [cells, den, Value.cells, h.2]
  | .str _, t, h, _ => by simp only [Has] at h; simp [cells, den, Value.cells, h.2]
  | .ptr b _ _, t, h, _ => by simp only [Has] at h; cases hb : ρ b <;> simp [cells, den, Value.cells, h.2, hb]
  | .nilp, t, h, _ => by simp only [Has] at h; simp [cells, den, Value.cells, h.2]
  | .sl b _ _ _ _ _, t, h, _ => by simp only [Has] at h; cases hb : ρ b <;> simp [cells, den, Value.cells, h.2, hb]
  | .pa b _ _ _ _, t, h, _ => by simp only [Has] at h; cases hb : ρ b <;> simp [cells, den, Value.cells, h.2, hb]
  | .nils, t, h, _ => by simp only [Has] at h; simp [cells, den, Value.cells, h.2]
  | .gs b _ _, t, h, _ => by
    simp only [Has] at h
    cases hb : ρ b with
    | none => simp [cells, den, Value.cells, h.2, hb]
    | some nm => cases hn : nm.non <;> simp [cells, den, gsV, Value.cells, h.2, hb, hn]
  | .clo _ _, t, h, _ => by simp only [Has] at h; simp [cells, den, Value.cells, h.2]
  | .nilfn, t, h, _ => by simp only [Has] at h; simp [cells, den, Value.cells, h.2]
  | .nilif, t, h, _ => by simp only [Has] at h; simp [cells, den, Value.cells, h.2]
  | .ifc _ _, t, h, _ => by simp only [Has] at h; simp [cells, den, Value.cells, h.2]
  | .ints k n l, t, h, ok => by
    simp only [Has] at h
    obtain ⟨e, -, -, -, h4⟩ := h
    simp only [OK] at ok
    simp [cells_ints, ok.1, h4]
  | .agg l, t, h, ok => by
    simp only [Has] at h
    simp only [OK] at ok
    rw [cells_agg]
    rcases h with ⟨fs, -, hf⟩ | ⟨n, e, -, hl, ha, hs⟩
    · have := len_F P ρ l fs.toList 0 _ hf ok
      omega
    · rw [len_A P ρ l e ha ok, hl, hs]
  | .rows n f, t, h, ok => by
    simp only [Has] at h
    simp only [OK] at ok
    obtain ⟨e, -, h2, h3⟩ := h
    rw [cells_rows, h3]
    have key : ∀ i, (cells P ρ (f i)).length = P.cellsOf e := fun i => len_cells P ρ (f i) e (h2 i) (ok i)
    clear h3
    induction n with
    | zero => simp
    | succ n ih => rw [List.range_succ, List.flatMap_append, List.length_append, ih]; simp [key, Nat.succ_mul]
  | .tup _, _, h, _ => by simp [Has] at h
  | .vec _ _, _, h, _ => by simp [Has] at h
  | .gp b _ _ _ _ _, t, h, _ => by
    simp only [Has] at h
    cases hb : ρ b with
    | none => simp [cells, den, Value.cells, h.2, hb]
    | some nm => cases hn : nm.non <;> simp [cells, den, gpV, Value.cells, h.2, hb, hn]
  | .dv b p _ _ _, t, h, _ => by
    simp only [Has] at h
    cases hb : ρ b with
    | none => simp [cells, den, Value.cells, h.2, hb]
    | some nm => cases hn : dloc nm.K (nmL nm) p <;> simp [cells, den, dvV, Value.cells, h.2, hb, hn]
  | .dq b p _ _ _ _, t, h, _ => by
    simp only [Has] at h
    cases hb : ρ b with
    | none => simp [cells, den, Value.cells, h.2, hb]
    | some nm => cases hn : dloc nm.K (nmL nm) p <;> simp [cells, den, dqV, Value.cells, h.2, hb, hn]
  | .dc _ _, _, h, _ => by simp [Has] at h
  | .itr _ _, _, h, _ => by simp [Has] at h
  | .itp _, _, h, _ => by simp [Has] at h
theorem len_F (P : Program) (ρ : Rho) : (l : List AV) → (fs : List Field) → (o s : Nat) → HasF P l fs o s → OKL P ρ l → o + (denC P ρ l).length = s
  | [], [], o, s, h, _ => by simp only [HasF] at h; simp [denC, h]
  | v :: l, f :: fs, o, s, h, ok => by
    simp only [HasF] at h
    simp only [OKL] at ok
    have := len_F P ρ l fs _ s h.2.2 ok.2
    rw [denC_cons, List.length_append, len_cells P ρ v _ h.2.1 ok.1]
    omega
  | [], _ :: _, _, _, h, _ => by simp [HasF] at h
  | _ :: _, [], _, _, h, _ => by simp [HasF] at h
theorem len_A (P : Program) (ρ : Rho) : (l : List AV) → (e : TypeId) → HasA P l e → OKL P ρ l → (denC P ρ l).length = l.length * P.cellsOf e
  | [], _, _, _ => by simp [denC]
  | v :: l, e, h, ok => by
    simp only [HasA] at h
    simp only [OKL] at ok
    rw [denC_cons, List.length_append, len_cells P ρ v e h.1 ok.1, len_A P ρ l e h.2 ok.2]
    simp [Nat.succ_mul, Nat.add_comm]
end

/-- 'xs' lies at place o of 'ys'. -/
def LiesAt {α : Type} (ys : List α) (o : Nat) (xs : List α) : Prop := ∀ j x, xs[j]? = some x → ys[o + j]? = some x

theorem LiesAt.trans {α : Type} {zs ys xs : List α} {o o' : Nat} (h : LiesAt zs o ys) (h' : LiesAt ys o' xs) : LiesAt zs (o + o') xs := by
  intro j x hx
  rw [Nat.add_assoc]
  exact h _ _ (h' _ _ hx)

theorem LiesAt.append {α : Type} (as xs bs : List α) : LiesAt (as ++ (xs ++ bs)) as.length xs := by
  intro j x hx
  have hj : j < xs.length := by
    rcases Nat.lt_or_ge j xs.length with h | h
    · exact h
    · simp [List.getElem?_eq_none h] at hx
  rw [List.getElem?_append_right (by omega), Nat.add_sub_cancel_left, List.getElem?_append_left hj, hx]

/-- What a place of 'ys' holds once 'xs' has been laid at o. -/
def Laid {α : Type} (ys : List α) (o : Nat) (xs zs : List α) : Prop :=
  zs.length = ys.length ∧ ∀ j, zs[j]? = if o ≤ j ∧ j < o + xs.length then xs[j - o]? else ys[j]?

theorem Laid.append {α : Type} (as old bs xs : List α) (h : xs.length = old.length) : Laid (as ++ (old ++ bs)) as.length xs (as ++ (xs ++ bs)) := by
  refine ⟨by simp [h], fun j => ?_⟩
  by_cases h1 : j < as.length
  · rw [if_neg (by omega), List.getElem?_append_left h1, List.getElem?_append_left h1]
  · by_cases h2 : j < as.length + xs.length
    · rw [if_pos (by omega), List.getElem?_append_right (by omega), List.getElem?_append_left (by omega)]
    · rw [if_neg (by omega), List.getElem?_append_right (by omega), List.getElem?_append_right (by omega), List.getElem?_append_right (by omega),
        List.getElem?_append_right (by omega), h]

theorem Laid.inner {α : Type} (ys old zs xs old' : List α) (o o' : Nat) (h : LiesAt ys o old) (hl : Laid old o' xs old') (ho : o' + xs.length ≤ old.length)
    (hz : Laid ys o old' zs) : Laid ys (o + o') xs zs := by
  refine ⟨hz.1, fun j => ?_⟩
  rw [hz.2 j]
  by_cases h1 : o ≤ j ∧ j < o + old'.length
  · rw [if_pos h1, hl.2 (j - o)]
    have hl1 := hl.1
    by_cases h2 : o' ≤ j - o ∧ j - o < o' + xs.length
    · rw [if_pos h2, if_pos (by omega), show j - o - o' = j - (o + o') by omega]
    · rw [if_neg h2, if_neg (by omega)]
      have hj : j - o < old.length := by omega
      have e := h (j - o) old[j - o] (List.getElem?_eq_getElem hj)
      rw [List.getElem?_eq_getElem hj, ← e]
      congr 1
      omega
  · have hl1 := hl.1
    rw [if_neg h1, if_neg (by omega)]

/-- A part's place among the fields. -/
theorem field_at (P : Program) (ρ : Rho) : (l : List AV) → (fs : List Field) → (o s : Nat) → HasF P l fs o s → OKL P ρ l → (i : Nat) → (f : Field) → fs[i]? = some f →
    ∃ v as bs, l[i]? = some v ∧ Has P v f.type ∧ OK P ρ v ∧ denC P ρ l = as ++ (cells P ρ v ++ bs) ∧ o + as.length = f.offset ∧
      ∀ u, Has P u f.type → OK P ρ u → HasF P (l.set i u) fs o s ∧ OKL P ρ (l.set i u) ∧ denC P ρ (l.set i u) = as ++ (cells P ρ u ++ bs)
  | [], [], _, _, _, _, i, f, hf => by simp at hf
  | v :: l, g :: fs, o, s, h, ok, 0, f, hf => by
    simp only [HasF] at h
    simp only [OKL] at ok
    simp only [List.getElem?_cons_zero, Option.some.injEq] at hf
    subst hf
    refine ⟨v, [], denC P ρ l, by simp, h.2.1, ok.1, by rw [denC_cons]; simp, by simp [h.1], fun u hu ou => ?_⟩
    simp only [List.set_cons_zero, HasF, OKL, denC_cons, List.nil_append, and_true]
    exact ⟨⟨h.1, hu, h.2.2⟩, ou, ok.2⟩
  | v :: l, g :: fs, o, s, h, ok, i + 1, f, hf => by
    simp only [HasF] at h
    simp only [OKL] at ok
    simp only [List.getElem?_cons_succ] at hf
    obtain ⟨x, as, bs, h1, h2, h3, h4, h5, h6⟩ := field_at P ρ l fs _ s h.2.2 ok.2 i f hf
    refine ⟨x, cells P ρ v ++ as, bs, by simpa using h1, h2, h3, by rw [denC_cons, h4]; simp, ?_, fun u hu ou => ?_⟩
    · rw [List.length_append, len_cells P ρ v _ h.2.1 ok.1]; omega
    · obtain ⟨a, b, c⟩ := h6 u hu ou
      simp only [List.set_cons_succ, HasF, OKL, denC_cons, c, List.append_assoc, and_true]
      exact ⟨⟨h.1, h.2.1, a⟩, ok.1, b⟩
  | [], _ :: _, _, _, h, _, _, _, _ => by simp [HasF] at h
  | _ :: _, [], _, _, h, _, _, _, _ => by simp [HasF] at h

theorem elem_at (P : Program) (ρ : Rho) : (l : List AV) → (e : TypeId) → HasA P l e → OKL P ρ l → (i : Nat) → i < l.length →
    ∃ v as bs, l[i]? = some v ∧ Has P v e ∧ OK P ρ v ∧ denC P ρ l = as ++ (cells P ρ v ++ bs) ∧ as.length = i * P.cellsOf e ∧
      ∀ u, Has P u e → OK P ρ u → HasA P (l.set i u) e ∧ OKL P ρ (l.set i u) ∧ denC P ρ (l.set i u) = as ++ (cells P ρ u ++ bs)
  | [], _, _, _, i, hi => by simp at hi
  | v :: l, e, h, ok, 0, _ => by
    simp only [HasA] at h
    simp only [OKL] at ok
    refine ⟨v, [], denC P ρ l, by simp, h.1, ok.1, by rw [denC_cons]; simp, by simp, fun u hu ou => ?_⟩
    simp only [List.set_cons_zero, HasA, OKL, denC_cons, List.nil_append, and_true]
    exact ⟨⟨hu, h.2⟩, ou, ok.2⟩
  | v :: l, e, h, ok, i + 1, hi => by
    simp only [HasA] at h
    simp only [OKL] at ok
    obtain ⟨x, as, bs, h1, h2, h3, h4, h5, h6⟩ := elem_at P ρ l e h.2 ok.2 i (by simpa using hi)
    refine ⟨x, cells P ρ v ++ as, bs, by simpa using h1, h2, h3, by rw [denC_cons, h4]; simp, ?_, fun u hu ou => ?_⟩
    · rw [List.length_append, len_cells P ρ v _ h.1 ok.1, h5, Nat.succ_mul]; omega
    · obtain ⟨a, b, c⟩ := h6 u hu ou
      simp only [List.set_cons_succ, HasA, OKL, denC_cons, c, List.append_assoc, and_true]
      exact ⟨⟨h.1, a⟩, ok.1, b⟩

theorem flatMap_congr' {α β : Type} {l : List α} {f g : α → List β} (h : ∀ x ∈ l, f x = g x) : l.flatMap f = l.flatMap g := by
  induction l with
  | nil => rfl
  | cons a l ih => rw [List.flatMap_cons, List.flatMap_cons, h a (by simp), ih fun x hx => h x (by simp [hx])]

theorem flat_at {α : Type} (c : Nat → List α) (s : Nat) (hc : ∀ i, (c i).length = s) (n i : Nat) (hi : i < n) :
    ∃ as bs, (List.range n).flatMap c = as ++ (c i ++ bs) ∧ as.length = i * s ∧ ∀ x, (List.range n).flatMap (fun j => if j = i then x else c j) = as ++ (x ++ bs) := by
  refine ⟨(List.range i).flatMap c, (List.range (n - i - 1)).flatMap (fun j => c (i + 1 + j)), ?_, ?_, fun x => ?_⟩
  · have e : List.range n = List.range i ++ (i :: (List.range (n - i - 1)).map (fun j => i + 1 + j)) := by
      have h1 : n = i + (1 + (n - i - 1)) := by omega
      conv => lhs; rw [h1, List.range_add, List.range_add]
      simp [Function.comp_def, Nat.add_assoc]
    rw [e, List.flatMap_append, List.flatMap_cons, List.flatMap_map]
  · clear hi
    induction i with
    | zero => simp
    | succ i ih => rw [List.range_succ, List.flatMap_append, List.length_append, ih]; simp [hc, Nat.succ_mul]
  · have e : List.range n = List.range i ++ (i :: (List.range (n - i - 1)).map (fun j => i + 1 + j)) := by
      have h1 : n = i + (1 + (n - i - 1)) := by omega
      conv => lhs; rw [h1, List.range_add, List.range_add]
      simp [Function.comp_def, Nat.add_assoc]
    rw [e, List.flatMap_append, List.flatMap_cons, List.flatMap_map]
    simp only [if_true]
    congr 1
    · refine flatMap_congr' fun j hj => ?_
      have := List.mem_range.1 hj
      rw [if_neg (by omega)]
    · congr 1
      refine flatMap_congr' fun j hj => ?_
      rw [if_neg (by omega)]

theorem getD_mem {l : List Int} {i : Nat} (h : i < l.length) : l.getD i 0 ∈ l := by
  rw [List.getD_eq_getElem?_getD, List.getElem?_eq_getElem h]; simp

theorem split_set {l : List Int} {i : Nat} (h : i < l.length) : l = l.take i ++ (l.getD i 0 :: l.drop (i + 1)) ∧ ∀ m, l.set i m = l.take i ++ (m :: l.drop (i + 1)) := by
  refine ⟨?_, fun m => ?_⟩
  · rw [List.getD_eq_getElem?_getD, List.getElem?_eq_getElem h]
    simp
  · rw [List.set_eq_take_append_cons_drop, if_pos h]

/-- One step down a path: where the part lies, and what becomes of the whole when the part is turned. -/
theorem step_down (P : Program) (ρ : Rho) (v : AV) (t : TypeId) (h : Has P v t) (ok : OK P ρ v) (i o : Nat) (e : TypeId) (hs : stepT P t i = some (o, e)) :
    ∃ u as bs, sub1 v i = some u ∧ Has P u e ∧ OK P ρ u ∧ cells P ρ v = as ++ (cells P ρ u ++ bs) ∧ as.length = o ∧
      ∀ x v', Has P x e → OK P ρ x → put1 v i x = some v' → Has P v' t ∧ OK P ρ v' ∧ cells P ρ v' = as ++ (cells P ρ x ++ bs) := by
  unfold stepT at hs
  cases v with
  | ints k n l =>
    simp only [Has] at h
    obtain ⟨e', hu, hk, h1, h2⟩ := h
    simp only [OK] at ok
    rw [hu] at hs
    simp only at hs
    split at hs
    · rename_i hi
      simp only [Option.some.injEq, Prod.mk.injEq] at hs
      obtain ⟨rfl, rfl⟩ := hs
      have hi' : i < l.length := by omega
      obtain ⟨s1, s2⟩ := split_set hi'
      refine ⟨.int k (l.getD i 0), (l.take i).map (Value.int k), (l.drop (i + 1)).map (Value.int k), rfl, ?_, ?_, ?_, ?_, ?_⟩
      · exact ⟨hk, h1⟩
      · exact ok.2 _ (getD_mem hi')
      · rw [cells_ints]
        conv => lhs; rw [s1]
        simp [cells, den, Value.cells]
      · simp [h1]; omega
      · intro x v' hx ox hp
        cases x <;> simp only [put1] at hp
        case int k' m =>
          split at hp
          · rename_i hkk
            subst hkk
            simp only [Option.some.injEq] at hp
            subst hp
            refine ⟨⟨e', hu, hk, h1, h2⟩, ⟨by simp [ok.1], fun y hy => ?_⟩, ?_⟩
            · rcases List.mem_or_eq_of_mem_set hy with h | h
              · exact ok.2 _ h
              · subst h; exact ox
            · rw [cells_ints, s2]
              simp [cells, den, Value.cells]
          · simp at hp
        all_goals simp at hp
    · simp at hs
  | agg l =>
    simp only [Has] at h
    simp only [OK] at ok
    rcases h with ⟨fs, hu, hf⟩ | ⟨n, e', hu, hl, ha, hc⟩
    · rw [hu] at hs
      simp only at hs
      split at hs
      · rename_i f hfi
        simp only [Option.some.injEq, Prod.mk.injEq] at hs
        obtain ⟨rfl, rfl⟩ := hs
        obtain ⟨u, as, bs, h1, h2, h3, h4, h5, h6⟩ := field_at P ρ l fs.toList 0 _ hf ok i f (by simpa using hfi)
        refine ⟨u, as, bs, (subL_eq (List.getElem?_eq_some_iff.1 h1).1).trans h1, h2, h3, by rw [cells_agg, h4], by omega, fun x v' hx ox hp => ?_⟩
        simp only [put1, Option.some.injEq] at hp
        subst hp
        obtain ⟨a, b, c⟩ := h6 x hx ox
        exact ⟨.inl ⟨fs, hu, a⟩, b, by rw [cells_agg, c]⟩
      · simp at hs
    · rw [hu] at hs
      simp only at hs
      split at hs
      · rename_i hi
        simp only [Option.some.injEq, Prod.mk.injEq] at hs
        obtain ⟨rfl, rfl⟩ := hs
        obtain ⟨u, as, bs, h1, h2, h3, h4, h5, h6⟩ := elem_at P ρ l e' ha ok i (by omega)
        refine ⟨u, as, bs, (subL_eq (List.getElem?_eq_some_iff.1 h1).1).trans h1, h2, h3, by rw [cells_agg, h4], h5, fun x v' hx ox hp => ?_⟩
        simp only [put1, Option.some.injEq] at hp
        subst hp
        obtain ⟨a, b, c⟩ := h6 x hx ox
        exact ⟨.inr ⟨n, e', hu, by simp [hl], a, hc⟩, b, by rw [cells_agg, c]⟩
      · simp at hs
  | rows n f =>
    simp only [Has] at h
    simp only [OK] at ok
    obtain ⟨e', hu, ha, hc⟩ := h
    rw [hu] at hs
    simp only at hs
    split at hs
    · rename_i hi
      simp only [Option.some.injEq, Prod.mk.injEq] at hs
      obtain ⟨rfl, rfl⟩ := hs
      obtain ⟨as, bs, h1, h2, h3⟩ := flat_at (fun j => cells P ρ (f j)) (P.cellsOf e') (fun j => len_cells P ρ (f j) e' (ha j) (ok j)) n i hi
      refine ⟨f i, as, bs, rfl, ha i, ok i, by rw [cells_rows, h1], h2, fun x v' hx ox hp => ?_⟩
      simp only [put1, Option.some.injEq] at hp
      subst hp
      refine ⟨⟨e', hu, fun j => ?_, hc⟩, fun j => ?_, ?_⟩
      · dsimp only; split <;> simp_all
      · dsimp only; split <;> simp_all
      · rw [cells_rows, ← h3]
        refine flatMap_congr' fun j _ => ?_
        split <;> rfl
    · simp at hs
  | tup l => simp [Has] at h
  | vec c l => simp [Has] at h
  | dc _ _ => simp [Has] at h
  | itr _ _ => simp [Has] at h
  | itp _ => simp [Has] at h
  | _ =>
    simp only [Has] at h
    first
      | (obtain ⟨⟨e', h⟩, -⟩ := h; rw [h] at hs; simp at hs)
      | (obtain ⟨⟨a, b, c, h⟩, -⟩ := h; rw [h] at hs; simp at hs)
      | (obtain ⟨h, -⟩ := h; rw [h] at hs; simp at hs)

theorem path_down (P : Program) (ρ : Rho) : (p : List Nat) → (v : AV) → (t : TypeId) → Has P v t → OK P ρ v → (o : Nat) → (e : TypeId) → pathT P t p = some (o, e) →
    ∃ u as bs, getP v p = some u ∧ Has P u e ∧ OK P ρ u ∧ cells P ρ v = as ++ (cells P ρ u ++ bs) ∧ as.length = o ∧
      ∀ x v', Has P x e → OK P ρ x → setP v p x = some v' → Has P v' t ∧ OK P ρ v' ∧ cells P ρ v' = as ++ (cells P ρ x ++ bs)
  | [], v, t, h, ok, o, e, hp => by
    simp only [pathT, Option.some.injEq, Prod.mk.injEq] at hp
    obtain ⟨rfl, rfl⟩ := hp
    refine ⟨v, [], [], rfl, h, ok, by simp, rfl, fun x v' hx ox hs => ?_⟩
    simp only [setP, Option.some.injEq] at hs
    subst hs
    exact ⟨hx, ox, by simp⟩
  | i :: p, v, t, h, ok, o, e, hp => by
    simp only [pathT] at hp
    split at hp
    · rename_i o1 e1 hst
      split at hp
      · rename_i o2 e2 hpt
        simp only [Option.some.injEq, Prod.mk.injEq] at hp
        obtain ⟨rfl, rfl⟩ := hp
        obtain ⟨u, as, bs, h1, h2, h3, h4, h5, h6⟩ := step_down P ρ v t h ok i o1 e1 hst
        obtain ⟨w, cs, ds, k1, k2, k3, k4, k5, k6⟩ := path_down P ρ p u e1 h2 h3 o2 e2 hpt
        refine ⟨w, as ++ cs, ds ++ bs, by simp [getP, h1, k1], k2, k3, by rw [h4, k4]; simp, by simp [h5, k5], fun x v' hx ox hs => ?_⟩
        simp only [setP, h1] at hs
        split at hs
        · rename_i u' hu'
          obtain ⟨a, b, c⟩ := k6 x u' hx ox hu'
          obtain ⟨a', b', c'⟩ := h6 u' v' a b hs
          exact ⟨a', b', by rw [c', c]; simp⟩
        · simp at hs
      · simp at hp
    · simp at hp

theorem HasA.get {P : Program} : {l : List AV} → {e : TypeId} → HasA P l e → ∀ v ∈ l, Has P v e
  | [], _, _, _, h => by simp at h
  | u :: l, e, h, v, hv => by
    simp only [HasA] at h
    rcases List.mem_cons.1 hv with rfl | hv
    · exact h.1
    · exact HasA.get h.2 v hv

/-- An element's place in a typed row. -/
theorem vec_at {c : Tc} {l : List c.T} {s : Nat} (hs : ∀ x ∈ l, (c.cs x).length = s) {i : Nat} (hi : i < l.length) : ∃ as bs, l.flatMap c.cs = as ++ (c.cs (l.getD i c.dft) ++ bs) ∧ as.length = i * s ∧ ∀ x, (l.set i x).flatMap c.cs = as ++ (c.cs x ++ bs) := by
  refine ⟨(l.take i).flatMap c.cs, (l.drop (i + 1)).flatMap c.cs, ?_, ?_, fun x => ?_⟩
  · have e : l = l.take i ++ (l.getD i c.dft :: l.drop (i + 1)) := by
      rw [List.getD_eq_getElem?_getD, List.getElem?_eq_getElem hi]
      simp
    conv => lhs; rw [e]
    rw [List.flatMap_append, List.flatMap_cons]
  · have key : ∀ m : List c.T, (∀ x ∈ m, (c.cs x).length = s) → (m.flatMap c.cs).length = m.length * s := by
      intro m
      induction m with
      | nil => simp
      | cons x m ih => intro h; rw [List.flatMap_cons, List.length_append, h x (by simp), ih fun y hy => h y (by simp [hy]), List.length_cons, Nat.succ_mul, Nat.add_comm]
    rw [key _ fun x hx => hs x (List.mem_of_mem_take hx), List.length_take, Nat.min_eq_left (Nat.le_of_lt hi)]
  · rw [List.set_eq_take_append_cons_drop, if_pos hi, List.flatMap_append, List.flatMap_cons]
theorem vec_len (P : Program) {c : Tc} {t : TypeId} (h : c.fit P t = true) {x : c.T} (ok : c.ok x) : (c.cs x).length = P.cellsOf t := by
  have := len_cells P (fun _ => none) (c.mk x) t (Tc.fit_has h x) (Tc.ok_mk.2 ok)
  rwa [cells_mk] at this
theorem flat_len (P : Program) {c : Tc} {t : TypeId} (h : c.fit P t = true) {l : List c.T} (ok : ∀ x ∈ l, c.ok x) : (l.flatMap c.cs).length = l.length * P.cellsOf t := by
  induction l with
  | nil => simp
  | cons x l ih => rw [List.flatMap_cons, List.length_append, vec_len P h (ok x (by simp)), ih fun y hy => ok y (by simp [hy]), List.length_cons, Nat.succ_mul, Nat.add_comm]
theorem getD_mem' {α : Type} {l : List α} {d : α} {i : Nat} (h : i < l.length) : l.getD i d ∈ l := by
  rw [List.getD_eq_getElem?_getD, List.getElem?_eq_getElem h]; simp

/-- The same for a whole stretch. -/
theorem name_down (P : Program) (ρ : Rho) (nm : Nm) (p : List Nat) (v : AV) (h : HasN P nm v) (ok : OK P ρ v) (o : Nat) (e : TypeId) (hp : pathN P nm p = some (o, e)) :
    ∃ u as bs, getP v p = some u ∧ Has P u e ∧ OK P ρ u ∧ cells P ρ v = as ++ (cells P ρ u ++ bs) ∧ as.length = o ∧
      ∀ x v', Has P x e → OK P ρ x → setP v p x = some v' → HasN P nm v' ∧ OK P ρ v' ∧ cells P ρ v' = as ++ (cells P ρ x ++ bs) := by
  unfold pathN at hp
  by_cases hr : nm.row = true
  · rw [if_pos hr] at hp
    cases p with
    | nil => simp at hp
    | cons i q =>
      simp only at hp
      split at hp
      · rename_i hi
        split at hp
        · rename_i o1 u1 hq
          simp only [Option.some.injEq, Prod.mk.injEq] at hp
          obtain ⟨rfl, rfl⟩ := hp
          simp only [HasN, hr, if_true] at h
          -- one step into the row
          have one : ∃ u as bs, sub1 v i = some u ∧ Has P u nm.ty ∧ OK P ρ u ∧ cells P ρ v = as ++ (cells P ρ u ++ bs) ∧ as.length = i * P.cellsOf nm.ty ∧
              ∀ x v', Has P x nm.ty → OK P ρ x → put1 v i x = some v' → HasN P nm v' ∧ OK P ρ v' ∧ cells P ρ v' = as ++ (cells P ρ x ++ bs) := by
            cases v with
            | ints k n l =>
              simp only at h
              obtain ⟨rfl, hu, h1⟩ := h
              simp only [OK] at ok
              have hi' : i < l.length := by omega
              obtain ⟨s1, s2⟩ := split_set hi'
              refine ⟨.int k (l.getD i 0), (l.take i).map (Value.int k), (l.drop (i + 1)).map (Value.int k), rfl, ⟨hu, h1⟩, ok.2 _ (getD_mem hi'), ?_, ?_, ?_⟩
              · rw [cells_ints]
                conv => lhs; rw [s1]
                simp [cells, den, Value.cells]
              · simp [h1]; omega
              · intro x v' hx ox hp
                cases x <;> simp only [put1] at hp
                case int k' m =>
                  split at hp
                  · rename_i hkk
                    subst hkk
                    simp only [Option.some.injEq] at hp
                    subst hp
                    refine ⟨?_, ⟨by simp [ok.1], fun y hy => ?_⟩, ?_⟩
                    · simp only [HasN, hr, if_true]; exact ⟨trivial, hu, h1⟩
                    · rcases List.mem_or_eq_of_mem_set hy with h | h
                      · exact ok.2 _ h
                      · subst h; exact ox
                    · rw [cells_ints, s2]
                      simp [cells, den, Value.cells]
                  · simp at hp
                all_goals simp at hp
            | agg l =>
              simp only at h
              simp only [OK] at ok
              obtain ⟨u, as, bs, h1, h2, h3, h4, h5, h6⟩ := elem_at P ρ l nm.ty h.2 ok i (by omega)
              refine ⟨u, as, bs, (subL_eq (List.getElem?_eq_some_iff.1 h1).1).trans h1, h2, h3, by rw [cells_agg, h4], h5, fun x v' hx ox hp => ?_⟩
              simp only [put1, Option.some.injEq] at hp
              subst hp
              obtain ⟨a, b, c⟩ := h6 x hx ox
              refine ⟨?_, b, by rw [cells_agg, c]⟩
              simp only [HasN, hr, if_true]; exact ⟨by simp [h.1], a⟩
            | rows n f =>
              simp only at h
              simp only [OK] at ok
              obtain ⟨rfl, ha⟩ := h
              obtain ⟨as, bs, h1, h2, h3⟩ := flat_at (fun j => cells P ρ (f j)) (P.cellsOf nm.ty) (fun j => len_cells P ρ (f j) _ (ha j) (ok j)) nm.cap i hi
              refine ⟨f i, as, bs, rfl, ha i, ok i, by rw [cells_rows, h1], h2, fun x v' hx ox hp => ?_⟩
              simp only [put1, Option.some.injEq] at hp
              subst hp
              refine ⟨?_, fun j => ?_, ?_⟩
              · simp only [HasN, hr, if_true]; refine ⟨trivial, fun j => ?_⟩; split <;> simp_all
              · dsimp only; split <;> simp_all
              · rw [cells_rows, ← h3]
                refine flatMap_congr' fun j _ => ?_
                split <;> rfl
            | vec c l =>
              simp only at h
              simp only [OK] at ok
              obtain ⟨hl, hf⟩ := h
              have hi' : i < l.length := by omega
              obtain ⟨as, bs, h1, h2, h3⟩ := vec_at (s := P.cellsOf nm.ty) (fun x hx => vec_len P hf (ok x hx)) hi'
              refine ⟨c.mk (l.getD i c.dft), as, bs, rfl, Tc.fit_has hf _, Tc.ok_mk.2 (ok _ (getD_mem' hi')), by rw [cells_vec, cells_mk, h1], h2, fun x v' hx ox hp => ?_⟩
              simp only [put1] at hp
              split at hp
              · rename_i y hy
                simp only [Option.some.injEq] at hp
                subst hp
                obtain rfl := Tc.get_mk hy
                refine ⟨?_, fun z hz => ?_, by rw [cells_vec, cells_mk, h3]⟩
                · simp only [HasN, hr, if_true]; exact ⟨by simp [hl], hf⟩
                · rcases List.mem_or_eq_of_mem_set hz with h | h
                  · exact ok _ h
                  · subst h; exact Tc.ok_mk.1 ox
              · cases hp
            | itr _ _ => exact absurd h.1 (by omega)
            | _ => simp at h
          obtain ⟨u, as, bs, h1, h2, h3, h4, h5, h6⟩ := one
          obtain ⟨w, cs, ds, k1, k2, k3, k4, k5, k6⟩ := path_down P ρ q u nm.ty h2 h3 o1 u1 hq
          refine ⟨w, as ++ cs, ds ++ bs, by simp [getP, h1, k1], k2, k3, by rw [h4, k4]; simp, by simp [h5, k5], fun x v' hx ox hs => ?_⟩
          simp only [setP, h1] at hs
          split at hs
          · rename_i u' hu'
            obtain ⟨a, b, c⟩ := k6 x u' hx ox hu'
            obtain ⟨a', b', c'⟩ := h6 u' v' a b hs
            exact ⟨a', b', by rw [c', c]; simp⟩
          · simp at hs
        · simp at hp
      · simp at hp
  · rw [if_neg hr] at hp
    simp only [HasN, hr] at h
    obtain ⟨u, as, bs, h1, h2, h3, h4, h5, h6⟩ := path_down P ρ p v nm.ty (by simpa using h) ok o e hp
    refine ⟨u, as, bs, h1, h2, h3, h4, h5, fun x v' hx ox hs => ?_⟩
    obtain ⟨a, b, c⟩ := h6 x v' hx ox hs
    exact ⟨by simp only [HasN, hr]; simpa using a, b, c⟩

/-- No cell of a value that has a type is an aggregate or a tuple. -/
def one (x : Value) : Prop := x.oneCell' = true
mutual
theorem one_cells (P : Program) (ρ : Rho) : (v : AV) → (t : TypeId) → Has P v t → ∀ x ∈ cells P ρ v, x.oneCell' = true
  | .int _ _, t, _, x, hx => by simp [cells, den, Value.cells] at hx; subst hx; rfl
  | .bool _, t, _, x, hx => by simp [cells, den, Value.cells] at hx; subst hx; rfl
  | .str _, t, _, x, hx => by simp [cells, den, Value.cells] at hx; subst hx; rfl
  | .ptr b _ _, t, _, x, hx => by cases hb : ρ b <;> simp [cells, den, Value.cells, hb] at hx <;> subst hx <;> rfl
  | .nilp, t, _, x, hx => by simp [cells, den, Value.cells] at hx; subst hx; rfl
  | .sl b _ _ _ _ _, t, _, x, hx => by cases hb : ρ b <;> simp [cells, den, Value.cells, hb] at hx <;> subst hx <;> rfl
  | .pa b _ _ _ _, t, _, x, hx => by cases hb : ρ b <;> simp [cells, den, Value.cells, hb] at hx <;> subst hx <;> rfl
  | .nils, t, _, x, hx => by simp [cells, den, Value.cells] at hx; subst hx; rfl
  | .gs b _ _, t, _, x, hx => by
    cases hb : ρ b with
    | none => simp [cells, den, Value.cells, hb] at hx; subst hx; rfl
    | some nm => cases hn : nm.non <;> simp [cells, den, gsV, Value.cells, hb, hn] at hx <;> subst hx <;> rfl
  | .clo _ _, t, _, x, hx => by simp [cells, den, Value.cells] at hx; subst hx; rfl
  | .nilfn, t, _, x, hx => by simp [cells, den, Value.cells] at hx; subst hx; rfl
  | .nilif, t, _, x, hx => by simp [cells, den, Value.cells] at hx; subst hx; rfl
  | .ifc _ _, t, _, x, hx => by simp [cells, den, Value.cells] at hx; subst hx; rfl
  | .ints k n l, t, _, x, hx => by rw [cells_ints] at hx; obtain ⟨y, -, rfl⟩ := List.mem_map.1 hx; rfl
  | .agg l, t, h, x, hx => by
    rw [cells_agg] at hx
    simp only [Has] at h
    rcases h with ⟨fs, -, hf⟩ | ⟨n, e, -, -, ha, -⟩
    · exact one_F P ρ l fs.toList 0 _ hf x hx
    · exact one_A P ρ l e ha x hx
  | .rows n f, t, h, x, hx => by
    rw [cells_rows] at hx
    simp only [Has] at h
    obtain ⟨e, -, h2, -⟩ := h
    obtain ⟨i, -, hi⟩ := List.mem_flatMap.1 hx
    exact one_cells P ρ (f i) e (h2 i) x hi
  | .tup _, _, h, _, _ => by simp [Has] at h
  | .vec _ _, _, h, _, _ => by simp [Has] at h
  | .gp b _ _ _ _ _, t, _, x, hx => by
    cases hb : ρ b with
    | none => simp [cells, den, Value.cells, hb] at hx; subst hx; rfl
    | some nm => cases hn : nm.non <;> simp [cells, den, gpV, Value.cells, hb, hn] at hx <;> subst hx <;> rfl
  | .dv b p _ _ _, t, _, x, hx => by
    cases hb : ρ b with
    | none => simp [cells, den, Value.cells, hb] at hx; subst hx; rfl
    | some nm => cases hn : dloc nm.K (nmL nm) p <;> simp [cells, den, dvV, Value.cells, hb, hn] at hx <;> subst hx <;> rfl
  | .dq b p _ _ _ _, t, _, x, hx => by
    cases hb : ρ b with
    | none => simp [cells, den, Value.cells, hb] at hx; subst hx; rfl
    | some nm => cases hn : dloc nm.K (nmL nm) p <;> simp [cells, den, dqV, Value.cells, hb, hn] at hx <;> subst hx <;> rfl
  | .dc _ _, _, h, _, _ => by simp [Has] at h
  | .itr _ _, _, h, _, _ => by simp [Has] at h
  | .itp _, _, h, _, _ => by simp [Has] at h
theorem one_F (P : Program) (ρ : Rho) : (l : List AV) → (fs : List Field) → (o s : Nat) → HasF P l fs o s → ∀ x ∈ denC P ρ l, x.oneCell' = true
  | [], [], _, _, _, x, hx => by simp [denC] at hx
  | v :: l, f :: fs, o, s, h, x, hx => by
    simp only [HasF] at h
    rw [denC_cons] at hx
    rcases List.mem_append.1 hx with hx | hx
    · exact one_cells P ρ v _ h.2.1 x hx
    · exact one_F P ρ l fs _ s h.2.2 x hx
  | [], _ :: _, _, _, h, _, _ => by simp [HasF] at h
  | _ :: _, [], _, _, h, _, _ => by simp [HasF] at h
theorem one_A (P : Program) (ρ : Rho) : (l : List AV) → (e : TypeId) → HasA P l e → ∀ x ∈ denC P ρ l, x.oneCell' = true
  | [], _, _, x, hx => by simp [denC] at hx
  | v :: l, e, h, x, hx => by
    simp only [HasA] at h
    rw [denC_cons] at hx
    rcases List.mem_append.1 hx with hx | hx
    · exact one_cells P ρ v _ h.1 x hx
    · exact one_A P ρ l e h.2 x hx
end

/-- More names come into use. -/
def Ext (ρ ρ' : Rho) : Prop := ∀ b nm, ρ b = some nm → ρ' b = some nm
theorem Ext.refl (ρ : Rho) : Ext ρ ρ := fun _ _ h => h
theorem Ext.trans {a b c : Rho} (h : Ext a b) (h' : Ext b c) : Ext a c := fun _ _ k => h' _ _ (h _ _ k)
theorem Ext.empty (ρ : Rho) : Ext (fun _ => none) ρ := fun _ _ h => by simp at h

mutual
theorem den_ext (P : Program) {ρ ρ' : Rho} (h : Ext ρ ρ') : (v : AV) → OK P ρ v → den P ρ' v = den P ρ v ∧ OK P ρ' v
  | .int _ _, ok => ⟨by simp [den], by simpa [OK] using ok⟩
  | .bool _, _ => ⟨by simp [den], by simp [OK]⟩
  | .str _, ok => ⟨by simp [den], by simpa [OK] using ok⟩
  | .ptr b p t, ok => by
    simp only [OK] at ok ⊢
    obtain ⟨nm, o, hb, hp⟩ := ok
    have hb' := h b nm hb
    exact ⟨by simp [den, hb, hb'], nm, o, hb', hp⟩
  | .nilp, _ => ⟨by simp [den], by simp [OK]⟩
  | .sl b p off len cap t, ok => by
    simp only [OK] at ok ⊢
    obtain ⟨nm, o, n, hb, hp⟩ := ok
    have hb' := h b nm hb
    exact ⟨by simp [den, hb, hb'], nm, o, n, hb', hp⟩
  | .pa b p off n t, ok => by
    simp only [OK] at ok ⊢
    obtain ⟨nm, o, m, hb, hp⟩ := ok
    have hb' := h b nm hb
    exact ⟨by simp [den, hb, hb'], nm, o, m, hb', hp⟩
  | .nils, _ => ⟨by simp [den], by simp [OK]⟩
  | .gs b n t, ok => by
    simp only [OK] at ok ⊢
    obtain ⟨nm, hb, hp⟩ := ok
    have hb' := h b nm hb
    exact ⟨by simp [den, hb, hb'], nm, hb', hp⟩
  | .clo f l, ok => by
    simp only [OK] at ok ⊢
    obtain ⟨-, b, c⟩ := denL_ext P h l ok
    exact ⟨by simp [den, b], c⟩
  | .nilfn, _ => ⟨by simp [den], by simp [OK]⟩
  | .nilif, _ => ⟨by simp [den], by simp [OK]⟩
  | .ifc t v, ok => by
    simp only [OK] at ok ⊢
    obtain ⟨a, b⟩ := den_ext P h v ok
    exact ⟨by simp [den, a], b⟩
  | .ints k n l, ok => ⟨by simp [den], by simpa [OK] using ok⟩
  | .agg l, ok => by
    simp only [OK] at ok ⊢
    obtain ⟨a, -, c⟩ := denL_ext P h l ok
    exact ⟨by simp [den, a], c⟩
  | .rows n f, ok => by
    simp only [OK] at ok ⊢
    have key := fun i => den_ext P h (f i) (ok i)
    refine ⟨?_, fun i => (key i).2⟩
    simp only [den]
    congr 2
    exact flatMap_congr' fun i _ => by rw [(key i).1]
  | .tup l, ok => by
    simp only [OK] at ok ⊢
    obtain ⟨-, b, c⟩ := denL_ext P h l ok
    exact ⟨by simp [den, b], c⟩
  | .vec c l, ok => ⟨by simp [den], by simpa [OK] using ok⟩
  | .gp b _ _ _ _ _, ok => by
    simp only [OK] at ok ⊢
    obtain ⟨nm, hb, hp⟩ := ok
    have hb' := h b nm hb
    exact ⟨by simp [den, hb, hb'], nm, hb', hp⟩
  | .dv b _ _ _ _, ok => by
    simp only [OK] at ok ⊢
    obtain ⟨nm, l, hb, hp⟩ := ok
    have hb' := h b nm hb
    exact ⟨by simp [den, hb, hb'], nm, l, hb', hp⟩
  | .dq b _ _ _ _ _, ok => by
    simp only [OK] at ok ⊢
    obtain ⟨nm, b', o', c, hb, hp⟩ := ok
    have hb' := h b nm hb
    exact ⟨by simp [den, hb, hb'], nm, b', o', c, hb', hp⟩
  | .dc _ _, _ => ⟨by simp [den], by simp [OK]⟩
  | .itr _ _, ok => ⟨by simp [den], by simpa [OK] using ok⟩
  | .itp b, ok => by
    simp only [OK] at ok ⊢
    obtain ⟨nm, hb⟩ := ok
    have hb' := h b nm hb
    exact ⟨by simp [den, hb, hb'], nm, hb'⟩
theorem denL_ext (P : Program) {ρ ρ' : Rho} (h : Ext ρ ρ') : (l : List AV) → OKL P ρ l → denC P ρ' l = denC P ρ l ∧ denT P ρ' l = denT P ρ l ∧ OKL P ρ' l
  | [], _ => by simp [denC, denT, OKL]
  | v :: l, ok => by
    simp only [OKL] at ok ⊢
    obtain ⟨a, b⟩ := den_ext P h v ok.1
    obtain ⟨c, d, e⟩ := denL_ext P h l ok.2
    exact ⟨by simp [denC, a, c], by simp [denT, a, d], b, e⟩
end

theorem cells_ext (P : Program) {ρ ρ' : Rho} (h : Ext ρ ρ') (v : AV) (ok : OK P ρ v) : cells P ρ' v = cells P ρ v := by
  unfold cells; rw [(den_ext P h v ok).1]

mutual
/-- No name occurs. -/
def pl : AV → Bool
  | .ptr _ _ _ => false
  | .sl _ _ _ _ _ _ => false
  | .pa _ _ _ _ _ => false
  | .gs _ _ _ => false
  | .gp _ _ _ _ _ _ => false
  | .dv _ _ _ _ _ => false
  | .dq _ _ _ _ _ _ => false
  | .itp _ => false
  | .itr _ _ => false
  | .clo _ l => plL l
  | .ifc _ v => pl v
  | .agg l => plL l
  | .rows _ _ => false
  | .tup l => plL l
  | _ => true
def plL : List AV → Bool
  | [] => true
  | v :: l => pl v && plL l
end

mutual
theorem pl_ok (P : Program) {ρ : Rho} : (v : AV) → pl v = true → OK P ρ v → OK P (fun _ => none) v
  | .int _ _, _, ok => by simpa [OK] using ok
  | .bool _, _, _ => by simp [OK]
  | .str _, _, ok => by simpa [OK] using ok
  | .ptr _ _ _, h, _ => by simp [pl] at h
  | .nilp, _, _ => by simp [OK]
  | .sl _ _ _ _ _ _, h, _ => by simp [pl] at h
  | .pa _ _ _ _ _, h, _ => by simp [pl] at h
  | .nils, _, _ => by simp [OK]
  | .gs _ _ _, h, _ => by simp [pl] at h
  | .clo _ l, h, ok => by simp only [pl] at h; simp only [OK] at ok ⊢; exact plL_ok P l h ok
  | .nilfn, _, _ => by simp [OK]
  | .nilif, _, _ => by simp [OK]
  | .ifc _ v, h, ok => by simp only [pl] at h; simp only [OK] at ok ⊢; exact pl_ok P v h ok
  | .ints _ _ _, _, ok => by simpa [OK] using ok
  | .agg l, h, ok => by simp only [pl] at h; simp only [OK] at ok ⊢; exact plL_ok P l h ok
  | .rows _ _, h, _ => by simp [pl] at h
  | .tup l, h, ok => by simp only [pl] at h; simp only [OK] at ok ⊢; exact plL_ok P l h ok
  | .vec _ _, _, ok => by simpa [OK] using ok
  | .gp _ _ _ _ _ _, h, _ => by simp [pl] at h
  | .dv _ _ _ _ _, h, _ => by simp [pl] at h
  | .dq _ _ _ _ _ _, h, _ => by simp [pl] at h
  | .dc _ _, _, _ => by simp [OK]
  | .itr _ _, h, _ => by simp [pl] at h
  | .itp _, h, _ => by simp [pl] at h
theorem plL_ok (P : Program) {ρ : Rho} : (l : List AV) → plL l = true → OKL P ρ l → OKL P (fun _ => none) l
  | [], _, _ => by simp [OKL]
  | v :: l, h, ok => by
    simp only [plL, Bool.and_eq_true] at h
    simp only [OKL] at ok ⊢
    exact ⟨pl_ok P v h.1 ok.1, plL_ok P l h.2 ok.2⟩
end

end Go.Vx
