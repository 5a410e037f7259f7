/- The engine, part G: soundness of an operation. -/
import Derived.Test.YtoionfdfofmplaaVxF
import Derived.Laws.Tables
set_option autoImplicit false
set_option linter.unusedVariables false
set_option linter.unusedSimpArgs false
namespace Go.Vx
open Go Go.RowKit

theorem fold_lay : (xs : List Value) → (as old bs : List Value) → xs.length = old.length → (k : Nat) →
    (xs.zipIdx k).foldl (fun (cs : Array Value) (p : Value × Nat) => cs.setIfInBounds (as.length - k + p.2) p.1) (as ++ (old ++ bs)).toArray = (as ++ (xs ++ bs)).toArray ∨ k > as.length
  | xs, as, old, bs, h, k => by
    rcases Nat.lt_or_ge as.length k with hk | hk
    · exact .inr hk
    · left
      induction xs generalizing as old k with
      | nil => cases old with
        | nil => rfl
        | cons => simp at h
      | cons x xs ih => cases old with
        | nil => simp at h
        | cons y old =>
          simp only [List.zipIdx_cons, List.foldl_cons]
          have e : (as ++ (y :: old ++ bs)).toArray.setIfInBounds (as.length - k + k) x = ((as ++ [x]) ++ (old ++ bs)).toArray := by
            rw [show as.length - k + k = as.length by omega]
            simp
          rw [e]
          have := ih (as ++ [x]) old (by simpa using h) (k + 1) (by simp; omega)
          rw [show (as ++ [x]).length - (k + 1) = as.length - k by simp] at this
          rw [this]
          simp

theorem fill_one (as old bs xs : List Value) (h : xs.length = old.length) (v : Value) (hv : v.cells.toList = xs) :
    v.cells.zipIdx.foldl (fun (cs : Array Value) (p : Value × Nat) => cs.setIfInBounds (as.length + p.2) p.1) (as ++ (old ++ bs)).toArray = (as ++ (xs ++ bs)).toArray := by
  have := fold_lay xs as old bs h 0
  rcases this with this | this
  · rw [← this, ← Array.foldl_toList]
    simp [hv]
  · omega

theorem fill_sound (P : Program) (ρ : Rho) (t : TypeId) (place : Nat → Option (Nat × Nat)) (hplace : ∀ i o e, stepT P t i = some (o, e) → place i = some (o, P.cellsOf e)) :
    (vs : List (Nat × AV)) → (z v : AV) → Has P z t → OK P ρ z → (∀ x ∈ vs, OK P ρ x.2) → fillAV P t z vs = some v →
    Instr.fill place (cells P ρ z).toArray (vs.map fun x => (x.1, den P ρ x.2)) = some (cells P ρ v).toArray ∧ Has P v t ∧ OK P ρ v
  | [], z, v, hz, oz, _, h => by
    simp only [fillAV, Option.some.injEq] at h
    subst h
    exact ⟨rfl, hz, oz⟩
  | (i, x) :: vs, z, v, hz, oz, ho, h => by
    simp only [fillAV] at h
    split at h
    · rename_i o e hs
      replace h := cond_some h
      obtain ⟨hc, h⟩ := h
      split at h
      · rename_i z' hz'
        have hx := has_of_chk P x e hc
        have ox := ho (i, x) (by simp)
        obtain ⟨u, as, bs, h1, h2, h3, h4, h5, h6⟩ := step_down P ρ z t hz oz i o e hs
        obtain ⟨k1, k2, k3⟩ := h6 x z' hx ox hz'
        have lx := len_cells P ρ x e hx ox
        have lu := len_cells P ρ u e h2 h3
        have hsz : (den P ρ x).cells.size = P.cellsOf e := by rw [← lx]; simp [cells]
        have ih := fill_sound P ρ t place hplace vs z' v k1 k2 (fun y hy => ho y (by simp [hy])) h
        refine ⟨?_, ih.2⟩
        simp only [List.map_cons, Instr.fill, hplace i o e hs]
        have g1 : ¬ ((den P ρ x).cells.size ≠ P.cellsOf e || o + (den P ρ x).cells.size > (cells P ρ z).toArray.size) = true := by
          simp [hsz, h4, h5.symm, lu]
        rw [if_neg g1]
        have := fill_one as (cells P ρ u) bs (cells P ρ x) (by rw [lx, lu]) (den P ρ x) rfl
        rw [h5, ← h4, ← k3] at this
        rw [this]
        exact ih.1
      · simp at h
    · simp at h

theorem hasF_infos {P : Program} : (l : List AV) → (fs : List Field) → (o s : Nat) → HasF P l fs o s → fs.mapM (fun f => (P.info? f.type).map fun i => (f.offset, i.size)) = some (fs.map fun f => (f.offset, P.cellsOf f.type))
  | [], [], _, _, _ => by simp
  | v :: l, f :: fs, o, s, h => by
    simp only [HasF] at h
    obtain ⟨d, hd, -⟩ := has_wide h.2.1
    obtain ⟨i, hi, hs⟩ := info_of hd
    simp [List.mapM_cons, hi, hasF_infos l fs _ _ h.2.2, hs]
  | [], _ :: _, _, _, h => by simp [HasF] at h
  | _ :: _, [], _, _, h => by simp [HasF] at h

theorem hasA_info {P : Program} {l : List AV} {e : TypeId} (h : HasA P l e) (hl : 0 < l.length) : ∃ i, P.info? e = some i ∧ P.cellsOf e = i.size := by
  cases l with
  | nil => simp at hl
  | cons v l =>
    simp only [HasA] at h
    obtain ⟨d, hd, -⟩ := has_wide h.1
    exact info_of hd

theorem build_sound {P : Program} (ρ : Rho) {t : TypeId} {z v : AV} {vs : List (Nat × AV)} (hz : zeroAV P t = some z) (hw0 : wide z = true) (hn : 0 < P.cellsOf t) (ho : ∀ x ∈ vs, OK P ρ x.2) (hf : fillAV P t z vs = some v) (w : World) :
    (Instr.build t (vs.map fun x => (x.1, den P ρ x.2)).toArray).run P w = .ok (den P ρ v) w ∧ Has P v t ∧ OK P ρ v := by
  obtain ⟨i, zv, hi, hzv, -, hzc, hz1, oz⟩ := zero_sound hz ρ
  have hcz : zv.cells = (cells P ρ z).toArray := by rw [← hzc]
  have hlen := len_cells P ρ z t hz1 oz
  have main : ∀ place, (∀ i o e, stepT P t i = some (o, e) → place i = some (o, P.cellsOf e)) →
      Instr.fill place zv.cells (vs.map fun x => (x.1, den P ρ x.2)) = some (cells P ρ v).toArray ∧ Has P v t ∧ OK P ρ v := by
    intro place hp
    rw [hcz]
    exact fill_sound P ρ t place hp vs z v hz1 oz ho hf
  have fin : P.built t (vs.map fun x => (x.1, den P ρ x.2)).toArray.toList = some (cells P ρ v).toArray → wide v = true → (Instr.build t (vs.map fun x => (x.1, den P ρ x.2)).toArray).run P w = .ok (den P ρ v) w := by
    intro hb hw
    rw [run_build w t _ _ hb, den_wide P ρ v hw]
  obtain ⟨d, hd, hw⟩ := has_wide hz1
  have key : ∀ d', P.underlying t = some d' → d' = d := fun d' h => by rw [hd] at h; simpa using h.symm
  cases z with
  | ints k n l =>
    have hz2 := hz1
    simp only [Has] at hz2
    obtain ⟨e, hu, hk, h1, h2⟩ := hz2
    obtain ⟨ie, hie, hse⟩ := info_of hk
    obtain ⟨m1, m2, m3⟩ := main (fun i => some (i * ie.size, ie.size)) (fun i o e' hs => by
      simp only [stepT, hu] at hs
      split at hs
      · simp only [Option.some.injEq, Prod.mk.injEq] at hs
        obtain ⟨rfl, rfl⟩ := hs
        simp [hse]
      · simp at hs)
    obtain ⟨d2, hd2, hw2⟩ := has_wide m2
    exact ⟨fin (by simp [Program.built, hi, hu, hzv, hie, m1]) (by rw [← hw2, key d2 hd2, hw]; rfl), m2, m3⟩
  | agg l =>
    have hz2 := hz1
    simp only [Has] at hz2
    rcases hz2 with ⟨fs, hu, hF⟩ | ⟨n, e, hu, hl, hA, hs⟩
    · have hinf := hasF_infos l fs.toList 0 _ hF
      obtain ⟨m1, m2, m3⟩ := main ((fs.toList.map fun f => (f.offset, P.cellsOf f.type)).toArray[·]?) (fun i o e' hs => by
        simp only [stepT, hu] at hs
        split at hs
        · rename_i f hfi
          simp only [Option.some.injEq, Prod.mk.injEq] at hs
          obtain ⟨rfl, rfl⟩ := hs
          simp [hfi]
        · simp at hs)
      obtain ⟨d2, hd2, hw2⟩ := has_wide m2
      refine ⟨fin ?_ (by rw [← hw2, key d2 hd2, hw]; rfl), m2, m3⟩
      simp only [Program.built, hi, hu, hzv, hinf]
      exact m1
    · have hl0 : 0 < l.length := by
        rcases Nat.eq_zero_or_pos l.length with h0 | h0
        · rw [hs, ← hl, h0] at hn; simp at hn
        · exact h0
      obtain ⟨ie, hie, hse⟩ := hasA_info hA hl0
      obtain ⟨m1, m2, m3⟩ := main (fun i => some (i * ie.size, ie.size)) (fun i o e' hs => by
        simp only [stepT, hu] at hs
        split at hs
        · simp only [Option.some.injEq, Prod.mk.injEq] at hs
          obtain ⟨rfl, rfl⟩ := hs
          simp [hse]
        · simp at hs)
      obtain ⟨d2, hd2, hw2⟩ := has_wide m2
      exact ⟨fin (by simp [Program.built, hi, hu, hzv, hie, m1]) (by rw [← hw2, key d2 hd2, hw]; rfl), m2, m3⟩
  | rows n f =>
    have hz2 := hz1
    simp only [Has] at hz2
    obtain ⟨e, hu, hA, hs⟩ := hz2
    obtain ⟨d0, hd0, -⟩ := has_wide (hA 0)
    obtain ⟨ie, hie, hse⟩ := info_of hd0
    obtain ⟨m1, m2, m3⟩ := main (fun i => some (i * ie.size, ie.size)) (fun i o e' hs => by
      simp only [stepT, hu] at hs
      split at hs
      · simp only [Option.some.injEq, Prod.mk.injEq] at hs
        obtain ⟨rfl, rfl⟩ := hs
        simp [hse]
      · simp at hs)
    obtain ⟨d2, hd2, hw2⟩ := has_wide m2
    exact ⟨fin (by simp [Program.built, hi, hu, hzv, hie, m1]) (by rw [← hw2, key d2 hd2, hw]; rfl), m2, m3⟩
  | _ => simp [wide] at hw0

theorem put1_itr {v x v' : AV} {i : Nat} (h : put1 v i x = some v') : ∀ s p, v' ≠ .itr s p := by
  intro s p e
  subst e
  cases v <;> simp only [put1] at h
  case ints => cases x <;> simp only [put1] at h <;> first | (split at h <;> simp at h; done) | simp at h
  case vec => split at h <;> simp at h
  all_goals simp at h
theorem setP_itr {T v T' : AV} {p : List Nat} (h : setP T p v = some T') (hv : ∀ s p, v ≠ .itr s p) : ∀ s p, T' ≠ .itr s p := by
  cases p with
  | nil => simp only [setP, Option.some.injEq] at h; rw [← h]; exact hv
  | cons i q =>
    simp only [setP] at h
    split at h
    · split at h
      · exact put1_itr h
      · simp at h
    · simp at h

section
variable {P : Program} {w0 : Base} {ro : Nat} {ρ : Rho} {tm mem : List (Nat × AV)} {a : Act} {w : World} (S : Sim P w0 ro ρ tm mem a.tmps w)
  {gl : Nat → Option AV} (hgl : GL P ρ gl)
include S

/-- A cell of a live block, through a pointer. -/
theorem at_ptr {b : Nat} {p : List Nat} {t : TypeId} {T v : AV} (ok : OK P ρ (.ptr b p t)) (hT : lk b mem = some T) (hg : getP T p = some v) :
    ∃ nm o as bs, ρ b = some nm ∧ den P ρ (.ptr b p t) = .pointer (some ⟨nm.blk, nm.off + o, none⟩) ∧ Has P v t ∧ OK P ρ v ∧ HasN P nm T ∧ OK P ρ T ∧ cells P ρ T = as ++ (cells P ρ v ++ bs) ∧ as.length = o ∧
      (∀ j x, (cells P ρ v)[j]? = some x → w.cell? ⟨nm.blk, nm.off + o + j, none⟩ = some x) ∧
      ∀ x T', Has P x t → OK P ρ x → setP T p x = some T' → HasN P nm T' ∧ OK P ρ T' ∧ cells P ρ T' = as ++ (cells P ρ x ++ bs) := by
  simp only [OK] at ok
  obtain ⟨nm, o, hb, hp⟩ := ok
  obtain ⟨nm', hb', hN, oT, -, hc⟩ := S.cell b T hT
  rw [hb] at hb'
  obtain rfl := Option.some.inj hb'
  obtain ⟨u, as, bs, h1, h2, h3, h4, h5, h6⟩ := name_down P ρ nm p T hN oT o t hp
  rw [hg] at h1
  obtain rfl := Option.some.inj h1
  refine ⟨nm, o, as, bs, hb, den_ptr hb hp, h2, h3, hN, oT, h4, h5, fun j x hx => ?_, h6⟩
  rw [Nat.add_assoc]
  refine hc _ x ?_
  rw [h4, ← h5]
  exact LiesAt.append as (cells P ρ v) bs j x hx

/-- Where the numbers of a row or of an array lie, and of which type they are. -/
theorem base_ints {b : Nat} {p : List Nat} {T : AV} {nm : Nm} {o n m : Nat} {te : TypeId} {q : IntKind} {l : List Int} (hl : lk b mem = some T) (hb : ρ b = some nm) (hbase : baseN P nm p = some (o, n, te)) (hg : getP T p = some (.ints q m l)) :
    m = n ∧ l.length = n ∧ (∀ x ∈ l, q.min ≤ x ∧ x ≤ q.max) ∧ P.underlying te = some (.int q) ∧ P.cellsOf te = 1 ∧ LiesAt (cells P ρ T) o (cells P ρ (.ints q m l)) := by
  obtain ⟨nm', hb', hN, okT, hs, hcell⟩ := S.cell b T hl
  rw [hb] at hb'
  obtain rfl := Option.some.inj hb'
  have inner : ∀ u, pathN P nm p = some (o, u) → P.underlying u = some (.array n te) → m = n ∧ l.length = n ∧ (∀ x ∈ l, q.min ≤ x ∧ x ≤ q.max) ∧ P.underlying te = some (.int q) ∧ P.cellsOf te = 1 ∧ LiesAt (cells P ρ T) o (cells P ρ (.ints q m l)) := by
    intro u hp hu
    obtain ⟨x, as, bs, h1, h2, h3, h4, h5, -⟩ := name_down P ρ nm p T hN okT o u hp
    rw [hg] at h1
    obtain rfl := Option.some.inj h1
    simp only [Has] at h2
    simp only [OK] at h3
    obtain ⟨e, g1, g2, g3, g4⟩ := h2
    rw [hu] at g1
    simp only [Option.some.injEq, TypeDesc.array.injEq] at g1
    obtain ⟨rfl, rfl⟩ := g1
    refine ⟨rfl, h3.1, h3.2, g2, g3, ?_⟩
    rw [h4, ← h5]
    exact LiesAt.append as _ bs
  unfold baseN at hbase
  by_cases hr : nm.row = true
  · rw [if_pos hr] at hbase
    cases p with
    | nil =>
      simp only [Option.some.injEq, Prod.mk.injEq] at hbase
      obtain ⟨rfl, rfl, rfl⟩ := hbase
      simp only [getP, Option.some.injEq] at hg
      subst hg
      simp only [HasN, hr, if_true] at hN
      simp only [OK] at okT
      obtain ⟨rfl, k1, k2⟩ := hN
      exact ⟨rfl, okT.1, okT.2, k1, k2, fun j x hx => by rw [Nat.zero_add]; exact hx⟩
    | cons i q' =>
      simp only at hbase
      split at hbase
      · rename_i hi
        split at hbase
        · rename_i o1 u1 hq
          split at hbase
          · rename_i n1 e1 hu1
            simp only [Option.some.injEq, Prod.mk.injEq] at hbase
            obtain ⟨rfl, rfl, rfl⟩ := hbase
            exact inner u1 (by unfold pathN; rw [if_pos hr]; simp [hi, hq]) hu1
          · simp at hbase
        · simp at hbase
      · simp at hbase
  · rw [if_neg hr] at hbase
    split at hbase
    · rename_i o1 u1 hq
      split at hbase
      · rename_i n1 e1 hu1
        simp only [Option.some.injEq, Prod.mk.injEq] at hbase
        obtain ⟨rfl, rfl, rfl⟩ := hbase
        exact inner u1 (by unfold pathN; rw [if_neg hr]; exact hq) hu1
      · simp at hbase
    · simp at hbase

variable {Γ : FuncId → Option Ct} {get : Nat → Option AV} (hget : ∀ b T, get b = some T → lk b mem = some T) {m : Nat}
  {o : Oper} {e : Eff} {next : Act → World → Prop} {Q : Exit → Act → World → Prop} (hn : ∀ v ρ' w', After P ro ρ mem w m e v ρ' w' → next (a.put o.dst v) w')
include hn

omit S in
theorem put_val {u : AV} (he : e = .val u) (ok : OK P ρ u) (hr : (execOp a.eval o).run P w = .ok (.value (den P ρ u)) w) : o.wp P a w next Q := by
  subst he
  exact one_put hr (hn _ _ _ (.val u w ok (Below.refl _ _)))

include hgl

theorem s_move {x : Operand} {v : AV} (ho : o.op = .move x ∨ o.op = .assign x) (hx : evO gl tm x = some v) (he : e = .val v) : o.wp P a w next Q := by
  obtain ⟨h1, h2⟩ := ev_sound S hgl hx
  refine put_val hn he h2 ?_
  rcases ho with ho | ho <;> simp [execOp, ho, h1]

theorem s_pick {c x y : Operand} {b : Bool} {v u : AV} (ho : o.op = .pick c x y) (hc : evO gl tm c = some (.bool b)) (hx : evO gl tm x = some v) (hy : evO gl tm y = some u) (he : e = .val (cond b v u)) : o.wp P a w next Q := by
  obtain ⟨h1, -⟩ := ev_sound S hgl hc
  obtain ⟨h3, h4⟩ := ev_sound S hgl hx
  obtain ⟨h5, h6⟩ := ev_sound S hgl hy
  refine put_val hn he (by cases b <;> simpa) ?_
  cases b <;> simp [execOp, ho, h1, h3, h5, den, asBool]

omit S hgl in
theorem s_alloc {t : TypeId} {z : AV} (ho : o.op = .alloc t) (hz : zeroAV P t = some z) (he : e = .new t false 1 z fun b => .ptr b [] t) : o.wp P a w next Q := by
  obtain ⟨i, v, -, -, h1, h2, h3, h4⟩ := zero_sound hz ρ
  have hcz : v.cells = (cells P ρ z).toArray := by rw [← h2]
  have hb : upd ρ m ⟨w.heap.size, 0, 1, t, false, 1, false, nk⟩ m = some ⟨w.heap.size, 0, 1, t, false, 1, false, nk⟩ := by simp [upd]
  have hp : pathN P ⟨w.heap.size, 0, 1, t, false, 1, false, nk⟩ [] = some (0, t) := by simp [pathN, pathT]
  subst he
  refine one_put (v := den P (upd ρ m ⟨w.heap.size, 0, 1, t, false, 1, false, nk⟩) (.ptr m [] t)) (w' := w.alloc (.cells (cells P ρ z).toArray t)) ?_
    (hn _ _ _ (.new t false 1 z _ rfl (by simpa [HasN] using h3) h4 (by simp only [OK]; exact ⟨_, _, hb, hp⟩)))
  rw [den_ptr hb hp]
  simp [execOp, ho, Instr.alloc, h1, newVar, newRow, hcz]

theorem s_box {t : TypeId} {x : Operand} {v : AV} (ho : o.op = .box t x) (hx : evO gl tm x = some v) (hc : chk P v t = true) (he : e = .new t false 1 v fun b => .ptr b [] t) : o.wp P a w next Q := by
  obtain ⟨h1, h2⟩ := ev_sound S hgl hx
  have hcz : (den P ρ v).cells = (cells P ρ v).toArray := by simp [cells]
  have hb : upd ρ m ⟨w.heap.size, 0, 1, t, false, 1, false, nk⟩ m = some ⟨w.heap.size, 0, 1, t, false, 1, false, nk⟩ := by simp [upd]
  have hp : pathN P ⟨w.heap.size, 0, 1, t, false, 1, false, nk⟩ [] = some (0, t) := by simp [pathN, pathT]
  subst he
  refine one_put (v := den P (upd ρ m ⟨w.heap.size, 0, 1, t, false, 1, false, nk⟩) (.ptr m [] t)) (w' := w.alloc (.cells (cells P ρ v).toArray t)) ?_
    (hn _ _ _ (.new t false 1 v _ rfl (by simpa [HasN] using has_of_chk P v t hc) h2 (by simp only [OK]; exact ⟨_, _, hb, hp⟩)))
  rw [den_ptr hb hp]
  simp [execOp, ho, Instr.box, h1, newVar, newRow, hcz]

theorem s_build {t : TypeId} {ps : Array (Nat × Operand)} {z v : AV} {vs : List (Nat × AV)} (ho : o.op = .build t ps) (hz : zeroAV P t = some z) (hv : evP (evO gl tm) ps.toList = some vs) (hw : wide z = true) (hnn : 0 < P.cellsOf t)
    (hf : fillAV P t z vs = some v) (he : e = .val v) : o.wp P a w next Q := by
  obtain ⟨h1, h2⟩ := evP_sound S hgl hv
  obtain ⟨k1, -, k3⟩ := build_sound ρ hz hw hnn h2 hf w
  refine put_val hn he k3 ?_
  have hps : ps.map (fun x => (x.1, a.eval x.2)) = (vs.map fun x => (x.1, den P ρ x.2)).toArray := by rw [← h1, ← Array.toList_map, Array.toArray_toList]
  simp only [execOp, ho]
  rw [show (ps.map fun (i, x) => (i, a.eval x)) = ps.map (fun x => (x.1, a.eval x.2)) from rfl, hps]
  simp [k1]

include hget in
theorem s_load {t : TypeId} {x : Operand} {b : Nat} {p : List Nat} {T v : AV} (ho : o.op = .load t x) (hx : evO gl tm x = some (.ptr b p t)) (hT : get b = some T) (hg : getP T p = some v) (he : e = .val v) : o.wp P a w next Q := by
  obtain ⟨h1, h2⟩ := ev_sound S hgl hx
  obtain ⟨nm, of, as, bs, -, h4, h5, h6, -, -, -, -, h7, -⟩ := at_ptr S h2 (hget b T hT) hg
  refine put_val hn he h6 ?_
  have := run_loadVar' (P := P) (w := w) h5 h6 nm.blk (nm.off + of) (fun j y hy => by rw [Nat.add_assoc, ← Nat.add_assoc]; exact h7 j y hy)
  simp [execOp, ho, Instr.loadAt, h1, h4, Instr.sureAddr, this]

include hget in
theorem s_loadA {t te : TypeId} {x : Operand} {b off n : Nat} {p : List Nat} {T : AV} {q : IntKind} {m : Nat} {l : List Int} (ho : o.op = .load t x) (hx : evO gl tm x = some (.pa b p off n te)) (ht : P.underlying t = some (.array n te)) (hc : P.cellsOf t = n)
    (hT : get b = some T) (hg : getP T p = some (.ints q m l)) (he : e = .val (.ints q n ((l.drop off).take n))) : o.wp P a w next Q := by
  obtain ⟨h1, h2⟩ := ev_sound S hgl hx
  simp only [OK] at h2
  obtain ⟨nm, o1, m1, hb, hbase, hoff⟩ := h2
  obtain ⟨rfl, k1, k2, k3, k4, k5⟩ := base_ints S (hget b T hT) hb hbase hg
  obtain ⟨nm', hb', -, -, -, hcell⟩ := S.cell b T (hget b T hT)
  rw [hb] at hb'
  obtain rfl := Option.some.inj hb'
  have hv : Has P (.ints q n ((l.drop off).take n)) t := ⟨te, ht, k3, k4, hc⟩
  have ho' : OK P ρ (.ints q n ((l.drop off).take n)) := by
    simp only [OK]
    exact ⟨by simp; omega, fun x hx => k2 x (List.mem_of_mem_drop (List.mem_of_mem_take hx))⟩
  refine put_val hn he ho' ?_
  rw [den_pa hb hbase] at h1
  have := run_loadVar' (P := P) (w := w) hv ho' nm.blk (nm.off + (o1 + off * P.cellsOf te)) (fun j y hy => by
    rw [cells_ints] at hy k5
    have hy' : (l.map (Value.int q))[off + j]? = some y := by
      rw [List.getElem?_map] at hy ⊢
      have hj : j < n := by
        refine Nat.lt_of_not_le fun h => ?_
        rw [List.getElem?_eq_none (by simp; omega)] at hy
        simp at hy
      rw [List.getElem?_take_of_lt hj, List.getElem?_drop] at hy
      exact hy
    have := hcell _ _ (k5 _ _ hy')
    rw [k4, Nat.mul_one]
    rwa [show nm.off + (o1 + off) + j = nm.off + (o1 + (off + j)) by omega])
  simp [execOp, ho, Instr.loadAt, h1, Instr.sureAddr, this, den]

theorem s_arr {t te : TypeId} {x : Operand} {b off len cap n : Nat} {p : List Nat} (ho : o.op = .sliceToArrayPointer t x) (hx : evO gl tm x = some (.sl b p off len cap te)) (ht : P.underlying t = some (.array n te)) (hle : n ≤ len) (he : e = .val (.pa b p off n te)) : o.wp P a w next Q := by
  obtain ⟨h1, h2⟩ := ev_sound S hgl hx
  simp only [OK] at h2
  obtain ⟨nm, o1, m1, hb, hbase, hoff, hlc, -⟩ := h2
  rw [den_sl hb hbase] at h1
  refine put_val hn he ?_ ?_
  · simp only [OK]
    exact ⟨nm, o1, m1, hb, hbase, by omega⟩
  · rw [den_pa hb hbase]
    have : ¬ len < n := by omega
    simp [execOp, ho, Instr.arrayAt, h1, run_underlying ht, this]

include hget in
theorem s_store {t : TypeId} {x y : Operand} {b : Nat} {p : List Nat} {T T' v : AV} (ho : o.op = .store t x y) (hx : evO gl tm x = some (.ptr b p t)) (hy : evO gl tm y = some v) (hro : ro ≤ b) (hc : chk P v t = true)
    (hT : get b = some T) (hs : setP T p v = some T') (he : e = .upd b T') : o.wp P a w next Q := by
  obtain ⟨h1, h2⟩ := ev_sound S hgl hx
  obtain ⟨h3, h4⟩ := ev_sound S hgl hy
  have hT' := hget b T hT
  have hv := has_of_chk P v t hc
  have hgex : ∃ u, getP T p = some u := by
    simp only [OK] at h2
    obtain ⟨nm, of, hb, hp⟩ := h2
    obtain ⟨nm', hb', hN, oT, -⟩ := S.cell b T hT'
    rw [hb] at hb'
    obtain rfl := Option.some.inj hb'
    obtain ⟨u, as, bs, q1, -⟩ := name_down P ρ nm p T hN oT of t hp
    exact ⟨u, q1⟩
  obtain ⟨u, hu⟩ := hgex
  obtain ⟨nm, of, as, bs, hb, k4, k5, k6, kN, kT, k7, k8, k9, k10⟩ := at_ptr S h2 hT' hu
  obtain ⟨j1, j2, j3⟩ := k10 v T' hv h4 hs
  have lv := len_cells P ρ v t hv h4
  have lu := len_cells P ρ u t k5 k6
  subst he
  obtain ⟨-, hfz⟩ := S.own b T nm hT' hb hro
  refine one_skip (w' := w.setCells nm.blk (nm.off + as.length) (cells P ρ v)) ?_ (hn _ _ _ (.upd b T' T nm as (cells P ρ u) bs (cells P ρ v) hro hb hT' (setP_itr hs fun s p e => by rw [e] at hv; simp [Has] at hv) j1 j2 k7 j3 (by rw [lv, lu])))
  have hrun := run_storeVar' (P := P) (w := w) hv h4 nm.blk (nm.off + of) (fun j hj => by
    have hj' : j < (cells P ρ u).length := by omega
    rw [k9 j _ (List.getElem?_eq_getElem hj')]; rfl) (fun j hj => by
    have := hfz (of + j) (by rw [k7]; simp; omega)
    rwa [← Nat.add_assoc] at this)
  rw [k8]
  simp [execOp, ho, Instr.storeAt, h1, h3, k4, Instr.sureAddr, hrun]

end

end Go.Vx
