/- The engine, part K: the state behind an operation, a region, a piece of code; whole functions. -/
import Derived.Test.YtoionfdfofmplaaVxJ2
set_option autoImplicit false
set_option linter.unusedVariables false
set_option linter.unusedSimpArgs false
namespace Go.Vx
open Go Go.RowKit

theorem lk_cons_self (d : Nat) (v : AV) (l : List (Nat × AV)) : lk d ((d, v) :: l) = some v := by
  simp [lk]
theorem lk_cons_ne {d e : Nat} (h : e ≠ d) (v : AV) (l : List (Nat × AV)) : lk d ((e, v) :: l) = lk d l := by
  have : Nat.beq e d = false := by
    cases hq : Nat.beq e d
    · rfl
    · exact absurd (beq_eq hq) h
  simp [lk, this]

theorem below_cell {w w' : World} (h : Below w.heap.size w w') {b o : Nat} (hb : b < w.heap.size) : w'.cell? ⟨b, o, none⟩ = w.cell? ⟨b, o, none⟩ := by
  unfold World.cell?; rw [h.block b hb]
theorem below_frozen {w w' : World} (h : Below w.heap.size w w') {b o : Nat} (hb : b < w.heap.size) : w'.frozen? ⟨b, o, none⟩ = w.frozen? ⟨b, o, none⟩ := by
  unfold World.frozen?; rw [h.block b hb]

theorem put_size (a : Act) (d : Option Nat) (v : Value) : (a.put d v).tmps.size = a.tmps.size := by
  cases d <;> simp [Act.put]
theorem put_defers (a : Act) (d : Option Nat) (v : Value) : (a.put d v).defers = a.defers := by
  cases d <;> simp [Act.put]

theorem put_slot {P : Program} {ρ ρ' : Rho} {tm : List (Nat × AV)} {a : Act} {d : Option Nat} {u : AV} {v : Value} (hS : ∀ d v, lk d tm = some v → d < a.tmps.size ∧ a.tmps.getD d undef = den P ρ v ∧ OK P ρ v)
    (hE : Ext ρ ρ') (hd : ∀ n, d = some n → n < a.tmps.size) (hv : v = den P ρ' u) (hu : OK P ρ' u) :
    ∀ n x, lk n (match d with | some d => (d, u) :: tm | none => tm) = some x → n < (a.put d v).tmps.size ∧ (a.put d v).tmps.getD n undef = den P ρ' x ∧ OK P ρ' x := by
  have old : ∀ n x, lk n tm = some x → n < a.tmps.size ∧ a.tmps.getD n undef = den P ρ' x ∧ OK P ρ' x := by
    intro n x hx
    obtain ⟨h1, h2, h3⟩ := hS n x hx
    obtain ⟨h4, h5⟩ := den_ext P hE x h3
    exact ⟨h1, h2.trans h4.symm, h5⟩
  intro n x hx
  rw [put_size]
  cases d with
  | none => exact old n x hx
  | some d =>
    have hdn := hd d rfl
    by_cases e : d = n
    · subst e
      rw [lk_cons_self] at hx
      obtain rfl := Option.some.inj hx
      refine ⟨hdn, ?_, hu⟩
      simp [Act.put, Array.getD_eq_getD_getElem?, hdn, hv]
    · rw [lk_cons_ne e] at hx
      obtain ⟨h1, h2, h3⟩ := old n x hx
      refine ⟨h1, ?_, h3⟩
      rw [← h2]
      simp [Act.put, Array.getD_eq_getD_getElem?, e]

theorem dOK_lt {nt : Nat} {d : Option Nat} (h : dOK nt d = true) : ∀ n, d = some n → n < nt := by
  rintro n rfl
  simpa [dOK] using h

theorem put_tm (st : St) (d : Option Nat) (v : AV) : (st.put d v).tm = (match d with | some d => (d, v) :: st.tm | none => st.tm) := by cases d <;> rfl
theorem put_mem (st : St) (d : Option Nat) (v : AV) : (st.put d v).mem = st.mem := by cases d <;> rfl
theorem put_nx (st : St) (d : Option Nat) (v : AV) : (st.put d v).nx = st.nx := by cases d <;> rfl

theorem size_setCells (b : Nat) : (vs : List Value) → (o : Nat) → (w : World) → (w.setCells b o vs).heap.size = w.heap.size
  | [], _, _ => rfl
  | v :: r, o, w => by rw [World.setCells, size_setCells b r]; simp [World.setCell]

/-- A stretch that is there, or is none. -/
def Liv (nm : Nm) (w : World) (cs : List Value) : Prop := (nm.non = false ∧ nm.blk < w.heap.size) ∨ (nm.non = true ∧ cs = [])
theorem Liv.cell {nm : Nm} {w w' : World} {cs : List Value} (h : Liv nm w cs) (hb : Below w.heap.size w w') {j : Nat} {x : Value} (hx : cs[j]? = some x) : w'.cell? ⟨nm.blk, nm.off + j, none⟩ = w.cell? ⟨nm.blk, nm.off + j, none⟩ := by
  rcases h with ⟨-, h⟩ | ⟨-, h⟩
  · exact below_cell hb h
  · rw [h] at hx; simp at hx
theorem Liv.frozen {nm : Nm} {w w' : World} {cs : List Value} (h : Liv nm w cs) (hb : Below w.heap.size w w') {j : Nat} (hj : j < cs.length) : w'.frozen? ⟨nm.blk, nm.off + j, none⟩ = w.frozen? ⟨nm.blk, nm.off + j, none⟩ := by
  rcases h with ⟨-, h⟩ | ⟨-, h⟩
  · exact below_frozen hb h
  · rw [h] at hj; simp at hj
theorem Liv.size {nm : Nm} {w w' : World} {cs : List Value} (h : Liv nm w cs) (hb : w.heap.size ≤ w'.heap.size) : Liv nm w' cs := h.imp (fun h => ⟨h.1, Nat.lt_of_lt_of_le h.2 hb⟩) id

theorem lk_del {b : Option Nat} {c : Nat} : {l : List (Nat × AV)} → {U : AV} → lk c (del b l) = some U → lk c l = some U ∧ b ≠ some c := by
  intro l U h
  cases b with
  | none => exact ⟨h, by simp⟩
  | some b =>
    simp only [del] at h
    induction l with
    | nil => simp [lk] at h
    | cons x l ih =>
      obtain ⟨e, v⟩ := x
      by_cases hb : e = b
      · subst hb
        have h1 : ((e, v) :: l).filter (fun x => !Nat.beq x.1 e) = l.filter fun x => !Nat.beq x.1 e := by
          rw [List.filter_cons_of_neg]; simp
        rw [h1] at h
        obtain ⟨k1, k2⟩ := ih h
        have hne : e ≠ c := fun hh => k2 (by rw [hh])
        exact ⟨by rw [lk_cons_ne hne]; exact k1, k2⟩
      · have h1 : ((e, v) :: l).filter (fun x => !Nat.beq x.1 b) = (e, v) :: l.filter fun x => !Nat.beq x.1 b := by
          rw [List.filter_cons_of_pos]
          simp only [Bool.not_eq_true']
          cases hq : Nat.beq e b with
          | false => rfl
          | true => exact absurd (beq_eq hq) hb
        rw [h1] at h
        by_cases hc : e = c
        · subst hc
          rw [lk_cons_self] at h ⊢
          exact ⟨h, fun hh => hb (Option.some.inj hh).symm⟩
        · rw [lk_cons_ne hc] at h ⊢
          exact ih h

theorem lk_del_eq (b : Option Nat) (c : Nat) (l : List (Nat × AV)) : lk c (del b l) = if b = some c then none else lk c l := by
  cases b with
  | none => simp [del]
  | some b =>
    by_cases h : b = c
    · subst h
      rw [if_pos rfl]
      cases hq : lk b (del (some b) l) with
      | none => rfl
      | some U => exact absurd rfl (lk_del hq).2
    · rw [if_neg (fun hh => h (Option.some.inj hh))]
      simp only [del]
      induction l with
      | nil => rfl
      | cons x l ih =>
        obtain ⟨e, v⟩ := x
        by_cases hb : e = b
        · subst hb
          have h1 : ((e, v) :: l).filter (fun x => !Nat.beq x.1 e) = l.filter fun x => !Nat.beq x.1 e := by
            rw [List.filter_cons_of_neg]; simp
          rw [h1, ih, lk_cons_ne h]
        · have h1 : ((e, v) :: l).filter (fun x => !Nat.beq x.1 b) = (e, v) :: l.filter fun x => !Nat.beq x.1 b := by
            rw [List.filter_cons_of_pos]
            simp only [Bool.not_eq_true']
            cases hq : Nat.beq e b with
            | false => rfl
            | true => exact absurd (beq_eq hq) hb
          rw [h1]
          by_cases hc : e = c
          · subst hc; rw [lk_cons_self, lk_cons_self]
          · rw [lk_cons_ne hc, lk_cons_ne hc, ih]

theorem rowB_setCells {P : Program} {nm : Nm} {b : Nat} : (xs : List Value) → (o : Nat) → (w : World) → RowB P nm w → RowB P nm (w.setCells b o xs)
  | [], _, _, h => h
  | v :: xs, o, w, h => by
    rw [World.setCells]
    refine rowB_setCells xs (o + 1) _ ?_
    obtain ⟨h1, h2, h3, cur, h4, h5⟩ := h
    by_cases hb : nm.blk = b
    · subst hb
      exact ⟨h1, h2, h3, _, heap_setCell_same w nm.blk o cur nm.ty v h4, by simpa using h5⟩
    · exact ⟨h1, h2, h3, cur, by rw [heap_setCell_other w ⟨b, o, none⟩ nm.blk v hb]; exact h4, h5⟩

theorem cell_lt {w : World} {k o : Nat} {v : Value} (h : w.cell? ⟨k, o, none⟩ = some v) : k < w.heap.size := by
  rcases Nat.lt_or_ge k w.heap.size with h1 | h1
  · exact h1
  · simp only [World.cell?, Array.getElem?_eq_none h1] at h
    simp at h
/-- What nobody writes to stays, if only own blocks are turned. -/
theorem Exs.step {w0 : Base} {ro : Nat} {ρ ρ' : Rho} {mem mem' : List (Nat × AV)} {w w' : World} (E : Exs w0 ro ρ mem w) (hρ : ∀ b nm, ρ' b = some nm → ρ b = some nm ∨ nm.K = nk)
    (hmem : ∀ b T, lk b mem' = some T → (∃ T0, lk b mem = some T0 ∧ ρ' b = ρ b ∧ (T = T0 ∨ ∀ s p, T ≠ .itr s p)) ∨
      ((∀ s p, T ≠ .itr s p) ∧ ∃ nm, ρ' b = some nm ∧ (nm.non = true ∨ w.heap.size ≤ nm.blk ∨ ∃ b0 T0 nm0, lk b0 mem = some T0 ∧ ρ b0 = some nm0 ∧ ro ≤ b0 ∧ nm0.non = false ∧ nm.blk = nm0.blk)))
    (hsz : w.heap.size ≤ w'.heap.size) (hheap : ∀ k, k < w.heap.size → (∀ b T nm, lk b mem = some T → ρ b = some nm → ro ≤ b → nm.non = false → k ≠ nm.blk) → w'.heap[k]? = w.heap[k]?) : Exs w0 ro ρ' mem' w' := by
  have froz' : ∀ b nm, ρ' b = some nm → ∀ k o v, nm.K.K k o = some v → ρ b = some nm ∧ w.cell? ⟨k, o, none⟩ = some v := by
    intro b nm hb k o v hk
    rcases hρ b nm hb with h | h
    · exact ⟨h, E.froz b nm h k o v hk⟩
    · rw [h] at hk; simp [nk] at hk
  have lt : ∀ {k : Nat} {x : Obj}, w.heap[k]? = some x → k < w.heap.size := fun h => (Array.getElem?_eq_some_iff.1 h).1
  have itr : ∀ b s p, lk b mem' = some (.itr s p) → lk b mem = some (.itr s p) ∧ ρ' b = ρ b := by
    intro b s p h
    rcases hmem b _ h with ⟨T0, h1, h2, h3⟩ | ⟨h1, -⟩
    · rcases h3 with rfl | h3
      · exact ⟨h1, h2⟩
      · exact absurd rfl (h3 s p)
    · exact absurd rfl (h1 s p)
  refine ⟨?_, ?_, ?_, ?_, ?_, ?_, ?_⟩
  · intro b nm hb k o v hk
    obtain ⟨h1, h2⟩ := froz' b nm hb k o v hk
    rw [World.cell?_of_block (hheap k (cell_lt h2) (fun b0 T0 nm0 g1 g2 g3 g4 => E.away b0 T0 nm0 g1 g2 g3 g4 b nm h1 k o v hk))]
    exact h2
  · intro b nm hb
    rcases hρ b nm hb with h | h
    · exact Nat.le_trans (E.fhs b nm h) hsz
    · rw [h]; exact Nat.zero_le _
  · intro b nm hb k o v hk
    exact E.org b nm (froz' b nm hb k o v hk).1 k o v hk
  · intro b T nm hT hnm hro hnon b' nm' hb' k o v hk
    obtain ⟨h1, h2⟩ := froz' b' nm' hb' k o v hk
    rcases hmem b T hT with ⟨T0, g1, g2, -⟩ | ⟨-, nm1, g1, g2⟩
    · rw [g2] at hnm
      exact E.away b T0 nm g1 hnm hro hnon b' nm' h1 k o v hk
    · rw [hnm] at g1
      obtain rfl := Option.some.inj g1
      rcases g2 with g2 | g2 | ⟨b0, T0, nm0, j1, j2, j3, j4, j5⟩
      · rw [hnon] at g2; cases g2
      · have := cell_lt h2; omega
      · rw [j5]; exact E.away b0 T0 nm0 j1 j2 j3 j4 b' nm' h1 k o v hk
  · intro b s p h
    obtain ⟨h1, h2⟩ := itr b s p h
    obtain ⟨nm, g1, g2, g3⟩ := E.its b s p h1
    refine ⟨nm, by rw [h2]; exact g1, ?_, g3⟩
    rw [hheap _ (lt g2) (fun b0 T0 nm0 j1 j2 j3 j4 => E.ita b s p nm h1 g1 b0 T0 nm0 j1 j2 j3 j4)]
    exact g2
  · intro b s p nm h hnm b' T nm' hT hnm' hro hnon
    obtain ⟨h1, h2⟩ := itr b s p h
    rw [h2] at hnm
    obtain ⟨nm2, k1, k2, -⟩ := E.its b s p h1
    rw [hnm] at k1
    obtain rfl := Option.some.inj k1
    rcases hmem b' T hT with ⟨T0, g1, g2, -⟩ | ⟨-, nm1, g1, g2⟩
    · rw [g2] at hnm'
      exact E.ita b s p nm h1 hnm b' T0 nm' g1 hnm' hro hnon
    · rw [hnm'] at g1
      obtain rfl := Option.some.inj g1
      rcases g2 with g2 | g2 | ⟨b0, T0, nm0, j1, j2, j3, j4, j5⟩
      · rw [hnon] at g2; cases g2
      · have := lt k2; omega
      · rw [j5]; exact E.ita b s p nm h1 hnm b0 T0 nm0 j1 j2 j3 j4
  · intro b b' s s' p p' nm nm' h h' hnm hnm' hne
    obtain ⟨h1, h2⟩ := itr b s p h
    obtain ⟨h1', h2'⟩ := itr b' s' p' h'
    rw [h2] at hnm
    rw [h2'] at hnm'
    exact E.itd b b' s s' p p' nm nm' h1 h1' hnm hnm' hne

/-- The state behind an operation. -/
theorem sim_app {P : Program} {w0 : Base} {ro : Nat} {ρ : Rho} {st : St} {a : Act} {w : World} (S : Sim P w0 ro ρ st.tm st.mem a.tmps w) {i : Nat} {e : Eff} {v : Value} {ρ' : Rho} {w' : World} {d : Option Nat}
    (hm : ρ (st.nx + i) = none) (hd : ∀ n, d = some n → n < a.tmps.size) (hA : After P ro ρ st.mem w (st.nx + i) e v ρ' w') :
    Sim P w0 ro ρ' (st.app i d e).tm (st.app i d e).mem (a.put d v).tmps w' ∧ Ext ρ ρ' ∧ ∀ b, b ≠ st.nx + i → ρ' b = ρ b := by
  cases hA with
  | val u _ hu hb =>
    refine ⟨⟨?_, ?_, ?_, ?_, ?_, ?_, ?_⟩, Ext.refl ρ, fun _ _ => rfl⟩
    · simp only [St.app, put_tm]
      exact put_slot S.slot (Ext.refl ρ) hd rfl hu
    · intro b T hT
      simp only [St.app, put_mem] at hT
      obtain ⟨nm, h1, h2, h3, h4, h5⟩ := S.cell b T hT
      exact ⟨nm, h1, h2, h3, Liv.size h4 hb.size, fun j x hx => by rw [Liv.cell h4 hb hx]; exact h5 j x hx⟩
    · intro b T nm hT hnm hbr
      simp only [St.app, put_mem] at hT
      obtain ⟨h1, h2⟩ := S.own b T nm hT hnm hbr
      obtain ⟨nm', g1, -, -, g4, -⟩ := S.cell b T hT
      rw [hnm] at g1
      obtain rfl := Option.some.inj g1
      exact ⟨h1, fun j hj => by rw [Liv.frozen g4 hb hj]; exact h2 j hj⟩
    · intro b b' T T' nm nm' hT hT'
      simp only [St.app, put_mem] at hT hT'
      exact S.apart b b' T T' nm nm' hT hT'
    · intro b T nm hT hnm hbr hr
      simp only [St.app, put_mem] at hT
      exact (S.rows b T nm hT hnm hbr hr).imp id fun h => h.same (hb.block _ h.lt)
    · exact S.below.trans hb
    · simp only [St.app, put_mem]
      exact S.ex.step (fun _ _ h => .inl h) (fun b T h => .inl ⟨T, h, rfl, .inl rfl⟩) hb.size (fun k hk _ => hb.block k hk)
  | new ty row cap T g hrow hN oT og =>
    have hE := ext_upd hm ⟨w.heap.size, 0, cap, ty, row, cap, false, nk⟩
    have hself : upd ρ (st.nx + i) ⟨w.heap.size, 0, cap, ty, row, cap, false, nk⟩ (st.nx + i) = some ⟨w.heap.size, 0, cap, ty, row, cap, false, nk⟩ := by simp [upd]
    have hother : ∀ b, b ≠ st.nx + i → upd ρ (st.nx + i) ⟨w.heap.size, 0, cap, ty, row, cap, false, nk⟩ b = ρ b := fun b h => by simp [upd, h]
    have hnb : Below w.heap.size w (w.alloc (.cells (cells P ρ T).toArray ty)) := (Below.refl _ _).alloc (Nat.le_refl _) _
    have hnew : ∀ j x, (cells P ρ T)[j]? = some x → (w.alloc (.cells (cells P ρ T).toArray ty)).cell? ⟨w.heap.size, 0 + j, none⟩ = some x := by
      intro j x hx
      show (match (w.heap.push _)[w.heap.size]? with | some (.cells c _ _) => _ | _ => _) = _
      simp [hx]
    have hnf : ∀ j, (w.alloc (.cells (cells P ρ T).toArray ty)).frozen? ⟨w.heap.size, 0 + j, none⟩ = false := by
      intro j
      show (match (w.heap.push _)[w.heap.size]? with | some (.cells _ _ (lo, hi)) => _ | _ => _) = _
      simp
    have hcT : cells P (upd ρ (st.nx + i) ⟨w.heap.size, 0, cap, ty, row, cap, false, nk⟩) T = cells P ρ T := cells_ext P hE T oT
    -- a block that is live behind the operation: the new one, or one that was
    have live : ∀ b U, lk b ((st.nx + i, T) :: st.mem) = some U → (b = st.nx + i ∧ U = T) ∨ (b ≠ st.nx + i ∧ lk b st.mem = some U) := by
      intro b U h
      by_cases hb : st.nx + i = b
      · subst hb
        rw [lk_cons_self] at h
        exact .inl ⟨rfl, (Option.some.inj h).symm⟩
      · rw [lk_cons_ne hb] at h
        exact .inr ⟨fun hh => hb hh.symm, h⟩
    refine ⟨⟨?_, ?_, ?_, ?_, ?_, ?_, ?_⟩, hE, hother⟩
    · simp only [St.app, put_tm]
      exact put_slot S.slot hE hd rfl og
    · intro b U hU
      simp only [St.app] at hU
      rcases live b U hU with ⟨rfl, rfl⟩ | ⟨hne, hU⟩
      · exact ⟨_, hself, hN, (den_ext P hE _ oT).2, .inl ⟨rfl, by simp⟩, fun j x hx => by rw [hcT] at hx; exact hnew j x hx⟩
      · obtain ⟨nm, h1, h2, h3, h4, h5⟩ := S.cell b U hU
        refine ⟨nm, by rw [hother b hne]; exact h1, h2, (den_ext P hE _ h3).2, by rw [cells_ext P hE U h3]; exact Liv.size h4 hnb.size, fun j x hx => ?_⟩
        rw [cells_ext P hE U h3] at hx
        rw [Liv.cell h4 hnb hx]
        exact h5 j x hx
    · intro b U nm hU hnm hbr
      simp only [St.app] at hU
      rcases live b U hU with ⟨rfl, rfl⟩ | ⟨hne, hU⟩
      · rw [hself] at hnm
        obtain rfl := Option.some.inj hnm
        exact ⟨fun _ => .inl S.below.size, fun j _ => hnf j⟩
      · rw [hother b hne] at hnm
        obtain ⟨h1, h2⟩ := S.own b U nm hU hnm hbr
        obtain ⟨nm', g1, -, g3, g4, -⟩ := S.cell b U hU
        rw [hnm] at g1
        obtain rfl := Option.some.inj g1
        refine ⟨h1, fun j hj => ?_⟩
        rw [cells_ext P hE U g3] at hj
        rw [Liv.frozen g4 hnb hj]; exact h2 j hj
    · intro b b' U U' nm nm' hU hU' hnm hnm' hbr hne z1 z2
      simp only [St.app] at hU hU'
      rcases live b U hU with ⟨rfl, rfl⟩ | ⟨h1, hU1⟩ <;> rcases live b' U' hU' with ⟨rfl, rfl⟩ | ⟨h2, hU2⟩
      · exact absurd rfl hne
      · rw [hself] at hnm
        obtain rfl := Option.some.inj hnm
        rw [hother b' h2] at hnm'
        obtain ⟨nm2, g1, -, -, g4, -⟩ := S.cell b' U' hU2
        rw [hnm'] at g1
        obtain rfl := Option.some.inj g1
        rcases g4 with ⟨-, g4⟩ | ⟨g4, -⟩
        · simp only; omega
        · rw [z2] at g4; cases g4
      · rw [hself] at hnm'
        obtain rfl := Option.some.inj hnm'
        rw [hother b h1] at hnm
        obtain ⟨nm2, g1, -, -, g4, -⟩ := S.cell b U hU1
        rw [hnm] at g1
        obtain rfl := Option.some.inj g1
        rcases g4 with ⟨-, g4⟩ | ⟨g4, -⟩
        · simp only; omega
        · rw [z1] at g4; cases g4
      · rw [hother b h1] at hnm
        rw [hother b' h2] at hnm'
        exact S.apart b b' U U' nm nm' hU1 hU2 hnm hnm' hbr hne z1 z2
    · intro b U nm hU hnm hbr hr
      simp only [St.app] at hU
      rcases live b U hU with ⟨rfl, rfl⟩ | ⟨hne, hU⟩
      · rw [hself] at hnm
        obtain rfl := Option.some.inj hnm
        simp only [hrow] at hr; cases hr
      · rw [hother b hne] at hnm
        exact (S.rows b U nm hU hnm hbr hr).imp id fun h => h.same (hnb.block _ h.lt)
    · exact S.below.trans hnb
    · have upK : ∀ b nm, upd ρ (st.nx + i) ⟨w.heap.size, 0, cap, ty, row, cap, false, nk⟩ b = some nm → ρ b = some nm ∨ nm.K = nk := by
        intro b nm h
        by_cases hb : b = st.nx + i
        · subst hb
          rw [hself] at h
          exact .inr (by rw [← Option.some.inj h])
        · rw [hother b hb] at h
          exact .inl h
      refine S.ex.step upK (fun b U hU => ?_) hnb.size (fun k hk _ => hnb.block k hk)
      simp only [St.app] at hU
      rcases live b U hU with ⟨rfl, rfl⟩ | ⟨hne, hU⟩
      · refine .inr ⟨fun s p e => ?_, _, hself, .inr (.inl (Nat.le_refl _))⟩
        rw [e] at hN
        simp [HasN, hrow, Has] at hN
      · exact .inl ⟨U, hU, hother b hne, .inl rfl⟩
  | upd b T T0 nm as old bs xs hbro hb hT0 hti hN oT hc0 hcT hl =>
    obtain ⟨nm', g1, -, g3, g4, g5⟩ := S.cell b T0 hT0
    rw [hb] at g1
    obtain rfl := Option.some.inj g1
    obtain ⟨o1, o2⟩ := S.own b T0 nm hT0 hb hbro
    -- a stretch that is none has no cells: nothing is turned
    by_cases hnn : nm.non = true
    · have hnil : cells P ρ T0 = [] := by
        rcases g4 with ⟨h, -⟩ | ⟨-, h⟩
        · rw [hnn] at h; cases h
        · exact h
      rw [hnil] at hc0
      have hxs : xs = [] := by
        have h1 := congrArg List.length hc0
        simp at h1
        exact List.eq_nil_of_length_eq_zero (by omega)
      have has : as = [] ∧ bs = [] := by
        have h1 := congrArg List.length hc0
        simp at h1
        exact ⟨List.eq_nil_of_length_eq_zero (by omega), List.eq_nil_of_length_eq_zero (by omega)⟩
      have hcT' : cells P ρ T = [] := by rw [hcT, hxs, has.1, has.2]; rfl
      subst hxs
      have hw0 : w.setCells nm.blk (nm.off + as.length) [] = w := rfl
      rw [hw0]
      have live : ∀ c U, lk c ((b, T) :: st.mem) = some U → (c = b ∧ U = T) ∨ (c ≠ b ∧ lk c st.mem = some U) := by
        intro c U h
        by_cases hcb : b = c
        · subst hcb
          rw [lk_cons_self] at h
          exact .inl ⟨rfl, (Option.some.inj h).symm⟩
        · rw [lk_cons_ne hcb] at h
          exact .inr ⟨fun hh => hcb hh.symm, h⟩
      have E1 : Exs w0 ro ρ ((b, T) :: st.mem) w := S.ex.step (fun _ _ h => .inl h) (fun c U hU => by
        rcases live c U hU with ⟨rfl, rfl⟩ | ⟨hne, hU⟩
        · exact .inl ⟨T0, hT0, rfl, .inr hti⟩
        · exact .inl ⟨U, hU, rfl, .inl rfl⟩) (Nat.le_refl _) (fun _ _ _ => rfl)
      refine ⟨⟨?_, ?_, ?_, ?_, ?_, S.below, E1⟩, Ext.refl ρ, fun _ _ => rfl⟩
      · simp only [St.app, put_tm]
        exact put_slot S.slot (Ext.refl ρ) hd (by simp [den, denT, undef]) (by simp [OK, OKL])
      · intro c U hU
        simp only [St.app] at hU
        rcases live c U hU with ⟨rfl, rfl⟩ | ⟨hne, hU⟩
        · exact ⟨nm, hb, hN, oT, .inr ⟨hnn, hcT'⟩, fun j x hx => by rw [hcT'] at hx; simp at hx⟩
        · exact S.cell c U hU
      · intro c U nm2 hU hnm hbr
        simp only [St.app] at hU
        rcases live c U hU with ⟨rfl, rfl⟩ | ⟨hne, hU⟩
        · rw [hb] at hnm
          obtain rfl := Option.some.inj hnm
          exact ⟨o1, fun j hj => by rw [hcT'] at hj; simp at hj⟩
        · exact S.own c U nm2 hU hnm hbr
      · intro c c' U U' n1 n2 hU hU' h1 h2 hbr hne
        simp only [St.app] at hU hU'
        have get : ∀ c U, lk c ((b, T) :: st.mem) = some U → ∃ V, lk c st.mem = some V := by
          intro c U h
          rcases live c U h with ⟨rfl, rfl⟩ | ⟨_, h⟩
          · exact ⟨T0, hT0⟩
          · exact ⟨U, h⟩
        obtain ⟨V, hV⟩ := get c U hU
        obtain ⟨V', hV'⟩ := get c' U' hU'
        exact S.apart c c' V V' n1 n2 hV hV' h1 h2 hbr hne
      · intro c U nm2 hU hnm hbr hr
        simp only [St.app] at hU
        rcases live c U hU with ⟨rfl, rfl⟩ | ⟨hne, hU⟩
        · exact S.rows c T0 nm2 hT0 hnm hbr hr
        · exact S.rows c U nm2 hU hnm hbr hr
    have hnf : nm.non = false := by simpa using hnn
    have g4 : nm.blk < w.heap.size := by
      rcases g4 with ⟨-, h⟩ | ⟨h, -⟩
      · exact h
      · exact absurd h hnn
    have hsz : (w.setCells nm.blk (nm.off + as.length) xs).heap.size = w.heap.size := size_setCells _ _ _ _
    have hsome : ∀ j, j < xs.length → (w.cell? ⟨nm.blk, nm.off + as.length + j, none⟩).isSome = true := by
      intro j hj
      have hj' : j < old.length := by omega
      have := g5 (as.length + j) old[j] (by rw [hc0, List.getElem?_append_right (by omega), Nat.add_sub_cancel_left, List.getElem?_append_left hj', List.getElem?_eq_getElem hj'])
      rw [Nat.add_assoc, this]; rfl
    have live : ∀ c U, lk c ((b, T) :: st.mem) = some U → (c = b ∧ U = T) ∨ (c ≠ b ∧ lk c st.mem = some U) := by
      intro c U h
      by_cases hcb : b = c
      · subst hcb
        rw [lk_cons_self] at h
        exact .inl ⟨rfl, (Option.some.inj h).symm⟩
      · rw [lk_cons_ne hcb] at h
        exact .inr ⟨fun hh => hcb hh.symm, h⟩
    have hother : ∀ k, k ≠ nm.blk → (w.setCells nm.blk (nm.off + as.length) xs).heap[k]? = w.heap[k]? := by
      intro k hk
      have key : ∀ (xs : List Value) (o : Nat) (w : World), (w.setCells nm.blk o xs).heap[k]? = w.heap[k]? := by
        intro xs
        induction xs with
        | nil => intro o w; rfl
        | cons x xs ih => intro o w; rw [World.setCells, ih]; exact Below.heap_setCell w ⟨nm.blk, o, none⟩ x k hk
      exact key xs _ w
    have hwd : ∀ (xs : List Value) (o : Nat) (w : World), (w.setCells nm.blk o xs).os = w.os ∧ (w.setCells nm.blk o xs).tape = w.tape ∧ (w.setCells nm.blk o xs).output = w.output := by
      intro xs
      induction xs with
      | nil => intro o w; exact ⟨rfl, rfl, rfl⟩
      | cons x xs ih => intro o w; rw [World.setCells]; exact ih _ _
    refine ⟨⟨?_, ?_, ?_, ?_, ?_, ?_, ?_⟩, Ext.refl ρ, fun _ _ => rfl⟩
    · simp only [St.app, put_tm]
      exact put_slot S.slot (Ext.refl ρ) hd (by simp [den, denT, undef]) (by simp [OK, OKL])
    · intro c U hU
      simp only [St.app] at hU
      rcases live c U hU with ⟨rfl, rfl⟩ | ⟨hne, hU⟩
      · refine ⟨nm, hb, hN, oT, .inl ⟨hnf, by rw [hsz]; exact g4⟩, fun j x hx => ?_⟩
        rw [hcT] at hx
        by_cases h1 : j < as.length
        · rw [World.cell?_setCells_out nm.blk xs _ w _ (fun _ _ => .inl (by simp only; omega))]
          rw [List.getElem?_append_left h1] at hx
          exact g5 j x (by rw [hc0, List.getElem?_append_left h1]; exact hx)
        · rw [List.getElem?_append_right (by omega)] at hx
          by_cases h2 : j - as.length < xs.length
          · rw [List.getElem?_append_left h2, List.getElem?_eq_getElem h2] at hx
            have := World.cell?_setCells_in nm.blk xs (nm.off + as.length) w hsome (j - as.length) h2
            rw [show nm.off + as.length + (j - as.length) = nm.off + j by omega] at this
            rw [this, Option.some.inj hx]
          · rw [World.cell?_setCells_out nm.blk xs _ w _ (fun _ _ => .inr (by simp only; omega))]
            rw [List.getElem?_append_right (by omega)] at hx
            refine g5 j x ?_
            rw [hc0, List.getElem?_append_right (by omega), List.getElem?_append_right (by omega), ← hl]
            exact hx
      · obtain ⟨nm2, k1, k2, k3, k4, k5⟩ := S.cell c U hU
        have hbl := S.apart b c T0 U nm nm2 hT0 hU hb k1 hbro (fun h => hne h.symm) hnf
        refine ⟨nm2, k1, k2, k3, Liv.size k4 (by rw [hsz]; exact Nat.le_refl _), fun j x hx => ?_⟩
        have hn2 : nm2.non = false := by
          rcases k4 with ⟨h, -⟩ | ⟨-, h⟩
          · exact h
          · rw [h] at hx; simp at hx
        rw [World.cell?_setCells_out nm.blk xs _ w _ (fun h _ => absurd h.symm (hbl hn2))]; exact k5 j x hx
    · intro c U nm2 hU hnm hbr
      simp only [St.app] at hU
      rcases live c U hU with ⟨rfl, rfl⟩ | ⟨hne, hU⟩
      · rw [hb] at hnm
        obtain rfl := Option.some.inj hnm
        refine ⟨o1, fun j hj => ?_⟩
        rw [World.frozen?_setCells]
        exact o2 j (by rw [hcT] at hj; rw [hc0]; simp at hj ⊢; omega)
      · obtain ⟨k1, k2⟩ := S.own c U nm2 hU hnm hbr
        exact ⟨k1, fun j hj => by rw [World.frozen?_setCells]; exact k2 j hj⟩
    · intro c c' U U' n1 n2 hU hU' h1 h2 hbr hne
      simp only [St.app] at hU hU'
      have get : ∀ c U, lk c ((b, T) :: st.mem) = some U → ∃ V, lk c st.mem = some V := by
        intro c U h
        rcases live c U h with ⟨rfl, rfl⟩ | ⟨_, h⟩
        · exact ⟨T0, hT0⟩
        · exact ⟨U, h⟩
      obtain ⟨V, hV⟩ := get c U hU
      obtain ⟨V', hV'⟩ := get c' U' hU'
      exact S.apart c c' V V' n1 n2 hV hV' h1 h2 hbr hne
    · intro c U nm2 hU hnm hbr hr
      simp only [St.app] at hU
      have shape : ∀ nm2, RowB P nm2 w → RowB P nm2 (w.setCells nm.blk (nm.off + as.length) xs) := fun nm2 h => rowB_setCells xs _ w h
      rcases live c U hU with ⟨rfl, rfl⟩ | ⟨hne, hU⟩
      · exact (S.rows c T0 nm2 hT0 hnm hbr hr).imp id (shape nm2)
      · exact (S.rows c U nm2 hU hnm hbr hr).imp id (shape nm2)
    · obtain ⟨e1, e2, e3⟩ := hwd xs (nm.off + as.length) w
      exact S.below.step e1 e2 e3 (by rw [hsz]; exact Nat.le_refl _) (fun k _ hn => hother k (fun h => hn (h ▸ o1 hnf)))
    · refine S.ex.step (fun _ _ h => .inl h) (fun c U hU => ?_) (by rw [hsz]; exact Nat.le_refl _) (fun k _ hn => hother k (hn b T0 nm hT0 hb hbro hnf))
      simp only [St.app] at hU
      rcases live c U hU with ⟨rfl, rfl⟩ | ⟨hne, hU⟩
      · exact .inl ⟨T0, hT0, rfl, .inr hti⟩
      · exact .inl ⟨U, hU, rfl, .inl rfl⟩
  | grow b T g nm w' hN oT og hrow hKI hnil hlive hblk hw hblock hb0 =>
    obtain ⟨hos, htp, hout, hsz⟩ := hw
    have hE := ext_upd hm nm
    have hself : upd ρ (st.nx + i) nm (st.nx + i) = some nm := by simp [upd]
    have hother : ∀ c, c ≠ st.nx + i → upd ρ (st.nx + i) nm c = ρ c := fun c h => by simp [upd, h]
    have hcT : cells P (upd ρ (st.nx + i) nm) T = cells P ρ T := cells_ext P hE T oT
    have live : ∀ c U, lk c ((st.nx + i, T) :: del b st.mem) = some U → (c = st.nx + i ∧ U = T) ∨ (c ≠ st.nx + i ∧ lk c st.mem = some U ∧ b ≠ some c) := by
      intro c U h
      by_cases hc : st.nx + i = c
      · subst hc
        rw [lk_cons_self] at h
        exact .inl ⟨rfl, (Option.some.inj h).symm⟩
      · rw [lk_cons_ne hc] at h
        exact .inr ⟨fun hh => hc hh.symm, lk_del h⟩
    -- a block of another name is as it was
    have keep : ∀ c U nmc, lk c st.mem = some U → ρ c = some nmc → b ≠ some c → nmc.non = false → nmc.blk < w.heap.size → w'.heap[nmc.blk]? = w.heap[nmc.blk]? := by
      intro c U nmc hU hc hne hn hlt
      refine hblock _ hlt fun b0 nm0 hb hnm0 hnon => ?_
      obtain ⟨hro, T0, hT0⟩ := hb0 b0 hb
      exact fun h => S.apart b0 c T0 U nm0 nmc hT0 hU hnm0 hc hro (fun e => hne (by rw [hb, e])) hnon hn h.symm
    have keepC : ∀ c U nmc, lk c st.mem = some U → ρ c = some nmc → b ≠ some c → Liv nmc w (cells P ρ U) → ∀ j x, (cells P ρ U)[j]? = some x → w'.cell? ⟨nmc.blk, nmc.off + j, none⟩ = w.cell? ⟨nmc.blk, nmc.off + j, none⟩ := by
      intro c U nmc hU hc hne hl j x hx
      rcases hl with ⟨h1, h2⟩ | ⟨-, h2⟩
      · exact World.cell?_of_block (keep c U nmc hU hc hne h1 h2)
      · rw [h2] at hx; simp at hx
    -- the new row's block is no other's
    have alone : ∀ c U nmc, lk c st.mem = some U → ρ c = some nmc → b ≠ some c → nmc.non = false → nmc.blk < w.heap.size → nm.blk ≠ nmc.blk := by
      intro c U nmc hU hc hne hn hlt
      rcases hblk with h | ⟨b0, nm0, T0, hb, hnm0, hT0, hro, hnon, he⟩
      · omega
      · rw [he]
        exact S.apart b0 c T0 U nm0 nmc hT0 hU hnm0 hc hro (fun e => hne (by rw [hb, e])) hnon hn
    refine ⟨⟨?_, ?_, ?_, ?_, ?_, ?_, ?_⟩, hE, hother⟩
    · simp only [St.app, put_tm]
      exact put_slot S.slot hE hd rfl og
    · intro c U hU
      simp only [St.app] at hU
      rcases live c U hU with ⟨rfl, rfl⟩ | ⟨hne, hU, hd⟩
      · refine ⟨nm, hself, hN, (den_ext P hE _ oT).2, ?_, fun j x hx => ?_⟩
        · rw [hcT]
          cases hq : nm.non with
          | true => exact .inr ⟨rfl, hnil hq⟩
          | false => exact .inl ⟨rfl, (hlive hq).1.lt⟩
        · rw [hcT] at hx
          cases hq : nm.non with
          | true => rw [hnil hq] at hx; simp at hx
          | false => exact (hlive hq).2 j x hx
      · obtain ⟨nm2, h1, h2, h3, h4, h5⟩ := S.cell c U hU
        refine ⟨nm2, by rw [hother c hne]; exact h1, h2, (den_ext P hE _ h3).2, by rw [cells_ext P hE U h3]; exact Liv.size h4 hsz, fun j x hx => ?_⟩
        rw [cells_ext P hE U h3] at hx
        rw [keepC c U nm2 hU h1 hd h4 j x hx]
        exact h5 j x hx
    · intro c U nm2 hU hnm hbr
      simp only [St.app] at hU
      rcases live c U hU with ⟨rfl, rfl⟩ | ⟨hne, hU, hd⟩
      · rw [hself] at hnm
        obtain rfl := Option.some.inj hnm
        refine ⟨fun _ => ?_, fun j hj => ?_⟩
        · rcases hblk with h | ⟨b0, nm0, T0, hb, hnm0, hT0, hro, hnon, he⟩
          · exact .inl (Nat.le_trans S.below.size h)
          · rw [he]; exact (S.own b0 T0 nm0 hT0 hnm0 hro).1 hnon
        · rw [hcT] at hj
          cases hq : nm.non with
          | true => rw [hnil hq] at hj; simp at hj
          | false =>
            obtain ⟨-, -, -, cur, k1, -⟩ := (hlive hq).1
            exact frozen_of_row w' nm.blk _ cur nm.ty k1
      · rw [hother c hne] at hnm
        obtain ⟨h1, h2⟩ := S.own c U nm2 hU hnm hbr
        obtain ⟨nm', g1, -, g3, g4, -⟩ := S.cell c U hU
        rw [hnm] at g1
        obtain rfl := Option.some.inj g1
        refine ⟨h1, fun j hj => ?_⟩
        rw [cells_ext P hE U g3] at hj
        rcases g4 with ⟨z1, z2⟩ | ⟨-, z2⟩
        · rw [World.frozen?_of_block (keep c U nm2 hU hnm hd z1 z2)]; exact h2 j hj
        · rw [z2] at hj; simp at hj
    · intro c c' U U' n1 n2 hU hU' h1 h2 hbr hne z1 z2
      simp only [St.app] at hU hU'
      rcases live c U hU with ⟨rfl, rfl⟩ | ⟨k1, hU1, d1⟩ <;> rcases live c' U' hU' with ⟨rfl, rfl⟩ | ⟨k2, hU2, d2⟩
      · exact absurd rfl hne
      · rw [hself] at h1
        obtain rfl := Option.some.inj h1
        rw [hother c' k2] at h2
        obtain ⟨nm2, g1, -, -, g4, -⟩ := S.cell c' U' hU2
        rw [h2] at g1
        obtain rfl := Option.some.inj g1
        rcases g4 with ⟨-, g4⟩ | ⟨g4, -⟩
        · exact alone c' U' n2 hU2 h2 d2 z2 g4
        · rw [z2] at g4; cases g4
      · rw [hself] at h2
        obtain rfl := Option.some.inj h2
        rw [hother c k1] at h1
        obtain ⟨nm2, g1, -, -, g4, -⟩ := S.cell c U hU1
        rw [h1] at g1
        obtain rfl := Option.some.inj g1
        rcases g4 with ⟨-, g4⟩ | ⟨g4, -⟩
        · exact fun h => alone c U n1 hU1 h1 d1 z1 g4 h.symm
        · rw [z1] at g4; cases g4
      · rw [hother c k1] at h1
        rw [hother c' k2] at h2
        exact S.apart c c' U U' n1 n2 hU1 hU2 h1 h2 hbr hne z1 z2
    · intro c U nm2 hU hnm hbr hr
      simp only [St.app] at hU
      rcases live c U hU with ⟨rfl, rfl⟩ | ⟨hne, hU, hd⟩
      · rw [hself] at hnm
        obtain rfl := Option.some.inj hnm
        cases hq : nm.non with
        | true => exact .inl rfl
        | false => exact .inr (hlive hq).1
      · rw [hother c hne] at hnm
        cases hq : nm2.non with
        | true => exact .inl rfl
        | false =>
          rcases S.rows c U nm2 hU hnm hbr hr with h | h
          · rw [hq] at h; cases h
          · exact .inr (h.same (keep c U nm2 hU hnm hd hq h.lt))
    · refine S.below.step hos htp hout hsz (fun k hk hn => hblock k hk fun b0 nm0 hb hnm0 hnon e => ?_)
      obtain ⟨hro, T0, hT0⟩ := hb0 b0 hb
      exact hn (e ▸ (S.own b0 T0 nm0 hT0 hnm0 hro).1 hnon)
    · have upK : ∀ c nm2, upd ρ (st.nx + i) nm c = some nm2 → ρ c = some nm2 ∨ nm2.K = nk := by
        intro c nm2 h
        by_cases hb : c = st.nx + i
        · subst hb
          rw [hself] at h
          exact .inr (by rw [← Option.some.inj h]; exact hKI.1)
        · rw [hother c hb] at h
          exact .inl h
      refine S.ex.step upK (fun c U hU => ?_) hsz (fun k hk hn => hblock k hk fun b0 nm0 hb hnm0 hnon => ?_)
      · simp only [St.app] at hU
        rcases live c U hU with ⟨rfl, rfl⟩ | ⟨hne, hU, hd⟩
        · refine .inr ⟨hKI.2, nm, hself, ?_⟩
          rcases hblk with h | ⟨b0, nm0, T0, hb, hnm0, hT0, hro, hnon, he⟩
          · exact .inr (.inl h)
          · exact .inr (.inr ⟨b0, T0, nm0, hT0, hnm0, hro, hnon, he⟩)
        · exact .inl ⟨U, hU, hother c hne, .inl rfl⟩
      · obtain ⟨hro, T0, hT0⟩ := hb0 b0 hb
        exact hn b0 T0 nm0 hT0 hnm0 hro hnon

end Go.Vx
