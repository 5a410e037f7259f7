/- The engine, part K: the state behind an operation, a region, a piece of code; whole functions. -/
import Derived.Test.YtfnhpenkobcblaaDoorVxJ
set_option autoImplicit false
namespace Go.Vx
open Go Go.RowKit

theorem lk_cons_self (d : Nat) (v : AV) (l : List (Nat × AV)) : lk d ((d, v) :: l) = some v := by
  simp [lk]
theorem lk_cons_ne {d e : Nat} (h : e ≠ d) (v : AV) (l : List (Nat × AV)) : lk d ((e, v) :: l) = lk d l := by
  have : Nat.beq e d = false := by
    cases hq : Nat.beq e d
    · rfl
    · exact absurd (beq_eq hq) h
  simp [lk, this]

theorem below_cell {w w' : World} (h : Below w.heap.size w w') {b o : Nat} (hb : b < w.heap.size) : w'.cell? ⟨b, o, none⟩ = w.cell? ⟨b, o, none⟩ := by
  unfold World.cell?; rw [h.block b hb]
theorem below_frozen {w w' : World} (h : Below w.heap.size w w') {b o : Nat} (hb : b < w.heap.size) : w'.frozen? ⟨b, o, none⟩ = w.frozen? ⟨b, o, none⟩ := by
  unfold World.frozen?; rw [h.block b hb]

theorem put_size (a : Act) (d : Option Nat) (v : Value) : (a.put d v).tmps.size = a.tmps.size := by
  cases d <;> simp [Act.put]
theorem put_defers (a : Act) (d : Option Nat) (v : Value) : (a.put d v).defers = a.defers := by
  cases d <;> simp [Act.put]

theorem put_slot {P : Program} {ρ ρ' : Rho} {tm : List (Nat × AV)} {a : Act} {d : Option Nat} {u : AV} {v : Value} (hS : ∀ d v, lk d tm = some v → d < a.tmps.size ∧ a.tmps.getD d undef = den P ρ v ∧ OK P ρ v)
    (hE : Ext ρ ρ') (hd : ∀ n, d = some n → n < a.tmps.size) (hv : v = den P ρ' u) (hu : OK P ρ' u) :
    ∀ n x, lk n (match d with | some d => (d, u) :: tm | none => tm) = some x → n < (a.put d v).tmps.size ∧ (a.put d v).tmps.getD n undef = den P ρ' x ∧ OK P ρ' x := by
  have old : ∀ n x, lk n tm = some x → n < a.tmps.size ∧ a.tmps.getD n undef = den P ρ' x ∧ OK P ρ' x := by
    intro n x hx
    obtain ⟨h1, h2, h3⟩ := hS n x hx
    obtain ⟨h4, h5⟩ := den_ext P hE x h3
    exact ⟨h1, h2.trans h4.symm, h5⟩
  intro n x hx
  rw [put_size]
  cases d with
  | none => exact old n x hx
  | some d =>
    have hdn := hd d rfl
    by_cases e : d = n
    · subst e
      rw [lk_cons_self] at hx
      obtain rfl := Option.some.inj hx
      refine ⟨hdn, ?_, hu⟩
      simp [Act.put, Array.getD_eq_getD_getElem?, hdn, hv]
    · rw [lk_cons_ne e] at hx
      obtain ⟨h1, h2, h3⟩ := old n x hx
      refine ⟨h1, ?_, h3⟩
      rw [← h2]
      simp [Act.put, Array.getD_eq_getD_getElem?, e]

theorem dOK_lt {nt : Nat} {d : Option Nat} (h : dOK nt d = true) : ∀ n, d = some n → n < nt := by
  rintro n rfl
  simpa [dOK] using h

theorem put_tm (st : St) (d : Option Nat) (v : AV) : (st.put d v).tm = (match d with | some d => (d, v) :: st.tm | none => st.tm) := by cases d <;> rfl
theorem put_mem (st : St) (d : Option Nat) (v : AV) : (st.put d v).mem = st.mem := by cases d <;> rfl
theorem put_nx (st : St) (d : Option Nat) (v : AV) : (st.put d v).nx = st.nx := by cases d <;> rfl

theorem size_setCells (b : Nat) : (vs : List Value) → (o : Nat) → (w : World) → (w.setCells b o vs).heap.size = w.heap.size
  | [], _, _ => rfl
  | v :: r, o, w => by rw [World.setCells, size_setCells b r]; simp [World.setCell]

theorem below_setCells {B : Nat} {a w : World} (h : Below B a w) {b : Nat} (hb : B ≤ b) : (o : Nat) → (vs : List Value) → Below B a (w.setCells b o vs)
  | _, [] => h
  | o, v :: r => by rw [World.setCells]; exact below_setCells (h.setCell (p := ⟨b, o, none⟩) hb v) hb (o + 1) r

/-- The state behind an operation. -/
theorem sim_app {P : Program} {w0 : World} {ro : Nat} {ρ : Rho} {st : St} {a : Act} {w : World} (S : Sim P w0 ro ρ st.tm st.mem a.tmps w) {i : Nat} {e : Eff} {v : Value} {ρ' : Rho} {w' : World} {d : Option Nat}
    (hm : ρ (st.nx + i) = none) (hd : ∀ n, d = some n → n < a.tmps.size) (hA : After P ro ρ st.mem w (st.nx + i) e v ρ' w') :
    Sim P w0 ro ρ' (st.app i d e).tm (st.app i d e).mem (a.put d v).tmps w' ∧ Ext ρ ρ' ∧ ∀ b, b ≠ st.nx + i → ρ' b = ρ b := by
  cases hA with
  | val u _ hu hb =>
    refine ⟨⟨?_, ?_, ?_, ?_, ?_⟩, Ext.refl ρ, fun _ _ => rfl⟩
    · simp only [St.app, put_tm]
      exact put_slot S.slot (Ext.refl ρ) hd rfl hu
    · intro b T hT
      simp only [St.app, put_mem] at hT
      obtain ⟨nm, h1, h2, h3, h4, h5⟩ := S.cell b T hT
      exact ⟨nm, h1, h2, h3, Nat.lt_of_lt_of_le h4 hb.size, fun j x hx => by rw [below_cell hb h4]; exact h5 j x hx⟩
    · intro b T nm hT hnm hbr
      simp only [St.app, put_mem] at hT
      obtain ⟨h1, h2⟩ := S.own b T nm hT hnm hbr
      obtain ⟨nm', g1, -, -, g4, -⟩ := S.cell b T hT
      rw [hnm] at g1
      obtain rfl := Option.some.inj g1
      exact ⟨h1, fun j hj => by rw [below_frozen hb g4]; exact h2 j hj⟩
    · intro b b' T T' nm nm' hT hT'
      simp only [St.app, put_mem] at hT hT'
      exact S.apart b b' T T' nm nm' hT hT'
    · exact S.below.trans (hb.mono S.below.size)
  | new ty row cap T g hN oT og =>
    have hE := ext_upd hm ⟨w.heap.size, 0, cap, ty, row⟩
    have hself : upd ρ (st.nx + i) ⟨w.heap.size, 0, cap, ty, row⟩ (st.nx + i) = some ⟨w.heap.size, 0, cap, ty, row⟩ := by simp [upd]
    have hother : ∀ b, b ≠ st.nx + i → upd ρ (st.nx + i) ⟨w.heap.size, 0, cap, ty, row⟩ b = ρ b := fun b h => by simp [upd, h]
    have hnb : Below w.heap.size w (w.alloc (.cells (cells P ρ T).toArray ty)) := (Below.refl _ _).alloc (Nat.le_refl _) _
    have hnew : ∀ j x, (cells P ρ T)[j]? = some x → (w.alloc (.cells (cells P ρ T).toArray ty)).cell? ⟨w.heap.size, 0 + j, none⟩ = some x := by
      intro j x hx
      show (match (w.heap.push _)[w.heap.size]? with | some (.cells c _ _) => _ | _ => _) = _
      simp [hx]
    have hnf : ∀ j, (w.alloc (.cells (cells P ρ T).toArray ty)).frozen? ⟨w.heap.size, 0 + j, none⟩ = false := by
      intro j
      show (match (w.heap.push _)[w.heap.size]? with | some (.cells _ _ (lo, hi)) => _ | _ => _) = _
      simp
    have hcT : cells P (upd ρ (st.nx + i) ⟨w.heap.size, 0, cap, ty, row⟩) T = cells P ρ T := cells_ext P hE T oT
    -- a block that is live behind the operation: the new one, or one that was
    have live : ∀ b U, lk b ((st.nx + i, T) :: st.mem) = some U → (b = st.nx + i ∧ U = T) ∨ (b ≠ st.nx + i ∧ lk b st.mem = some U) := by
      intro b U h
      by_cases hb : st.nx + i = b
      · subst hb
        rw [lk_cons_self] at h
        exact .inl ⟨rfl, (Option.some.inj h).symm⟩
      · rw [lk_cons_ne hb] at h
        exact .inr ⟨fun hh => hb hh.symm, h⟩
    refine ⟨⟨?_, ?_, ?_, ?_, ?_⟩, hE, hother⟩
    · simp only [St.app, put_tm]
      exact put_slot S.slot hE hd rfl og
    · intro b U hU
      simp only [St.app] at hU
      rcases live b U hU with ⟨rfl, rfl⟩ | ⟨hne, hU⟩
      · exact ⟨_, hself, hN, (den_ext P hE _ oT).2, by simp, fun j x hx => by rw [hcT] at hx; exact hnew j x hx⟩
      · obtain ⟨nm, h1, h2, h3, h4, h5⟩ := S.cell b U hU
        refine ⟨nm, by rw [hother b hne]; exact h1, h2, (den_ext P hE _ h3).2, Nat.lt_of_lt_of_le h4 hnb.size, fun j x hx => ?_⟩
        rw [cells_ext P hE U h3] at hx
        rw [below_cell hnb h4]
        exact h5 j x hx
    · intro b U nm hU hnm hbr
      simp only [St.app] at hU
      rcases live b U hU with ⟨rfl, rfl⟩ | ⟨hne, hU⟩
      · rw [hself] at hnm
        obtain rfl := Option.some.inj hnm
        exact ⟨S.below.size, fun j _ => hnf j⟩
      · rw [hother b hne] at hnm
        obtain ⟨h1, h2⟩ := S.own b U nm hU hnm hbr
        obtain ⟨nm', g1, -, g3, g4, -⟩ := S.cell b U hU
        rw [hnm] at g1
        obtain rfl := Option.some.inj g1
        refine ⟨h1, fun j hj => ?_⟩
        rw [cells_ext P hE U g3] at hj
        rw [below_frozen hnb g4]; exact h2 j hj
    · intro b b' U U' nm nm' hU hU' hnm hnm' hbr hne
      simp only [St.app] at hU hU'
      rcases live b U hU with ⟨rfl, rfl⟩ | ⟨h1, hU1⟩ <;> rcases live b' U' hU' with ⟨rfl, rfl⟩ | ⟨h2, hU2⟩
      · exact absurd rfl hne
      · rw [hself] at hnm
        obtain rfl := Option.some.inj hnm
        rw [hother b' h2] at hnm'
        obtain ⟨nm2, g1, -, -, g4, -⟩ := S.cell b' U' hU2
        rw [hnm'] at g1
        obtain rfl := Option.some.inj g1
        simp only; omega
      · rw [hself] at hnm'
        obtain rfl := Option.some.inj hnm'
        rw [hother b h1] at hnm
        obtain ⟨nm2, g1, -, -, g4, -⟩ := S.cell b U hU1
        rw [hnm] at g1
        obtain rfl := Option.some.inj g1
        simp only; omega
      · rw [hother b h1] at hnm
        rw [hother b' h2] at hnm'
        exact S.apart b b' U U' nm nm' hU1 hU2 hnm hnm' hbr hne
    · exact S.below.alloc S.below.size _
  | upd b T T0 nm as old bs xs hbro hb hT0 hN oT hc0 hcT hl =>
    obtain ⟨nm', g1, -, g3, g4, g5⟩ := S.cell b T0 hT0
    rw [hb] at g1
    obtain rfl := Option.some.inj g1
    obtain ⟨o1, o2⟩ := S.own b T0 nm hT0 hb hbro
    have hsz : (w.setCells nm.blk (nm.off + as.length) xs).heap.size = w.heap.size := size_setCells _ _ _ _
    have hsome : ∀ j, j < xs.length → (w.cell? ⟨nm.blk, nm.off + as.length + j, none⟩).isSome = true := by
      intro j hj
      have hj' : j < old.length := by omega
      have := g5 (as.length + j) old[j] (by rw [hc0, List.getElem?_append_right (by omega), Nat.add_sub_cancel_left, List.getElem?_append_left hj', List.getElem?_eq_getElem hj'])
      rw [Nat.add_assoc, this]; rfl
    have live : ∀ c U, lk c ((b, T) :: st.mem) = some U → (c = b ∧ U = T) ∨ (c ≠ b ∧ lk c st.mem = some U) := by
      intro c U h
      by_cases hcb : b = c
      · subst hcb
        rw [lk_cons_self] at h
        exact .inl ⟨rfl, (Option.some.inj h).symm⟩
      · rw [lk_cons_ne hcb] at h
        exact .inr ⟨fun hh => hcb hh.symm, h⟩
    refine ⟨⟨?_, ?_, ?_, ?_, ?_⟩, Ext.refl ρ, fun _ _ => rfl⟩
    · simp only [St.app, put_tm]
      exact put_slot S.slot (Ext.refl ρ) hd (by simp [den, denT, undef]) (by simp [OK, OKL])
    · intro c U hU
      simp only [St.app] at hU
      rcases live c U hU with ⟨rfl, rfl⟩ | ⟨hne, hU⟩
      · refine ⟨nm, hb, hN, oT, by rw [hsz]; exact g4, fun j x hx => ?_⟩
        rw [hcT] at hx
        by_cases h1 : j < as.length
        · rw [World.cell?_setCells_out nm.blk xs _ w _ (fun _ _ => .inl (by simp only; omega))]
          rw [List.getElem?_append_left h1] at hx
          exact g5 j x (by rw [hc0, List.getElem?_append_left h1]; exact hx)
        · rw [List.getElem?_append_right (by omega)] at hx
          by_cases h2 : j - as.length < xs.length
          · rw [List.getElem?_append_left h2, List.getElem?_eq_getElem h2] at hx
            have := World.cell?_setCells_in nm.blk xs (nm.off + as.length) w hsome (j - as.length) h2
            rw [show nm.off + as.length + (j - as.length) = nm.off + j by omega] at this
            rw [this, Option.some.inj hx]
          · rw [World.cell?_setCells_out nm.blk xs _ w _ (fun _ _ => .inr (by simp only; omega))]
            rw [List.getElem?_append_right (by omega)] at hx
            refine g5 j x ?_
            rw [hc0, List.getElem?_append_right (by omega), List.getElem?_append_right (by omega), ← hl]
            exact hx
      · obtain ⟨nm2, k1, k2, k3, k4, k5⟩ := S.cell c U hU
        have hbl := S.apart b c T0 U nm nm2 hT0 hU hb k1 hbro (fun h => hne h.symm)
        exact ⟨nm2, k1, k2, k3, by rw [hsz]; exact k4, fun j x hx => by
          rw [World.cell?_setCells_out nm.blk xs _ w _ (fun h _ => absurd h.symm hbl)]; exact k5 j x hx⟩
    · intro c U nm2 hU hnm hbr
      simp only [St.app] at hU
      rcases live c U hU with ⟨rfl, rfl⟩ | ⟨hne, hU⟩
      · rw [hb] at hnm
        obtain rfl := Option.some.inj hnm
        refine ⟨o1, fun j hj => ?_⟩
        rw [World.frozen?_setCells]
        exact o2 j (by rw [hcT] at hj; rw [hc0]; simp at hj ⊢; omega)
      · obtain ⟨k1, k2⟩ := S.own c U nm2 hU hnm hbr
        exact ⟨k1, fun j hj => by rw [World.frozen?_setCells]; exact k2 j hj⟩
    · intro c c' U U' n1 n2 hU hU' h1 h2 hbr hne
      simp only [St.app] at hU hU'
      have get : ∀ c U, lk c ((b, T) :: st.mem) = some U → ∃ V, lk c st.mem = some V := by
        intro c U h
        rcases live c U h with ⟨rfl, rfl⟩ | ⟨_, h⟩
        · exact ⟨T0, hT0⟩
        · exact ⟨U, h⟩
      obtain ⟨V, hV⟩ := get c U hU
      obtain ⟨V', hV'⟩ := get c' U' hU'
      exact S.apart c c' V V' n1 n2 hV hV' h1 h2 hbr hne
    · exact below_setCells S.below o1 _ _

end Go.Vx
