/- The engine, part O2: operations that turn the state, told by themselves: iterators over texts, copy. -/
import Derived.Test.YtoionfdfofmplaaVxO
import Derived.Laws.RangeString
import Derived.Laws.IdiomCopy
set_option autoImplicit false
set_option linter.unusedVariables false
set_option linter.unusedSimpArgs false
namespace Go.Vx
open Go Go.RowKit

/-- Such an operation does in the model what it does on abstract states. -/
def OpW (P : Program) (cx : Cx) (w0 : Base) (o : Oper) (st : St) (I : Inl) : Prop :=
  ∀ (nx : Nat) (v : AV) (mem' : List (Nat × AV)) (nx' : Nat), I.run none [] st.mem nx (fun v m n => some (v, m, n)) = some (v, mem', nx') →
    ∀ (ρ : Rho) (a : Act) (w : World), Sim P w0 cx.ro ρ st.tm st.mem a.tmps w → GL P ρ cx.gl → (∀ b, nx ≤ b → ρ b = none) →
      ∃ w' ρ', (execOp a.eval o).run P w = .ok (.value (den P ρ' v)) w' ∧ OK P ρ' v ∧ Sim P w0 cx.ro ρ' [] mem' #[] w' ∧ Ext ρ ρ' ∧ ∀ b, nx' ≤ b → ρ' b = none

theorem decode_le (s : ByteArray) (i : Nat) : (Utf8.decode s i).1 ≤ 1114111 := by
  unfold Utf8.decode
  have hv : ∀ c : Nat, Utf8.valid (c : Int) = true → c ≤ 1114111 := by
    intro c h
    simp only [Utf8.valid, Bool.or_eq_true, Bool.and_eq_true, decide_eq_true_eq] at h
    omega
  simp only
  split
  · simp only; omega
  · split
    · split
      · simp only; omega
      · simp [Utf8.runeError]
    · split
      · split
        · rename_i h
          simp only [Bool.and_eq_true] at h
          exact hv _ h.2
        · simp [Utf8.runeError]
      · split
        · split
          · rename_i h
            simp only [Bool.and_eq_true] at h
            exact hv _ h.2
          · simp [Utf8.runeError]
        · simp [Utf8.runeError]

theorem range_ok {P : Program} {cx : Cx} {w0 : Base} {o : Oper} {st : St} {t : TypeId} {x : Operand} {s : ByteArray} (ho : o.op = .range t x) (hx : evO cx.gl st.tm x = some (.str s)) (ht : P.underlying t = some .string) : OpW P cx w0 o st (rangeI s) := by
  intro nx v mem' nx' h ρ a w S hgl hfr
  simp only [rangeI, Option.some.injEq, Prod.mk.injEq] at h
  obtain ⟨rfl, rfl, rfl⟩ := h
  obtain ⟨h1, h2⟩ := ev_sound S hgl hx
  simp only [den] at h1
  simp only [OK] at h2
  let nm : Nm := ⟨w.heap.size, 0, 0, t, true, 0, true, nk⟩
  have hm : ρ nx = none := hfr nx (Nat.le_refl _)
  have hE := ext_upd hm nm
  have self : upd ρ nx nm nx = some nm := by simp [upd]
  have other : ∀ b, b ≠ nx → upd ρ nx nm b = ρ b := fun b h => by simp [upd, h]
  have hb : Below w.heap.size w (w.iter s 0) := (Below.refl _ _).alloc (Nat.le_refl _) _
  have live : ∀ b U, lk b ((nx, AV.itr s 0) :: st.mem) = some U → (b = nx ∧ U = .itr s 0) ∨ (b ≠ nx ∧ lk b st.mem = some U) := by
    intro b U h
    by_cases hbn : nx = b
    · subst hbn
      rw [lk_cons_self] at h
      exact .inl ⟨rfl, (Option.some.inj h).symm⟩
    · rw [lk_cons_ne hbn] at h
      exact .inr ⟨fun hh => hbn hh.symm, h⟩
  have lt : ∀ {k : Nat} {x : Obj}, w.heap[k]? = some x → k < w.heap.size := fun h => (Array.getElem?_eq_some_iff.1 h).1
  refine ⟨w.iter s 0, upd ρ nx nm, ?_, ⟨nm, self⟩, ⟨fun d v h => by simp [lk] at h, ?_, ?_, ?_, ?_, S.below.trans hb, ?_⟩, hE, fun b hbb => by rw [other b (by omega)]; exact hfr b (by omega)⟩
  · have hr := run_range_string (P := P) w t s ht
    simp [execOp, ho, h1, hr, den, self, nm]
  · intro b U hU
    rcases live b U hU with ⟨rfl, rfl⟩ | ⟨hne, hU⟩
    · exact ⟨nm, self, ⟨rfl, rfl⟩, h2, .inr ⟨rfl, by simp [cells, den, Value.cells]⟩, fun j x hx => by simp [cells, den, Value.cells] at hx⟩
    · obtain ⟨nm2, k1, k2, k3, k4, k5⟩ := S.cell b U hU
      refine ⟨nm2, by rw [other b hne]; exact k1, k2, (den_ext P hE _ k3).2, by rw [cells_ext P hE U k3]; exact Liv.size k4 hb.size, fun j x hx => ?_⟩
      rw [cells_ext P hE U k3] at hx
      rw [Liv.cell k4 hb hx]
      exact k5 j x hx
  · intro b U nm2 hU hnm hbr
    rcases live b U hU with ⟨rfl, rfl⟩ | ⟨hne, hU⟩
    · rw [self] at hnm
      obtain rfl := Option.some.inj hnm
      exact ⟨fun _ => .inl S.below.size, fun j hj => by simp [cells, den, Value.cells] at hj⟩
    · rw [other b hne] at hnm
      obtain ⟨k1, k2⟩ := S.own b U nm2 hU hnm hbr
      obtain ⟨nm', g1, -, g3, g4, -⟩ := S.cell b U hU
      rw [hnm] at g1
      obtain rfl := Option.some.inj g1
      refine ⟨k1, fun j hj => ?_⟩
      rw [cells_ext P hE U g3] at hj
      rw [Liv.frozen g4 hb hj]; exact k2 j hj
  · intro b b' U U' n1 n2 hU hU' e1 e2 hbr hne z1 z2
    rcases live b U hU with ⟨rfl, rfl⟩ | ⟨k1, hU1⟩
    · rw [self] at e1
      obtain rfl := Option.some.inj e1
      cases z1
    · rcases live b' U' hU' with ⟨rfl, rfl⟩ | ⟨k2, hU2⟩
      · rw [self] at e2
        obtain rfl := Option.some.inj e2
        cases z2
      · rw [other b k1] at e1
        rw [other b' k2] at e2
        exact S.apart b b' U U' n1 n2 hU1 hU2 e1 e2 hbr hne z1 z2
  · intro b U nm2 hU hnm hbr hr
    rcases live b U hU with ⟨rfl, rfl⟩ | ⟨hne, hU⟩
    · rw [self] at hnm
      obtain rfl := Option.some.inj hnm
      exact .inl rfl
    · rw [other b hne] at hnm
      exact (S.rows b U nm2 hU hnm hbr hr).imp id fun h => h.same (hb.block _ h.lt)
  · have E := S.ex
    have upK : ∀ b nm2, upd ρ nx nm b = some nm2 → ρ b = some nm2 ∨ nm2.K = nk := by
      intro b nm2 h
      by_cases hbn : b = nx
      · subst hbn
        rw [self] at h
        exact .inr (by rw [← Option.some.inj h])
      · rw [other b hbn] at h
        exact .inl h
    refine ⟨?_, ?_, ?_, ?_, ?_, ?_, ?_⟩
    · intro b nm2 hb2 k of v hk
      rcases upK b nm2 hb2 with h | h
      · have h3 := E.froz b nm2 h k of v hk
        rw [World.cell?_of_block (hb.block k (cell_lt h3))]; exact h3
      · rw [h] at hk; simp [nk] at hk
    · intro b nm2 hb2
      rcases upK b nm2 hb2 with h | h
      · exact Nat.le_trans (E.fhs b nm2 h) hb.size
      · rw [h]; exact Nat.zero_le _
    · intro b nm2 hb2 k of v hk
      rcases upK b nm2 hb2 with h | h
      · exact E.org b nm2 h k of v hk
      · rw [h] at hk; simp [nk] at hk
    · intro b U nm2 hU hnm hbr hnon b' nm' hb' k of v hk
      rcases live b U hU with ⟨rfl, rfl⟩ | ⟨hne, hU⟩
      · rw [self] at hnm
        obtain rfl := Option.some.inj hnm
        cases hnon
      · rw [other b hne] at hnm
        rcases upK b' nm' hb' with h | h
        · exact E.away b U nm2 hU hnm hbr hnon b' nm' h k of v hk
        · rw [h] at hk; simp [nk] at hk
    · intro b s' p' hU
      rcases live b _ hU with ⟨rfl, hq⟩ | ⟨hne, hU⟩
      · simp only [AV.itr.injEq] at hq
        obtain ⟨rfl, rfl⟩ := hq
        exact ⟨nm, self, World.iter_heap w s' 0, .inl S.below.size⟩
      · obtain ⟨nm2, g1, g2, g3⟩ := E.its b s' p' hU
        exact ⟨nm2, by rw [other b hne]; exact g1, by rw [hb.block _ (lt g2)]; exact g2, g3⟩
    · intro b s' p' nm2 hU hnm b' U' nm' hU' hnm' hro' hnon
      rcases live b' U' hU' with ⟨rfl, rfl⟩ | ⟨hne', hU2⟩
      · rw [self] at hnm'
        obtain rfl := Option.some.inj hnm'
        cases hnon
      · rw [other b' hne'] at hnm'
        rcases live b _ hU with ⟨rfl, hq⟩ | ⟨hne, hU⟩
        · rw [self] at hnm
          obtain rfl := Option.some.inj hnm
          obtain ⟨nm3, g1, -, -, g4, -⟩ := S.cell b' U' hU2
          rw [hnm'] at g1
          obtain rfl := Option.some.inj g1
          rcases g4 with ⟨-, g4⟩ | ⟨g4, -⟩
          · simp only [nm]; omega
          · rw [hnon] at g4; cases g4
        · rw [other b hne] at hnm
          exact E.ita b s' p' nm2 hU hnm b' U' nm' hU2 hnm' hro' hnon
    · intro b b' s1 s2 p1 p2 n1 n2 hU hU' e1 e2 hne
      have blkI : ∀ b s p nm2, lk b st.mem = some (.itr s p) → ρ b = some nm2 → nm2.blk < w.heap.size := by
        intro b s p nm2 hb2 hn2
        obtain ⟨nm3, g1, g2, -⟩ := E.its b s p hb2
        rw [hn2] at g1
        obtain rfl := Option.some.inj g1
        exact lt g2
      rcases live b _ hU with ⟨rfl, hq⟩ | ⟨k1, hU1⟩ <;> rcases live b' _ hU' with ⟨rfl, hq'⟩ | ⟨k2, hU2⟩
      · exact absurd rfl hne
      · rw [self] at e1
        obtain rfl := Option.some.inj e1
        rw [other b' k2] at e2
        have := blkI b' s2 p2 n2 hU2 e2
        simp only [nm]; omega
      · rw [self] at e2
        obtain rfl := Option.some.inj e2
        rw [other b k1] at e1
        have := blkI b s1 p1 n1 hU1 e1
        simp only [nm]; omega
      · rw [other b k1] at e1
        rw [other b' k2] at e2
        exact E.itd b b' s1 s2 p1 p2 n1 n2 hU1 hU2 e1 e2 hne

theorem next_ok {P : Program} {cx : Cx} {w0 : Base} {o : Oper} {st : St} {x : Operand} {b : Nat} (ho : o.op = .next x true) (hx : evO cx.gl st.tm x = some (.itp b)) : OpW P cx w0 o st (nextI b) := by
  intro nx v mem' nx' h ρ a w S hgl hfr
  simp only [nextI] at h
  obtain ⟨h1, -⟩ := ev_sound S hgl hx
  split at h
  · rename_i s p hT
    have E := S.ex
    obtain ⟨nm, hb, hblk, hown⟩ := E.its b s p hT
    obtain ⟨nm', hb', hN, okT, -⟩ := S.cell b _ hT
    rw [hb] at hb'
    obtain rfl := Option.some.inj hb'
    simp only [OK] at okT
    have hnn : nm.non = true ∧ nm.row = true := by
      unfold HasN at hN
      split at hN
      · rename_i hr; exact ⟨hN.2, hr⟩
      · simp [Has] at hN
    have lt : nm.blk < w.heap.size := (Array.getElem?_eq_some_iff.1 hblk).1
    have hv : a.eval x = .pointer (some ⟨nm.blk, 0, none⟩) := by rw [h1]; simp [den, hb]
    have S0 : Sim P w0 cx.ro ρ [] st.mem #[] w := ⟨fun d v h => by simp [lk] at h, S.cell, S.own, S.apart, S.rows, S.below, S.ex⟩
    cases hq : Nat.blt p s.size with
    | false =>
      rw [hq] at h
      simp only [cond_false, Option.some.injEq, Prod.mk.injEq] at h
      obtain ⟨rfl, rfl, rfl⟩ := h
      have hlt : ¬ p < s.size := by
        intro hh
        have : Nat.blt p s.size = true := by simpa using hh
        rw [hq] at this; cases this
      refine ⟨w, ρ, ?_, ⟨trivial, trivial⟩, S0, Ext.refl ρ, hfr⟩
      simp [execOp, ho, hv, Instr.next, getObj, Sem.run, hblk, hlt, den, denT]
    | true =>
      rw [hq] at h
      simp only [cond_true, Option.some.injEq, Prod.mk.injEq] at h
      obtain ⟨rfl, rfl, rfl⟩ := h
      have hlt : p < s.size := by simpa using hq
      let w' : World := { w with heap := w.heap.setIfInBounds nm.blk (.stringIter s (p + (Utf8.decode s p).2)) }
      have hself : w'.heap[nm.blk]? = some (.stringIter s (p + (Utf8.decode s p).2)) := by simp [w', lt]
      have hother : ∀ k, k ≠ nm.blk → w'.heap[k]? = w.heap[k]? := by
        intro k hk
        simp only [w']
        rw [Array.getElem?_setIfInBounds_ne (fun h => hk h.symm)]
      have hsz : w'.heap.size = w.heap.size := by simp [w']
      have live : ∀ c U, lk c ((b, AV.itr s (p + (Utf8.decode s p).2)) :: st.mem) = some U → (c = b ∧ U = .itr s (p + (Utf8.decode s p).2)) ∨ (c ≠ b ∧ lk c st.mem = some U) := by
        intro c U h
        by_cases hcb : b = c
        · subst hcb
          rw [lk_cons_self] at h
          exact .inl ⟨rfl, (Option.some.inj h).symm⟩
        · rw [lk_cons_ne hcb] at h
          exact .inr ⟨fun hh => hcb hh.symm, h⟩
      -- cells lie in other blocks
      have cellB : ∀ k of u, w.cell? ⟨k, of, none⟩ = some u → k ≠ nm.blk := by
        intro k of u hc hk
        rw [hk] at hc
        simp [World.cell?, hblk] at hc
      have keep : ∀ k of u, w.cell? ⟨k, of, none⟩ = some u → w'.cell? ⟨k, of, none⟩ = some u := by
        intro k of u hc
        rw [World.cell?_of_block (hother k (cellB k of u hc))]; exact hc
      have frz : ∀ k of, w'.frozen? ⟨k, of, none⟩ = w.frozen? ⟨k, of, none⟩ := by
        intro k of
        by_cases hk : k = nm.blk
        · subst hk
          simp [World.frozen?, hself, hblk]
        · exact World.frozen?_of_block (hother k hk)
      refine ⟨w', ρ, ?_, ?_, ⟨fun d v h => by simp [lk] at h, ?_, ?_, ?_, ?_, ?_, ?_⟩, Ext.refl ρ, hfr⟩
      · simp [execOp, ho, hv, Instr.next, getObj, setObj, Sem.run, hblk, hlt, den, denT, goInt, w']
      · simp only [OK, OKL]
        have := decode_le s p
        have e1 : IntKind.i64.min = -9223372036854775808 := by decide
        have e2 : IntKind.i64.max = 9223372036854775807 := by decide
        have e3 : IntKind.i32.min = -2147483648 := by decide
        have e4 : IntKind.i32.max = 2147483647 := by decide
        rw [e1, e2, e3, e4]
        exact ⟨trivial, by omega, by omega, trivial⟩
      · intro c U hU
        rcases live c U hU with ⟨rfl, rfl⟩ | ⟨hne, hU⟩
        · refine ⟨nm, hb, ?_, okT, .inr ⟨hnn.1, by simp [cells, den, Value.cells]⟩, fun j x hx => by simp [cells, den, Value.cells] at hx⟩
          simp only [HasN, hnn.2, if_true] at hN ⊢
          exact hN
        · obtain ⟨nm2, k1, k2, k3, k4, k5⟩ := S.cell c U hU
          exact ⟨nm2, k1, k2, k3, Liv.size k4 (by rw [hsz]; exact Nat.le_refl _), fun j x hx => keep _ _ _ (k5 j x hx)⟩
      · intro c U nm2 hU hnm hbr
        rcases live c U hU with ⟨rfl, rfl⟩ | ⟨hne, hU⟩
        · rw [hb] at hnm
          obtain rfl := Option.some.inj hnm
          exact ⟨fun _ => hown, fun j hj => by simp [cells, den, Value.cells] at hj⟩
        · obtain ⟨k1, k2⟩ := S.own c U nm2 hU hnm hbr
          exact ⟨k1, fun j hj => by rw [frz]; exact k2 j hj⟩
      · intro c c' U U' n1 n2 hU hU' e1 e2 hbr hne z1 z2
        have get : ∀ c U, lk c ((b, AV.itr s (p + (Utf8.decode s p).2)) :: st.mem) = some U → ∃ V, lk c st.mem = some V := by
          intro c U h
          rcases live c U h with ⟨rfl, rfl⟩ | ⟨_, h⟩
          · exact ⟨_, hT⟩
          · exact ⟨U, h⟩
        obtain ⟨V, hV⟩ := get c U hU
        obtain ⟨V', hV'⟩ := get c' U' hU'
        exact S.apart c c' V V' n1 n2 hV hV' e1 e2 hbr hne z1 z2
      · intro c U nm2 hU hnm hbr hr
        rcases live c U hU with ⟨rfl, rfl⟩ | ⟨hne, hU⟩
        · rw [hb] at hnm
          obtain rfl := Option.some.inj hnm
          exact .inl hnn.1
        · rcases S.rows c U nm2 hU hnm hbr hr with h | h
          · exact .inl h
          · refine .inr (h.same (hother _ ?_))
            obtain ⟨-, -, -, cur, h4, -⟩ := h
            intro hk
            rw [hk, hblk] at h4
            cases h4
      · exact S.below.step rfl rfl rfl (by rw [hsz]; exact Nat.le_refl _) (fun k _ hn => hother k (fun h => hn (h ▸ hown)))
      · refine ⟨?_, ?_, E.org, ?_, ?_, ?_, ?_⟩
        · intro c nm2 hc k of u hk
          exact keep _ _ _ (E.froz c nm2 hc k of u hk)
        · intro c nm2 hc
          rw [hsz]; exact E.fhs c nm2 hc
        · intro c U nm2 hU hnm hbr hnon c' nm' hc' k of u hk
          rcases live c U hU with ⟨rfl, rfl⟩ | ⟨hne, hU⟩
          · rw [hb] at hnm
            obtain rfl := Option.some.inj hnm
            rw [hnn.1] at hnon; cases hnon
          · exact E.away c U nm2 hU hnm hbr hnon c' nm' hc' k of u hk
        · intro c s' p' hU
          rcases live c _ hU with ⟨rfl, hq⟩ | ⟨hne, hU⟩
          · simp only [AV.itr.injEq] at hq
            obtain ⟨rfl, rfl⟩ := hq
            exact ⟨nm, hb, hself, hown⟩
          · obtain ⟨nm2, g1, g2, g3⟩ := E.its c s' p' hU
            refine ⟨nm2, g1, ?_, g3⟩
            rw [hother _ (E.itd c b s' s p' p nm2 nm hU hT g1 hb hne)]; exact g2
        · intro c s' p' nm2 hU hnm c' U' nm' hU' hnm' hro' hnon
          have getI : ∃ s0 p0, lk c st.mem = some (.itr s0 p0) := by
            rcases live c _ hU with ⟨rfl, -⟩ | ⟨-, h⟩
            · exact ⟨_, _, hT⟩
            · exact ⟨_, _, h⟩
          obtain ⟨s0, p0, hI⟩ := getI
          rcases live c' U' hU' with ⟨rfl, rfl⟩ | ⟨hne', hU'⟩
          · rw [hb] at hnm'
            obtain rfl := Option.some.inj hnm'
            rw [hnn.1] at hnon; cases hnon
          · exact E.ita c s0 p0 nm2 hI hnm c' U' nm' hU' hnm' hro' hnon
        · intro c c' s1 s2 p1 p2 n1 n2 hU hU' e1 e2 hne
          have getI : ∀ c s1 p1, lk c ((b, AV.itr s (p + (Utf8.decode s p).2)) :: st.mem) = some (.itr s1 p1) → ∃ s0 p0, lk c st.mem = some (.itr s0 p0) := by
            intro c s1 p1 h
            rcases live c _ h with ⟨rfl, -⟩ | ⟨-, h⟩
            · exact ⟨_, _, hT⟩
            · exact ⟨_, _, h⟩
          obtain ⟨a1, a2, hI⟩ := getI c s1 p1 hU
          obtain ⟨a3, a4, hI'⟩ := getI c' s2 p2 hU'
          exact E.itd c c' a1 a3 a2 a4 n1 n2 hI hI' e1 e2 hne
  · cases h

/-- One row laid over another's beginning: contents and cells. -/
theorem copyT_spec {P : Program} {ρ : Rho} {te : TypeId} {T U V : AV} (h : copyT T U = some V) (hT : RowSh P te T) (hU : RowSh P te U) (oT : OK P ρ T) (oU : OK P ρ U) :
    RowSh P te V ∧ OK P ρ V ∧ rowN V = rowN T ∧ (∀ s p, V ≠ .itr s p) ∧ cells P ρ V = (cells P ρ U).take (min (rowN U) (rowN T) * P.cellsOf te) ++ (cells P ρ T).drop (min (rowN U) (rowN T) * P.cellsOf te) := by
  unfold copyT at h
  split at h
  · rename_i q n l q' m u
    obtain ⟨hk, h⟩ := cond_some h
    obtain rfl := Option.some.inj h
    obtain rfl := kEq_eq hk
    simp only [OK] at oT oU
    obtain ⟨t1, t2⟩ := hT
    refine ⟨⟨t1, t2⟩, ?_, rfl, (fun _ _ e => by cases e), ?_⟩
    · simp only [OK]
      refine ⟨by simp; omega, fun x hx => ?_⟩
      rcases List.mem_append.1 hx with h | h
      · exact oU.2 x (List.mem_of_mem_take h)
      · exact oT.2 x (List.mem_of_mem_drop h)
    · rw [cells_ints, cells_ints, cells_ints, t2, Nat.mul_one, ← List.map_take, ← List.map_drop, ← List.map_append]
      simp only [rowN]
      congr 2
      · rcases Nat.le_total m n with h | h
        · rw [Nat.min_eq_left h, List.take_of_length_le (by omega), List.take_of_length_le (by omega)]
        · rw [Nat.min_eq_right h]
      · rcases Nat.le_total m n with h | h
        · rw [Nat.min_eq_left h]
        · rw [Nat.min_eq_right h, List.drop_of_length_le (by omega), List.drop_of_length_le (by omega)]
  · rename_i c l c' u
    split at h
    · rename_i hs
      have e := Tc.same_eq c' c hs
      subst e
      obtain rfl := Option.some.inj h
      simp only [OK] at oT oU
      have hT' : c'.fit P te = true := hT
      have tk : ∀ (z : List c'.T), (∀ x ∈ z, c'.ok x) → ∀ n, (z.take n).flatMap c'.cs = (z.flatMap c'.cs).take (n * P.cellsOf te) ∧ (z.drop n).flatMap c'.cs = (z.flatMap c'.cs).drop (n * P.cellsOf te) := by
        intro z
        induction z with
        | nil => intro _ n; simp
        | cons x z ih =>
          intro hz n
          have hx := vec_len P hT' (hz x (by simp))
          cases n with
          | zero => simp
          | succ n =>
            obtain ⟨i1, i2⟩ := ih (fun y hy => hz y (by simp [hy])) n
            rw [List.take_succ_cons, List.drop_succ_cons, List.flatMap_cons, List.flatMap_cons, i1, i2, Nat.succ_mul, Nat.add_comm (n * _) _]
            generalize n * P.cellsOf te = q
            have e1 : (c'.cs x ++ z.flatMap c'.cs).take (P.cellsOf te + q) = c'.cs x ++ (z.flatMap c'.cs).take q := by rw [← hx, List.take_length_add_append]
            have e2 : (c'.cs x ++ z.flatMap c'.cs).drop (P.cellsOf te + q) = (z.flatMap c'.cs).drop q := by rw [← hx, List.drop_length_add_append]
            exact ⟨e1.symm, e2.symm⟩
      show RowSh P te (.vec c' (u.take l.length ++ l.drop u.length)) ∧ OK P ρ (.vec c' (u.take l.length ++ l.drop u.length)) ∧ rowN (.vec c' (u.take l.length ++ l.drop u.length)) = rowN (.vec c' l) ∧ (∀ s p, AV.vec c' (u.take l.length ++ l.drop u.length) ≠ .itr s p) ∧ cells P ρ (.vec c' (u.take l.length ++ l.drop u.length)) = _
      refine ⟨hT, ?_, by simp [rowN]; omega, (fun _ _ e => by cases e), ?_⟩
      · simp only [OK]
        intro x hx
        rcases List.mem_append.1 hx with h | h
        · exact oU x (List.mem_of_mem_take h)
        · exact oT x (List.mem_of_mem_drop h)
      · rw [cells_vec, cells_vec, cells_vec, List.flatMap_append]
        simp only [rowN]
        have hu := flat_len P hT' oU
        have hl := flat_len P hT' oT
        rw [(tk u oU l.length).1, (tk l oT u.length).2]
        congr 1
        · rcases Nat.le_total u.length l.length with h | h
          · rw [Nat.min_eq_left h, List.take_of_length_le (by rw [hu]; exact Nat.mul_le_mul_right _ h), List.take_of_length_le (by rw [hu]; exact Nat.le_refl _)]
          · rw [Nat.min_eq_right h]
        · rcases Nat.le_total u.length l.length with h | h
          · rw [Nat.min_eq_left h]
          · rw [Nat.min_eq_right h, List.drop_of_length_le (by rw [hl]; exact Nat.mul_le_mul_right _ h), List.drop_of_length_le (by rw [hl]; exact Nat.le_refl _)]
    · cases h
  · cases h

theorem copy_ok {P : Program} {cx : Cx} {w0 : Base} {o : Oper} {st : St} {c : Call} {t t' e e' : TypeId} {b n : Nat} {y : AV} (ho : o.op = .call c) (hcal : c.callee = .builtin .copy) (hx : evL (evO cx.gl st.tm) c.args.toList = some [.gs b n e, y]) (hty : c.argTypes.toList = [t, t'])
    (hu : P.underlying t = some (.slice e)) (_hu' : P.underlying t' = some (.slice e')) (hrt : rowTy P e = true) : OpW P cx w0 o st (copyI cx.ro (.gs b n e) y) := by
  intro nx v mem' nx' h ρ a w S hgl hfr
  simp only [copyI] at h
  obtain ⟨h1, h2⟩ := evL_sound S hgl hx
  simp only [OKL, and_true] at h2
  obtain ⟨okx, oky⟩ := h2
  have hargs : c.args.map a.eval = #[den P ρ (.gs b n e), den P ρ y] := by
    rw [← Array.toArray_toList (xs := c.args.map a.eval), Array.toList_map, h1]; simp [denT]
  have hty' : c.argTypes = #[t, t'] := by rw [← Array.toArray_toList (xs := c.argTypes), hty]
  split at h
  · rename_i r hr
    obtain ⟨U, te⟩ := r
    replace h := cond_some h
    obtain ⟨hc, h⟩ := h
    simp only [Bool.and_eq_true] at hc
    have hro' := Nat.le_of_ble_eq_true hc.2
    have hte := beq_eq hc.1
    simp only at hte h
    subst hte
    split at h
    · rename_i T hT
      split at h
      · rename_i V hV
        simp only [Option.some.injEq, Prod.mk.injEq] at h
        obtain ⟨rfl, rfl, rfl⟩ := h
        obtain ⟨shU, okU, plU, hmaxU, hyv⟩ := rowC_at S (get := fun b => lk b st.mem) (fun _ _ h => h) hr oky
        have hT' : lk b st.mem = some T := hT
        obtain ⟨nm, hb, hN, okT, hs, hcell⟩ := S.cell b T hT'
        have okx0 := okx
        simp only [OK] at okx
        obtain ⟨nm', hb', hrw, ht', hn', hle, hnon, hmx⟩ := okx
        rw [hb] at hb'
        obtain rfl := Option.some.inj hb'
        have shT : RowSh P nm.ty T ∧ rowN T = nm.cap := by
          refine rowSh_of hN hrw ⟨fun n f q => ?_, fun s p q => ?_⟩ <;> subst q <;> simp [copyT] at hV
        rw [ht'] at shT
        obtain ⟨shV, okV, hrV, hnI, hcV⟩ := copyT_spec hV shT.1 shU okT okU
        have lenU := rowSh_len shU okU
        have lenT := rowSh_len shT.1 okT
        obtain ⟨i, hi⟩ : ∃ i, P.info? e = some i := by
          unfold rowTy at hrt
          split at hrt
          · rename_i i hi; exact ⟨i, hi⟩
          · cases hrt
        have hsz : P.cellsOf e = i.size := by simp [Program.cellsOf, hi]
        let k := min (rowN U) (rowN T)
        let xs := (cells P ρ U).take (k * P.cellsOf e)
        have hxl : xs.length = k * P.cellsOf e := by
          simp only [xs, List.length_take, lenU]
          exact Nat.min_eq_left (Nat.mul_le_mul_right _ (Nat.min_le_left _ _))
        have hkT : k ≤ rowN T := Nat.min_le_right _ _
        have hkU : k ≤ rowN U := Nat.min_le_left _ _
        have hkz : ((k : Nat) : Int) ≤ 9223372036854775807 := by omega
        have okV0 : OK P ρ (.int .i64 ((k : Nat) : Int)) := by
          simp only [OK]
          have e1 : IntKind.i64.min = -9223372036854775808 := by decide
          have e2 : IntKind.i64.max = 9223372036854775807 := by decide
          rw [e1, e2]; omega
        -- what is written
        have hA : After P cx.ro ρ st.mem w nx (.upd b V) undef ρ (w.setCells nm.blk (nm.off + ([] : List Value).length) xs) := by
          refine .upd b V T nm [] ((cells P ρ T).take (k * P.cellsOf e)) ((cells P ρ T).drop (k * P.cellsOf e)) xs hro' hb hT' hnI (hasN_of hrw (by rw [ht']; exact shV) (by rw [hrV]; exact shT.2)) okV (by simp) hcV ?_
          rw [hxl, List.length_take, lenT]
          exact (Nat.min_eq_left (Nat.mul_le_mul_right _ hkT)).symm
        have S0 : Sim P w0 cx.ro ρ [] st.mem #[] w := ⟨fun d v h => by simp [lk] at h, S.cell, S.own, S.apart, S.rows, S.below, S.ex⟩
        obtain ⟨S1, -, -⟩ := sim_app (st := { tm := [], mem := st.mem, nx := nx }) (a := { tmps := #[], defers := [] }) (i := 0) (d := none) S0 (by rw [Nat.add_zero]; exact hfr nx (Nat.le_refl _)) (fun _ h => by cases h) hA
        refine ⟨w.setCells nm.blk nm.off xs, ρ, ?_, okV0, S1, Ext.refl ρ, hfr⟩
        have hfc : (Builtin.firstCells (P.cellsOf e) k (den P ρ y)).run P w = .ok xs.toArray w := by
          rcases hyv with ⟨z, e1, -, e2, e3⟩ | ⟨ub, uo, uq, e1, -, -, -, e4⟩
          · rw [e1]
            cases z with
            | none => simp [Builtin.firstCells, xs, e3]
            | some ad =>
              have hk0 : k = 0 := by omega
              have := run_loadCells_list (P := P) (w := w) ad [] (fun j z hz => by simp at hz)
              simpa [Builtin.firstCells, xs, e3, hk0] using this
          · rw [e1]
            have := run_loadCells_list (P := P) (w := w) ⟨ub, uo, none⟩ xs (fun j z hz => by
              rw [addr_add]
              refine e4 j z ?_
              simp only [xs] at hz
              rw [List.getElem?_take] at hz
              split at hz
              · exact hz
              · cases hz)
            rw [hxl] at this
            simpa [Builtin.firstCells] using this
        have hlo : (Builtin.lenOf (den P ρ y)).run P w = .ok (rowN U) w := by
          rcases hyv with ⟨z, e1, -, e2, -⟩ | ⟨ub, uo, uq, e1, -⟩
          · rw [e1, e2]; cases z <;> rfl
          · rw [e1]; rfl
        have hnT : rowN T = n := by omega
        have hmin : Nat.min (rowN U) n = k := by show min (rowN U) n = min (rowN U) (rowN T); rw [hnT]
        have hso : (sizeOf e).run P w = .ok (P.cellsOf e) w := by simp [sizeOf, typeInfo, hi, hsz]
        have hcopy : (Builtin.copy_ #[t, t'] o.type #[den P ρ (.gs b n e), den P ρ y]).run P w = .ok (.int .i64 (k : Int)) (w.setCells nm.blk nm.off xs) := by
          cases hq : nm.non with
          | true =>
            have hn0 := hnon hq
            have hk0 : k = 0 := by omega
            have hx0 : xs = [] := List.eq_nil_of_length_eq_zero (by rw [hxl, hk0, Nat.zero_mul])
            have hd : den P ρ (.gs b n e) = .slice none 0 0 := by simp [den, hb, gsV, hq]
            rw [hn0] at hmin
            rw [hd, hx0]
            rw [hk0] at hfc
            simp [Builtin.copy_, run_underlying hu, hlo, hso, hfc, goInt, hk0, hmin, hx0, World.setCells]
          | false =>
            have hd : den P ρ (.gs b n e) = .slice (some ⟨nm.blk, nm.off, none⟩) n nm.tot := by simp [den, hb, gsV, hq]
            have hst := run_storeCells_cells (P := P) nm.blk nm.off xs 0 w (fun j hj => by
              rw [Nat.add_zero]
              have hj' : j < (cells P ρ T).length := by rw [lenT]; exact Nat.lt_of_lt_of_le (by rw [hxl] at hj; exact hj) (Nat.mul_le_mul_right _ hkT)
              rw [hcell j _ (List.getElem?_eq_getElem hj')]; rfl) (fun j hj => by
              rw [Nat.add_zero]
              refine (S.own b T nm hT' hb hro').2 j ?_
              rw [lenT]; exact Nat.lt_of_lt_of_le (by rw [hxl] at hj; exact hj) (Nat.mul_le_mul_right _ hkT)) (fun z hz => rowSh_one shU z (List.mem_of_mem_take hz))
            simp only [Nat.add_zero] at hst
            rw [hd]
            simp [Builtin.copy_, run_underlying hu, hlo, hso, hmin, hfc, hst, goInt]
        have hd9 : den P ρ (.int .i64 ((k : Nat) : Int)) = .int .i64 (k : Int) := by simp [den]
        show (execOp a.eval o).run P w = .ok (.value (den P ρ (.int .i64 ((k : Nat) : Int)))) _
        rw [hd9]
        simp [execOp, ho, resolve, hcal, invoke, builtin, hargs, hty', hcopy]
      · cases h
    · cases h
  · cases h

theorem wAt_ok {P : Program} {cx : Cx} {w0 : Base} {o : Oper} {st : St} {I : Inl} (h : wAt P cx o st = some I) : OpW P cx w0 o st I := by
  unfold wAt at h
  split at h
  · split at h
    · obtain rfl := Option.some.inj h
      exact range_ok ‹_› ‹_› ‹_›
    · cases h
  · split at h
    · obtain rfl := Option.some.inj h
      exact next_ok ‹_› ‹_›
    · cases h
  · split at h
    · split at h
      · split at h
        · split at h
          · rename_i e el hu hu' _ b n te hxx
            cases hq : (Nat.beq e te && rowTy P e) with
            | false => rw [hq] at h; cases h
            | true =>
              rw [hq] at h
              simp only [cond_true, Option.some.injEq] at h
              simp only [Bool.and_eq_true] at hq
              obtain rfl := beq_eq hq.1
              subst h
              exact copy_ok ‹_› ‹_› hxx ‹_› hu hu' hq.2
          · cases h
        · cases h
      · cases h
    · cases h
  · cases h

end Go.Vx
