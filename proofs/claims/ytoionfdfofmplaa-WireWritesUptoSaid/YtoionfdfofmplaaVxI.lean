/- The engine, part I: slices, lengths, equality, calls; any operation. -/
import Derived.Test.YtoionfdfofmplaaVxI1
import Derived.Great.BuildSlice
import Derived.Laws.OwnMore
set_option autoImplicit false
set_option linter.unusedVariables false
set_option linter.unusedSimpArgs false
namespace Go.Vx
open Go Go.RowKit

section
variable {P : Program} {w0 : Base} {ro : Nat} {ρ : Rho} {tm mem : List (Nat × AV)} {a : Act} {w : World} (S : Sim P w0 ro ρ tm mem a.tmps w)
  {gl : Nat → Option AV} (hgl : GL P ρ gl)
include S hgl

theorem bnd_sound {x : Option Operand} {d y : Nat} {α : Type} {k : Nat → Option α} {r : α} (h : bnd (evO gl tm) x d y none k = some r) (code : BoundsCode) :
    ∃ i, k i = some r ∧ ((x = none ∧ i = d) ∨ (∃ o, x = some o ∧ i ≤ y ∧ ∀ w : World, (Instr.sliceBound (a.eval o) y code).run P w = .ok i w)) := by
  unfold bnd at h
  cases x with
  | none => exact ⟨d, h, .inl ⟨rfl, rfl⟩⟩
  | some o =>
    simp only at h
    split at h
    · rename_i q i hi
      replace h := cond_some h
      obtain ⟨hc, h⟩ := h
      simp only [decide_eq_true_eq] at hc
      obtain ⟨h1, -⟩ := ev_sound S hgl hi
      simp only [den] at h1
      exact ⟨i.toNat, h, .inr ⟨o, rfl, by omega, fun w => by simp [Instr.sliceBound, h1, asIntOf, hc]⟩⟩
    · simp at h

/-- The three bounds of a slice expression without a third index. -/
theorem bounds_sound {lo hi : Option Operand} {len cap : Nat} {α : Type} {k : Nat → Nat → Option α} {r : α} (isS : Bool) (hlc : len ≤ cap)
    (h : bnd (evO gl tm) hi len cap none (fun h => bnd (evO gl tm) lo 0 h none fun l => k h l) = some r) :
    ∃ h l, k h l = some r ∧ l ≤ h ∧ h ≤ cap ∧ ∀ w : World, (Instr.sliceBounds isS len cap (lo.map a.eval) (hi.map a.eval) none).run P w = .ok (l, h, cap) w := by
  obtain ⟨i, h1, h2⟩ := bnd_sound S hgl h (if isS then .sliceAcap else .sliceAlen)
  obtain ⟨j, h3, h4⟩ := bnd_sound S hgl h1 .sliceB
  refine ⟨i, j, h3, ?_, ?_, fun w => ?_⟩
  · rcases h4 with ⟨-, rfl⟩ | ⟨o, -, hj, -⟩ <;> omega
  · rcases h2 with ⟨-, rfl⟩ | ⟨o, -, hi, -⟩ <;> omega
  · unfold Instr.sliceBounds
    rcases h2 with ⟨rfl, rfl⟩ | ⟨o, rfl, -, ho⟩ <;> rcases h4 with ⟨rfl, rfl⟩ | ⟨o', rfl, -, ho'⟩ <;> simp_all

variable {m : Nat} {o : Oper} {e : Eff} {next : Act → World → Prop} {Q : Exit → Act → World → Prop} (hn : ∀ v ρ' w', After P ro ρ mem w m e v ρ' w' → next (a.put o.dst v) w')
include hn

theorem s_sliceA {t el : TypeId} {x : Operand} {lo hi : Option Operand} {b n : Nat} {p : List Nat} (ho : o.op = .slice t x lo hi none) (hx : evO gl tm x = some (.ptr b p t)) (ht : P.underlying t = some (.array n el))
    (hz : 0 < P.cellsOf el) (hin : (n : Int) ≤ 9223372036854775807)
    (h : bnd (evO gl tm) hi n n none (fun h => bnd (evO gl tm) lo 0 h none fun l => some (.val (.sl b p (bif Nat.beq n l then 0 else l) (h - l) (n - l) el))) = some e) : o.wp P a w next Q := by
  obtain ⟨h1, h2⟩ := ev_sound S hgl hx
  obtain ⟨h, l, k1, k2, k3, k4⟩ := bounds_sound S hgl false (Nat.le_refl n) h
  simp only [Option.some.injEq] at k1
  simp only [OK] at h2
  obtain ⟨nm, of, hb, hp⟩ := h2
  have hbase := base_of_path hp ht
  rw [den_ptr hb hp] at h1
  have hbq : Nat.beq n l = decide (n = l) := by
    cases hq : Nat.beq n l
    · symm; simpa using Nat.ne_of_beq_eq_false hq
    · symm; simpa using beq_eq hq
  refine put_val hn k1.symm ?_ ?_
  · simp only [OK]
    refine ⟨nm, of, n, hb, hbase, ?_, by omega, by omega⟩
    rw [hbq]
    by_cases hnl : n = l <;> simp [hnl] <;> omega
  · rw [den_sl hb hbase]
    simp only [execOp, ho, h1, Instr.sliceAt, Sem.run_bind, run_underlying ht, Result.andThen_ok, Instr.sureAddr, Sem.run_pure, Option.map_none, k4, run_sizeOf_pos hz, hbq]
    by_cases hnl : n = l <;> simp [hnl, addr_add, Nat.add_assoc]

theorem s_sliceS {t el : TypeId} {x : Operand} {lo hi : Option Operand} {b off len cap : Nat} {p : List Nat} (ho : o.op = .slice t x lo hi none) (hx : evO gl tm x = some (.sl b p off len cap el)) (ht : P.underlying t = some (.slice el))
    (hz : 0 < P.cellsOf el)
    (h : bnd (evO gl tm) hi len cap none (fun h => bnd (evO gl tm) lo 0 h none fun l => some (.val (.sl b p (bif Nat.beq cap l then off else off + l) (h - l) (cap - l) el))) = some e) : o.wp P a w next Q := by
  obtain ⟨h1, h2⟩ := ev_sound S hgl hx
  simp only [OK] at h2
  obtain ⟨nm, of, n, hb, hbase, hcn, hlc, hmx⟩ := h2
  obtain ⟨h, l, k1, k2, k3, k4⟩ := bounds_sound S hgl true hlc h
  simp only [Option.some.injEq] at k1
  rw [den_sl hb hbase] at h1
  have hbq : Nat.beq cap l = decide (cap = l) := by
    cases hq : Nat.beq cap l
    · symm; simpa using Nat.ne_of_beq_eq_false hq
    · symm; simpa using beq_eq hq
  refine put_val hn k1.symm ?_ ?_
  · simp only [OK]
    refine ⟨nm, of, n, hb, hbase, ?_, by omega, by omega⟩
    rw [hbq]
    by_cases hnl : cap = l <;> simp [hnl] <;> omega
  · rw [den_sl hb hbase]
    simp only [execOp, ho, h1, Instr.sliceAt, Instr.slice, Sem.run_bind, run_underlying ht, Result.andThen_ok, Sem.run_pure, Option.map_none, k4, run_sizeOf_pos hz, hbq]
    by_cases hnl : cap = l <;> simp [hnl, addr_add, Nat.add_assoc, Nat.add_mul]

theorem s_sliceN {t el : TypeId} {x : Operand} {lo hi : Option Operand} (ho : o.op = .slice t x lo hi none) (hx : evO gl tm x = some .nils) (ht : P.underlying t = some (.slice el)) (hz : 0 < P.cellsOf el)
    (h : bnd (evO gl tm) hi 0 0 none (fun h => bnd (evO gl tm) lo 0 h none fun _ => some (.val .nils)) = some e) : o.wp P a w next Q := by
  obtain ⟨h1, -⟩ := ev_sound S hgl hx
  obtain ⟨h, l, k1, k2, k3, k4⟩ := bounds_sound S hgl true (Nat.le_refl 0) h
  simp only [Option.some.injEq] at k1
  simp only [den] at h1
  have e1 : h = 0 := by omega
  have e2 : l = 0 := by omega
  subst e1 e2
  refine put_val hn k1.symm (by simp [OK]) ?_
  simp [execOp, ho, h1, Instr.sliceAt, Instr.slice, run_underlying ht, k4, run_sizeOf_pos hz, den]

theorem s_len {c : Call} {t : TypeId} {u : AV} {i : Int} (ho : o.op = .call c) (hcal : c.callee = .builtin .len) (hx : evL (evO gl tm) c.args.toList = some [u]) (ht : c.argTypes.toList = [t])
    (hv : (∃ b p off n cap te el, u = .sl b p off n cap te ∧ i = n ∧ P.underlying t = some (.slice el)) ∨ (∃ el, u = .nils ∧ i = 0 ∧ P.underlying t = some (.slice el)) ∨ (∃ b n te el, u = .gs b n te ∧ i = n ∧ P.underlying t = some (.slice el)) ∨
      (∃ s, u = .str s ∧ i = (s.size : Int) ∧ P.underlying t = some .string) ∨ (∃ (n : Nat) (el : TypeId), i = n ∧ P.underlying t = some (.array n el) ∧ inR .i64 n = true)) (he : e = .val (.int .i64 i)) : o.wp P a w next Q := by
  obtain ⟨h1, h2⟩ := evL_sound S hgl hx
  simp only [OKL, and_true] at h2
  have hargs : c.args.map a.eval = #[den P ρ u] := by
    rw [← Array.toArray_toList (xs := c.args.map a.eval), Array.toList_map, h1]; simp [denT]
  have hty : c.argTypes = #[t] := by rw [← Array.toArray_toList (xs := c.argTypes), ht]
  have main : (Builtin.len_ c.argTypes o.type (c.args.map a.eval)).run P w = .ok (.int .i64 i) w ∧ IntKind.i64.min ≤ i ∧ i ≤ IntKind.i64.max := by
    rw [hargs, hty]
    have em : IntKind.i64.min = -9223372036854775808 := by decide
    have ex : IntKind.i64.max = 9223372036854775807 := by decide
    rcases hv with ⟨b, p, off, n, cap, te, el, rfl, rfl, hu⟩ | ⟨el, rfl, rfl, hu⟩ | ⟨b, n, te, el, rfl, rfl, hu⟩ | ⟨s, rfl, rfl, hu⟩ | ⟨n, el, rfl, hu, hr⟩
    · simp only [OK] at h2
      obtain ⟨nm, of, k, hb, hbase, hcn, hlc, hmx⟩ := h2
      refine ⟨by simp [Builtin.len_, run_underlying hu, den_sl hb hbase, goInt], by omega, by omega⟩
    · exact ⟨by simp [Builtin.len_, run_underlying hu, den, goInt], by omega, by omega⟩
    · simp only [OK] at h2
      obtain ⟨nm, hb, -, -, hn', hle, hnon, hmx⟩ := h2
      refine ⟨?_, by omega, by omega⟩
      cases hq : nm.non with
      | true => simp [Builtin.len_, run_underlying hu, den, hb, gsV, hq, goInt, hnon hq]
      | false => simp [Builtin.len_, run_underlying hu, den, hb, gsV, hq, goInt]
    · simp only [OK] at h2
      exact ⟨by simp [Builtin.len_, run_underlying hu, den, goInt], by omega, by omega⟩
    · simp only [inR, decide_eq_true_eq] at hr
      exact ⟨by simp [Builtin.len_, run_underlying hu, goInt], hr⟩
  refine put_val hn he (by simp only [OK]; exact main.2) ?_
  simp [execOp, ho, resolve, hcal, invoke, builtin, main.1, den]

omit S hgl hn in
theorem cells_none {v : AV} (h : pl v = true) (ok : OK P ρ v) : cells P (fun _ => none) v = cells P ρ v ∧ OK P (fun _ => none) v := by
  have k := pl_ok P v h ok
  exact ⟨(cells_ext P (Ext.empty ρ) v k).symm, k⟩

omit hgl hn in
theorem rowC_arg {get : Nat → Option AV} (hget : ∀ b T, get b = some T → lk b mem = some T) {v U : AV} {te : TypeId} (h : rowC get v = some (U, te)) (hnd : ∀ b p t d x, v ≠ .dv b p t d x) (ok : OK P ρ v) : ArgAt P w (den P ρ v) (.tup [U, .clo te []]) ∧ OK P (fun _ => none) (.tup [U, .clo te []]) := by
  obtain ⟨k1, k2, k3, k4, k5⟩ := rowC_at S hget h ok
  obtain ⟨c1, c2⟩ := cells_none (ρ := ρ) k3 k2
  refine ⟨?_, by simp only [OK, OKL]; exact ⟨c2, trivial, trivial⟩⟩
  show SliceAt P w _ U te
  have hN : ∀ nm : Nm, nm.row = true → nm.ty = te → nm.cap = rowN U → HasN P nm U := by
    intro nm h1 h2 h3
    simp only [HasN, h1, if_true]
    cases U <;> simp only [RowSh] at k1 <;> exact ⟨by rw [h3]; rfl, by rw [h2]; exact k1⟩
  rcases k5 with ⟨z, e1, ez, e2, e3⟩ | ⟨b, o, q, e1, e5, e2, e3, e4⟩
  · obtain rfl := ez hnd
    exact ⟨⟨0, 0, rowN U, te, true, rowN U, true, nk⟩, by rw [e1, e2]; rfl, rfl, rfl, rfl, Nat.le_refl _, fun _ => e2, k4, hN _ rfl rfl rfl, .inr ⟨rfl, by rw [c1, e3]⟩, fun j x hx => by rw [c1, e3] at hx; simp at hx⟩
  · exact ⟨⟨b, o, rowN U, te, true, q, false, nk⟩, by rw [e1]; rfl, rfl, rfl, rfl, e2, (fun h => by cases h), e3, hN _ rfl rfl rfl, .inl ⟨rfl, e5⟩, fun j x hx => e4 j x (by rw [← c1]; exact hx)⟩

omit hgl hn in
theorem argC_sound {get : Nat → Option AV} (hget : ∀ b T, get b = some T → lk b mem = some T) {v u : AV} (h : argC get v = some u) (ok : OK P ρ v) : ArgAt P w (den P ρ v) u ∧ OK P (fun _ => none) u := by
  have plain : ∀ v : AV, pl v = true → OK P ρ v → den P ρ v = den P (fun _ => none) v ∧ OK P (fun _ => none) v := by
    intro v hv ok
    have k := pl_ok P v hv ok
    exact ⟨(den_ext P (Ext.empty ρ) v k).1, k⟩
  cases v with
  | tup l => simp [argC] at h
  | sl b p off len cap te =>
    simp only [argC] at h
    split at h
    · rename_i T hT
      split at h
      · rename_i k0 n0 l0 hT'
        obtain ⟨hc, h⟩ := cond_some h
        simp only [Option.some.injEq] at h
        subst h
        simp only [Bool.and_eq_true] at hc
        obtain ⟨⟨⟨c1, c2⟩, c3⟩, c5⟩ := hc
        have c4 : pl (.ints k0 n0 l0) = true := rfl
        generalize hTT : AV.ints k0 n0 l0 = T' at *
        have c3 : Nat.beq (rowN T') len = true := by rw [← hTT]; exact c3
        have c1 := beq_eq c1
        have c2 := beq_eq c2
        have c3 := beq_eq c3
        subst c1; subst c2; subst c3
        have hl := hget b T hT
        obtain ⟨nm, hb, hN, okT, hs, hcell⟩ := S.cell b T hl
        simp only [OK] at ok
        obtain ⟨nm', o, n, hb', hbase, hoff, -, hmax⟩ := ok
        rw [hb] at hb'
        obtain rfl := Option.some.inj hb'
        -- the row that is sliced
        have key : OK P ρ T' ∧ HasN P ⟨nm.blk, nm.off + o, rowN T', te, true, rowN T', false, nk⟩ T' ∧ LiesAt (cells P ρ T) o (cells P ρ T') := by
          have inner : ∀ u, pathN P nm p = some (o, u) → P.underlying u = some (.array n te) → OK P ρ T' ∧ HasN P ⟨nm.blk, nm.off + o, rowN T', te, true, rowN T', false, nk⟩ T' ∧ LiesAt (cells P ρ T) o (cells P ρ T') := by
            intro u hp hu
            obtain ⟨x, as, bs, h1, h2, h3, h4, h5, -⟩ := name_down P ρ nm p T hN okT o u hp
            rw [hT'] at h1
            obtain rfl := Option.some.inj h1
            refine ⟨h3, ?_, ?_⟩
            · simp only [HasN, if_true]
              cases T' <;> simp only [pl, Bool.false_eq_true] at c4 <;> simp only [Has] at h2
              case ints k m l =>
                obtain ⟨e, g1, g2, g3, -⟩ := h2
                rw [hu] at g1
                simp only [Option.some.injEq, TypeDesc.array.injEq] at g1
                obtain ⟨-, rfl⟩ := g1
                exact ⟨rfl, g2, g3⟩
              case agg l =>
                rcases h2 with ⟨fs, g1, -⟩ | ⟨m, e, g1, g2, g3, -⟩
                · rw [hu] at g1; simp at g1
                · rw [hu] at g1
                  simp only [Option.some.injEq, TypeDesc.array.injEq] at g1
                  obtain ⟨-, rfl⟩ := g1
                  exact ⟨rfl, g3⟩
              all_goals first
                | (obtain ⟨g1, -⟩ := h2; rw [hu] at g1; simp at g1)
                | (obtain ⟨⟨_, g1⟩, -⟩ := h2; rw [hu] at g1; simp at g1)
                | (obtain ⟨⟨_, _, _, g1⟩, -⟩ := h2; rw [hu] at g1; simp at g1)
                | exact h2.elim
            · rw [h4, ← h5]
              exact LiesAt.append as _ bs
          unfold baseN at hbase
          by_cases hr : nm.row = true
          · rw [if_pos hr] at hbase
            cases p with
            | nil =>
              simp only [Option.some.injEq, Prod.mk.injEq] at hbase
              obtain ⟨rfl, rfl, rfl⟩ := hbase
              simp only [getP, Option.some.injEq] at hT'
              subst hT'
              refine ⟨okT, ?_, fun j x hx => by rw [Nat.zero_add]; exact hx⟩
              simp only [HasN, hr, if_true] at hN ⊢
              cases T <;> simp only [pl, Bool.false_eq_true] at c4 <;> simp only at hN ⊢
              · exact ⟨rfl, hN.2⟩
              · exact ⟨rfl, hN.2⟩
              · exact ⟨rfl, hN.2⟩
            | cons i q =>
              simp only at hbase
              split at hbase
              · rename_i hi
                split at hbase
                · rename_i o1 u1 hq
                  split at hbase
                  · rename_i n1 e1 hu1
                    simp only [Option.some.injEq, Prod.mk.injEq] at hbase
                    obtain ⟨rfl, rfl, rfl⟩ := hbase
                    exact inner u1 (by unfold pathN; rw [if_pos hr]; simp [hi, hq]) hu1
                  · simp at hbase
                · simp at hbase
              · simp at hbase
          · rw [if_neg hr] at hbase
            split at hbase
            · rename_i o1 u1 hq
              split at hbase
              · rename_i n1 e1 hu1
                simp only [Option.some.injEq, Prod.mk.injEq] at hbase
                obtain ⟨rfl, rfl, rfl⟩ := hbase
                exact inner u1 (by unfold pathN; rw [if_neg hr]; exact hq) hu1
              · simp at hbase
            · simp at hbase
        obtain ⟨k1, k2, k3⟩ := key
        obtain ⟨k4, k5⟩ := cells_none (ρ := ρ) c4 k1
        have hlen : 0 < (cells P ρ T').length := by
          rw [← hTT] at k1 c5 ⊢
          simp only [OK] at k1
          rw [cells_ints, List.length_map, k1.1]
          simpa [rowN] using c5
        have hnn : nm.non = false ∧ nm.blk < w.heap.size := by
          rcases hs with h1 | ⟨-, h1⟩
          · exact h1
          · exfalso
            have := k3 0 _ (List.getElem?_eq_getElem hlen)
            rw [h1] at this
            simp at this
        refine ⟨⟨⟨nm.blk, nm.off + o, rowN T', te, true, rowN T', false, nk⟩, ?_, rfl, rfl, rfl, Nat.le_refl _, (fun h => by cases h), hmax, k2, .inl ⟨rfl, hnn.2⟩, fun j x hx => ?_⟩, ?_⟩
        · rw [den_sl hb hbase]; simp [gsV]
        · rw [k4] at hx
          have := hcell (o + j) x (k3 j x hx)
          rwa [← Nat.add_assoc] at this
        · simp only [OK, OKL]
          exact ⟨k5, trivial, trivial⟩
      · simp at h
    · simp at h
  | gs b n te =>
    simp only [argC] at h
    split at h
    · rename_i T hT
      obtain ⟨c4, h⟩ := cond_some h
      simp only [Option.some.injEq] at h
      subst h
      have hl := hget b T hT
      obtain ⟨nm, hb, hN, okT, hs, hcell⟩ := S.cell b T hl
      simp only [OK] at ok
      obtain ⟨nm', hb', hr, ht', hn', hle, hnon, hmax⟩ := ok
      rw [hb] at hb'
      obtain rfl := Option.some.inj hb'
      have hrow : nm.cap = rowN T := by
        have hN' := hN
        simp only [HasN, hr, if_true] at hN'
        cases T <;> simp only at hN' <;> first | exact hN'.1.symm | exact hN'.elim | (simp [pl] at c4; done)
      obtain ⟨k4, k5⟩ := cells_none (ρ := ρ) c4 okT
      refine ⟨⟨nm, ?_, hr, ht', hrow, by omega, fun h => by have := hnon h; omega, hmax, hN, ?_, fun j x hx => ?_⟩, ?_⟩
      · simp only [den, hb]; rw [hn', hrow]
      · rw [k4]; exact hs
      · rw [k4] at hx; exact hcell j x hx
      · simp only [OK, OKL]
        exact ⟨k5, trivial, trivial⟩
    · simp at h
  | gp b lo n te nn z =>
    simp only [argC] at h
    split at h
    · rename_i r hr
      obtain ⟨U, te'⟩ := r
      simp only [Option.some.injEq] at h
      subst h
      exact rowC_arg S hget hr (fun _ _ _ _ _ h => by cases h) ok
    · simp at h
  | dv b p te d x => simp [argC] at h
  | _ =>
    simp only [argC] at h
    obtain ⟨hc, h⟩ := cond_some h
    simp only [Option.some.injEq] at h
    subst h
    exact plain _ hc ok

omit hgl hn in
theorem argsC_sound {get : Nat → Option AV} (hget : ∀ b T, get b = some T → lk b mem = some T) : {vs us : List AV} → argsC get vs = some us → OKL P ρ vs → ArgsAt P w (denT P ρ vs) us ∧ OKL P (fun _ => none) us
  | [], us, h, _ => by simp only [argsC, Option.some.injEq] at h; subst h; simp [denT, ArgsAt, OKL]
  | v :: l, us, h, ok => by
    simp only [argsC] at h
    split at h
    · rename_i u hu
      split at h
      · rename_i r hr
        simp only [Option.some.injEq] at h
        subst h
        simp only [OKL] at ok
        obtain ⟨h1, h2⟩ := argC_sound S hget hu ok.1
        obtain ⟨h3, h4⟩ := argsC_sound hget hr ok.2
        simp only [denT, ArgsAt, OKL]
        exact ⟨⟨h1, h3⟩, h2, h4⟩
      · simp at h
    · simp at h

omit S hgl in
/-- What a call gives back is the operation's effect. -/
theorem ret_put {v : AV} {a' : Value} {w' : World} (hk : retK v (fun e => some e) = some e) (hr : ResAt P w w' a' v) (hb : Below w.heap.size w w') : next (a.put o.dst a') w' := by
  have row : ∀ (T : AV) (te : TypeId) (b : Value) (g : Nat → AV), RowR P w w' b T te → e = .grow none T g → (∀ nm : Nm, b = gsV nm (rowN T) → nm.row = true → nm.ty = te → nm.cap = rowN T → rowN T ≤ nm.tot → (nm.non = true → rowN T = 0) → (nm.tot : Int) ≤ 9223372036854775807 →
      OK P (upd ρ m nm) (g m) ∧ den P (upd ρ m nm) (g m) = a') → next (a.put o.dst a') w' := by
    intro T te b g hR he hg
    obtain ⟨nm, e0, w1, w2, w3, w4, w5, w6, hN, oT, hblk, hK, hlive⟩ := hR
    obtain ⟨k1, k2⟩ := hg nm e0 w1 w2 w3 w4 (fun h => (w5 h).1) w6
    obtain ⟨c1, c2⟩ := den_ext P (Ext.empty ρ) T oT
    have hc := cells_ext P (Ext.empty ρ) T oT
    subst he
    rw [← k2]
    exact hn _ _ _ (.grow none T g nm w' hN c2 k1 w1 hK (fun h => by rw [hc]; exact (w5 h).2) (fun h => ⟨(hlive h).1, fun j x hx => (hlive h).2 j x (by rw [← hc]; exact hx)⟩) (.inl hblk) ⟨hb.os, hb.tape, hb.output, hb.size⟩ (fun k hk _ => hb.block k hk) (fun b0 h => by cases h))
  have gsOK : ∀ (nm : Nm) (T : AV) (te : TypeId), nm.row = true → nm.ty = te → nm.cap = rowN T → rowN T ≤ nm.tot → (nm.non = true → rowN T = 0) → (nm.tot : Int) ≤ 9223372036854775807 → OK P (upd ρ m nm) (.gs m (rowN T) te) ∧ den P (upd ρ m nm) (.gs m (rowN T) te) = gsV nm (rowN T) := by
    intro nm T te w1 w2 w3 w4 w5 w6
    have self : upd ρ m nm m = some nm := by simp [upd]
    refine ⟨?_, by simp [den, self]⟩
    simp only [OK]
    exact ⟨nm, self, w1, w2, w3.symm, w4, w5, w6⟩
  unfold retK at hk
  split at hk
  · rename_i T te y
    simp only [Option.some.injEq] at hk
    obtain ⟨b, e1, e2, e3⟩ := hr
    refine row T te b _ e2 hk.symm fun nm e0 w1 w2 w3 w4 w5 w6 => ?_
    obtain ⟨g1, g2⟩ := gsOK nm T te w1 w2 w3 w4 w5 w6
    obtain ⟨d1, d2⟩ := den_ext P (Ext.empty (upd ρ m nm)) y e3
    refine ⟨?_, ?_⟩
    · simp only [OK, OKL]
      exact ⟨by simpa only [OK] using g1, d2, trivial⟩
    · rw [e1, e0, ← g2, ← d1]
      simp [den, denT]
  · rename_i T te hno
    simp only [Option.some.injEq] at hk
    have hr : RowR P w w' a' T te := by
      unfold ResAt at hr
      split at hr
      · rename_i heq
        simp only [AV.tup.injEq, List.cons.injEq, and_true] at heq
        exact (hno _ _ heq.1).elim
      · rename_i heq
        simp only [AV.tup.injEq, List.cons.injEq, AV.clo.injEq, and_true] at heq
        obtain ⟨rfl, rfl⟩ := heq
        exact hr
      · rename_i n2
        exact (n2 _ _ rfl).elim
    refine row T te a' _ hr hk.symm fun nm e0 w1 w2 w3 w4 w5 w6 => ?_
    obtain ⟨g1, g2⟩ := gsOK nm T te w1 w2 w3 w4 w5 w6
    exact ⟨g1, by rw [g2, e0]⟩
  · rename_i n1 n2
    simp only [Option.some.injEq] at hk
    have hr' : a' = den P (fun _ => none) v ∧ OK P (fun _ => none) v := by
      unfold ResAt at hr
      split at hr
      · exact (n1 _ _ _ rfl).elim
      · exact (n2 _ _ rfl).elim
      · exact hr
    obtain ⟨hdv, hov⟩ := den_ext P (Ext.empty ρ) v hr'.2
    rw [hr'.1, ← hdv]
    subst hk
    exact hn _ _ _ (.val v w' hov hb)

theorem s_call {Γ : FuncId → Option Ct} (hΓ : ∀ g C, Γ g = some C → SoundAt P w0.g g C) {get : Nat → Option AV} (hget : ∀ b T, get b = some T → lk b mem = some T) {c : Call} {fo : Operand} {g : FuncId} {vs us : List AV} {C : Ct} {v : AV} (ho : o.op = .call c) (hcal : c.callee = .value fo) (hf : evO gl tm fo = some (.clo g []))
    (hx : evL (evO gl tm) c.args.toList = some vs) (hC : Γ g = some C) (hus : argsC get vs = some us) (hr : (C us).run none some = some v) (hk : retK v (fun e => some e) = some e) : o.wp P a w next Q := by
  obtain ⟨h1, -⟩ := ev_sound S hgl hf
  simp only [den, denT] at h1
  obtain ⟨h2, h3⟩ := evL_sound S hgl hx
  obtain ⟨hat, ok0⟩ := argsC_sound S hget hus h3
  have hmeets := hΓ g C hC us v hr ok0 w S.below.below _ hat
  have hargs : c.args.map a.eval = (denT P ρ vs).toArray := by
    rw [← Array.toArray_toList (xs := c.args.map a.eval), Array.toList_map, h2]
  rcases hmeets with ⟨hcf, hcalls⟩ | ⟨a', hcf, hres⟩
  · have hrun : (execOp a.eval o).run P w = .ok (.enter g (denT P ρ vs).toArray) w := by
      simp [execOp, ho, resolve, hcal, h1, Deferred.ofValue, invoke, hargs, hcf]
    unfold Oper.wp
    rw [hrun, Oper.upon_enter]
    refine hcalls.mono ?_
    rintro e' w' ⟨a', rfl, hres, hb⟩
    exact ret_put hn hk hres hb
  · have hrun : (execOp a.eval o).run P w = .ok (.value a') w := by
      simp [execOp, ho, resolve, hcal, h1, Deferred.ofValue, invoke, hargs, hcf]
    exact one_put hrun (ret_put hn hk hres (Below.refl _ _))

omit S hgl hn in
/-- What append does, on a row of its own and what is read off another one. -/
theorem app_run {t el ty : TypeId} {B n m : Nat} {v yv : Value} {xs news : List Value} (hrt : rowTy P el = true) (hfit : fits P el (n + m) = true) (hu : P.underlying t = some (.slice el))
    (hown : w.ownsRow B el (P.cellsOf el) v n xs) (hB : B ≤ w.heap.size)
    (hy : (yv = .slice none 0 0 ∧ m = 0 ∧ news = []) ∨ ∃ ad c, yv = .slice (some ad) m c ∧ ∀ j u, news[j]? = some u → w.cell? (ad.add j) = some u) (hl : news.length = m * P.cellsOf el) (h1 : ∀ u ∈ news, u.oneCell' = true) :
    ∃ v' w', (Builtin.append_ #[t, t] ty #[v, yv]).run P w = .ok v' w' ∧ w'.ownsRow B el (P.cellsOf el) v' (n + m) (xs ++ news) ∧ w.grownBy w' v.ownBlock ∧ (v'.ownBlock = v.ownBlock ∨ v'.ownBlock = some w.heap.size) := by
  unfold rowTy at hrt
  unfold fits at hfit
  cases hi : P.info? el with
  | none => rw [hi] at hrt; simp at hrt
  | some i =>
    rw [hi] at hrt hfit
    simp only at hrt hfit
    have hsz : P.cellsOf el = i.size := by simp [Program.cellsOf, hi]
    cases hz : i.zero with
    | none => rw [hz] at hrt; simp at hrt
    | some z =>
      rw [hz] at hrt
      simp only [Bool.and_eq_true] at hrt
      simp only [decide_eq_true_eq] at hfit
      have hzs := beq_eq hrt.1
      have hpos : 0 < i.size := by simpa using hrt.2
      rw [hsz] at hown hl ⊢
      rcases hy with ⟨rfl, rfl, rfl⟩ | ⟨ad, c, rfl, hc⟩
      · refine ⟨v, w, run_append_owned_none w B t ty el i i.size hu hi v n xs hown, by simpa using hown, ⟨rfl, rfl, rfl, Nat.le_refl _, fun _ _ _ => rfl⟩, .inl rfl⟩
      · obtain ⟨v', w', k1, k2, k3, -, k5⟩ := run_append_own_at w B t ty el i z i.size i.bytes hu hi hz rfl rfl hzs hpos v n xs hown ad m c news hl hc h1 (by simp only [maxLen]; omega) hfit.1 hB
        exact ⟨v', w', k1, k2, k3, k5⟩

omit S hgl in
/-- A row that has grown (or was made) is the operation's answer. -/
theorem grow_put {b : Option Nat} {V : AV} {el : TypeId} {v' : Value} {w' : World} {B : Nat} (hm : HasN P ⟨0, 0, rowN V, el, true, 0, false, nk⟩ V) (oV : OK P ρ V) (hmax : ((rowN V : Nat) : Int) ≤ 9223372036854775807)
    (hrun : (execOp a.eval o).run P w = .ok (.value v') w') (hown : w'.ownsRow B el (P.cellsOf el) v' (rowN V) (cells P ρ V)) (hg : ∀ k, k < w.heap.size → (∀ b0 nm0, b = some b0 → ρ b0 = some nm0 → nm0.non = false → k ≠ nm0.blk) → w'.heap[k]? = w.heap[k]?)
    (hw : w'.os = w.os ∧ w'.tape = w.tape ∧ w'.output = w.output ∧ w.heap.size ≤ w'.heap.size)
    (hblk : ∀ g, v'.ownBlock = some g → w.heap.size ≤ g ∨ ∃ b0 nm0 T0, b = some b0 ∧ ρ b0 = some nm0 ∧ lk b0 mem = some T0 ∧ ro ≤ b0 ∧ nm0.non = false ∧ g = nm0.blk)
    (hb0 : ∀ b0, b = some b0 → ro ≤ b0 ∧ ∃ T0, lk b0 mem = some T0) (he : e = .grow b V fun c => .gs c (rowN V) el) : o.wp P a w next Q := by
  subst he
  have hasN : ∀ nm : Nm, nm.row = true → nm.cap = rowN V → nm.ty = el → HasN P nm V := by
    intro nm h1 h2 h3
    simp only [HasN, if_true] at hm
    simp only [HasN, h1, if_true]
    cases V <;> simp only at hm ⊢ <;> first
      | exact ⟨by rw [h2]; rfl, by rw [h3]; exact hm.2⟩
      | exact hm.elim
      | exact Bool.noConfusion hm.2
  have noI : ∀ s p, V ≠ .itr s p := by
    intro s p e
    rw [e] at hm
    simp [HasN] at hm
  rcases hown.2 with ⟨rfl, hn0⟩ | ⟨g, cap, cur, rfl, hbg, hgg, hnc, hcm, hcs, htake⟩
  · -- nil
    have hnil : cells P ρ V = [] := List.eq_nil_of_length_eq_zero (by rw [hown.1, hn0, Nat.zero_mul])
    have self : upd ρ m ⟨w.heap.size, 0, rowN V, el, true, rowN V, true, nk⟩ m = some ⟨w.heap.size, 0, rowN V, el, true, rowN V, true, nk⟩ := by simp [upd]
    have hv : den P (upd ρ m ⟨w.heap.size, 0, rowN V, el, true, rowN V, true, nk⟩) (.gs m (rowN V) el) = .slice none 0 0 := by simp [den, self, gsV]
    refine one_put hrun ?_
    rw [← hv]
    refine hn _ _ _ (.grow b V _ ⟨w.heap.size, 0, rowN V, el, true, rowN V, true, nk⟩ w' (hasN _ rfl rfl rfl) oV ?_ rfl ⟨rfl, noI⟩ (fun _ => hnil) (fun h => by cases h) (.inl (Nat.le_refl _)) hw hg hb0)
    simp only [OK]
    exact ⟨_, self, rfl, rfl, rfl, Nat.le_refl _, fun _ => hn0, hmax⟩
  · have self : upd ρ m ⟨g, 0, rowN V, el, true, cap, false, nk⟩ m = some ⟨g, 0, rowN V, el, true, cap, false, nk⟩ := by simp [upd]
    have hv : den P (upd ρ m ⟨g, 0, rowN V, el, true, cap, false, nk⟩) (.gs m (rowN V) el) = .slice (some ⟨g, 0, none⟩) (rowN V) cap := by simp [den, self, gsV]
    refine one_put hrun ?_
    rw [← hv]
    refine hn _ _ _ (.grow b V _ ⟨g, 0, rowN V, el, true, cap, false, nk⟩ w' (hasN _ rfl rfl rfl) oV ?_ rfl ⟨rfl, noI⟩ (fun h => by cases h) (fun _ => ⟨⟨rfl, hnc, hcm, cur, hgg, hcs⟩, fun j x hx => ?_⟩) (hblk g rfl) hw hg hb0)
    · simp only [OK]
      exact ⟨_, self, rfl, rfl, rfl, hnc, (fun h => by cases h), by
        show ((cap : Nat) : Int) ≤ 9223372036854775807
        simp only [maxLen] at hcm; omega⟩
    · simp only [Nat.zero_add]
      rw [cell_of_row w' g j cur el (0, 0) hgg]
      rw [← htake, List.getElem?_take] at hx
      split at hx
      · simpa using hx
      · cases hx

omit S hgl hn in
theorem rowSh_of {nm : Nm} {T : AV} (h : HasN P nm T) (hr : nm.row = true) (hv : (∀ n f, T ≠ .rows n f) ∧ ∀ s p, T ≠ .itr s p) : RowSh P nm.ty T ∧ rowN T = nm.cap := by
  simp only [HasN, hr, if_true] at h
  cases T <;> simp only at h
  case rows n f => exact absurd rfl (hv.1 n f)
  case itr s p => exact absurd rfl (hv.2 s p)
  all_goals exact ⟨h.2, h.1⟩
omit S hgl hn in
theorem hasN_of {nm : Nm} {T : AV} (hr : nm.row = true) (h : RowSh P nm.ty T) (hc : rowN T = nm.cap) : HasN P nm T := by
  simp only [HasN, hr, if_true]
  cases T <;> simp only [RowSh] at h <;> exact ⟨hc, h⟩
omit S hgl hn in
theorem getAll_spec {c : Tc} : {es : List AV} → {u : List c.T} → c.getAll es = some u → es = u.map c.mk
  | [], u, h => by simp only [Tc.getAll, Option.some.injEq] at h; subst h; rfl
  | v :: l, u, h => by
    simp only [Tc.getAll] at h
    split at h
    · rename_i x hx
      split at h
      · rename_i r hr
        simp only [Option.some.injEq] at h
        subst h
        rw [List.map_cons, ← Tc.get_mk hx, ← getAll_spec hr]
      · cases h
    · cases h
omit S hgl hn in
theorem okL_map {c : Tc} : (u : List c.T) → OKL P ρ (u.map c.mk) → ∀ x ∈ u, c.ok x
  | [], _, x, hx => by simp at hx
  | y :: u, h, x, hx => by
    simp only [List.map_cons, OKL] at h
    rcases List.mem_cons.1 hx with rfl | hx
    · exact Tc.ok_mk.1 h.1
    · exact okL_map u h.2 x hx
omit S hgl hn in
theorem denC_map {c : Tc} : (u : List c.T) → denC P ρ (u.map c.mk) = u.flatMap c.cs
  | [] => by simp [denC]
  | y :: u => by rw [List.map_cons, denC_cons, cells_mk, List.flatMap_cons, denC_map u]
omit S hgl hn in
/-- One row behind another. -/
theorem catT_spec {te : TypeId} {T U V : AV} (h : catT T U = some V) (hT : RowSh P te T) (hU : RowSh P te U) (oT : OK P ρ T) (oU : OK P ρ U) :
    RowSh P te V ∧ OK P ρ V ∧ rowN V = rowN T + rowN U ∧ cells P ρ V = cells P ρ T ++ cells P ρ U := by
  cases T with
  | ints k n l =>
    cases U <;> simp only [catT] at h
    case ints k' m u =>
      obtain ⟨hk, h'⟩ := cond_some h
      obtain rfl := kEq_eq hk
      obtain rfl := Option.some.inj h'
      simp only [OK] at oT oU
      refine ⟨hT, ?_, rfl, by simp only [cells_ints, List.map_append]⟩
      simp only [OK]
      refine ⟨by rw [List.length_append, oT.1, oU.1], fun z hz => ?_⟩
      rcases List.mem_append.1 hz with h | h
      · exact oT.2 z h
      · exact oU.2 z h
    all_goals cases h
  | vec c l =>
    simp only [OK] at oT
    cases U <;> simp only [catT] at h
    case vec c' u =>
      split at h
      · rename_i hs
        have e := Tc.same_eq c c' hs
        subst e
        obtain rfl := Option.some.inj h
        simp only [OK] at oU
        refine ⟨hU, ?_, ?_, ?_⟩
        · simp only [OK]
          intro x hx
          rcases List.mem_append.1 hx with h | h
          · exact oT x h
          · exact oU x h
        · simp only [rowN, castRow, List.length_append]
        · simp only [cells_vec, castRow, List.flatMap_append]
      · cases h
    case agg es =>
      split at h
      · rename_i u hu
        obtain rfl := Option.some.inj h
        have e := getAll_spec hu
        subst e
        simp only [OK] at oU
        have ou := okL_map u oU
        refine ⟨hT, ?_, by simp [rowN], by simp only [cells_vec, cells_agg, List.flatMap_append, denC_map]⟩
        simp only [OK]
        intro x hx
        rcases List.mem_append.1 hx with h | h
        · exact oT x h
        · exact ou x h
      · cases h
    all_goals cases h
  | _ => simp [catT] at h
omit S hgl hn in
theorem codeOf_fit {te : TypeId} {c : Tc} (h : codeOf P te = some c) : c.fit P te = true := by
  unfold codeOf at h
  split at h
  · obtain ⟨hf, h⟩ := cond_some h
    obtain rfl := Option.some.inj h
    exact hf
  · cases h
omit S hgl hn in
theorem emptyT_spec {te : TypeId} {T U : AV} (h : emptyT P te U = some T) (hU : RowSh P te U) : RowSh P te T ∧ OK P ρ T ∧ rowN T = 0 ∧ cells P ρ T = [] := by
  cases U <;> simp only [emptyT] at h
  case ints k n l => obtain rfl := Option.some.inj h; exact ⟨hU, by simp [OK], rfl, by simp [cells_ints]⟩
  case vec c l => obtain rfl := Option.some.inj h; exact ⟨hU, by simp [OK], rfl, by simp [cells_vec]⟩
  case agg l =>
    split at h
    · rename_i c hc
      obtain rfl := Option.some.inj h
      unfold codeOf at hc
      split at hc
      · obtain ⟨hf, hc⟩ := cond_some hc
        obtain rfl := Option.some.inj hc
        exact ⟨hf, by simp [OK], rfl, by simp [cells_vec]⟩
      · cases hc
    · cases h
  all_goals cases h
omit S hgl hn in
theorem rowSh_cat {te : TypeId} {T U V : AV} (h : catT T U = some V ∨ catT U T = some V ∨ emptyT P te T = some V) : (∀ n f, T ≠ .rows n f) ∧ ∀ s p, T ≠ .itr s p := by
  refine ⟨fun n f e => ?_, fun s p e => ?_⟩
  all_goals
    subst e
    rcases h with h | h | h
    · simp [catT] at h
    · cases U <;> simp [catT] at h
    · simp [emptyT] at h

theorem s_append {get : Nat → Option AV} (hget : ∀ b T, get b = some T → lk b mem = some T) {c : Call} {t el : TypeId} {x y : AV} (ho : o.op = .call c) (hcal : c.callee = .builtin .append) (hx : evL (evO gl tm) c.args.toList = some [x, y]) (ht : c.argTypes.toList = [t, t])
    (hu : P.underlying t = some (.slice el)) (hk : appK P ro el x y get none some = some e) : o.wp P a w next Q := by
  obtain ⟨h1, h2⟩ := evL_sound S hgl hx
  simp only [OKL, and_true] at h2
  obtain ⟨okx, oky⟩ := h2
  have hargs : c.args.map a.eval = #[den P ρ x, den P ρ y] := by
    rw [← Array.toArray_toList (xs := c.args.map a.eval), Array.toList_map, h1]; simp [denT]
  have hty : c.argTypes = #[t, t] := by rw [← Array.toArray_toList (xs := c.argTypes), ht]
  unfold appK at hk
  split at hk
  · rename_i b2 m2 te
    replace hk := cond_some hk
    obtain ⟨hc, hk⟩ := hk
    simp only [Bool.and_eq_true] at hc
    obtain ⟨hc1, hrt⟩ := hc
    have hc1 := beq_eq hc1
    subst hc1
    split at hk
    · rename_i U hU
      have hlU := hget b2 U hU
      obtain ⟨nm2, hb2, hN2, okU, hs2, hcell2⟩ := S.cell b2 U hlU
      simp only [OK] at oky
      obtain ⟨nm2', hb2', hr2, ht2, hn2, hle2, hnon2, hmax2⟩ := oky
      rw [hb2] at hb2'
      obtain rfl := Option.some.inj hb2'
      -- the second slice, in the model
      have hyv : (den P ρ (.gs b2 m2 te) = .slice none 0 0 ∧ nm2.cap = 0 ∧ cells P ρ U = []) ∨ ∃ ad q, den P ρ (.gs b2 m2 te) = .slice (some ad) nm2.cap q ∧ ∀ j u, (cells P ρ U)[j]? = some u → w.cell? (ad.add j) = some u := by
        rcases hs2 with ⟨z1, -⟩ | ⟨z1, z2⟩
        · exact .inr ⟨⟨nm2.blk, nm2.off, none⟩, nm2.tot, by simp [den, hb2, gsV, z1, hn2], fun j u hu => by rw [addr_add]; exact hcell2 j u hu⟩
        · exact .inl ⟨by simp [den, hb2, gsV, z1], by have := hnon2 z1; omega, z2⟩
      have fin : ∀ (b : Option Nat) (T V : AV) (v : Value), RowSh P te T → OK P ρ T → catT T U = some V → fits P te (rowN V) = true →
          den P ρ x = v → w.ownsRow w0.g.heap.size te (P.cellsOf te) v (rowN T) (cells P ρ T) →
          (∀ g, v.ownBlock = some g → ∃ b0 nm0 T0, b = some b0 ∧ ρ b0 = some nm0 ∧ lk b0 mem = some T0 ∧ ro ≤ b0 ∧ nm0.non = false ∧ g = nm0.blk) →
          (∀ b0, b = some b0 → ro ≤ b0 ∧ ∃ T0, lk b0 mem = some T0) → e = .grow b V (fun c => .gs c (rowN V) te) → o.wp P a w next Q := by
        intro b T V v shT okT hcat hfit hxv hown hvb hb0 he
        obtain ⟨shU, hcU⟩ := rowSh_of hN2 hr2 (rowSh_cat (P := P) (te := te) (.inr (.inl hcat)))
        rw [ht2] at shU
        obtain ⟨shV, okV, hrV, hcV⟩ := catT_spec hcat shT shU okT okU
        have hlen := rowSh_len shU okU
        rw [hcU] at hlen hrV
        obtain ⟨v', w', r1, r2, r3, r4⟩ := app_run (ty := o.type) (m := nm2.cap) (news := cells P ρ U) hrt (by rw [← hrV]; exact hfit) hu hown S.below.below.size hyv hlen (rowSh_one shU)
        refine grow_put hn (B := w0.g.heap.size) (hasN_of rfl shV rfl) okV ?_ ?_ (by rw [hcV, hrV]; exact r2) ?_ ⟨r3.os, r3.tape, r3.output, r3.size⟩ ?_ hb0 he
        · unfold fits at hfit
          split at hfit
          · simp only [decide_eq_true_eq] at hfit
            omega
          · cases hfit
        · rw [hxv] at hargs
          simp [execOp, ho, resolve, hcal, invoke, builtin, hargs, hty, r1]
        · intro k0 hk0 hne
          refine r3.block k0 hk0 fun hh => ?_
          obtain ⟨b0, nm0, T0, e1, e2, e3, e4, e5, e6⟩ := hvb k0 hh.symm
          exact hne b0 nm0 e1 e2 e5 e6
        · intro g hgv
          rcases r4 with h | h
          · right; exact hvb g (by rw [← h]; exact hgv)
          · left
            rw [h] at hgv
            have := Option.some.inj hgv
            omega
      split at hk
      · -- nil grows
        split at hk
        · rename_i T hem
          split at hk
          · rename_i V hcat
            replace hk := cond_some hk
            obtain ⟨hfit, hk⟩ := hk
            simp only [Option.some.injEq] at hk
            obtain ⟨shU, -⟩ := rowSh_of hN2 hr2 (rowSh_cat (P := P) (te := te) (.inr (.inl hcat)))
            rw [ht2] at shU
            obtain ⟨shT, okT, hrT, hcT⟩ := emptyT_spec (ρ := ρ) hem shU
            exact fin none T V (.slice none 0 0) shT okT hcat hfit (by simp [den]) (by rw [hcT, hrT]; exact World.ownsRow_nil w _ _ _) (fun g h => by simp [Value.ownBlock] at h) (fun b0 h => by cases h) hk.symm
          · simp at hk
        · simp at hk
      · rename_i b1 n1 te1
        replace hk := cond_some hk
        obtain ⟨hc, hk⟩ := hk
        simp only [Bool.and_eq_true] at hc
        have hc2 := beq_eq hc.1
        have hro := Nat.le_of_ble_eq_true hc.2
        split at hk
        · rename_i T hT
          split at hk
          · rename_i V hcat
            replace hk := cond_some hk
            obtain ⟨hfit, hk⟩ := hk
            simp only [Option.some.injEq] at hk
            have hlT := hget b1 T hT
            obtain ⟨nm1, hb1, hN1, okT, hs1, hcell1⟩ := S.cell b1 T hlT
            simp only [OK] at okx
            obtain ⟨nm1', hb1', hr1, ht1, hn1, hle1, hnon1, hmax1⟩ := okx
            rw [hb1] at hb1'
            obtain rfl := Option.some.inj hb1'
            obtain ⟨shT, hcT⟩ := rowSh_of hN1 hr1 (rowSh_cat (P := P) (te := te) (.inl hcat))
            rw [ht1, hc2] at shT
            have hlen := rowSh_len shT okT
            have hrows := S.rows b1 T nm1 hlT hb1 hro hr1
            have hown : w.ownsRow w0.g.heap.size te (P.cellsOf te) (gsV nm1 n1) (rowN T) (cells P ρ T) := by
              refine ⟨hlen, ?_⟩
              cases hq : nm1.non with
              | true => exact .inl ⟨by simp [gsV, hq], by have := hnon1 hq; omega⟩
              | false =>
                rcases hrows with h | h
                · rw [hq] at h; cases h
                · obtain ⟨q1, q2, q3, cur, q4, q5⟩ := h
                  rw [ht1, hc2] at q4 q5
                  refine .inr ⟨nm1.blk, nm1.tot, cur, by simp [gsV, hq, q1, hn1, hcT], Base.own_ge ((S.own b1 T nm1 hlT hb1 hro).1 hq), q4, by rw [hcT]; exact q2, q3, q5, ?_⟩
                  refine List.ext_getElem? fun j => ?_
                  rw [List.getElem?_take]
                  by_cases hj : j < rowN T * P.cellsOf te
                  · rw [if_pos hj]
                    have hj' : j < (cells P ρ T).length := by rw [hlen]; exact hj
                    have := hcell1 j _ (List.getElem?_eq_getElem hj')
                    rw [q1, Nat.zero_add, cell_of_row w nm1.blk j cur te (0, 0) q4] at this
                    rw [List.getElem?_eq_getElem hj']
                    simpa using this
                  · rw [if_neg hj]
                    rw [List.getElem?_eq_none (by rw [hlen]; omega)]
            refine fin (some b1) T V (gsV nm1 n1) shT okT hcat hfit (by simp [den, hb1]) hown ?_ ?_ hk.symm
            · intro g hg
              refine ⟨b1, nm1, T, rfl, hb1, hlT, hro, ?_, ?_⟩
              · cases hq : nm1.non with
                | false => rfl
                | true => simp [gsV, hq, Value.ownBlock] at hg
              · cases hq : nm1.non with
                | true => simp [gsV, hq, Value.ownBlock] at hg
                | false => simp [gsV, hq, Value.ownBlock] at hg; exact hg.symm
            · intro b0 hb0
              obtain rfl := Option.some.inj hb0
              exact ⟨hro, T, hlT⟩
          · simp at hk
        · simp at hk
      · simp at hk
    · simp at hk
  · simp at hk

omit hn in
theorem dense_sound {k : IntKind} : {ps : List (Nat × Operand)} → {i : Nat} → {l : List Int} → dense (evO gl tm) k i ps = some l →
    (ps.map fun x => (x.1, a.eval x.2)) = ((l.map (Value.int k)).zipIdx i).map (fun x => (x.2, x.1)) ∧ ∀ z ∈ l, k.min ≤ z ∧ z ≤ k.max
  | [], i, l, h => by simp only [dense, Option.some.injEq] at h; subst h; simp
  | x :: r, i, l, h => by
    rw [dense] at h
    replace h := cond_some h
    obtain ⟨h1, h⟩ := h
    have h1 := beq_eq h1
    split at h
    · rename_i k' v hv
      replace h := cond_some h
      obtain ⟨h2, h⟩ := h
      have h2 := kEq_eq h2
      subst h2
      split at h
      · rename_i l' hl'
        simp only [Option.some.injEq] at h
        subst h
        obtain ⟨e1, e2⟩ := ev_sound S hgl hv
        obtain ⟨g1, g2⟩ := dense_sound hl'
        simp only [OK] at e2
        refine ⟨?_, fun z hz => ?_⟩
        · simp only [List.map_cons, List.zipIdx_cons, g1, h1]
          simp [e1, den]
        · rcases List.mem_cons.1 hz with rfl | hz
          · exact e2
          · exact g2 z hz
      · simp at h
    · simp at h

omit hn in
theorem denseA_sound {el : TypeId} : {ps : List (Nat × Operand)} → {i : Nat} → {l : List AV} → denseA P (evO gl tm) el i ps = some l →
    (ps.map fun x => (x.1, a.eval x.2)) = ((l.map (den P ρ)).zipIdx i).map (fun x => (x.2, x.1)) ∧ HasA P l el ∧ OKL P ρ l
  | [], i, l, h => by simp only [denseA, Option.some.injEq] at h; subst h; simp [HasA, OKL]
  | x :: r, i, l, h => by
    rw [denseA] at h
    replace h := cond_some h
    obtain ⟨h1, h⟩ := h
    have h1 := beq_eq h1
    split at h
    · rename_i v hv
      replace h := cond_some h
      obtain ⟨h2, h⟩ := h
      split at h
      · rename_i l' hl'
        simp only [Option.some.injEq] at h
        subst h
        obtain ⟨e1, e2⟩ := ev_sound S hgl hv
        obtain ⟨g1, g2, g3⟩ := denseA_sound hl'
        refine ⟨?_, ?_, ?_⟩
        · simp only [List.map_cons, List.zipIdx_cons, g1, h1]
          simp [e1]
        · simp only [HasA]; exact ⟨has_of_chk P v el h2, g2⟩
        · simp only [OKL]; exact ⟨e2, g3⟩
      · simp at h
    · simp at h

omit S hgl hn in
theorem flat_denC : (l : List AV) → (l.map (den P ρ)).flatMap (fun v => v.cells.toList) = denC P ρ l
  | [] => by simp [denC]
  | v :: l => by simp only [List.map_cons, List.flatMap_cons, denC]; rw [flat_denC l]

omit S hgl hn in
theorem rowLit_spec {el : TypeId} {l : List AV} (h2 : HasA P l el) (h3 : OKL P ρ l) : RowSh P el (rowLit P el l) ∧ OK P ρ (rowLit P el l) ∧ rowN (rowLit P el l) = l.length ∧ cells P ρ (rowLit P el l) = denC P ρ l := by
  have base : RowSh P el (.agg l) ∧ OK P ρ (.agg l) ∧ rowN (.agg l) = l.length ∧ cells P ρ (.agg l) = denC P ρ l := ⟨h2, by simp only [OK]; exact h3, rfl, cells_agg P ρ l⟩
  unfold rowLit
  split
  · rename_i c hc
    split
    · rename_i u hu
      have e := getAll_spec hu
      subst e
      exact ⟨codeOf_fit hc, by simp only [OK]; exact okL_map u h3, by simp [rowN], by rw [cells_vec, denC_map]⟩
    · exact base
  · exact base
theorem s_buildSliceA {t el : TypeId} {n : Nat} {ps : Array (Nat × Operand)} {l : List AV} (ho : o.op = .buildSlice t n ps) (hu : P.underlying t = some (.slice el)) (hl : denseA P (evO gl tm) el 0 ps.toList = some l)
    (hn0 : l.length = n) (hpos : 0 < n) (hsm : n * P.cellsOf el ≤ 16777216) (hsm2 : n ≤ 16777216) (hcp : 0 < P.cellsOf el) (hrt : rowTy P el = true) (he : e = .grow none (rowLit P el l) fun b => .gs b n el) : o.wp P a w next Q := by
  obtain ⟨h1, h2, h3⟩ := denseA_sound S hgl hl
  obtain ⟨v1, v2, v3, v4⟩ := rowLit_spec (P := P) (ρ := ρ) h2 h3
  unfold rowTy at hrt
  cases hi : P.info? el with
  | none => rw [hi] at hrt; simp at hrt
  | some i =>
    rw [hi] at hrt
    simp only at hrt
    have hsz : P.cellsOf el = i.size := by simp [Program.cellsOf, hi]
    cases hz : i.zero with
    | none => rw [hz] at hrt; simp at hrt
    | some z =>
      have hlen : ∀ v ∈ l.map (den P ρ), v.cells.size = i.size := by
        intro v hv
        obtain ⟨u, hu1, rfl⟩ := List.mem_map.1 hv
        have hx := len_cells P ρ u el (HasA.get h2 u hu1) (by
          have : ∀ (l : List AV), OKL P ρ l → ∀ u ∈ l, OK P ρ u := by
            intro l
            induction l with
            | nil => intro _ u hu; simp at hu
            | cons x l ih =>
              intro h u hu
              simp only [OKL] at h
              rcases List.mem_cons.1 hu with rfl | hu
              · exact h.1
              · exact ih h.2 u hu
          exact this l h3 u hu1)
        rw [← hsz, ← hx]
        simp [cells]
      have hps0 : 0 < i.size := by omega
      have hfill : Instr.fill (fun j => some (j * i.size, i.size)) ((Array.range (n * i.size)).map (z.cells[· % z.cells.size]!)) (ps.map fun (i, x) => (i, a.eval x)).toList = some (denC P ρ l).toArray := by
        have hps : (ps.map fun (i, x) => (i, a.eval x)).toList = ((l.map (den P ρ)).zipIdx 0).map (fun x => (x.2, x.1)) := by
          rw [Array.toList_map]; exact h1
        rw [hps, ← flat_denC l]
        exact Great.fill_whole hps0 _ _ hlen (by simp [hn0])
      have hne : ¬ n * i.size = 0 := fun h => by
        rcases Nat.mul_eq_zero.1 h with h | h <;> omega
      have hrun := run_buildSlice w t el n (ps.map fun (i, x) => (i, a.eval x)) _ i z hu hi hz (by rw [← hsz]; omega) hne hfill
      have hown : (w.alloc (.cells (denC P ρ l).toArray el)).ownsRow w0.g.heap.size el (P.cellsOf el) (.slice (some ⟨w.heap.size, 0, none⟩) n n) (rowN (rowLit P el l)) (cells P ρ (rowLit P el l)) := by
        rw [v4, v3]
        have := World.ownsRow_lit (size := P.cellsOf el) (e := el) w (denC P ρ l).toArray n S.below.below.size (by simp only [maxLen]; omega) (by
          have := len_A P ρ l el h2 h3
          rw [hn0] at this
          simpa using this)
        simpa [hn0] using this
      have hrun' : (execOp a.eval o).run P w = .ok (.value (.slice (some ⟨w.heap.size, 0, none⟩) n n)) (w.alloc (.cells (denC P ρ l).toArray el)) := by simp [execOp, ho, hrun]
      exact grow_put hn (b := none) (V := rowLit P el l) (el := el) (B := w0.g.heap.size) (hasN_of rfl v1 rfl) v2 (by rw [v3]; omega) hrun' hown (fun k0 hk0 _ => heap_alloc_old w _ hk0) ⟨rfl, rfl, rfl, by simp⟩
        (fun g hg => by
          left
          simp [Value.ownBlock] at hg
          omega) (fun b0 h => by cases h) (by rw [he, v3, hn0])

theorem s_buildSlice {t el : TypeId} {n : Nat} {ps : Array (Nat × Operand)} {q : IntKind} {l : List Int} (ho : o.op = .buildSlice t n ps) (hu : P.underlying t = some (.slice el)) (hq : intTy P el = some q) (hl : dense (evO gl tm) q 0 ps.toList = some l)
    (hn0 : l.length = n) (hpos : 0 < n) (hsm : n ≤ 16777216) (hrt : rowTy P el = true) (he : e = .grow none (.ints q n l) fun b => .gs b n el) : o.wp P a w next Q := by
  obtain ⟨h1, h2⟩ := dense_sound S hgl hl
  unfold intTy at hq
  split at hq
  · rename_i k hk
    obtain ⟨hc, hq⟩ := cond_some hq
    have hc := beq_eq hc
    obtain rfl := Option.some.inj hq
    unfold rowTy at hrt
    cases hi : P.info? el with
    | none => rw [hi] at hrt; simp at hrt
    | some i =>
      rw [hi] at hrt
      simp only at hrt
      have hsz : P.cellsOf el = i.size := by simp [Program.cellsOf, hi]
      cases hz : i.zero with
      | none => rw [hz] at hrt; simp at hrt
      | some z =>
        have h1s : i.size = 1 := by rw [← hsz]; exact hc
        have hfill : Instr.fill (fun j => some (j * i.size, i.size)) ((Array.range (n * i.size)).map (z.cells[· % z.cells.size]!)) (ps.map fun (i, x) => (i, a.eval x)).toList = some (l.map (Value.int k)).toArray := by
          have hps : (ps.map fun (i, x) => (i, a.eval x)).toList = ((l.map (Value.int k)).zipIdx 0).map (fun x => (x.2, x.1)) := by
            rw [Array.toList_map]; exact h1
          rw [hps, h1s]
          exact Great.fill_flat _ _ (fun v hv => by obtain ⟨m, _, rfl⟩ := List.mem_map.1 hv; rfl) (by simp [hn0])
        have hrun := run_buildSlice w t el n (ps.map fun (i, x) => (i, a.eval x)) _ i z hu hi hz (by rw [h1s]; omega) (by rw [h1s]; omega) hfill
        have hcV : cells P ρ (.ints k n l) = l.map (Value.int k) := cells_ints P ρ k n l
        have hown : (w.alloc (.cells (l.map (Value.int k)).toArray el)).ownsRow w0.g.heap.size el (P.cellsOf el) (.slice (some ⟨w.heap.size, 0, none⟩) n n) (rowN (.ints k n l)) (cells P ρ (.ints k n l)) := by
          rw [hcV]
          have := World.ownsRow_lit (size := P.cellsOf el) (e := el) w (l.map (Value.int k)).toArray n S.below.below.size (by simp only [maxLen]; omega) (by simp [hn0, hc])
          simpa [rowN] using this
        have hrun' : (execOp a.eval o).run P w = .ok (.value (.slice (some ⟨w.heap.size, 0, none⟩) n n)) (w.alloc (.cells (l.map (Value.int k)).toArray el)) := by simp [execOp, ho, hrun]
        have hN : HasN P ⟨0, 0, rowN (.ints k n l), el, true, 0, false, nk⟩ (.ints k n l) := by
          simp only [HasN, if_true, rowN]
          exact ⟨trivial, hk, hc⟩
        have hOK : OK P ρ (.ints k n l) := by
          simp only [OK]
          exact ⟨hn0, h2⟩
        exact grow_put hn (b := none) (V := .ints k n l) (el := el) (B := w0.g.heap.size) hN hOK (by simp only [rowN]; omega) hrun' hown (fun k0 hk0 _ => heap_alloc_old w _ hk0) ⟨rfl, rfl, rfl, by simp⟩
          (fun g hg => by
            left
            simp [Value.ownBlock] at hg
            omega) (fun b0 h => by cases h) he
  · simp at hq

end

theorem eqItems_ints {P : Program} {e : TypeId} {k : IntKind} (hk : P.underlying e = some (.int k)) (h1 : P.cellsOf e = 1) (d : Nat) (w : World) (l l' : List Int) : (is : List Nat) → (∀ i ∈ is, i < l.length ∧ i < l'.length) →
    (Op.eqItems (d + 1) e 1 (l.map (Value.int k)).toArray (l'.map (Value.int k)).toArray is).run P w = .ok (is.all fun i => l.getD i 0 == l'.getD i 0) w
  | [], _ => by simp [Op.eqItems]
  | i :: is, h => by
    have hi := h i (by simp)
    have ih := eqItems_ints hk h1 d w l l' is (fun j hj => h j (by simp [hj]))
    have hp : ∀ (l : List Int), i < l.length → (part e (l.map (Value.int k)).toArray (i * 1)).run P w = .ok (.int k (l.getD i 0)) w := by
      intro l hl
      unfold part
      rw [Sem.run_bind, run_isAgg' hk]
      simp [wideD, hl, List.getD_eq_getElem?_getD]
    simp only [Op.eqItems, Sem.run_bind, hp l hi.1, hp l' hi.2, Result.andThen_ok, run_equalIn_int w d e k k _ _ hk, List.all_cons]
    cases hq : (l.getD i 0 == l'.getD i 0)
    · simp
    · simpa using ih

theorem all_eq (l l' : List Int) (h : l.length = l'.length) : ((List.range l.length).all fun i => l.getD i 0 == l'.getD i 0) = decide (l = l') := by
  rw [Bool.eq_iff_iff, List.all_eq_true, decide_eq_true_iff]
  constructor
  · intro H
    apply List.ext_getElem h
    intro i h1 h2
    have := H i (by simpa using h1)
    simpa [List.getD_eq_getElem?_getD, h1, h2] using this
  · rintro rfl i _
    simp

theorem equal_sound {P : Program} {ρ : Rho} {x y : AV} {t : TypeId} {b : Bool} (h : eqAV x y = some b) (hx : Has P x t) (hy : Has P y t) (ox : OK P ρ x) (oy : OK P ρ y) (w : World) (d : Nat) :
    (Op.equalIn (d + 2) t (den P ρ x) (den P ρ y)).run P w = .ok b w := by
  unfold eqAV at h
  split at h
  · rename_i k a k' c
    replace h := cond_some h
    obtain ⟨hk, h⟩ := h
    have hk := kEq_eq hk
    subst hk
    simp only [Option.some.injEq] at h
    subst h
    simp only [Has] at hx
    simp only [den]
    exact run_equalIn_int w (d + 1) t k k a c hx.1
  · rename_i a c
    simp only [Option.some.injEq] at h
    subst h
    simp only [Has] at hx
    simp only [den]
    exact run_equalIn_bool w (d + 1) t a c hx.1
  · rename_i a c
    simp only [Option.some.injEq] at h
    subst h
    simp only [Has] at hx
    simp only [den]
    rw [run_equalIn_string w (d + 1) t a c hx.1, beq_toListBytes]
  · rename_i k n l k' n' l'
    replace h := cond_some h
    obtain ⟨hk, h⟩ := h
    simp only [Bool.and_eq_true] at hk
    have hkk := kEq_eq hk.1
    have hnn := beq_eq hk.2
    subst hkk hnn
    simp only [Option.some.injEq] at h
    subst h
    simp only [Has] at hx
    simp only [OK] at ox oy
    obtain ⟨e, hu, hke, h1, h2⟩ := hx
    obtain ⟨i, hi, hs⟩ := info_of hke
    simp only [den]
    rw [show d + 2 = (d + 1) + 1 from rfl, run_equalIn_array w (d + 1) _ _ hu hi, h1, eqItems_ints hke h1 d w l l' (List.range n) (fun j hj => by
      have := List.mem_range.1 hj; omega), ← ox.1, all_eq l l' (by omega)]
  all_goals (first | (simp at h; done) | (simp only [Option.some.injEq] at h; subst h))
  · simp only [Has] at hx
    obtain ⟨⟨e, hu⟩, -⟩ := hx
    rw [show d + 2 = (d + 1) + 1 from rfl, Op.equalIn, Sem.run_bind, run_underlying hu]; rfl
  · simp only [Has] at hx
    obtain ⟨⟨e, hu⟩, -⟩ := hx
    simp only [OK] at oy
    obtain ⟨nm, o, hb, hp⟩ := oy
    rw [den_ptr hb hp]
    rw [show d + 2 = (d + 1) + 1 from rfl, Op.equalIn, Sem.run_bind, run_underlying hu]; rfl
  · simp only [Has] at hx
    obtain ⟨⟨e, hu⟩, -⟩ := hx
    simp only [OK] at ox
    obtain ⟨nm, o, hb, hp⟩ := ox
    rw [den_ptr hb hp]
    rw [show d + 2 = (d + 1) + 1 from rfl, Op.equalIn, Sem.run_bind, run_underlying hu]; rfl
  · simp only [Has] at hx
    obtain ⟨⟨e, hu⟩, -⟩ := hx
    rw [show d + 2 = (d + 1) + 1 from rfl, Op.equalIn, Sem.run_bind, run_underlying hu]; rfl
  · simp only [Has] at hx
    obtain ⟨⟨e, hu⟩, -⟩ := hx
    rw [show d + 2 = (d + 1) + 1 from rfl, Op.equalIn, Sem.run_bind, run_underlying hu]; rfl
  · simp only [Has] at hx
    obtain ⟨⟨e, hu⟩, -⟩ := hx
    rw [show d + 2 = (d + 1) + 1 from rfl, Op.equalIn, Sem.run_bind, run_underlying hu]; rfl
  · simp only [Has] at hx
    obtain ⟨⟨e, hu⟩, -⟩ := hx
    rw [show d + 2 = (d + 1) + 1 from rfl, Op.equalIn, Sem.run_bind, run_underlying hu]; rfl
  · simp only [Has] at hx
    obtain ⟨⟨e, hu⟩, -⟩ := hx
    simp only [OK] at ox
    obtain ⟨nm, of, n, hb, hbase, -⟩ := ox
    rw [den_sl hb hbase]
    rw [show d + 2 = (d + 1) + 1 from rfl, Op.equalIn, Sem.run_bind, run_underlying hu]; rfl
  · simp only [Has] at hx
    obtain ⟨⟨e, hu⟩, -⟩ := hx
    simp only [OK] at oy
    obtain ⟨nm, of, n, hb, hbase, -⟩ := oy
    rw [den_sl hb hbase]
    rw [show d + 2 = (d + 1) + 1 from rfl, Op.equalIn, Sem.run_bind, run_underlying hu]; rfl
  · simp only [Has] at hx
    obtain ⟨⟨a, b, c, hu⟩, -⟩ := hx
    rw [show d + 2 = (d + 1) + 1 from rfl, Op.equalIn, Sem.run_bind, run_underlying hu]; rfl
  · simp only [Has] at hx
    obtain ⟨⟨a, b, c, hu⟩, -⟩ := hx
    rw [show d + 2 = (d + 1) + 1 from rfl, Op.equalIn, Sem.run_bind, run_underlying hu]; rfl

/-- Not two aggregates: compared as before. -/
theorem eqD_base {P : Program} {n : Nat} {t : TypeId} {x y : AV} {b : Bool} (h : eqD P n t x y = some b) (hx : ∀ l, x ≠ .agg l) : eqAV x y = some b := by
  cases n with
  | zero => simpa [eqD] using h
  | succ n =>
    cases x <;> first | exact absurd rfl (hx _) | (simpa [eqD] using h)

theorem eqFields_sound {P : Program} {ρ : Rho} (n : Nat) (w : World) (d : Nat)
    (ih : ∀ x y t b, eqD P n t x y = some b → Has P x t → Has P y t → OK P ρ x → OK P ρ y → (Op.equalIn (d + 2 + n) t (den P ρ x) (den P ρ y)).run P w = .ok b w) :
    (fs : List Field) → (l r : List AV) → (as bs : List Value) → (o s : Nat) → as.length = o → bs.length = o → (b : Bool) → eqF (eqD P n) fs l r = some b → HasF P l fs o s → HasF P r fs o s → OKL P ρ l → OKL P ρ r →
    (Op.eqFields (d + 2 + n) (as ++ denC P ρ l).toArray (bs ++ denC P ρ r).toArray fs).run P w = .ok b w
  | [], l, r, as, bs, o, s, ha, hb, b, h, hl, hr, ol, or' => by
    cases l with
    | cons x l => simp [HasF] at hl
    | nil =>
      cases r with
      | cons y r => simp [HasF] at hr
      | nil =>
        simp only [eqF, Option.some.injEq] at h
        subst h
        simp [Op.eqFields]
  | f :: fs, l, r, as, bs, o, s, ha, hb, b, h, hl, hr, ol, or' => by
    cases l with
    | nil => simp [HasF] at hl
    | cons x l =>
      cases r with
      | nil => simp [HasF] at hr
      | cons y r =>
        simp only [HasF] at hl hr
        simp only [OKL] at ol or'
        simp only [eqF] at h
        obtain ⟨hnm, h⟩ := cond_some h
        split at h
        · rename_i p hp
          split at h
          · rename_i q hq
            simp only [Option.some.injEq] at h
            subst h
            have hlx := len_cells P ρ x f.type hl.2.1 ol.1
            have hly := len_cells P ρ y f.type hr.2.1 or'.1
            have k1 := run_part' (P := P) (ρ := ρ) hl.2.1 ol.1 as (denC P ρ l) w
            have k2 := run_part' (P := P) (ρ := ρ) hr.2.1 or'.1 bs (denC P ρ r) w
            rw [ha] at k1
            rw [hb] at k2
            have k3 := ih x y f.type p hp hl.2.1 hr.2.1 ol.1 or'.1
            have k4 := eqFields_sound n w d ih fs l r (as ++ cells P ρ x) (bs ++ cells P ρ y) _ s (by rw [List.length_append, hlx, ha]) (by rw [List.length_append, hly, hb]) q hq hl.2.2 hr.2.2 ol.2 or'.2
            have hnm : f.name ≠ "_" := by simpa using hnm
            simp only [Op.eqFields, hnm, ne_eq, not_false_eq_true, if_true, Sem.run_bind, denC_cons, hl.1, k1, k2, Result.andThen_ok, k3]
            simp only [List.append_assoc] at k4
            cases p with
            | false => simp
            | true => simpa using k4
          · simp at h
        · simp at h

theorem equalD_sound {P : Program} {ρ : Rho} (w : World) (d : Nat) : (n : Nat) → (x y : AV) → (t : TypeId) → (b : Bool) → eqD P n t x y = some b → Has P x t → Has P y t → OK P ρ x → OK P ρ y →
    (Op.equalIn (d + 2 + n) t (den P ρ x) (den P ρ y)).run P w = .ok b w
  | 0, x, y, t, b, h, hx, hy, ox, oy => equal_sound (by simpa [eqD] using h) hx hy ox oy w d
  | n + 1, x, y, t, b, h, hx, hy, ox, oy => by
    have base : eqAV x y = some b → (Op.equalIn (d + 2 + (n + 1)) t (den P ρ x) (den P ρ y)).run P w = .ok b w := fun h => by
      have := equal_sound h hx hy ox oy w (d + n + 1)
      rwa [show d + n + 1 + 2 = d + 2 + (n + 1) by omega] at this
    by_cases hagg : ∃ l r, x = .agg l ∧ y = .agg r
    · obtain ⟨l, r, rfl, rfl⟩ := hagg
      simp only [eqD] at h
      split at h
      · rename_i fs hu
        cases hst : P.stoodInHeld t with
        | true => rw [hst] at h; simp at h
        | false =>
          rw [hst] at h
          simp only [cond_false] at h
          simp only [Has, hu] at hx hy
          rcases hx with ⟨fs1, e1, hx⟩ | ⟨m, e, e1, -⟩
          · rcases hy with ⟨fs2, e2, hy⟩ | ⟨m, e, e2, -⟩
            · simp only [Option.some.injEq, TypeDesc.struct.injEq] at e1 e2
              subst e1
              subst e2
              simp only [OK] at ox oy
              have hf : P.underlying t = some (.struct (P.fieldsOf t)) := by simp [Program.fieldsOf, hu]
              have hff : P.fieldsOf t = fs := by simp [Program.fieldsOf, hu]
              have := eqFields_sound n w d (fun x y t b => equalD_sound w d n x y t b) fs.toList l r [] [] 0 _ rfl rfl b h hx hy ox oy
              simp only [den]
              rw [show d + 2 + (n + 1) = (d + 2 + n) + 1 by omega, run_equalIn_agg w (d + 2 + n) t _ _ hf hst, hff]
              simpa using this
            · simp at e2
          · simp at e1
      · simp at h
    · refine base ?_
      cases x <;> cases y <;> first | (exact absurd ⟨_, _, rfl, rfl⟩ hagg) | (simpa [eqD] using h)

end Go.Vx
