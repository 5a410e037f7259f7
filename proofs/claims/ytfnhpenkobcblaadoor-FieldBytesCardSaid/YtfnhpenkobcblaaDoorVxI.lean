/- The engine, part I: slices, lengths, equality, calls; any operation. -/
import Derived.Test.YtfnhpenkobcblaaDoorVxH
set_option autoImplicit false
namespace Go.Vx
open Go Go.RowKit

section
variable {P : Program} {w0 : World} {ro : Nat} {ρ : Rho} {tm mem : List (Nat × AV)} {a : Act} {w : World} (S : Sim P w0 ro ρ tm mem a.tmps w)
  {gl : Nat → Option AV} (hgl : GL P ρ gl)
include S hgl

theorem bnd_sound {x : Option Operand} {d y : Nat} {α : Type} {k : Nat → Option α} {r : α} (h : bnd (evO gl tm) x d y none k = some r) (code : BoundsCode) :
    ∃ i, k i = some r ∧ ((x = none ∧ i = d) ∨ (∃ o, x = some o ∧ i ≤ y ∧ ∀ w : World, (Instr.sliceBound (a.eval o) y code).run P w = .ok i w)) := by
  unfold bnd at h
  cases x with
  | none => exact ⟨d, h, .inl ⟨rfl, rfl⟩⟩
  | some o =>
    simp only at h
    split at h
    · rename_i q i hi
      replace h := cond_some h
      obtain ⟨hc, h⟩ := h
      simp only [decide_eq_true_eq] at hc
      obtain ⟨h1, -⟩ := ev_sound S hgl hi
      simp only [den] at h1
      exact ⟨i.toNat, h, .inr ⟨o, rfl, by omega, fun w => by simp [Instr.sliceBound, h1, asIntOf, hc]⟩⟩
    · simp at h

/-- The three bounds of a slice expression without a third index. -/
theorem bounds_sound {lo hi : Option Operand} {len cap : Nat} {α : Type} {k : Nat → Nat → Option α} {r : α} (isS : Bool) (hlc : len ≤ cap)
    (h : bnd (evO gl tm) hi len cap none (fun h => bnd (evO gl tm) lo 0 h none fun l => k h l) = some r) :
    ∃ h l, k h l = some r ∧ l ≤ h ∧ h ≤ cap ∧ ∀ w : World, (Instr.sliceBounds isS len cap (lo.map a.eval) (hi.map a.eval) none).run P w = .ok (l, h, cap) w := by
  obtain ⟨i, h1, h2⟩ := bnd_sound S hgl h (if isS then .sliceAcap else .sliceAlen)
  obtain ⟨j, h3, h4⟩ := bnd_sound S hgl h1 .sliceB
  refine ⟨i, j, h3, ?_, ?_, fun w => ?_⟩
  · rcases h4 with ⟨-, rfl⟩ | ⟨o, -, hj, -⟩ <;> omega
  · rcases h2 with ⟨-, rfl⟩ | ⟨o, -, hi, -⟩ <;> omega
  · unfold Instr.sliceBounds
    rcases h2 with ⟨rfl, rfl⟩ | ⟨o, rfl, -, ho⟩ <;> rcases h4 with ⟨rfl, rfl⟩ | ⟨o', rfl, -, ho'⟩ <;> simp_all

variable {m : Nat} {o : Oper} {e : Eff} {next : Act → World → Prop} {Q : Exit → Act → World → Prop} (hn : ∀ v ρ' w', After P ro ρ mem w m e v ρ' w' → next (a.put o.dst v) w')
include hn

theorem s_sliceA {t el : TypeId} {x : Operand} {lo hi : Option Operand} {b n : Nat} {p : List Nat} (ho : o.op = .slice t x lo hi none) (hx : evO gl tm x = some (.ptr b p t)) (ht : P.underlying t = some (.array n el))
    (hz : 0 < P.cellsOf el) (hin : (n : Int) ≤ 9223372036854775807)
    (h : bnd (evO gl tm) hi n n none (fun h => bnd (evO gl tm) lo 0 h none fun l => some (.val (.sl b p (bif Nat.beq n l then 0 else l) (h - l) (n - l) el))) = some e) : o.wp P a w next Q := by
  obtain ⟨h1, h2⟩ := ev_sound S hgl hx
  obtain ⟨h, l, k1, k2, k3, k4⟩ := bounds_sound S hgl false (Nat.le_refl n) h
  simp only [Option.some.injEq] at k1
  simp only [OK] at h2
  obtain ⟨nm, of, hb, hp⟩ := h2
  have hbase := base_of_path hp ht
  rw [den_ptr hb hp] at h1
  have hbq : Nat.beq n l = decide (n = l) := by
    cases hq : Nat.beq n l
    · symm; simpa using Nat.ne_of_beq_eq_false hq
    · symm; simpa using beq_eq hq
  refine put_val hn k1.symm ?_ ?_
  · simp only [OK]
    refine ⟨nm, of, n, hb, hbase, ?_, by omega, by omega⟩
    rw [hbq]
    by_cases hnl : n = l <;> simp [hnl] <;> omega
  · rw [den_sl hb hbase]
    simp only [execOp, ho, h1, Instr.sliceAt, Sem.run_bind, run_underlying ht, Result.andThen_ok, Instr.sureAddr, Sem.run_pure, Option.map_none, k4, run_sizeOf_pos hz, hbq]
    by_cases hnl : n = l <;> simp [hnl, addr_add, Nat.add_assoc]

theorem s_sliceS {t el : TypeId} {x : Operand} {lo hi : Option Operand} {b off len cap : Nat} {p : List Nat} (ho : o.op = .slice t x lo hi none) (hx : evO gl tm x = some (.sl b p off len cap el)) (ht : P.underlying t = some (.slice el))
    (hz : 0 < P.cellsOf el)
    (h : bnd (evO gl tm) hi len cap none (fun h => bnd (evO gl tm) lo 0 h none fun l => some (.val (.sl b p (bif Nat.beq cap l then off else off + l) (h - l) (cap - l) el))) = some e) : o.wp P a w next Q := by
  obtain ⟨h1, h2⟩ := ev_sound S hgl hx
  simp only [OK] at h2
  obtain ⟨nm, of, n, hb, hbase, hcn, hlc, hmx⟩ := h2
  obtain ⟨h, l, k1, k2, k3, k4⟩ := bounds_sound S hgl true hlc h
  simp only [Option.some.injEq] at k1
  rw [den_sl hb hbase] at h1
  have hbq : Nat.beq cap l = decide (cap = l) := by
    cases hq : Nat.beq cap l
    · symm; simpa using Nat.ne_of_beq_eq_false hq
    · symm; simpa using beq_eq hq
  refine put_val hn k1.symm ?_ ?_
  · simp only [OK]
    refine ⟨nm, of, n, hb, hbase, ?_, by omega, by omega⟩
    rw [hbq]
    by_cases hnl : cap = l <;> simp [hnl] <;> omega
  · rw [den_sl hb hbase]
    simp only [execOp, ho, h1, Instr.sliceAt, Instr.slice, Sem.run_bind, run_underlying ht, Result.andThen_ok, Sem.run_pure, Option.map_none, k4, run_sizeOf_pos hz, hbq]
    by_cases hnl : cap = l <;> simp [hnl, addr_add, Nat.add_assoc, Nat.add_mul]

theorem s_sliceN {t el : TypeId} {x : Operand} {lo hi : Option Operand} (ho : o.op = .slice t x lo hi none) (hx : evO gl tm x = some .nils) (ht : P.underlying t = some (.slice el)) (hz : 0 < P.cellsOf el)
    (h : bnd (evO gl tm) hi 0 0 none (fun h => bnd (evO gl tm) lo 0 h none fun _ => some (.val .nils)) = some e) : o.wp P a w next Q := by
  obtain ⟨h1, -⟩ := ev_sound S hgl hx
  obtain ⟨h, l, k1, k2, k3, k4⟩ := bounds_sound S hgl true (Nat.le_refl 0) h
  simp only [Option.some.injEq] at k1
  simp only [den] at h1
  have e1 : h = 0 := by omega
  have e2 : l = 0 := by omega
  subst e1 e2
  refine put_val hn k1.symm (by simp [OK]) ?_
  simp [execOp, ho, h1, Instr.sliceAt, Instr.slice, run_underlying ht, k4, run_sizeOf_pos hz, den]

theorem s_len {c : Call} {t : TypeId} {u : AV} {i : Int} (ho : o.op = .call c) (hcal : c.callee = .builtin .len) (hx : evL (evO gl tm) c.args.toList = some [u]) (ht : c.argTypes.toList = [t])
    (hv : (∃ b p off n cap te el, u = .sl b p off n cap te ∧ i = n ∧ P.underlying t = some (.slice el)) ∨ (∃ el, u = .nils ∧ i = 0 ∧ P.underlying t = some (.slice el)) ∨
      (∃ s, u = .str s ∧ i = (s.size : Int) ∧ P.underlying t = some .string) ∨ (∃ (n : Nat) (el : TypeId), i = n ∧ P.underlying t = some (.array n el) ∧ inR .i64 n = true)) (he : e = .val (.int .i64 i)) : o.wp P a w next Q := by
  obtain ⟨h1, h2⟩ := evL_sound S hgl hx
  simp only [OKL, and_true] at h2
  have hargs : c.args.map a.eval = #[den P ρ u] := by
    rw [← Array.toArray_toList (xs := c.args.map a.eval), Array.toList_map, h1]; simp [denT]
  have hty : c.argTypes = #[t] := by rw [← Array.toArray_toList (xs := c.argTypes), ht]
  have main : (Builtin.len_ c.argTypes o.type (c.args.map a.eval)).run P w = .ok (.int .i64 i) w ∧ IntKind.i64.min ≤ i ∧ i ≤ IntKind.i64.max := by
    rw [hargs, hty]
    have em : IntKind.i64.min = -9223372036854775808 := by decide
    have ex : IntKind.i64.max = 9223372036854775807 := by decide
    rcases hv with ⟨b, p, off, n, cap, te, el, rfl, rfl, hu⟩ | ⟨el, rfl, rfl, hu⟩ | ⟨s, rfl, rfl, hu⟩ | ⟨n, el, rfl, hu, hr⟩
    · simp only [OK] at h2
      obtain ⟨nm, of, k, hb, hbase, hcn, hlc, hmx⟩ := h2
      refine ⟨by simp [Builtin.len_, run_underlying hu, den_sl hb hbase, goInt], by omega, by omega⟩
    · exact ⟨by simp [Builtin.len_, run_underlying hu, den, goInt], by omega, by omega⟩
    · simp only [OK] at h2
      exact ⟨by simp [Builtin.len_, run_underlying hu, den, goInt], by omega, by omega⟩
    · simp only [inR, decide_eq_true_eq] at hr
      exact ⟨by simp [Builtin.len_, run_underlying hu, goInt], hr⟩
  refine put_val hn he (by simp only [OK]; exact main.2) ?_
  simp [execOp, ho, resolve, hcal, invoke, builtin, main.1, den]

omit S hgl hn in
theorem cells_none {v : AV} (h : pl v = true) (ok : OK P ρ v) : cells P (fun _ => none) v = cells P ρ v ∧ OK P (fun _ => none) v := by
  have k := pl_ok P v h ok
  exact ⟨(cells_ext P (Ext.empty ρ) v k).symm, k⟩

omit hgl hn in
theorem argC_sound {get : Nat → Option AV} (hget : ∀ b T, get b = some T → lk b mem = some T) {v u : AV} (h : argC get v = some u) (ok : OK P ρ v) : ArgAt P w (den P ρ v) u ∧ OK P (fun _ => none) u := by
  have plain : ∀ v : AV, pl v = true → OK P ρ v → den P ρ v = den P (fun _ => none) v ∧ OK P (fun _ => none) v := by
    intro v hv ok
    have k := pl_ok P v hv ok
    exact ⟨(den_ext P (Ext.empty ρ) v k).1, k⟩
  cases v with
  | tup l => simp [argC] at h
  | sl b p off len cap te =>
    simp only [argC] at h
    split at h
    · rename_i T hT
      split at h
      · rename_i T' hT'
        obtain ⟨hc, h⟩ := cond_some h
        simp only [Option.some.injEq] at h
        subst h
        simp only [Bool.and_eq_true] at hc
        obtain ⟨⟨⟨c1, c2⟩, c3⟩, c4⟩ := hc
        have c1 := beq_eq c1
        have c2 := beq_eq c2
        have c3 := beq_eq c3
        subst c1; subst c2; subst c3
        have hl := hget b T hT
        obtain ⟨nm, hb, hN, okT, hs, hcell⟩ := S.cell b T hl
        simp only [OK] at ok
        obtain ⟨nm', o, n, hb', hbase, hoff, -, hmax⟩ := ok
        rw [hb] at hb'
        obtain rfl := Option.some.inj hb'
        -- the row that is sliced
        have key : OK P ρ T' ∧ HasN P ⟨nm.blk, nm.off + o, rowN T', te, true⟩ T' ∧ LiesAt (cells P ρ T) o (cells P ρ T') := by
          have inner : ∀ u, pathN P nm p = some (o, u) → P.underlying u = some (.array n te) → OK P ρ T' ∧ HasN P ⟨nm.blk, nm.off + o, rowN T', te, true⟩ T' ∧ LiesAt (cells P ρ T) o (cells P ρ T') := by
            intro u hp hu
            obtain ⟨x, as, bs, h1, h2, h3, h4, h5, -⟩ := name_down P ρ nm p T hN okT o u hp
            rw [hT'] at h1
            obtain rfl := Option.some.inj h1
            refine ⟨h3, ?_, ?_⟩
            · simp only [HasN, if_true]
              cases T' <;> simp only [pl, Bool.false_eq_true] at c4 <;> simp only [Has] at h2
              case ints k m l =>
                obtain ⟨e, g1, g2, g3, -⟩ := h2
                rw [hu] at g1
                simp only [Option.some.injEq, TypeDesc.array.injEq] at g1
                obtain ⟨-, rfl⟩ := g1
                exact ⟨rfl, g2, g3⟩
              case agg l =>
                rcases h2 with ⟨fs, g1, -⟩ | ⟨m, e, g1, g2, g3, -⟩
                · rw [hu] at g1; simp at g1
                · rw [hu] at g1
                  simp only [Option.some.injEq, TypeDesc.array.injEq] at g1
                  obtain ⟨-, rfl⟩ := g1
                  exact ⟨rfl, g3⟩
              all_goals first
                | (obtain ⟨g1, -⟩ := h2; rw [hu] at g1; simp at g1)
                | (obtain ⟨⟨_, g1⟩, -⟩ := h2; rw [hu] at g1; simp at g1)
                | (obtain ⟨⟨_, _, _, g1⟩, -⟩ := h2; rw [hu] at g1; simp at g1)
                | exact h2.elim
            · rw [h4, ← h5]
              exact LiesAt.append as _ bs
          unfold baseN at hbase
          by_cases hr : nm.row = true
          · rw [if_pos hr] at hbase
            cases p with
            | nil =>
              simp only [Option.some.injEq, Prod.mk.injEq] at hbase
              obtain ⟨rfl, rfl, rfl⟩ := hbase
              simp only [getP, Option.some.injEq] at hT'
              subst hT'
              refine ⟨okT, ?_, fun j x hx => by rw [Nat.zero_add]; exact hx⟩
              simp only [HasN, hr, if_true] at hN ⊢
              cases T <;> simp only [pl, Bool.false_eq_true] at c4 <;> simp only at hN ⊢
              · exact ⟨rfl, hN.2⟩
              · exact ⟨rfl, hN.2⟩
            | cons i q =>
              simp only at hbase
              split at hbase
              · rename_i hi
                split at hbase
                · rename_i o1 u1 hq
                  split at hbase
                  · rename_i n1 e1 hu1
                    simp only [Option.some.injEq, Prod.mk.injEq] at hbase
                    obtain ⟨rfl, rfl, rfl⟩ := hbase
                    exact inner u1 (by unfold pathN; rw [if_pos hr]; simp [hi, hq]) hu1
                  · simp at hbase
                · simp at hbase
              · simp at hbase
          · rw [if_neg hr] at hbase
            split at hbase
            · rename_i o1 u1 hq
              split at hbase
              · rename_i n1 e1 hu1
                simp only [Option.some.injEq, Prod.mk.injEq] at hbase
                obtain ⟨rfl, rfl, rfl⟩ := hbase
                exact inner u1 (by unfold pathN; rw [if_neg hr]; exact hq) hu1
              · simp at hbase
            · simp at hbase
        obtain ⟨k1, k2, k3⟩ := key
        obtain ⟨k4, k5⟩ := cells_none (ρ := ρ) c4 k1
        refine ⟨⟨nm.blk, nm.off + o, ?_, hs, k2, hmax, fun j x hx => ?_⟩, ?_⟩
        · rw [den_sl hb hbase]; simp
        · rw [k4] at hx
          have := hcell (o + j) x (k3 j x hx)
          rwa [← Nat.add_assoc] at this
        · simp only [OK, OKL]
          exact ⟨k5, trivial, trivial⟩
      · simp at h
    · simp at h
  | _ =>
    simp only [argC] at h
    obtain ⟨hc, h⟩ := cond_some h
    simp only [Option.some.injEq] at h
    subst h
    exact plain _ hc ok

omit hgl hn in
theorem argsC_sound {get : Nat → Option AV} (hget : ∀ b T, get b = some T → lk b mem = some T) : {vs us : List AV} → argsC get vs = some us → OKL P ρ vs → ArgsAt P w (denT P ρ vs) us ∧ OKL P (fun _ => none) us
  | [], us, h, _ => by simp only [argsC, Option.some.injEq] at h; subst h; simp [denT, ArgsAt, OKL]
  | v :: l, us, h, ok => by
    simp only [argsC] at h
    split at h
    · rename_i u hu
      split at h
      · rename_i r hr
        simp only [Option.some.injEq] at h
        subst h
        simp only [OKL] at ok
        obtain ⟨h1, h2⟩ := argC_sound S hget hu ok.1
        obtain ⟨h3, h4⟩ := argsC_sound hget hr ok.2
        simp only [denT, ArgsAt, OKL]
        exact ⟨⟨h1, h3⟩, h2, h4⟩
      · simp at h
    · simp at h

theorem s_call {Γ : FuncId → Option Ct} (hΓ : ∀ g C, Γ g = some C → SoundAt P w0 g C) {get : Nat → Option AV} (hget : ∀ b T, get b = some T → lk b mem = some T) {c : Call} {fo : Operand} {g : FuncId} {vs us : List AV} {C : Ct} {v : AV} (ho : o.op = .call c) (hcal : c.callee = .value fo) (hf : evO gl tm fo = some (.clo g []))
    (hx : evL (evO gl tm) c.args.toList = some vs) (hC : Γ g = some C) (hus : argsC get vs = some us) (hr : (C us).run none some = some v) (he : e = .val v) : o.wp P a w next Q := by
  obtain ⟨h1, -⟩ := ev_sound S hgl hf
  simp only [den, denT] at h1
  obtain ⟨h2, h3⟩ := evL_sound S hgl hx
  obtain ⟨hat, ok0⟩ := argsC_sound S hget hus h3
  obtain ⟨hv0, hmeets⟩ := hΓ g C hC us v hr ok0 w S.below _ hat
  obtain ⟨hdv, hov⟩ := den_ext P (Ext.empty ρ) v hv0
  have hargs : c.args.map a.eval = (denT P ρ vs).toArray := by
    rw [← Array.toArray_toList (xs := c.args.map a.eval), Array.toList_map, h2]
  subst he
  rcases hmeets with ⟨hcf, hcalls⟩ | hcf
  · have hrun : (execOp a.eval o).run P w = .ok (.enter g (denT P ρ vs).toArray) w := by
      simp [execOp, ho, resolve, hcal, h1, Deferred.ofValue, invoke, hargs, hcf]
    unfold Oper.wp
    rw [hrun, Oper.upon_enter]
    refine hcalls.mono ?_
    rintro e' w' ⟨rfl, hb⟩
    rw [← hdv]
    exact hn _ _ _ (.val v w' hov hb)
  · have hrun : (execOp a.eval o).run P w = .ok (.value (den P ρ v)) w := by
      rw [hdv]
      simp [execOp, ho, resolve, hcal, h1, Deferred.ofValue, invoke, hargs, hcf]
    exact one_put hrun (hn _ _ _ (.val v w hov (Below.refl _ _)))

end

theorem eqItems_ints {P : Program} {e : TypeId} {k : IntKind} (hk : P.underlying e = some (.int k)) (h1 : P.cellsOf e = 1) (d : Nat) (w : World) (l l' : List Int) : (is : List Nat) → (∀ i ∈ is, i < l.length ∧ i < l'.length) →
    (Op.eqItems (d + 1) e 1 (l.map (Value.int k)).toArray (l'.map (Value.int k)).toArray is).run P w = .ok (is.all fun i => l.getD i 0 == l'.getD i 0) w
  | [], _ => by simp [Op.eqItems]
  | i :: is, h => by
    have hi := h i (by simp)
    have ih := eqItems_ints hk h1 d w l l' is (fun j hj => h j (by simp [hj]))
    have hp : ∀ (l : List Int), i < l.length → (part e (l.map (Value.int k)).toArray (i * 1)).run P w = .ok (.int k (l.getD i 0)) w := by
      intro l hl
      unfold part
      rw [Sem.run_bind, run_isAgg' hk]
      simp [wideD, hl, List.getD_eq_getElem?_getD]
    simp only [Op.eqItems, Sem.run_bind, hp l hi.1, hp l' hi.2, Result.andThen_ok, run_equalIn_int w d e k k _ _ hk, List.all_cons]
    cases hq : (l.getD i 0 == l'.getD i 0)
    · simp
    · simpa using ih

theorem all_eq (l l' : List Int) (h : l.length = l'.length) : ((List.range l.length).all fun i => l.getD i 0 == l'.getD i 0) = decide (l = l') := by
  rw [Bool.eq_iff_iff, List.all_eq_true, decide_eq_true_iff]
  constructor
  · intro H
    apply List.ext_getElem h
    intro i h1 h2
    have := H i (by simpa using h1)
    simpa [List.getD_eq_getElem?_getD, h1, h2] using this
  · rintro rfl i _
    simp

theorem equal_sound {P : Program} {ρ : Rho} {x y : AV} {t : TypeId} {b : Bool} (h : eqAV x y = some b) (hx : Has P x t) (hy : Has P y t) (ox : OK P ρ x) (oy : OK P ρ y) (w : World) (d : Nat) :
    (Op.equalIn (d + 2) t (den P ρ x) (den P ρ y)).run P w = .ok b w := by
  unfold eqAV at h
  split at h
  · rename_i k a k' c
    replace h := cond_some h
    obtain ⟨hk, h⟩ := h
    have hk := kEq_eq hk
    subst hk
    simp only [Option.some.injEq] at h
    subst h
    simp only [Has] at hx
    simp only [den]
    exact run_equalIn_int w (d + 1) t k k a c hx.1
  · rename_i a c
    simp only [Option.some.injEq] at h
    subst h
    simp only [Has] at hx
    simp only [den]
    exact run_equalIn_bool w (d + 1) t a c hx.1
  · rename_i a c
    simp only [Option.some.injEq] at h
    subst h
    simp only [Has] at hx
    simp only [den]
    rw [run_equalIn_string w (d + 1) t a c hx.1, beq_toListBytes]
  · rename_i k n l k' n' l'
    replace h := cond_some h
    obtain ⟨hk, h⟩ := h
    simp only [Bool.and_eq_true] at hk
    have hkk := kEq_eq hk.1
    have hnn := beq_eq hk.2
    subst hkk hnn
    simp only [Option.some.injEq] at h
    subst h
    simp only [Has] at hx
    simp only [OK] at ox oy
    obtain ⟨e, hu, hke, h1, h2⟩ := hx
    obtain ⟨i, hi, hs⟩ := info_of hke
    simp only [den]
    rw [show d + 2 = (d + 1) + 1 from rfl, run_equalIn_array w (d + 1) _ _ hu hi, h1, eqItems_ints hke h1 d w l l' (List.range n) (fun j hj => by
      have := List.mem_range.1 hj; omega), ← ox.1, all_eq l l' (by omega)]
  all_goals (first | (simp at h; done) | (simp only [Option.some.injEq] at h; subst h))
  · simp only [Has] at hx
    obtain ⟨⟨e, hu⟩, -⟩ := hx
    rw [show d + 2 = (d + 1) + 1 from rfl, Op.equalIn, Sem.run_bind, run_underlying hu]; rfl
  · simp only [Has] at hx
    obtain ⟨⟨e, hu⟩, -⟩ := hx
    simp only [OK] at oy
    obtain ⟨nm, o, hb, hp⟩ := oy
    rw [den_ptr hb hp]
    rw [show d + 2 = (d + 1) + 1 from rfl, Op.equalIn, Sem.run_bind, run_underlying hu]; rfl
  · simp only [Has] at hx
    obtain ⟨⟨e, hu⟩, -⟩ := hx
    simp only [OK] at ox
    obtain ⟨nm, o, hb, hp⟩ := ox
    rw [den_ptr hb hp]
    rw [show d + 2 = (d + 1) + 1 from rfl, Op.equalIn, Sem.run_bind, run_underlying hu]; rfl
  · simp only [Has] at hx
    obtain ⟨⟨e, hu⟩, -⟩ := hx
    rw [show d + 2 = (d + 1) + 1 from rfl, Op.equalIn, Sem.run_bind, run_underlying hu]; rfl
  · simp only [Has] at hx
    obtain ⟨⟨e, hu⟩, -⟩ := hx
    rw [show d + 2 = (d + 1) + 1 from rfl, Op.equalIn, Sem.run_bind, run_underlying hu]; rfl
  · simp only [Has] at hx
    obtain ⟨⟨e, hu⟩, -⟩ := hx
    rw [show d + 2 = (d + 1) + 1 from rfl, Op.equalIn, Sem.run_bind, run_underlying hu]; rfl
  · simp only [Has] at hx
    obtain ⟨⟨e, hu⟩, -⟩ := hx
    rw [show d + 2 = (d + 1) + 1 from rfl, Op.equalIn, Sem.run_bind, run_underlying hu]; rfl
  · simp only [Has] at hx
    obtain ⟨⟨e, hu⟩, -⟩ := hx
    simp only [OK] at ox
    obtain ⟨nm, of, n, hb, hbase, -⟩ := ox
    rw [den_sl hb hbase]
    rw [show d + 2 = (d + 1) + 1 from rfl, Op.equalIn, Sem.run_bind, run_underlying hu]; rfl
  · simp only [Has] at hx
    obtain ⟨⟨e, hu⟩, -⟩ := hx
    simp only [OK] at oy
    obtain ⟨nm, of, n, hb, hbase, -⟩ := oy
    rw [den_sl hb hbase]
    rw [show d + 2 = (d + 1) + 1 from rfl, Op.equalIn, Sem.run_bind, run_underlying hu]; rfl
  · simp only [Has] at hx
    obtain ⟨⟨a, b, c, hu⟩, -⟩ := hx
    rw [show d + 2 = (d + 1) + 1 from rfl, Op.equalIn, Sem.run_bind, run_underlying hu]; rfl
  · simp only [Has] at hx
    obtain ⟨⟨a, b, c, hu⟩, -⟩ := hx
    rw [show d + 2 = (d + 1) + 1 from rfl, Op.equalIn, Sem.run_bind, run_underlying hu]; rfl

end Go.Vx
