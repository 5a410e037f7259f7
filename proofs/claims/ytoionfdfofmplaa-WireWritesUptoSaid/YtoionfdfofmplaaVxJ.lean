/- The engine, part J: any operation; what becomes of the state; regions. -/
import Derived.Test.YtoionfdfofmplaaVxI
set_option autoImplicit false
set_option linter.unusedVariables false
set_option linter.unusedSimpArgs false
namespace Go.Vx
open Go Go.RowKit

theorem run_eqGuard' {P : Program} {ρ : Rho} {x : AV} {t : TypeId} (y : Value) (w : World) (op : BinOp) (p q : Operand) (h : eqG P t x = true) (hw : wide x = true → (∃ n k l, x = .ints n k l) ∨ ∃ l, x = .agg l) (hx : ∀ k, x ≠ .tup k) :
    (eqGuard op t p q (den P ρ x) y).run P w = .ok () w := by
  cases x with
  | ints k n l =>
    simp only [eqG, Bool.not_eq_true'] at h
    cases y
    case agg cs => exact run_eqGuard_agg w op t p q _ cs h
    all_goals (simp only [den]; cases op <;> simp [eqGuard])
  | nilif => simp [eqG] at h
  | vec c l => simp [eqG] at h
  | dc _ _ => simp [eqG] at h
  | itr _ _ => simp [eqG] at h
  | agg l =>
    simp only [eqG, Bool.not_eq_true'] at h
    cases y
    case agg cs => exact run_eqGuard_agg w op t p q _ cs h
    all_goals (simp only [den]; cases op <;> simp [eqGuard])
  | rows n f => rcases hw rfl with ⟨n, k, l', hh⟩ | ⟨l', hh⟩ <;> simp at hh
  | tup l => exact absurd rfl (hx l)
  | ptr b _ _ => cases hb : (ρ b) <;> simp only [den, hb] <;> cases op <;> simp [eqGuard]
  | sl b _ _ _ _ _ => cases hb : (ρ b) <;> simp only [den, hb] <;> cases op <;> simp [eqGuard]
  | pa b _ _ _ _ => cases hb : (ρ b) <;> simp only [den, hb] <;> cases op <;> simp [eqGuard]
  | gs b _ _ =>
    cases hb : (ρ b) with
    | none => simp only [den, hb]; cases op <;> simp [eqGuard]
    | some nm => cases hn : nm.non <;> simp only [den, hb, gsV, hn, cond_true, cond_false] <;> cases op <;> simp [eqGuard]
  | gp b _ _ _ _ _ =>
    cases hb : (ρ b) with
    | none => simp only [den, hb]; cases op <;> simp [eqGuard]
    | some nm => cases hn : nm.non <;> simp only [den, hb, gpV, hn, cond_true, cond_false] <;> cases op <;> simp [eqGuard]
  | dv b p _ _ _ =>
    cases hb : (ρ b) with
    | none => simp only [den, hb]; cases op <;> simp [eqGuard]
    | some nm => cases hn : dloc nm.K (nmL nm) p <;> simp only [den, hb, dvV, hn] <;> cases op <;> simp [eqGuard]
  | dq b p _ _ _ _ =>
    cases hb : (ρ b) with
    | none => simp only [den, hb]; cases op <;> simp [eqGuard]
    | some nm => cases hn : dloc nm.K (nmL nm) p <;> simp only [den, hb, dqV, hn] <;> cases op <;> simp [eqGuard]
  | itp b => cases hb : (ρ b) <;> simp only [den, hb] <;> cases op <;> simp [eqGuard]
  | _ => simp only [den]; cases op <;> simp [eqGuard]

/-- Two values of one type, neither of them numbers, meet '==' in the model's last arms. -/
theorem run_eqlA {P : Program} {ρ : Rho} {l : List AV} {y : AV} {t : TypeId} {b : Bool} (h : eqD P 4 t (.agg l) y = some b) (hx : Has P (.agg l) t) (hy : Has P y t) (ox : OK P ρ (.agg l)) (oy : OK P ρ y) (w : World) (neg : Bool) :
    (binOp (cond neg .neq .eql) t (den P ρ (.agg l)) (den P ρ y)).run P w = .ok (.bool (cond neg (!b) b)) w := by
  have he : (Op.equal t (den P ρ (.agg l)) (den P ρ y)).run P w = .ok b w := equalD_sound w 9994 4 _ _ t b h hx hy ox oy
  have hya : ∃ r, y = .agg r := by
    cases y <;> first | exact ⟨_, rfl⟩ | (simp [eqD, eqAV] at h; done)
  obtain ⟨r, rfl⟩ := hya
  simp only [den] at he ⊢
  cases neg <;> simp [binOp, he]

theorem run_eql' {P : Program} {ρ : Rho} {x y : AV} {t : TypeId} {b : Bool} (h : eqAV x y = some b) (hx : Has P x t) (hy : Has P y t) (ox : OK P ρ x) (oy : OK P ρ y) (hn : ∀ k i, x ≠ .int k i) (w : World) (neg : Bool) :
    (binOp (cond neg .neq .eql) t (den P ρ x) (den P ρ y)).run P w = .ok (.bool (cond neg (!b) b)) w := by
  have he := fun w => equal_sound h hx hy ox oy w 9998
  have he' : ∀ w, (Op.equal t (den P ρ x) (den P ρ y)).run P w = .ok b w := he
  have h0 := h
  unfold eqAV at h
  split at h
  · exact absurd rfl (hn _ _)
  · cases neg <;> simp only [den] at he' ⊢ <;> simp [binOp, he']
  · rename_i s s'
    simp only [Option.some.injEq] at h
    subst h
    cases neg <;> simp only [den] <;> simp [binOp, Op.stringOp, beq_toListBytes]
  · cases neg <;> simp only [den] at he' ⊢ <;> simp [binOp, he']
  · cases neg <;> simp only [den] at he' ⊢ <;> simp [binOp, he']
  · simp only [OK] at oy
    obtain ⟨nm, o, hb, hp⟩ := oy
    rw [den_ptr hb hp] at he' ⊢
    cases neg <;> simp only [den] at he' ⊢ <;> simp [binOp, he']
  · simp only [OK] at ox
    obtain ⟨nm, o, hb, hp⟩ := ox
    rw [den_ptr hb hp] at he' ⊢
    cases neg <;> simp only [den] at he' ⊢ <;> simp [binOp, he']
  · cases neg <;> simp only [den] at he' ⊢ <;> simp [binOp, he']
  · cases neg <;> simp only [den] at he' ⊢ <;> simp [binOp, he']
  · cases neg <;> simp only [den] at he' ⊢ <;> simp [binOp, he']
  · cases neg <;> simp only [den] at he' ⊢ <;> simp [binOp, he']
  · simp only [OK] at ox
    obtain ⟨nm, of, n, hb, hbase, -⟩ := ox
    rw [den_sl hb hbase] at he' ⊢
    cases neg <;> simp only [den] at he' ⊢ <;> simp [binOp, he']
  · simp only [OK] at oy
    obtain ⟨nm, of, n, hb, hbase, -⟩ := oy
    rw [den_sl hb hbase] at he' ⊢
    cases neg <;> simp only [den] at he' ⊢ <;> simp [binOp, he']
  · cases neg <;> simp only [den] at he' ⊢ <;> simp [binOp, he']
  · cases neg <;> simp only [den] at he' ⊢ <;> simp [binOp, he']
  · simp at h

section
variable {P : Program} {w0 : Base} {ro : Nat} {ρ : Rho} {tm mem : List (Nat × AV)} {a : Act} {w : World} (S : Sim P w0 ro ρ tm mem a.tmps w)
  {gl : Nat → Option AV} (hgl : GL P ρ gl) {m : Nat}
  {o : Oper} {e : Eff} {next : Act → World → Prop} {Q : Exit → Act → World → Prop} (hn : ∀ v ρ' w', After P ro ρ mem w m e v ρ' w' → next (a.put o.dst v) w')
include S hn hgl

theorem s_eq {t ty : TypeId} {x y : Operand} {u v : AV} {neg : Bool} (ho : o.op = .binOp (cond neg .neq .eql) t x y ty) (hx : evO gl tm x = some u) (hy : evO gl tm y = some v) (hni : ∀ k i, u ≠ .int k i)
    (h : eqK P t neg u v none some = some e) : o.wp P a w next Q := by
  unfold eqK at h
  split at h
  · rename_i b hb
    replace h := cond_some h
    obtain ⟨hc, h⟩ := h
    simp only [Bool.and_eq_true] at hc
    simp only [Option.some.injEq] at h
    obtain ⟨h1, h2⟩ := ev_sound S hgl hx
    obtain ⟨h3, h4⟩ := ev_sound S hgl hy
    have k1 := has_of_chk P u t hc.1.1
    have k2 := has_of_chk P v t hc.1.2
    have hg := fun w => run_eqGuard' (P := P) (ρ := ρ) (x := u) (t := t) (den P ρ v) w (cond neg .neq .eql) x y hc.2 (fun hw => by
      by_cases ha : ∃ l, u = .agg l
      · exact .inr ha
      · left
        have hb := eqD_base hb (fun l e => ha ⟨l, e⟩)
        unfold eqAV at hb
        split at hb <;> simp [wide] at hw
        · exact ⟨_, _, _, rfl⟩
        · simp at hb) (fun k hh => by subst hh; simp [Has] at k1)
    refine put_val hn h.symm (by simp [OK]) ?_
    have hr : (binOp (cond neg .neq .eql) t (den P ρ u) (den P ρ v)).run P w = .ok (.bool (cond neg (!b) b)) w := by
      by_cases ha : ∃ l, u = .agg l
      · obtain ⟨l, rfl⟩ := ha
        exact run_eqlA hb k1 k2 h2 h4 w neg
      · exact run_eql' (eqD_base hb (fun l e => ha ⟨l, e⟩)) k1 k2 h2 h4 hni w neg
    simp [execOp, ho, h1, h3, hg, hr, den]
  · simp at h
end

theorem eqAV_int {P : Program} {t : TypeId} {k : IntKind} {i : Int} {v : AV} {b : Bool} (h : eqD P 4 t (.int k i) v = some b) : ∃ k' j, v = .int k' j := by
  cases v <;> first | exact ⟨_, _, rfl⟩ | (simp [eqD, eqAV] at h; done)

theorem opE_sound {P : Program} {w0 : Base} {ro : Nat} {ρ : Rho} {tm mem : List (Nat × AV)} {a : Act} {w : World} (S : Sim P w0 ro ρ tm mem a.tmps w)
    {gl : Nat → Option AV} (hgl : GL P ρ gl) {Γ : FuncId → Option Ct} (hΓ : ∀ g C, Γ g = some C → SoundAt P w0.g g C) {get : Nat → Option AV} (hget : ∀ b T, get b = some T → lk b mem = some T) {m : Nat}
    {o : Oper} {e : Eff} {next : Act → World → Prop} {Q : Exit → Act → World → Prop} (hn : ∀ v ρ' w', After P ro ρ mem w m e v ρ' w' → next (a.put o.dst v) w')
    (h : opE P Γ ro o.op (evO gl tm) get none some = some e) : o.wp P a w next Q := by
  have main : opK P Γ ro o.op (evO gl tm) get none some = some e → o.wp P a w next Q := by
    intro h
    cases ho : o.op <;> simp only [ho, opK] at h
    case move x => split at h <;> simp at h; exact s_move S hgl hn (.inl ho) ‹_› h.symm
    case assign x => split at h <;> simp at h; exact s_move S hgl hn (.inr ho) ‹_› h.symm
    case pick c x y =>
      split at h
      · rename_i b v u h1 h2 h3
        refine s_pick S hgl hn ho h1 h2 h3 ?_
        cases b <;> simp at h <;> exact h.symm
      · simp at h
    case alloc t => split at h <;> simp at h; exact s_alloc hn ho ‹_› h.symm
    case box t x =>
      split at h
      · replace h := cond_some h
        obtain ⟨hc, h⟩ := h
        simp only [Option.some.injEq] at h
        exact s_box S hgl hn ho ‹_› hc h.symm
      · simp at h
    case build t ps =>
      split at h
      · rename_i z vs h1 h2
        replace h := cond_some h
        obtain ⟨hc, h⟩ := h
        simp only [Bool.and_eq_true] at hc
        split at h
        · simp only [Option.some.injEq] at h
          exact s_build S hgl hn ho h1 h2 hc.1 (by simpa using hc.2) ‹_› h.symm
        · simp at h
      · simp at h
    case load t x =>
      split at h
      · rename_i b p t' h1
        replace h := cond_some h
        obtain ⟨hc, h⟩ := h
        have hc := beq_eq hc
        subst hc
        split at h
        · split at h
          · simp only [Option.some.injEq] at h
            exact s_load S hgl hget hn ho h1 ‹_› ‹_› h.symm
          · simp at h
        · simp at h
      · rename_i b p off n te h1
        split at h
        · rename_i n' e' ht
          replace h := cond_some h
          obtain ⟨hc, h⟩ := h
          simp only [Bool.and_eq_true] at hc
          have c1 := beq_eq hc.1.1
          have c2 := beq_eq hc.1.2
          have c3 := beq_eq hc.2
          subst c1
          subst c2
          split at h
          · split at h
            · simp only [Option.some.injEq] at h
              exact s_loadA S hgl hget hn ho h1 ht c3 ‹_› ‹_› h.symm
            · simp at h
          · simp at h
        · simp at h
      · simp at h
    case sliceToArrayPointer t x =>
      split at h
      · rename_i b p off len cap te h1
        split at h
        · rename_i n e' ht
          replace h := cond_some h
          obtain ⟨hc, h⟩ := h
          simp only [Bool.and_eq_true] at hc
          have c1 := beq_eq hc.1
          subst c1
          simp only [Option.some.injEq] at h
          exact s_arr S hgl hn ho h1 ht (by simpa using hc.2) h.symm
        · simp at h
      · simp at h
    case store t x y =>
      split at h
      · rename_i b p t' v h1 h2
        replace h := cond_some h
        obtain ⟨hc, h⟩ := h
        simp only [Bool.and_eq_true] at hc
        have hc1 := beq_eq hc.1.1
        subst hc1
        split at h
        · split at h
          · simp only [Option.some.injEq] at h
            exact s_store S hgl hget hn ho h1 h2 (Nat.le_of_ble_eq_true hc.1.2) hc.2 ‹_› ‹_› h.symm
          · simp at h
        · simp at h
      · simp at h
    case nilCheck x =>
      split at h
      · simp only [Option.some.injEq] at h
        exact s_nilCheck S hgl hn ho ‹_› h.symm
      · simp at h
    case binOp op t x y ty =>
      split at h
      · rename_i q i q' j h1 h2
        split at h
        · rename_i hcl
          replace h := cond_some h
          obtain ⟨hc, h⟩ := h
          simp only [Option.some.injEq] at h
          exact s_bin S hgl hn ho h1 h2 (.inl ⟨hcl, by simpa using hc, rfl⟩) h.symm
        · rename_i hcl
          replace h := cond_some h
          obtain ⟨hc, h⟩ := h
          replace h := cond_some' h
          obtain ⟨hd, h⟩ := h
          simp only [Option.some.injEq] at h
          exact s_bin S hgl hn ho h1 h2 (.inr (.inl ⟨hcl, kEq_eq hc, hd, rfl⟩)) h.symm
        · rename_i hcl
          replace h := cond_some h
          obtain ⟨hc, h⟩ := h
          simp only [Option.some.injEq] at h
          exact s_bin S hgl hn ho h1 h2 (.inr (.inr (.inl ⟨hcl, kEq_eq hc, rfl⟩))) h.symm
        · rename_i n3 n1 n4
          replace h := cond_some h
          obtain ⟨hc, h⟩ := h
          simp only [Option.some.injEq] at h
          refine s_bin S hgl hn ho h1 h2 (.inr (.inr (.inr ⟨?_, kEq_eq hc, rfl⟩))) h.symm
          cases op <;> simp [bcl] at n3 n1 n4 ⊢
      · simp at h
    case unOp op t x =>
      split at h
      · simp only [Option.some.injEq] at h
        exact s_un S hgl hn ho ‹_› (.inl ⟨_, _, rfl, rfl, rfl⟩) h.symm
      · simp only [Option.some.injEq] at h
        exact s_un S hgl hn ho ‹_› (.inr (.inl ⟨_, _, rfl, rfl, rfl⟩)) h.symm
      · simp only [Option.some.injEq] at h
        exact s_un S hgl hn ho ‹_› (.inr (.inr ⟨_, rfl, rfl, rfl⟩)) h.symm
      · simp at h
    case convert s d x =>
      split at h
      · split at h
        · simp only [Option.some.injEq] at h
          exact s_conv S hgl hn ho ‹_› ‹_› ‹_› h.symm
        · simp at h
      · simp at h
    case fieldAddr s x i =>
      split at h
      · replace h := cond_some h
        obtain ⟨hc, h⟩ := h
        have hc := beq_eq hc
        subst hc
        split at h
        · split at h
          · replace h := cond_some h
            obtain ⟨hz, h⟩ := h
            simp only [Option.some.injEq] at h
            exact s_fieldAddr S hgl hn ho ‹_› ‹_› ‹_› (by simpa using hz) h.symm
          · simp at h
        · simp at h
      · simp at h
    case field s x i =>
      split at h
      · split at h
        · replace h := cond_some h
          obtain ⟨hc, h⟩ := h
          split at h
          · simp only [Option.some.injEq] at h
            exact s_field S hgl hn ho ‹_› ‹_› hc ‹_› h.symm
          · simp at h
        · simp at h
      · simp at h
    case indexAddr t x y =>
      split at h
      · replace h := cond_some h
        obtain ⟨hc, h⟩ := h
        have hc := beq_eq hc
        subst hc
        split at h
        · replace h := cond_some h
          obtain ⟨hz, h⟩ := h
          replace h := cond_some h
          obtain ⟨hi, h⟩ := h
          simp only [Option.some.injEq] at h
          exact s_indexAddr S hgl hn ho ‹_› ‹_› ‹_› (by simpa using hz) (by simpa using hi) h.symm
        · simp at h
      · split at h
        · replace h := cond_some h
          obtain ⟨hc, h⟩ := h
          simp only [Bool.and_eq_true] at hc
          have hc1 := beq_eq hc.1
          subst hc1
          replace h := cond_some h
          obtain ⟨hi, h⟩ := h
          simp only [Option.some.injEq] at h
          exact s_indexAddrS S hgl hn ho ‹_› ‹_› ‹_› (by simpa using hc.2) (by simpa using hi) h.symm
        · simp at h
      · split at h
        · replace h := cond_some h
          obtain ⟨hc, h⟩ := h
          simp only [Bool.and_eq_true] at hc
          have hc1 := beq_eq hc.1
          subst hc1
          replace h := cond_some h
          obtain ⟨hi, h⟩ := h
          simp only [Option.some.injEq] at h
          exact s_indexAddrG S hgl hn ho ‹_› ‹_› ‹_› (by simpa using hc.2) (by simpa using hi) h.symm
        · simp at h
      · simp at h
    case index t x y =>
      split at h
      · split at h
        · replace h := cond_some h
          obtain ⟨hc, h⟩ := h
          simp only [Bool.and_eq_true] at hc
          have hc1 := beq_eq hc.1
          subst hc1
          replace h := cond_some h
          obtain ⟨hi, h⟩ := h
          simp only [Option.some.injEq] at h
          exact s_indexI S hgl hn ho ‹_› ‹_› ‹_› hc.2 (by simpa using hi) h.symm
        · simp at h
      · split at h
        · replace h := cond_some h
          obtain ⟨hc, h⟩ := h
          replace h := cond_some h
          obtain ⟨hil, h⟩ := h
          split at h
          · simp only [Option.some.injEq] at h
            exact s_indexA S hgl hn ho ‹_› ‹_› ‹_› hc (by simpa using hil) ‹_› h.symm
          · simp at h
        · simp at h
      · split at h
        · replace h := cond_some h
          obtain ⟨hi, h⟩ := h
          simp only [Option.some.injEq] at h
          exact s_indexStr S hgl hn ho ‹_› ‹_› ‹_› (by simpa using hi) h.symm
        · simp at h
      · simp at h
    case slice t x lo hi mx =>
      cases mx with
      | some _ => simp at h
      | none =>
        simp only at h
        split at h
        · replace h := cond_some h
          obtain ⟨hc, h⟩ := h
          have hc := beq_eq hc
          subst hc
          split at h
          · replace h := cond_some h
            obtain ⟨hz, h⟩ := h
            simp only [Bool.and_eq_true] at hz
            have hr := hz.2
            simp only [inR, decide_eq_true_eq] at hr
            exact s_sliceA S hgl hn ho ‹_› ‹_› (by simpa using hz.1) hr.2 h
          · simp at h
        · split at h
          · replace h := cond_some h
            obtain ⟨hc, h⟩ := h
            simp only [Bool.and_eq_true] at hc
            have hc1 := beq_eq hc.1
            subst hc1
            exact s_sliceS S hgl hn ho ‹_› ‹_› (by simpa using hc.2) h
          · simp at h
        · split at h
          · replace h := cond_some h
            obtain ⟨hz, h⟩ := h
            exact s_sliceN S hgl hn ho ‹_› ‹_› (by simpa using hz) h
          · simp at h
        · simp at h
    case extract x i =>
      split at h
      · split at h
        · simp only [Option.some.injEq] at h
          exact s_extract S hgl hn ho ‹_› ‹_› h.symm
        · simp at h
      · simp at h
    case makeFunc g first caps =>
      cases g <;> simp only at h
      case func g =>
        split at h
        · split at h
          · simp only [Option.some.injEq] at h
            exact s_makeFunc S hgl hn ho ‹_› ‹_› h.symm
          · simp at h
        · simp at h
      all_goals simp at h
    case makeInterface t x =>
      split at h
      · split at h
        · simp at h
        · rename_i d hd1 hd2
          simp only [Option.some.injEq] at h
          exact s_makeInterface S hgl hn ho ‹_› hd2 (fun ms hms => by subst hms; exact hd1 ms rfl) h.symm
        · simp at h
      · simp at h
    case buildSlice t n ps =>
      split at h
      · split at h
        · split at h
          · replace h := cond_some h
            obtain ⟨hc, h⟩ := h
            simp only [Bool.and_eq_true] at hc
            simp only [Option.some.injEq] at h
            exact s_buildSlice S hgl hn ho ‹_› ‹_› ‹_› (beq_eq hc.1.1.1) (by simpa using hc.1.1.2) (Nat.le_of_ble_eq_true hc.1.2) hc.2 h.symm
          · simp at h
        · split at h
          · replace h := cond_some h
            obtain ⟨hc, h⟩ := h
            simp only [Bool.and_eq_true] at hc
            simp only [Option.some.injEq] at h
            exact s_buildSliceA S hgl hn ho ‹_› ‹_› (beq_eq hc.1.1.1.1.1) (by simpa using hc.1.1.1.1.2) (Nat.le_of_ble_eq_true hc.1.1.1.2) (Nat.le_of_ble_eq_true hc.1.1.2) (by simpa using hc.1.2) hc.2 h.symm
          · simp at h
      · simp at h
    case call c =>
      split at h
      · split at h
        · split at h
          · split at h
            · rw [Res.run_par] at h
              replace h := mo_some h
              obtain ⟨v, hv, h⟩ := h
              exact s_call S hgl hn hΓ hget ho ‹_› ‹_› ‹_› ‹_› ‹_› hv h
            · simp at h
          · simp at h
        · simp at h
      · split at h
        · replace h := cond_some h
          obtain ⟨hc, h⟩ := h
          have hc := beq_eq hc
          subst hc
          split at h
          · exact s_append S hgl hn hget ho ‹_› ‹_› ‹_› ‹_› h
          · simp at h
        · simp at h
      · split at h
        · split at h
          · simp only [Option.some.injEq] at h
            exact s_len S hgl hn ho ‹_› ‹_› ‹_› (.inl ⟨_, _, _, _, _, _, _, rfl, rfl, ‹_›⟩) h.symm
          · simp at h
        · split at h
          · simp only [Option.some.injEq] at h
            exact s_len S hgl hn ho ‹_› ‹_› ‹_› (.inr (.inr (.inl ⟨_, _, _, _, rfl, rfl, ‹_›⟩))) h.symm
          · simp at h
        · split at h
          · simp only [Option.some.injEq] at h
            exact s_len S hgl hn ho ‹_› ‹_› ‹_› (.inr (.inl ⟨_, rfl, rfl, ‹_›⟩)) h.symm
          · simp at h
        · split at h
          · simp only [Option.some.injEq] at h
            exact s_len S hgl hn ho ‹_› ‹_› ‹_› (.inr (.inr (.inr (.inl ⟨_, rfl, rfl, ‹_›⟩)))) h.symm
          · simp at h
        · split at h
          · replace h := cond_some h
            obtain ⟨hr, h⟩ := h
            simp only [Option.some.injEq] at h
            exact s_len S hgl hn ho ‹_› ‹_› ‹_› (.inr (.inr (.inr (.inr ⟨_, _, rfl, ‹_›, hr⟩)))) h.symm
          · simp at h
        · simp at h
      · simp at h
    all_goals simp at h
  have icmp_case : ∀ {op : BinOp} {t ty : TypeId} {x y : Operand} {q q' : IntKind} {i j : Int}, bcl op = 4 → o.op = .binOp op t x y ty → evO gl tm x = some (.int q i) → evO gl tm y = some (.int q' j) →
      cond (kEq q q') (some (Eff.val (.bool (icmp op i j)))) none = some e → o.wp P a w next Q := by
    intro op t ty x y q q' i j hcl ho h1 h2 h
    replace h := cond_some h
    obtain ⟨hc, h⟩ := h
    simp only [Option.some.injEq] at h
    exact s_bin S hgl hn ho h1 h2 (.inr (.inr (.inl ⟨hcl, kEq_eq hc, rfl⟩))) h.symm
  unfold opE at h
  split at h
  · rename_i t x y ty ho
    split at h
    · exact icmp_case rfl ho ‹_› ‹_› h
    · rename_i u v hno h1 h2
      by_cases hi : ∃ k i, u = .int k i
      · obtain ⟨k, i, rfl⟩ := hi
        exfalso
        unfold eqK at h
        split at h
        · rename_i b hb
          obtain ⟨k', j, rfl⟩ := eqAV_int hb
          exact hno _ _ _ _ rfl rfl
        · simp at h
      · exact s_eq S hgl hn (neg := false) ho h1 h2 (fun k i hh => hi ⟨k, i, hh⟩) h
    · simp at h
  · rename_i t x y ty ho
    split at h
    · exact icmp_case rfl ho ‹_› ‹_› h
    · rename_i u v hno h1 h2
      by_cases hi : ∃ k i, u = .int k i
      · obtain ⟨k, i, rfl⟩ := hi
        exfalso
        unfold eqK at h
        split at h
        · rename_i b hb
          obtain ⟨k', j, rfl⟩ := eqAV_int hb
          exact hno _ _ _ _ rfl rfl
        · simp at h
      · exact s_eq S hgl hn (neg := true) ho h1 h2 (fun k i hh => hi ⟨k, i, hh⟩) h
    · simp at h
  · exact main h

end Go.Vx
