/- The engine, part I2: more operations: parts of rows, rows that nobody writes to, texts, made rows. -/
import Derived.Test.YtoionfdfofmplaaVxI
import Derived.Laws.IdiomStrings
import Derived.Lib.SliceRun
import Derived.Lib.AppendZeros
set_option autoImplicit false
set_option linter.unusedVariables false
set_option linter.unusedSimpArgs false
namespace Go.Vx
open Go Go.RowKit

theorem dloc_app (K : Fz) : (p q : List Ds) → (l : Option Addr × Nat) → dloc K l (p ++ q) = match dloc K l p with | some l' => dloc K l' q | none => none
  | [], q, l => rfl
  | .sub lo s :: p, q, l => by simp only [List.cons_append, dloc]; exact dloc_app K p q _
  | .elem i s o :: p, q, l => by
    simp only [List.cons_append, dloc]
    split
    · split
      · exact dloc_app K p q _
      · rfl
    · rfl
theorem Tc.fit_sz (P : Program) : (c : Tc) → (∀ t, (c.fitB P).1 t = true → c.sz = P.cellsOf t) ∧ (∀ fs o s, (c.fitB P).2.1 fs o s = true → o + c.sz = s) ∧ (∀ n e, (c.fitB P).2.2 n e = true → c.sz = n * P.cellsOf e) := by
  have one : ∀ {g : TypeId → Bool} {k : Nat}, (∀ t, g t = true → k = P.cellsOf t) → (∀ fs o s, oneF P g fs o s = true → o + k = s) ∧ (∀ n e, oneN g n e = true → k = n * P.cellsOf e) := by
    intro g k hg
    refine ⟨fun fs o s h => ?_, fun n e h => ?_⟩
    · unfold oneF at h
      split at h
      · cases h
      · split at h
        · simp only [Bool.and_eq_true] at h
          rw [hg _ h.1.2]; exact beq_eq h.2
        · cases h
    · simp only [oneN, Bool.and_eq_true] at h
      rw [beq_eq h.1, hg e h.2, Nat.one_mul]
  intro c
  induction c with
  | int k =>
    have key : ∀ t, fitInt P k t = true → 1 = P.cellsOf t := fun t h => (fitInt_spec h).2.symm
    exact ⟨key, one key⟩
  | bool =>
    have key : ∀ t, fitBool P t = true → 1 = P.cellsOf t := fun t h => by
      simp only [fitBool, Bool.and_eq_true] at h
      exact (beq_eq h.2).symm
    exact ⟨key, one key⟩
  | ints k n =>
    have key : ∀ t, fitInts P k n t = true → n = P.cellsOf t := by
      intro t h
      unfold fitInts at h
      split at h
      · simp only [Bool.and_eq_true] at h; exact (beq_eq h.2).symm
      · cases h
    exact ⟨key, one key⟩
  | nil =>
    refine ⟨fun t h => by simp [Tc.fitB] at h, fun fs o s h => ?_, fun n e h => ?_⟩
    · cases fs with
      | nil => exact beq_eq h
      | cons => simp [Tc.fitB] at h
    · rw [show n = 0 from beq_eq h]; simp [Tc.sz]
  | cons a b iha ihb =>
    refine ⟨fun t h => by simp [Tc.fitB] at h, fun fs o s h => ?_, fun n e h => ?_⟩
    · cases fs with
      | nil => simp [Tc.fitB] at h
      | cons f fs =>
        simp only [Tc.fitB, Bool.and_eq_true] at h
        have h1 := iha.1 _ h.1.2
        have h2 := ihb.2.1 _ _ _ h.2
        simp only [Tc.sz]; omega
    · cases n with
      | zero => simp [Tc.fitB] at h
      | succ n =>
        simp only [Tc.fitB, Bool.and_eq_true] at h
        have h1 := iha.1 _ h.1
        have h2 := ihb.2.2 _ _ h.2
        simp only [Tc.sz, h1, h2]
        rw [Nat.succ_mul, Nat.add_comm]
  | agg l ih =>
    have key : ∀ t, fitAgg P (l.fitB P).2.1 (l.fitB P).2.2 t = true → l.sz = P.cellsOf t := by
      intro t h
      unfold fitAgg at h
      split at h
      · have := ih.2.1 _ _ _ h; omega
      · simp only [Bool.and_eq_true] at h
        rw [ih.2.2 _ _ h.1]; exact (beq_eq h.2).symm
      · cases h
    exact ⟨key, one key⟩
theorem Dc.fit_sz (P : Program) : (d : Dc) → (∀ t, (d.fitB P).1 t = true → d.sz = P.cellsOf t) ∧ (∀ fs o s, (d.fitB P).2 fs o s = true → o + d.sz = s) := by
  have one : ∀ {g : TypeId → Bool} {k : Nat}, (∀ t, g t = true → k = P.cellsOf t) → (∀ fs o s, oneF P g fs o s = true → o + k = s) := by
    intro g k hg fs o s h
    unfold oneF at h
    split at h
    · cases h
    · split at h
      · simp only [Bool.and_eq_true] at h
        rw [hg _ h.1.2]; exact beq_eq h.2
      · cases h
  intro d
  induction d with
  | tc c => exact ⟨(Tc.fit_sz P c).1, one (Tc.fit_sz P c).1⟩
  | row d te _ =>
    have key : ∀ t, ((match P.underlying t with | some (.slice e) => Nat.beq e te | _ => false) && Nat.beq (P.cellsOf t) 1 && (d.fitB P).1 te) = true → 1 = P.cellsOf t := fun t h => by
      simp only [Bool.and_eq_true] at h
      exact (beq_eq h.1.2).symm
    exact ⟨key, one key⟩
  | nil =>
    refine ⟨fun t h => by simp [Dc.fitB] at h, fun fs o s h => ?_⟩
    cases fs with
    | nil => exact beq_eq h
    | cons => simp [Dc.fitB] at h
  | cons a b iha ihb =>
    refine ⟨fun t h => by simp [Dc.fitB] at h, fun fs o s h => ?_⟩
    cases fs with
    | nil => simp [Dc.fitB] at h
    | cons f fs =>
      simp only [Dc.fitB, Bool.and_eq_true] at h
      have h1 := iha.1 _ h.1.2
      have h2 := ihb.2 _ _ _ h.2
      simp only [Dc.sz]; omega
  | agg l ih =>
    have key : ∀ t, fitAgg P (l.fitB P).2 (fun _ _ => false) t = true → l.sz = P.cellsOf t := by
      intro t h
      unfold fitAgg at h
      split at h
      · have := ih.2 _ _ _ h; omega
      · simp at h
      · cases h
    exact ⟨key, one key⟩

/-- Deep data, as a value: its form, and its cells. -/
theorem drep_mk (P : Program) {ρ : Rho} {b : Nat} {p : List Ds} {nm : Nm} (hb : ρ b = some nm) {b' o' q : Nat} (hl : dloc nm.K (nmL nm) p = some (some ⟨b', o', none⟩, q)) : (d : Dc) →
    (∀ t, (d.fitB P).1 t = true → ∀ (o : Nat) (x : d.T), DRep P nm.K d b' (o' + o) x → OK P ρ (d.mkB b p o x).1 ∧ Has P (d.mkB b p o x).1 t ∧ ∀ (j : Nat) (v : Value), (cells P ρ (d.mkB b p o x).1)[j]? = some v → nm.K.K b' (o' + o + j) = some v) ∧
    (∀ fs g s, (d.fitB P).2 fs g s = true → ∀ (o : Nat) (x : d.T), DRep P nm.K d b' (o' + o) x → OKL P ρ (d.mkB b p o x).2 ∧ HasF P (d.mkB b p o x).2 fs g s ∧ ∀ (j : Nat) (v : Value), (denC P ρ (d.mkB b p o x).2)[j]? = some v → nm.K.K b' (o' + o + j) = some v) := by
  have one : ∀ (d : Dc) (g : TypeId → Bool) (m : Nat → d.T → AV), (∀ t, g t = true → ∀ (o : Nat) (x : d.T), DRep P nm.K d b' (o' + o) x → OK P ρ (m o x) ∧ Has P (m o x) t ∧ ∀ (j : Nat) (v : Value), (cells P ρ (m o x))[j]? = some v → nm.K.K b' (o' + o + j) = some v) →
      ∀ fs h s, oneF P g fs h s = true → ∀ (o : Nat) (x : d.T), DRep P nm.K d b' (o' + o) x → OKL P ρ [m o x] ∧ HasF P [m o x] fs h s ∧ ∀ (j : Nat) (v : Value), (denC P ρ [m o x])[j]? = some v → nm.K.K b' (o' + o + j) = some v := by
    intro d g m hg fs h s hh o x hr
    unfold oneF at hh
    split at hh
    · cases hh
    · split at hh
      · simp only [Bool.and_eq_true] at hh
        obtain ⟨k1, k2, k3⟩ := hg _ hh.1.2 o x hr
        exact ⟨⟨k1, trivial⟩, ⟨beq_eq hh.1.1, k2, beq_eq hh.2⟩, fun j v hv => k3 j v (by simpa [denC, cells] using hv)⟩
      · cases hh
  intro d
  induction d with
  | tc c =>
    have key : ∀ t, c.fit P t = true → ∀ (o : Nat) (x : c.T), DRep P nm.K (.tc c) b' (o' + o) x → OK P ρ (c.mk x) ∧ Has P (c.mk x) t ∧ ∀ (j : Nat) (v : Value), (cells P ρ (c.mk x))[j]? = some v → nm.K.K b' (o' + o + j) = some v :=
      fun t h o x hr => ⟨Tc.ok_mk.2 hr.1, Tc.fit_has h x, fun j v hv => hr.2 j v (by rw [← cells_mk P ρ]; exact hv)⟩
    exact ⟨key, one (.tc c) (c.fit P) (fun _ x => c.mk x) key⟩
  | row d te ih =>
    have key : ∀ t, ((match P.underlying t with | some (.slice e) => Nat.beq e te | _ => false) && Nat.beq (P.cellsOf t) 1 && (d.fitB P).1 te) = true → ∀ (o : Nat) (x : List d.T), DRep P nm.K (.row d te) b' (o' + o) x →
        OK P ρ (.dv b (p ++ [.elem 0 0 o]) te d x) ∧ Has P (.dv b (p ++ [.elem 0 0 o]) te d x) t ∧ ∀ (j : Nat) (v : Value), (cells P ρ (.dv b (p ++ [.elem 0 0 o]) te d x))[j]? = some v → nm.K.K b' (o' + o + j) = some v := by
      intro t h o x hr
      simp only [Bool.and_eq_true] at h
      obtain ⟨a, c, h1, h2, h3, h4, h5⟩ := hr
      have hd : dloc nm.K (nmL nm) (p ++ [.elem 0 0 o]) = some (a, c) := by
        rw [dloc_app, hl]
        simp only [dloc, Nat.zero_mul, Nat.zero_add, h1]
      refine ⟨?_, ?_, ?_⟩
      · simp only [OK]
        exact ⟨nm, (a, c), hb, hd, h.2, h2, h3, h4, h5⟩
      · simp only [Has]
        refine ⟨?_, beq_eq h.1.2⟩
        have := h.1.1
        split at this
        · exact ⟨_, by assumption⟩
        · cases this
      · intro j v hv
        have : cells P ρ (.dv b (p ++ [.elem 0 0 o]) te d x) = [.slice a x.length c] := by simp [cells, den, hb, dvV, hd, Value.cells]
        rw [this] at hv
        cases j with
        | zero => simp only [List.getElem?_cons_zero, Option.some.injEq] at hv; rw [← hv]; exact h1
        | succ j => simp at hv
    exact ⟨key, one (.row d te) (fun t => (match P.underlying t with | some (.slice e) => Nat.beq e te | _ => false) && Nat.beq (P.cellsOf t) 1 && (d.fitB P).1 te) (fun (o : Nat) (x : List d.T) => AV.dv b (p ++ [Ds.elem 0 0 o]) te d x) key⟩
  | nil =>
    refine ⟨fun t h => by simp [Dc.fitB] at h, fun fs g s h o x _ => ?_⟩
    cases fs with
    | nil => exact ⟨trivial, beq_eq h, fun j v hv => by simp [Dc.mkB, denC] at hv⟩
    | cons => simp [Dc.fitB] at h
  | cons a r iha ihr =>
    refine ⟨fun t h => by simp [Dc.fitB] at h, fun fs g s h o x hr => ?_⟩
    cases fs with
    | nil => simp [Dc.fitB] at h
    | cons f fs =>
      simp only [Dc.fitB, Bool.and_eq_true] at h
      obtain ⟨r1, r2⟩ := hr
      obtain ⟨k1, k2, k3⟩ := iha.1 _ h.1.2 o x.1 r1
      obtain ⟨l1, l2, l3⟩ := ihr.2 _ _ _ h.2 (o + a.sz) x.2 (by rw [← Nat.add_assoc]; exact r2)
      have hsz := (Dc.fit_sz P a).1 _ h.1.2
      have hlen := len_cells P ρ _ _ k2 k1
      refine ⟨⟨k1, l1⟩, ⟨beq_eq h.1.1, k2, l2⟩, fun j v hv => ?_⟩
      simp only [Dc.mkB, denC_cons] at hv
      by_cases hj : j < (cells P ρ (a.mkB b p o x.1).1).length
      · rw [List.getElem?_append_left hj] at hv
        exact k3 j v hv
      · rw [List.getElem?_append_right (by omega)] at hv
        have := l3 _ v hv
        rw [show o' + (o + a.sz) + (j - (cells P ρ (a.mkB b p o x.1).1).length) = o' + o + j by omega] at this
        exact this
  | agg l ih =>
    have key : ∀ t, fitAgg P (l.fitB P).2 (fun _ _ => false) t = true → ∀ (o : Nat) (x : l.T), DRep P nm.K (.agg l) b' (o' + o) x → OK P ρ (.agg (l.mkB b p o x).2) ∧ Has P (.agg (l.mkB b p o x).2) t ∧ ∀ (j : Nat) (v : Value), (cells P ρ (.agg (l.mkB b p o x).2))[j]? = some v → nm.K.K b' (o' + o + j) = some v := by
      intro t h o x hr
      unfold fitAgg at h
      split at h
      · rename_i fs hu
        obtain ⟨k1, k2, k3⟩ := ih.2 _ _ _ h o x hr
        exact ⟨k1, .inl ⟨fs, hu, k2⟩, fun j v hv => k3 j v (by rw [cells_agg] at hv; exact hv)⟩
      · simp at h
      · cases h
    exact ⟨key, one (.agg l) (fitAgg P (l.fitB P).2 (fun _ _ => false)) (fun (o : Nat) (x : l.T) => AV.agg (l.mkB b p o x).2) key⟩
theorem nth_spec (P : Program) (K : Fz) {b : Nat} : (l : Dc) → (i : Nat) → (x : l.T) → (q : (e : Dc) × e.T) → l.nth i x = some q → ∀ (fs : List Field) (g s o : Nat), (l.fitB P).2 fs g s = true → DRep P K l b o x → ∃ f, fs[i]? = some f ∧ g ≤ f.offset ∧ (q.1.fitB P).1 f.type = true ∧ DRep P K q.1 b (o + (f.offset - g)) q.2 := by
  have one : ∀ {d : Dc} {x : d.T} {o : Nat} {fs : List Field} {g s : Nat}, oneF P (d.fitB P).1 fs g s = true → DRep P K d b o x → ∃ f, fs[0]? = some f ∧ g ≤ f.offset ∧ (d.fitB P).1 f.type = true ∧ DRep P K d b (o + (f.offset - g)) x := by
    intro d x o fs g s h hr
    unfold oneF at h
    split at h
    · cases h
    · split at h
      · rename_i f _
        simp only [Bool.and_eq_true] at h
        have := beq_eq h.1.1
        exact ⟨f, rfl, by omega, h.1.2, by rw [this]; simpa using hr⟩
      · cases h
  intro l
  induction l with
  | tc c =>
    intro i x q h fs g s o hf hr
    cases i with
    | zero => simp only [Dc.nth, Option.some.injEq] at h; subst h; exact one (d := .tc c) hf hr
    | succ i => simp [Dc.nth] at h
  | row d te _ =>
    intro i x q h fs g s o hf hr
    cases i with
    | zero => simp only [Dc.nth, Option.some.injEq] at h; subst h; exact one (d := .row d te) hf hr
    | succ i => simp [Dc.nth] at h
  | nil => intro i x q h; simp [Dc.nth] at h
  | agg l _ =>
    intro i x q h fs g s o hf hr
    cases i with
    | zero => simp only [Dc.nth, Option.some.injEq] at h; subst h; exact one (d := .agg l) hf hr
    | succ i => simp [Dc.nth] at h
  | cons a r _ ihr =>
    intro i x q h fs g s o hf hr
    cases fs with
    | nil => simp [Dc.fitB] at hf
    | cons f fs =>
      simp only [Dc.fitB, Bool.and_eq_true] at hf
      have e := beq_eq hf.1.1
      have hsz := (Dc.fit_sz P a).1 _ hf.1.2
      cases i with
      | zero =>
        simp only [Dc.nth, Option.some.injEq] at h
        subst h
        exact ⟨f, rfl, by omega, hf.1.2, by rw [e]; simpa using hr.1⟩
      | succ i =>
        simp only [Dc.nth] at h
        obtain ⟨f', k1, k2, k3, k4⟩ := ihr i x.2 q h fs _ s (o + a.sz) hf.2 hr.2
        refine ⟨f', by simpa using k1, by omega, k3, ?_⟩
        rw [show o + (f'.offset - g) = o + a.sz + (f'.offset - (g + P.cellsOf f.type)) by omega]
        exact k4

section
variable {P : Program} {w0 : Base} {ro : Nat} {ρ : Rho} {tm mem : List (Nat × AV)} {a : Act} {w : World} (S : Sim P w0 ro ρ tm mem a.tmps w)
  {gl : Nat → Option AV} (hgl : GL P ρ gl)
include S hgl

theorem bnd_sound2 {x : Option Operand} {d y Y : Nat} (hy : y ≤ Y) {α : Type} {k : Nat → Option α} {r : α} (h : bnd (evO gl tm) x d y none k = some r) (code : BoundsCode) :
    ∃ i, k i = some r ∧ ((x = none ∧ i = d) ∨ (∃ o, x = some o ∧ i ≤ y ∧ ∀ w : World, (Instr.sliceBound (a.eval o) Y code).run P w = .ok i w)) := by
  unfold bnd at h
  cases x with
  | none => exact ⟨d, h, .inl ⟨rfl, rfl⟩⟩
  | some o =>
    simp only at h
    split at h
    · rename_i q i hi
      replace h := cond_some h
      obtain ⟨hc, h⟩ := h
      simp only [decide_eq_true_eq] at hc
      obtain ⟨h1, -⟩ := ev_sound S hgl hi
      simp only [den] at h1
      exact ⟨i.toNat, h, .inr ⟨o, rfl, by omega, fun w => by simp [Instr.sliceBound, h1, asIntOf, show 0 ≤ i ∧ i ≤ (Y : Int) by omega]⟩⟩
    · simp at h

/-- The bounds, where the capacity is not known whole. -/
theorem bounds_sound2 {lo hi : Option Operand} {len cap Cap : Nat} {α : Type} {k : Nat → Nat → Option α} {r : α} (isS : Bool) (hlc : len ≤ cap) (hcc : cap ≤ Cap)
    (h : bnd (evO gl tm) hi len cap none (fun h => bnd (evO gl tm) lo 0 h none fun l => k h l) = some r) :
    ∃ h l, k h l = some r ∧ l ≤ h ∧ h ≤ cap ∧ (∀ w : World, (Instr.sliceBounds isS len Cap (lo.map a.eval) (hi.map a.eval) none).run P w = .ok (l, h, Cap) w) ∧ (lo = none → l = 0) := by
  obtain ⟨i, h1, h2⟩ := bnd_sound2 S hgl hcc h (if isS then .sliceAcap else .sliceAlen)
  obtain ⟨j, h3, h4⟩ := bnd_sound S hgl h1 .sliceB
  refine ⟨i, j, h3, ?_, ?_, fun w => ?_, fun hn => ?_⟩
  · rcases h4 with ⟨-, rfl⟩ | ⟨o, -, hj, -⟩ <;> omega
  · rcases h2 with ⟨-, rfl⟩ | ⟨o, -, hi, -⟩ <;> omega
  rotate_left
  · rcases h4 with ⟨-, rfl⟩ | ⟨o, h5, -⟩
    · rfl
    · rw [hn] at h5; cases h5
  · unfold Instr.sliceBounds
    rcases h2 with ⟨rfl, rfl⟩ | ⟨o, rfl, -, ho⟩ <;> rcases h4 with ⟨rfl, rfl⟩ | ⟨o', rfl, -, ho'⟩ <;> simp_all

variable {m : Nat} {o : Oper} {e : Eff} {next : Act → World → Prop} {Q : Exit → Act → World → Prop} (hn : ∀ v ρ' w', After P ro ρ mem w m e v ρ' w' → next (a.put o.dst v) w')
include hn

theorem s_sliceG {t el : TypeId} {x : Operand} {lo hi : Option Operand} {b n : Nat} (ho : o.op = .slice t x lo hi none) (hx : evO gl tm x = some (.gs b n el)) (ht : P.underlying t = some (.slice el)) (hz : 0 < P.cellsOf el)
    (h : bnd (evO gl tm) hi n n none (fun h => bnd (evO gl tm) lo 0 h none fun l => some (.val (.gp b l (h - l) el false 0))) = some e) : o.wp P a w next Q := by
  obtain ⟨h1, h2⟩ := ev_sound S hgl hx
  simp only [OK] at h2
  obtain ⟨nm, hb, hr, ht', hn', hle, hnon, hmx⟩ := h2
  cases hq : nm.non with
  | true =>
    have hn0 := hnon hq
    subst hn0
    obtain ⟨h, l, k1, k2, k3, k4, k5⟩ := bounds_sound2 S hgl (Cap := 0) true (Nat.le_refl _) (Nat.le_refl _) h
    simp only [Option.some.injEq] at k1
    have h0 : h = 0 := by omega
    have l0 : l = 0 := by omega
    subst h0; subst l0
    have hv : den P ρ (.gs b 0 el) = .slice none 0 0 := by simp [den, hb, gsV, hq]
    refine put_val hn k1.symm ?_ ?_
    · simp only [OK]
      exact ⟨nm, hb, (fun h => by cases h), hr, ht', by omega, by omega, fun _ => by omega, hmx⟩
    · rw [hv] at h1
      simp only [execOp, ho, h1, Instr.sliceAt, Instr.slice, Sem.run_bind, run_underlying ht, Result.andThen_ok, Sem.run_pure, Option.map_none, k4, run_sizeOf_pos hz]
      simp [den, hb, gpV, hq]
  | false =>
    obtain ⟨h, l, k1, k2, k3, k4, k5⟩ := bounds_sound2 S hgl true (Nat.le_refl _) hle h
    simp only [Option.some.injEq] at k1
    have hv : den P ρ (.gs b n el) = .slice (some ⟨nm.blk, nm.off, none⟩) n nm.tot := by simp [den, hb, gsV, hq]
    refine put_val hn k1.symm ?_ ?_
    · simp only [OK]
      exact ⟨nm, hb, (fun h => by cases h), hr, ht', by omega, by omega, (fun z => by rw [hq] at z; cases z), hmx⟩
    · rw [hv] at h1
      simp only [execOp, ho, h1, Instr.sliceAt, Instr.slice, Sem.run_bind, run_underlying ht, Result.andThen_ok, Sem.run_pure, Option.map_none, k4, run_sizeOf_pos hz]
      by_cases hl : nm.tot = l <;> simp [den, hb, gpV, hq, hl, Addr.add]

theorem s_sliceP {t el : TypeId} {x : Operand} {lo hi : Option Operand} {b lo0 n z : Nat} {nn : Bool} (ho : o.op = .slice t x lo hi none) (hx : evO gl tm x = some (.gp b lo0 n el nn z)) (ht : P.underlying t = some (.slice el)) (hz : 0 < P.cellsOf el)
    (h : bnd (evO gl tm) hi n n none (fun h => bnd (evO gl tm) lo 0 h none fun l => some (.val (.gp b (lo0 + l) (h - l) el nn (cond (Nat.beq l 0) z lo0)))) = some e) : o.wp P a w next Q := by
  obtain ⟨h1, h2⟩ := ev_sound S hgl hx
  simp only [OK] at h2
  obtain ⟨nm, hb, hnn, hr, ht', hle, hct, hnon, hmx⟩ := h2
  cases hq : nm.non with
  | true =>
    have hn0 := hnon hq
    have e1 : n = 0 := by omega
    have e2 : lo0 = 0 := by omega
    subst e1; subst e2
    obtain ⟨h, l, k1, k2, k3, k4, k5⟩ := bounds_sound2 S hgl (Cap := 0) true (by omega) (by omega) h
    simp only [Option.some.injEq] at k1
    have h0 : h = 0 := by omega
    have l0 : l = 0 := by omega
    subst h0; subst l0
    have hv : den P ρ (.gp b 0 0 el nn z) = .slice none 0 0 := by simp [den, hb, gpV, hq]
    refine put_val hn k1.symm ?_ ?_
    · simp only [OK]
      exact ⟨nm, hb, hnn, hr, ht', by omega, hct, hnon, hmx⟩
    · rw [hv] at h1
      simp only [execOp, ho, h1, Instr.sliceAt, Instr.slice, Sem.run_bind, run_underlying ht, Result.andThen_ok, Sem.run_pure, Option.map_none, k4, run_sizeOf_pos hz]
      simp [den, hb, gpV, hq]
  | false =>
    obtain ⟨h, l, k1, k2, k3, k4, k5⟩ := bounds_sound2 S hgl (Cap := nm.tot - lo0) true (by omega) (by omega) h
    simp only [Option.some.injEq] at k1
    have hv : den P ρ (.gp b lo0 n el nn z) = .slice (some (if nm.tot = lo0 then (⟨nm.blk, nm.off, none⟩ : Addr).add (z * P.cellsOf el) else (⟨nm.blk, nm.off, none⟩ : Addr).add (lo0 * P.cellsOf el))) n (nm.tot - lo0) := by simp [den, hb, gpV, hq]
    refine put_val hn k1.symm ?_ ?_
    · simp only [OK]
      exact ⟨nm, hb, hnn, hr, ht', by omega, hct, hnon, hmx⟩
    · rw [hv] at h1
      simp only [execOp, ho, h1, Instr.sliceAt, Instr.slice, Sem.run_bind, run_underlying ht, Result.andThen_ok, Sem.run_pure, Option.map_none, k4, run_sizeOf_pos hz]
      have hv' : den P ρ (.gp b (lo0 + l) (h - l) el nn (cond (Nat.beq l 0) z lo0)) = .slice (some (if nm.tot = lo0 + l then (⟨nm.blk, nm.off, none⟩ : Addr).add ((cond (Nat.beq l 0) z lo0) * P.cellsOf el) else (⟨nm.blk, nm.off, none⟩ : Addr).add ((lo0 + l) * P.cellsOf el))) (h - l) (nm.tot - (lo0 + l)) := by simp [den, hb, gpV, hq]
      rw [hv', show nm.tot - (lo0 + l) = nm.tot - lo0 - l by omega]
      by_cases h6 : nm.tot - lo0 = l
      · have h7 : nm.tot = lo0 + l := by omega
        rw [if_pos h6, if_pos h7]
        cases l with
        | zero =>
          rw [if_pos (by omega : nm.tot = lo0)]
          rfl
        | succ l =>
          rw [if_neg (by omega : ¬ nm.tot = lo0)]
          rfl
      · have h7 : ¬ nm.tot = lo0 + l := by omega
        have h8 : ¬ nm.tot = lo0 := by omega
        rw [if_neg h6, if_neg h7, if_neg h8]
        simp only [Option.map_some, addr_add, Nat.add_mul, Nat.add_assoc]

theorem s_sliceD {t el : TypeId} {x : Operand} {lo hi : Option Operand} {b : Nat} {p : List Ds} {d : Dc} {l0 : List d.T} (ho : o.op = .slice t x lo hi none) (hx : evO gl tm x = some (.dv b p el d l0)) (ht : P.underlying t = some (.slice el)) (hz : 0 < P.cellsOf el)
    (h : bnd (evO gl tm) hi l0.length l0.length none (fun h => bnd (evO gl tm) lo 0 h none fun l => some (.val (.dv b (p ++ [.sub l (P.cellsOf el)]) el d ((l0.drop l).take (h - l))))) = some e) : o.wp P a w next Q := by
  obtain ⟨h1, h2⟩ := ev_sound S hgl hx
  simp only [OK] at h2
  obtain ⟨nm, L, hb, hl, hf, hadr, hlen, hmx, hrep⟩ := h2
  obtain ⟨h, l, k1, k2, k3, k4, k5⟩ := bounds_sound2 S hgl (Cap := L.2) true (Nat.le_refl _) hlen h
  simp only [Option.some.injEq] at k1
  have happ : dloc nm.K (nmL nm) (p ++ [.sub l (P.cellsOf el)]) = some (if L.2 = l then L.1 else L.1.map (·.add (l * P.cellsOf el)), L.2 - l) := by
    have key : ∀ (p : List Ds) (q : Option Addr × Nat), dloc nm.K q p = some L → dloc nm.K q (p ++ [.sub l (P.cellsOf el)]) = some (if L.2 = l then L.1 else L.1.map (·.add (l * P.cellsOf el)), L.2 - l) := by
      intro p
      induction p with
      | nil => intro q h; simp only [dloc, Option.some.injEq] at h; subst h; rfl
      | cons s p ih =>
        intro q h
        cases s with
        | sub lo s => simp only [dloc, List.cons_append] at h ⊢; exact ih _ h
        | elem i s o =>
          simp only [dloc, List.cons_append] at h ⊢
          split at h
          · split at h
            · exact ih _ h
            · cases h
          · cases h
    exact key p _ hl
  have hv : den P ρ (.dv b p el d l0) = .slice L.1 l0.length L.2 := by simp [den, hb, dvV, hl]
  have htl : ((l0.drop l).take (h - l)).length = h - l := by simp; omega
  refine put_val hn k1.symm ?_ ?_
  · simp only [OK]
    refine ⟨nm, _, hb, happ, hf, ⟨?_, ?_⟩, by simp only; omega, by simp only; omega, ?_⟩
    · intro hn0
      simp only at hn0 ⊢
      have : L.1 = none := by
        split at hn0
        · exact hn0
        · simpa using hn0
      have := hadr.1 this
      omega
    · intro ad had hc0
      simp only at had
      split at had
      · exact hadr.2 ad had (by simp only at hc0; omega)
      · obtain ⟨a0, ha0, rfl⟩ := Option.map_eq_some_iff.1 had
        obtain ⟨g1, g2⟩ := hadr.2 a0 ha0 (by simp only at hc0; omega)
        unfold Addr.add
        split
        · exact ⟨g1, g2⟩
        · exact ⟨rfl, g2⟩
    · intro i y hy
      rw [List.getElem?_take] at hy
      split at hy
      · rename_i hi'
        rw [List.getElem?_drop] at hy
        obtain ⟨b', o', g1, g2⟩ := hrep (l + i) y hy
        have hne : ¬ L.2 = l := by
          have := (List.getElem?_eq_some_iff.1 hy).1
          omega
        refine ⟨b', o' + l * P.cellsOf el, ?_, ?_⟩
        · simp only [hne, if_false, g1, Option.map_some, addr_add]
        · rw [Nat.add_mul] at g2
          rw [Nat.add_assoc]; exact g2
      · cases hy
  · rw [hv] at h1
    simp only [execOp, ho, h1, Instr.sliceAt, Instr.slice, Sem.run_bind, run_underlying ht, Result.andThen_ok, Sem.run_pure, Option.map_none, k4, run_sizeOf_pos hz]
    simp only [den, hb, dvV, happ, htl]

theorem s_sliceT {t : TypeId} {x : Operand} {lo hi : Option Operand} {s : ByteArray} (ho : o.op = .slice t x lo hi none) (hx : evO gl tm x = some (.str s)) (ht : P.underlying t = some .string)
    (h : bnd (evO gl tm) hi s.size s.size none (fun h => bnd (evO gl tm) lo 0 h none fun l => some (.val (.str (s.extract l h)))) = some e) : o.wp P a w next Q := by
  obtain ⟨h1, h2⟩ := ev_sound S hgl hx
  obtain ⟨h, l, k1, k2, k3, k4⟩ := bounds_sound S hgl false (Nat.le_refl _) h
  simp only [Option.some.injEq] at k1
  simp only [den] at h1
  simp only [OK] at h2
  refine put_val hn k1.symm ?_ ?_
  · simp only [OK]
    have : (s.extract l h).size ≤ s.size := by simp [ByteArray.size_extract]; omega
    omega
  · simp [execOp, ho, h1, Instr.sliceAt, Instr.slice, run_underlying ht, den]
    rw [k4 w]
    rfl

theorem s_indexAddrP {t el : TypeId} {x y : Operand} {b lo n z : Nat} {nn : Bool} {q : IntKind} {i : Int} (ho : o.op = .indexAddr t x y) (hx : evO gl tm x = some (.gp b lo n el nn z)) (hy : evO gl tm y = some (.int q i)) (ht : P.underlying t = some (.slice el))
    (hz : 0 < P.cellsOf el) (hi : 0 ≤ i ∧ i < (n : Int)) (he : e = .val (.ptr b [lo + i.toNat] el)) : o.wp P a w next Q := by
  obtain ⟨h1, h2⟩ := ev_sound S hgl hx
  obtain ⟨h3, -⟩ := ev_sound S hgl hy
  simp only [den] at h3
  simp only [OK] at h2
  obtain ⟨nm, hb, -, hr, ht', hle, hct, hnon, -⟩ := h2
  have hnn : nm.non = false := by
    cases hq : nm.non with
    | false => rfl
    | true => have := hnon hq; omega
  have hp' : pathN P nm [lo + i.toNat] = some ((lo + i.toNat) * P.cellsOf el, el) := by
    unfold pathN
    rw [if_pos hr]
    simp only [pathT, ht', show lo + i.toNat < nm.cap by omega, if_true, Nat.add_zero]
  have hne : ¬ nm.tot = lo := by omega
  have hv : den P ρ (.gp b lo n el nn z) = .slice (some ⟨nm.blk, nm.off + lo * P.cellsOf el, none⟩) n (nm.tot - lo) := by simp [den, hb, gpV, hnn, hne, addr_add]
  rw [hv] at h1
  refine put_val hn he (by simp only [OK]; exact ⟨nm, _, hb, hp'⟩) ?_
  rw [den_ptr hb hp']
  simp [execOp, ho, h1, h3, Instr.indexAt, asIntOf, run_underlying ht, hi, run_sizeOf_pos hz, addr_add, Nat.add_assoc, Nat.add_mul]

theorem s_indexAddrD {t el : TypeId} {x y : Operand} {b : Nat} {p : List Ds} {d : Dc} {l0 : List d.T} {q : IntKind} {i : Int} (ho : o.op = .indexAddr t x y) (hx : evO gl tm x = some (.dv b p el d l0)) (hy : evO gl tm y = some (.int q i)) (ht : P.underlying t = some (.slice el))
    (hz : 0 < P.cellsOf el) (hi : 0 ≤ i ∧ i < (l0.length : Int)) (he : e = .val (.dq b p (i.toNat * P.cellsOf el) el d (l0.getD i.toNat d.dft))) : o.wp P a w next Q := by
  obtain ⟨h1, h2⟩ := ev_sound S hgl hx
  obtain ⟨h3, -⟩ := ev_sound S hgl hy
  simp only [den] at h3
  simp only [OK] at h2
  obtain ⟨nm, L, hb, hl, hf, hadr, hlen, hmx, hrep⟩ := h2
  have hlt : i.toNat < l0.length := by omega
  have hget : l0[i.toNat]? = some (l0.getD i.toNat d.dft) := by rw [List.getD_eq_getElem?_getD, List.getElem?_eq_getElem hlt]; rfl
  obtain ⟨b', o', g1, g2⟩ := hrep _ _ hget
  have hv : den P ρ (.dv b p el d l0) = .slice (some ⟨b', o', none⟩) l0.length L.2 := by simp [den, hb, dvV, hl, g1]
  rw [hv] at h1
  refine put_val hn he ?_ ?_
  · simp only [OK]
    exact ⟨nm, b', o', L.2, hb, by rw [hl, ← g1], hf, g2⟩
  · have hp : den P ρ (.dq b p (i.toNat * P.cellsOf el) el d (l0.getD i.toNat d.dft)) = .pointer (some ⟨b', o' + i.toNat * P.cellsOf el, none⟩) := by simp [den, hb, dqV, hl, g1, addr_add]
    rw [hp]
    simp [execOp, ho, h1, h3, Instr.indexAt, asIntOf, run_underlying ht, hi, run_sizeOf_pos hz, addr_add]

theorem s_loadD {t : TypeId} {x : Operand} {b at0 : Nat} {p : List Ds} {d : Dc} {v : d.T} (ho : o.op = .load t x) (hx : evO gl tm x = some (.dq b p at0 t d v)) (hc : d.fit P t = true) (he : e = .val (d.mkB b p at0 v).1) : o.wp P a w next Q := by
  obtain ⟨h1, h2⟩ := ev_sound S hgl hx
  simp only [OK] at h2
  obtain ⟨nm, b', o', q, hb, hl, -, hrep⟩ := h2
  have hp : den P ρ (.dq b p at0 t d v) = .pointer (some ⟨b', o' + at0, none⟩) := by simp [den, hb, dqV, hl, addr_add]
  rw [hp] at h1
  obtain ⟨k1, k2, k3⟩ := (drep_mk P hb hl d).1 t hc at0 v hrep
  refine put_val hn he k1 ?_
  have hrun := run_loadVar' (P := P) (ρ := ρ) (w := w) k2 k1 b' (o' + at0) (fun j y hy => S.ex.froz b nm hb b' (o' + at0 + j) y (k3 j y hy))
  simp [execOp, ho, Instr.loadAt, h1, Instr.sureAddr, hrun]
theorem s_fieldD {s : TypeId} {x : Operand} {i b at0 : Nat} {p : List Ds} {l : Dc} {v : l.T} {fs : Array Field} {f : Field} {q : (e : Dc) × e.T} (ho : o.op = .fieldAddr s x i) (hx : evO gl tm x = some (.dq b p at0 s (.agg l) v)) (hc : Dc.fit P (.agg l) s = true) (hs : P.underlying s = some (.struct fs)) (hf : fs[i]? = some f)
    (hq : l.nth i v = some q) (hz : 0 < P.cellsOf f.type) (he : e = .val (.dq b p (at0 + f.offset) f.type q.1 q.2)) : o.wp P a w next Q := by
  obtain ⟨h1, h2⟩ := ev_sound S hgl hx
  simp only [OK] at h2
  obtain ⟨nm, b', o', c, hb, hl, -, hrep⟩ := h2
  have hp : den P ρ (.dq b p at0 s (.agg l) v) = .pointer (some ⟨b', o' + at0, none⟩) := by simp [den, hb, dqV, hl, addr_add]
  rw [hp] at h1
  have hfit : (l.fitB P).2 fs.toList 0 (P.cellsOf s) = true := by
    have : fitAgg P (l.fitB P).2 (fun _ _ => false) s = true := hc
    unfold fitAgg at this
    rw [hs] at this
    exact this
  obtain ⟨f', k1, k2, k3, k4⟩ := nth_spec P nm.K l i v q hq fs.toList 0 _ (o' + at0) hfit hrep
  have : f' = f := by
    rw [Array.getElem?_toList] at k1
    rw [hf] at k1
    exact (Option.some.inj k1).symm
  subst this
  rw [Nat.sub_zero] at k4
  refine put_val hn he ?_ ?_
  · simp only [OK]
    exact ⟨nm, b', o', c, hb, hl, k3, by rw [← Nat.add_assoc]; exact k4⟩
  · have hp' : den P ρ (.dq b p (at0 + f'.offset) f'.type q.1 q.2) = .pointer (some ⟨b', o' + (at0 + f'.offset), none⟩) := by simp [den, hb, dqV, hl, addr_add]
    rw [hp']
    have hz' : ¬ P.cellsOf f'.type = 0 := by omega
    simp [execOp, ho, h1, Instr.fieldAt, run_underlying hs, hf, Instr.sureAddr, fieldPlace, run_sizeOf_pos hz, hz', addr_add, Nat.add_assoc]

omit S hgl hn in
theorem bStr_fold : (l : List Int) → (r : ByteArray) → l.foldl (fun r n => r.push (UInt8.ofNat n.toNat)) r = ⟨r.data ++ (bStr l).data⟩
  | [], r => by simp [bStr]
  | n :: l, r => by
    rw [List.foldl_cons, bStr_fold l]
    simp [bStr, ByteArray.push]
omit S hgl hn in
theorem bStr_size (l : List Int) : (bStr l).size = l.length := by simp [bStr, ByteArray.size]

theorem s_bstr {s d el : TypeId} {x : Operand} {v : AV} {k : Nat} {l : List Int} {get : Nat → Option AV} (hget : ∀ b T, get b = some T → lk b mem = some T) (ho : o.op = .convert s d x) (hx : evO gl tm x = some v) (hs : P.underlying s = some (.slice el)) (hd : P.underlying d = some .string)
    (hr : rowC get v = some (.ints .u8 k l, el)) (he : e = .val (.str (bStr l))) : o.wp P a w next Q := by
  obtain ⟨h1, h2⟩ := ev_sound S hgl hx
  obtain ⟨⟨k1, -⟩, k2, -, k4, k5⟩ := rowC_at S hget hr h2
  simp only [OK] at k2
  simp only [rowN] at k4 k5
  refine put_val hn he (by simp only [OK]; rw [bStr_size, k2.1]; exact k4) ?_
  rcases k5 with ⟨z, e1, -, e2, -⟩ | ⟨b, of, q, e1, -, -, -, e4⟩
  · have : l = [] := List.eq_nil_of_length_eq_zero (by rw [k2.1, e2])
    subst this
    rw [e1] at h1
    have hr := run_convert_bytes_string (P := P) w s d el z 0 0 hs k1 hd
    have hb : (Conv.bytesToString (.slice z 0 0)).run P w = .ok (.string ByteArray.empty) w := by cases z <;> rfl
    have h9 : (execOp a.eval o).run P w = ((convert s d (.slice z 0 0)).run P w).andThen fun v w => .ok (.value v) w := by
      unfold execOp
      rw [ho]
      simp only [h1, Sem.run_bind, Sem.run_pure]
    rw [h9, hr, hb]
    rfl
  · rw [e1] at h1
    have hl := run_loadCells_list (P := P) (w := w) ⟨b, of, none⟩ (l.map (Value.int .u8)) (fun j v hj => by rw [addr_add]; exact e4 j v (by rw [cells_ints]; exact hj))
    rw [List.length_map, k2.1] at hl
    have hr := run_convert_bytes_string (P := P) w s d el (some ⟨b, of, none⟩) k q hs k1 hd
    rw [run_bytesToString w _ k q l hl, bStr_fold] at hr
    have h9 : (execOp a.eval o).run P w = ((convert s d (.slice (some ⟨b, of, none⟩) k q)).run P w).andThen fun v w => .ok (.value v) w := by
      unfold execOp
      rw [ho]
      simp only [h1, Sem.run_bind, Sem.run_pure]
    rw [h9, hr]
    simp only [Result.andThen_ok, den]
    have h8 : (ByteArray.mk (ByteArray.empty.data ++ (bStr l).data)) = bStr l := by
      show ByteArray.mk (#[] ++ (bStr l).data) = bStr l
      rw [Array.empty_append]
    rw [h8]

theorem s_bstr0 {s d el : TypeId} {x : Operand} (ho : o.op = .convert s d x) (hx : evO gl tm x = some .nils) (hs : P.underlying s = some (.slice el)) (hd : P.underlying d = some .string) (hk : P.underlying el = some (.int .u8))
    (he : e = .val (.str (bStr []))) : o.wp P a w next Q := by
  obtain ⟨h1, -⟩ := ev_sound S hgl hx
  simp only [den] at h1
  refine put_val hn he (by simp only [OK]; rw [bStr_size]; decide) ?_
  have hr := run_convert_bytes_string (P := P) w s d el none 0 0 hs hk hd
  have hb : (Conv.bytesToString (.slice none 0 0)).run P w = .ok (.string ByteArray.empty) w := rfl
  have h9 : (execOp a.eval o).run P w = ((convert s d (.slice none 0 0)).run P w).andThen fun v w => .ok (.value v) w := by
    unfold execOp
    rw [ho]
    simp only [h1, Sem.run_bind, Sem.run_pure]
  rw [h9, hr, hb]
  rfl

theorem s_strAdd {t ty : TypeId} {x y : Operand} {s u : ByteArray} (ho : o.op = .binOp .add t x y ty) (hx : evO gl tm x = some (.str s)) (hy : evO gl tm y = some (.str u)) (hi : inR .i64 ((s.size + u.size : Nat) : Int) = true)
    (he : e = .val (.str (s ++ u))) : o.wp P a w next Q := by
  obtain ⟨h1, -⟩ := ev_sound S hgl hx
  obtain ⟨h2, -⟩ := ev_sound S hgl hy
  simp only [den] at h1 h2
  simp only [inR, decide_eq_true_eq] at hi
  refine put_val hn he ?_ ?_
  · simp only [OK]
    have hmax : IntKind.i64.max = 9223372036854775807 := by decide
    rw [hmax] at hi
    rw [ByteArray.size_append]; exact hi.2
  · have hlt : ¬ (((s.size + u.size : Nat) : Int) > IntKind.i64.max) := by have := hi.2; omega
    have h9 : ((s.size : Int) + (u.size : Int)) ≤ IntKind.i64.max := by have := hi.2; omega
    have hmax : IntKind.i64.max = 9223372036854775807 := by decide
    rw [hmax] at h9
    simp [execOp, ho, h1, h2, den, eqGuard, binOp, Op.stringOp]
    omega

theorem s_eqNil {t ty el : TypeId} {x y : Operand} {b lo n z : Nat} {te : TypeId} (ho : o.op = .binOp .eql t x y ty) (hx : evO gl tm x = some (.gp b lo n te true z)) (hy : evO gl tm y = some .nils) (ht : P.underlying t = some (.slice el))
    (he : e = .val (.bool false)) : o.wp P a w next Q := by
  obtain ⟨h1, h2⟩ := ev_sound S hgl hx
  obtain ⟨h3, -⟩ := ev_sound S hgl hy
  simp only [OK] at h2
  obtain ⟨nm, hb, hnn, -⟩ := h2
  have hq := hnn trivial
  simp only [den] at h3
  have hv : den P ρ (.gp b lo n te true z) = .slice (some (if nm.tot = lo then (⟨nm.blk, nm.off, none⟩ : Addr).add (z * P.cellsOf te) else (⟨nm.blk, nm.off, none⟩ : Addr).add (lo * P.cellsOf te))) n (nm.tot - lo) := by simp [den, hb, gpV, hq]
  rw [hv] at h1
  refine put_val hn he (by simp [OK]) ?_
  have hr := Lib.run_eql_slice_nil (P := P) w t el (some (if nm.tot = lo then (⟨nm.blk, nm.off, none⟩ : Addr).add (z * P.cellsOf te) else (⟨nm.blk, nm.off, none⟩ : Addr).add (lo * P.cellsOf te))) n (nm.tot - lo) 0 0 ht
  simp [execOp, ho, h1, h3, eqGuard, den, hr]

omit S hgl hn in
theorem madeCells_get (z : Array Value) (n j : Nat) (hj : j < n) : (madeCells z n).toList[j]? = some (z[j % z.size]!) := by
  have : j < (madeCells z n).size := by rw [size_madeCells]; exact hj
  simp [madeCells, hj]

omit S hgl hn in
/-- Zero elements: what they are, and their cells. -/
theorem zeroRow_spec {el : TypeId} {n : Nat} {T : AV} (h : zeroRow P el n = some T) : RowSh P el T ∧ OK P ρ T ∧ rowN T = n ∧ (∀ s p, T ≠ .itr s p) ∧
    ∃ i v, P.info? el = some i ∧ i.zero = some v ∧ ∀ j x, (cells P ρ T)[j]? = some x → j < n * P.cellsOf el ∧ (v.cells.size = P.cellsOf el → x = v.cells[j % v.cells.size]!) := by
  unfold zeroRow at h
  split at h
  · rename_i k hz
    obtain ⟨i, v, hi, hv, -, hc, hH, -⟩ := zero_sound hz ρ
    split at h
    · rename_i k' hk'
      obtain ⟨hkk, h⟩ := cond_some h
      obtain rfl := Option.some.inj h
      obtain rfl := kEq_eq hkk
      unfold intTy at hk'
      split at hk'
      · rename_i k2 hk2
        obtain ⟨hc1, hk'⟩ := cond_some hk'
        obtain rfl := Option.some.inj hk'
        have hc1 := beq_eq hc1
        have hcc : v.cells = #[.int k2 0] := by
          have h0 : cells P ρ (.int k2 0) = [.int k2 0] := by simp [cells, den, Value.cells]
          rw [h0] at hc
          rw [← Array.toArray_toList (xs := v.cells), hc]
        refine ⟨⟨hk2, hc1⟩, ?_, rfl, (fun s p e => by cases e), i, v, hi, hv, fun j x hx => ?_⟩
        · simp only [OK]
          refine ⟨by simp, fun x hx => ?_⟩
          have := List.eq_of_mem_replicate hx
          subst this
          cases k2 <;> decide
        · rw [cells_ints] at hx
          simp only [List.map_replicate, List.getElem?_replicate] at hx
          split at hx
          · rename_i hj
            refine ⟨by rw [hc1]; omega, fun _ => ?_⟩
            rw [hcc, ← Option.some.inj hx]
            simp [Nat.mod_one]
          · cases hx
      · cases hk'
    · cases h
  · rename_i z hno hz
    split at h
    · rename_i c hcd
      split at h
      · rename_i x0 hx0
        obtain rfl := Option.some.inj h
        obtain ⟨i, v, hi, hv, -, hc, hH, hO⟩ := zero_sound hz ρ
        obtain rfl := Tc.get_mk hx0
        have hf := codeOf_fit (P := P) hcd
        have hok := Tc.ok_mk.1 hO
        rw [cells_mk] at hc
        have hlen := vec_len P hf hok
        refine ⟨hf, ?_, by simp [rowN], (fun s p e => by cases e), i, v, hi, hv, fun j x hx => ?_⟩
        · simp only [OK]
          intro y hy
          rw [List.eq_of_mem_replicate hy]; exact hok
        · rw [cells_vec] at hx
          have key : ∀ (n : Nat) (j : Nat) (x : Value), ((List.replicate n x0).flatMap c.cs)[j]? = some x → j < n * P.cellsOf el ∧ (c.cs x0)[j % P.cellsOf el]? = some x := by
            intro n
            induction n with
            | zero => intro j x h; simp at h
            | succ n ih =>
              intro j x h
              rw [List.replicate_succ, List.flatMap_cons] at h
              by_cases hj : j < (c.cs x0).length
              · rw [List.getElem?_append_left hj] at h
                refine ⟨by rw [Nat.succ_mul]; omega, ?_⟩
                rw [Nat.mod_eq_of_lt (by omega)]; exact h
              · rw [List.getElem?_append_right (by omega)] at h
                obtain ⟨h1, h2⟩ := ih _ x h
                refine ⟨by rw [Nat.succ_mul]; omega, ?_⟩
                rw [← h2]
                congr 1
                rw [hlen] at hj ⊢
                conv => lhs; rw [show j = (j - P.cellsOf el) + P.cellsOf el by omega]
                rw [Nat.add_mod_right]
          obtain ⟨h1, h2⟩ := key n j x hx
          refine ⟨h1, fun hsz => ?_⟩
          rw [← hc] at h2
          rw [hsz]
          rw [Array.getElem?_toList] at h2
          rw [getElem!_def, h2]
      · cases h
    · cases h
  · cases h

/-- A made row. -/
theorem s_make {t el : TypeId} {T : AV} {q q' : IntKind} {i j : Int} {x y : Operand} (ho : o.op = .makeSlice t x y) (hx : evO gl tm x = some (.int q i)) (hy : evO gl tm y = some (.int q' j)) (ht : P.underlying t = some (.slice el))
    (hz : zeroRow P el i.toNat = some T) (hij : 0 ≤ i ∧ i ≤ j) (hf : fits P el j.toNat = true) (hrt : rowTy P el = true) (he : e = .grow none T fun c => .gs c i.toNat el) : o.wp P a w next Q := by
  obtain ⟨h1, -⟩ := ev_sound S hgl hx
  obtain ⟨h2, -⟩ := ev_sound S hgl hy
  simp only [den] at h1 h2
  obtain ⟨k1, k2, k3, k4, inf, v, k5, k6, k7⟩ := zeroRow_spec (ρ := ρ) hz
  unfold fits at hf
  rw [k5] at hf
  simp only [decide_eq_true_eq] at hf
  unfold rowTy at hrt
  rw [k5] at hrt
  simp only [k6, Bool.and_eq_true] at hrt
  have hsz : P.cellsOf el = inf.size := by simp [Program.cellsOf, k5]
  have hvs : v.cells.size = inf.size := beq_eq hrt.1
  have hj0 : ((j.toNat : Nat) : Int) = j := by omega
  have hby : (inf.bytes : Int) * j ≤ 281474976710656 := by
    have h1 := hf.1
    have h3 : ((j.toNat * inf.bytes : Nat) : Int) ≤ 140737488355328 := by omega
    rw [Int.natCast_mul, hj0, Int.mul_comm] at h3
    omega
  have hrun := run_make (P := P) w t el inf v ht k5 k6 q q' i j hij.1 hij.2 hby (by omega)
  subst he
  let nm : Nm := ⟨w.heap.size, 0, i.toNat, el, true, j.toNat, false, nk⟩
  have self : upd ρ m nm m = some nm := by simp [upd]
  refine one_put (v := den P (upd ρ m nm) (.gs m i.toNat el)) (w' := w.alloc (.cells (madeCells v.cells (j.toNat * inf.size)) el)) ?_ ?_
  · simp [execOp, ho, h1, h2, hrun, den, self, gsV, nm]
  · have hblk : (w.alloc (.cells (madeCells v.cells (j.toNat * inf.size)) el)).heap[w.heap.size]? = some (.cells (madeCells v.cells (j.toNat * inf.size)) el (0, 0)) := by
      show (w.heap.push _)[w.heap.size]? = _
      simp
    have hb := (Below.refl w.heap.size w).alloc (Nat.le_refl _) (.cells (madeCells v.cells (j.toNat * inf.size)) el)
    refine hn _ _ _ (.grow none T _ nm _ (hasN_of rfl k1 k3) k2 ?_ rfl ⟨rfl, k4⟩ (fun h => by cases h) (fun _ => ⟨⟨rfl, ?_, ?_, _, hblk, ?_⟩, fun jj x hx => ?_⟩) (.inl (Nat.le_refl _)) ⟨hb.os, hb.tape, hb.output, hb.size⟩ (fun k hk _ => hb.block k hk) (fun b0 h => by cases h))
    · simp only [OK]
      exact ⟨nm, self, rfl, rfl, rfl, by show i.toNat ≤ j.toNat; omega, (fun h => by cases h), by show ((j.toNat : Nat) : Int) ≤ _; omega⟩
    · show i.toNat ≤ j.toNat; omega
    · show j.toNat ≤ maxLen; unfold maxLen; omega
    · rw [size_madeCells]; show _ = j.toNat * P.cellsOf el; rw [hsz]
    · obtain ⟨g1, g2⟩ := k7 jj x hx
      rw [hsz] at g1
      have g2 := g2 (by rw [hvs, hsz])
      simp only [nm, Nat.zero_add]
      have hlt : jj < j.toNat * inf.size := Nat.lt_of_lt_of_le g1 (Nat.mul_le_mul_right _ (by omega))
      rw [cell_of_row _ w.heap.size jj _ el (0, 0) hblk]
      have := madeCells_get v.cells (j.toNat * inf.size) jj hlt
      rw [Array.getElem?_toList] at this
      rw [this, g2]

omit S hgl hn in
theorem zeroCells_get (z : Array Value) (n j : Nat) (hj : j < n * z.size) : (Builtin.zeroCells z n)[j]? = some (z[j % z.size]!) := by
  simp [Builtin.zeroCells, hj]

/-- So many zero elements, appended to nil. -/
theorem s_appZ {c : Call} {t t' el : TypeId} {kn : IntKind} {x y : AV} (ho : o.op = .call c) (hcal : c.callee = .builtin .append) (hx : evL (evO gl tm) c.args.toList = some [x, y]) (ht : c.argTypes.toList = [t, t'])
    (hu : P.underlying t = some (.slice el)) (hu' : P.underlying t' = some (.int kn)) (hk : appZ P el x y none some = some e) : o.wp P a w next Q := by
  obtain ⟨h1, -⟩ := evL_sound S hgl hx
  have hargs : c.args.map a.eval = #[den P ρ x, den P ρ y] := by
    rw [← Array.toArray_toList (xs := c.args.map a.eval), Array.toList_map, h1]; simp [denT]
  have hty : c.argTypes = #[t, t'] := by rw [← Array.toArray_toList (xs := c.argTypes), ht]
  unfold appZ at hk
  split at hk
  · split at hk
    · rename_i q i
      split at hk
      · rename_i T hz
        replace hk := cond_some hk
        obtain ⟨hc, he⟩ := hk
        simp only [Bool.and_eq_true, decide_eq_true_eq] at hc
        obtain ⟨⟨h0, hf⟩, hrt⟩ := hc
        simp only [Option.some.injEq] at he
        obtain ⟨k1, k2, k3, k4, inf, v, k5, k6, k7⟩ := zeroRow_spec (ρ := ρ) hz
        unfold fits at hf
        rw [k5] at hf
        simp only [decide_eq_true_eq] at hf
        unfold rowTy at hrt
        rw [k5] at hrt
        simp only [k6, Bool.and_eq_true] at hrt
        have hsz : P.cellsOf el = inf.size := by simp [Program.cellsOf, k5]
        have hvs : v.cells.size = inf.size := beq_eq hrt.1
        have hpos : 0 < inf.size := by simpa using hrt.2
        have hi0 : ((i.toNat : Nat) : Int) = i := by omega
        have hrun := Lib.run_append_nil_zeros (P := P) w t t' o.type el inf v q kn hu hu' k5 k6 i.toNat (by omega) hpos (by omega) (by omega)
        rw [hi0] at hrun
        have hge := grownCap_ge w i.toNat 0 el
        have hcm : grownCap w i.toNat 0 el ≤ maxLen := grownCap_le_maxLen w i.toNat 0 el (by simp only [maxLen]; omega)
        have hmn : (grownCap w i.toNat 0 el : Int) ≤ 9223372036854775807 := by simp only [maxLen] at hcm; omega
        subst he
        let nm : Nm := ⟨w.heap.size, 0, i.toNat, el, true, grownCap w i.toNat 0 el, false, nk⟩
        have self : upd ρ m nm m = some nm := by simp [upd]
        simp only [den] at hargs
        refine one_put (v := den P (upd ρ m nm) (.gs m i.toNat el)) (w' := w.drew.alloc (.cells (Builtin.zeroCells v.cells i.toNat ++ Builtin.zeroCells v.cells (grownCap w i.toNat 0 el - i.toNat)) el)) ?_ ?_
        · simp [execOp, ho, resolve, hcal, invoke, builtin, hargs, hty, hrun, den, self, gsV, nm]
        · have hblk : (w.drew.alloc (.cells (Builtin.zeroCells v.cells i.toNat ++ Builtin.zeroCells v.cells (grownCap w i.toNat 0 el - i.toNat)) el)).heap[w.heap.size]? = some (.cells (Builtin.zeroCells v.cells i.toNat ++ Builtin.zeroCells v.cells (grownCap w i.toNat 0 el - i.toNat)) el (0, 0)) := heap_alloc_new w.drew _
          refine hn _ _ _ (.grow none T _ nm _ (hasN_of rfl k1 k3) k2 ?_ rfl ⟨rfl, k4⟩ (fun h => by cases h) (fun _ => ⟨⟨rfl, ?_, ?_, _, hblk, ?_⟩, fun jj x hx => ?_⟩) (.inl (Nat.le_refl _)) ⟨rfl, rfl, rfl, by simp⟩ (fun k hk _ => heap_alloc_old w.drew _ hk) (fun b0 h => by cases h))
          · simp only [OK]
            exact ⟨nm, self, rfl, rfl, rfl, hge, (fun h => by cases h), hmn⟩
          · exact hge
          · exact hcm
          · rw [Array.size_append, size_zeroCells, size_zeroCells, ← Nat.add_mul, hsz, hvs]
            show _ = grownCap w i.toNat 0 el * inf.size
            congr 1
            omega
          · obtain ⟨g1, g2⟩ := k7 jj x hx
            have g2 := g2 (by rw [hvs, hsz])
            simp only [nm, Nat.zero_add]
            rw [cell_of_row _ w.heap.size jj _ el (0, 0) hblk]
            have hlt : jj < i.toNat * v.cells.size := by rw [hvs, ← hsz]; exact g1
            rw [Array.getElem?_append_left (by rw [size_zeroCells]; exact hlt), zeroCells_get _ _ _ hlt, g2]
      · cases hk
    · cases hk
  · cases hk

/-- The room of nil. -/
theorem s_capN {c : Call} {t el : TypeId} (ho : o.op = .call c) (hcal : c.callee = .builtin .cap) (hx : evL (evO gl tm) c.args.toList = some [.nils]) (ht : c.argTypes.toList = [t]) (hu : P.underlying t = some (.slice el))
    (he : e = .val (.int .i64 0)) : o.wp P a w next Q := by
  obtain ⟨h1, -⟩ := evL_sound S hgl hx
  have hargs : c.args.map a.eval = #[.slice none 0 0] := by
    rw [← Array.toArray_toList (xs := c.args.map a.eval), Array.toList_map, h1]; simp [denT, den]
  have hty : c.argTypes = #[t] := by rw [← Array.toArray_toList (xs := c.argTypes), ht]
  refine put_val hn he (by simp only [OK]; decide) ?_
  simp [execOp, ho, resolve, hcal, invoke, builtin, hargs, hty, Builtin.cap_, run_underlying hu, den, goInt]

omit S hgl in
/-- An empty literal. -/
theorem s_empty {t el : TypeId} {T : AV} {ps : Array (Nat × Operand)} (ho : o.op = .buildSlice t 0 ps) (hps : ps.toList = []) (ht : P.underlying t = some (.slice el))
    (hz : zeroRow P el 0 = some T) (hrt : rowTy P el = true) (he : e = .grow none T fun c => .gs c 0 el) : o.wp P a w next Q := by
  obtain ⟨k1, k2, k3, k4, inf, v, k5, k6, k7⟩ := zeroRow_spec (ρ := ρ) hz
  have hsz : P.cellsOf el = inf.size := by simp [Program.cellsOf, k5]
  have hp : ps = #[] := by rw [← Array.toArray_toList (xs := ps), hps]
  have hrun : (Instr.buildSlice t 0 #[]).run P w = .ok (.slice (some ⟨w.heap.size, 0, none⟩) 0 0) (w.alloc (.cells #[] el)) := by
    simp [Instr.buildSlice, run_underlying ht, sizeOf, typeInfo, k5, Instr.fill, newRow, Array.range_zero']
  subst he
  let nm : Nm := ⟨w.heap.size, 0, 0, el, true, 0, false, nk⟩
  have self : upd ρ m nm m = some nm := by simp [upd]
  refine one_put (v := den P (upd ρ m nm) (.gs m 0 el)) (w' := w.alloc (.cells #[] el)) ?_ ?_
  · simp [execOp, ho, hp, hrun, den, self, gsV, nm]
  · have hblk : (w.alloc (.cells #[] el)).heap[w.heap.size]? = some (.cells #[] el (0, 0)) := by
      show (w.heap.push _)[w.heap.size]? = _
      simp
    have hb := (Below.refl w.heap.size w).alloc (Nat.le_refl _) (.cells #[] el)
    refine hn _ _ _ (.grow none T _ nm _ (hasN_of rfl k1 k3) k2 ?_ rfl ⟨rfl, k4⟩ (fun h => by cases h) (fun _ => ⟨⟨rfl, Nat.le_refl _, Nat.zero_le _, _, hblk, ?_⟩, fun jj x hx => ?_⟩) (.inl (Nat.le_refl _)) ⟨hb.os, hb.tape, hb.output, hb.size⟩ (fun k hk _ => hb.block k hk) (fun b0 h => by cases h))
    · simp only [OK]
      exact ⟨nm, self, rfl, rfl, rfl, Nat.le_refl _, (fun h => by cases h), by show ((0 : Nat) : Int) ≤ 9223372036854775807; decide⟩
    · show _ = 0 * _; simp
    · have := (k7 jj x hx).1
      omega

theorem s_appX {get : Nat → Option AV} (hget : ∀ b T, get b = some T → lk b mem = some T) {c : Call} {t el : TypeId} {x y : AV} (ho : o.op = .call c) (hcal : c.callee = .builtin .append) (hx : evL (evO gl tm) c.args.toList = some [x, y]) (ht : c.argTypes.toList = [t, t])
    (hu : P.underlying t = some (.slice el)) (hk : appX P ro el x y get none some = some e) : o.wp P a w next Q := by
  obtain ⟨h1, h2⟩ := evL_sound S hgl hx
  simp only [OKL, and_true] at h2
  obtain ⟨okx, oky⟩ := h2
  have hargs : c.args.map a.eval = #[den P ρ x, den P ρ y] := by
    rw [← Array.toArray_toList (xs := c.args.map a.eval), Array.toList_map, h1]; simp [denT]
  have hty : c.argTypes = #[t, t] := by rw [← Array.toArray_toList (xs := c.argTypes), ht]
  -- what is a row of the frame's own, in the model
  have ownR : ∀ (b1 : Nat) (nm1 : Nm) (T0 T : AV) (n1 : Nat) (te : TypeId), lk b1 mem = some T0 → ρ b1 = some nm1 → nm1.row = true → nm1.ty = te → ro ≤ b1 → RowSh P te T → OK P ρ T → rowN T = n1 → n1 ≤ nm1.cap → LiesAt (cells P ρ T0) 0 (cells P ρ T) →
      nm1.cap ≤ nm1.tot → (nm1.non = true → nm1.cap = 0) → w.ownsRow w0.g.heap.size te (P.cellsOf te) (gsV nm1 n1) (rowN T) (cells P ρ T) := by
    intro b1 nm1 T0 T n1 te hlT hb1 hr1 ht1 hro shT okT hrn hle1 hlie hct hnon1
    have hlen := rowSh_len shT okT
    obtain ⟨nm1', hb1', hN1, okT0, hs1, hcell1⟩ := S.cell b1 T0 hlT
    rw [hb1] at hb1'
    obtain rfl := Option.some.inj hb1'
    refine ⟨hlen, ?_⟩
    cases hq : nm1.non with
    | true => exact .inl ⟨by simp [gsV, hq], by have := hnon1 hq; omega⟩
    | false =>
      rcases S.rows b1 T0 nm1 hlT hb1 hro hr1 with h | h
      · rw [hq] at h; cases h
      · obtain ⟨q1, q2, q3, cur, q4, q5⟩ := h
        rw [ht1] at q4 q5
        refine .inr ⟨nm1.blk, nm1.tot, cur, by simp [gsV, hq, q1, hrn], Base.own_ge ((S.own b1 T0 nm1 hlT hb1 hro).1 hq), q4, by rw [hrn]; omega, q3, q5, ?_⟩
        refine List.ext_getElem? fun j => ?_
        rw [List.getElem?_take]
        by_cases hj : j < rowN T * P.cellsOf te
        · rw [if_pos hj]
          have hj' : j < (cells P ρ T).length := by rw [hlen]; exact hj
          have h0 := hlie j _ (List.getElem?_eq_getElem hj')
          rw [Nat.zero_add] at h0
          have := hcell1 j _ h0
          rw [q1, Nat.zero_add, cell_of_row w nm1.blk j cur te (0, 0) q4] at this
          rw [List.getElem?_eq_getElem hj']
          simpa using this
        · rw [if_neg hj]
          rw [List.getElem?_eq_none (by rw [hlen]; omega)]
  have vb : ∀ (b1 : Nat) (nm1 : Nm) (T0 : AV) (n1 g : Nat), lk b1 mem = some T0 → ρ b1 = some nm1 → ro ≤ b1 → (gsV nm1 n1).ownBlock = some g → ∃ b0 nm0 T0, some b1 = some b0 ∧ ρ b0 = some nm0 ∧ lk b0 mem = some T0 ∧ ro ≤ b0 ∧ nm0.non = false ∧ g = nm0.blk := by
    intro b1 nm1 T0 n1 g hlT hb1 hro hg
    cases hq : nm1.non with
    | true => simp [gsV, hq, Value.ownBlock] at hg
    | false =>
      refine ⟨b1, nm1, T0, rfl, hb1, hlT, hro, hq, ?_⟩
      simp [gsV, hq, Value.ownBlock] at hg; exact hg.symm
  have rowT : ∀ {el : TypeId}, rowTy P el = true → ∃ i, P.info? el = some i := by
    intro el h
    unfold rowTy at h
    split at h
    · rename_i i hi; exact ⟨i, hi⟩
    · cases h
  have shOf : ∀ {T : AV} {nm : Nm}, HasN P nm T → nm.row = true → pl T = true → RowSh P nm.ty T ∧ rowN T = nm.cap := by
    intro T nm hN hr hp
    simp only [HasN, hr, if_true] at hN
    cases T <;> simp only at hN <;> first | exact ⟨hN.2, hN.1⟩ | exact hN.elim | (simp [pl] at hp; done)
  unfold appX at hk
  split at hk
  · -- nothing is appended
    split at hk
    · replace hk := cond_some hk
      obtain ⟨hrt, hk⟩ := hk
      simp only [Option.some.injEq] at hk
      refine put_val hn hk.symm (by simp [OK]) ?_
      simp only [den] at hargs ⊢
      obtain ⟨i, hi⟩ := rowT hrt
      have hr := run_append_owned_none (P := P) w 0 t o.type el i i.size hu hi (.slice none 0 0) 0 [] (World.ownsRow_nil w _ _ _)
      simp [execOp, ho, resolve, hcal, invoke, builtin, hargs, hty, hr]
    · rename_i b1 n1 te1
      replace hk := cond_some hk
      obtain ⟨hc, hk⟩ := hk
      simp only [Bool.and_eq_true] at hc
      have hc2 := beq_eq hc.1.1
      subst hc2
      have hro := Nat.le_of_ble_eq_true hc.2
      split at hk
      · rename_i T hT
        replace hk := cond_some hk
        obtain ⟨hp, hk⟩ := hk
        simp only [Option.some.injEq] at hk
        have hlT := hget b1 T hT
        obtain ⟨nm1, hb1, hN1, okT, -⟩ := S.cell b1 T hlT
        have okx0 := okx
        simp only [OK] at okx
        obtain ⟨nm1', hb1', hr1, ht1, hn1, hle1, hnon1, hmax1⟩ := okx
        rw [hb1] at hb1'
        obtain rfl := Option.some.inj hb1'
        obtain ⟨shT, hcT⟩ := shOf hN1 hr1 hp
        rw [ht1] at shT
        have hown := ownR b1 nm1 T T n1 te1 hlT hb1 hr1 ht1 hro shT okT (by omega) (by omega) (fun j x hx => by rw [Nat.zero_add]; exact hx) (by omega) (fun h => by have := hnon1 h; omega)
        obtain ⟨i, hi⟩ := rowT hc.1.2
        have hv : den P ρ (.gs b1 n1 te1) = gsV nm1 n1 := by simp [den, hb1]
        refine put_val hn hk.symm okx0 ?_
        have hr := run_append_owned_none (P := P) w _ t o.type te1 i _ hu hi _ _ _ hown
        have hnl : den P ρ .nils = .slice none 0 0 := by simp [den]
        rw [hv, hnl] at hargs
        rw [hv]
        simp [execOp, ho, resolve, hcal, invoke, builtin, hargs, hty, hr]
      · cases hk
    · cases hk
  · split at hk
    · rename_i r hr
      obtain ⟨U, te2⟩ := r
      replace hk := cond_some hk
      obtain ⟨hc, hk⟩ := hk
      simp only [Bool.and_eq_true] at hc
      obtain ⟨hc1, hrt⟩ := hc
      have hc1 := beq_eq hc1
      simp only at hc1 hk
      subst hc1
      obtain ⟨shU, okU, plU, hmaxU, hyv⟩ := rowC_at S hget hr oky
      have hlenU := rowSh_len shU okU
      have hyv' : (den P ρ y = .slice none 0 0 ∧ rowN U = 0 ∧ cells P ρ U = []) ∨ ∃ ad q, den P ρ y = .slice (some ad) (rowN U) q ∧ ∀ j u, (cells P ρ U)[j]? = some u → w.cell? (ad.add j) = some u := by
        rcases hyv with ⟨z, e1, -, e2, e3⟩ | ⟨b, of, q, e1, -, -, -, e4⟩
        · cases z with
          | none => exact .inl ⟨e1, e2, e3⟩
          | some ad => exact .inr ⟨ad, 0, by rw [e1, e2], fun j u hj => by rw [e3] at hj; simp at hj⟩
        · exact .inr ⟨⟨b, of, none⟩, q, e1, fun j u hj => by rw [addr_add]; exact e4 j u hj⟩
      have fin : ∀ (b : Option Nat) (T V : AV) (v : Value), RowSh P te2 T → OK P ρ T → catT T U = some V → fits P te2 (rowN V) = true →
          den P ρ x = v → w.ownsRow w0.g.heap.size te2 (P.cellsOf te2) v (rowN T) (cells P ρ T) →
          (∀ g, v.ownBlock = some g → ∃ b0 nm0 T0, b = some b0 ∧ ρ b0 = some nm0 ∧ lk b0 mem = some T0 ∧ ro ≤ b0 ∧ nm0.non = false ∧ g = nm0.blk) →
          (∀ b0, b = some b0 → ro ≤ b0 ∧ ∃ T0, lk b0 mem = some T0) → e = .grow b V (fun c => .gs c (rowN V) te2) → o.wp P a w next Q := by
        intro b T V v shT okT hcat hfit hxv hown hvb hb0 he
        obtain ⟨shV, okV, hrV, hcV⟩ := catT_spec hcat shT shU okT okU
        obtain ⟨v', w', r1, r2, r3, r4⟩ := app_run (ty := o.type) (m := rowN U) (news := cells P ρ U) hrt (by rw [← hrV]; exact hfit) hu hown S.below.below.size hyv' hlenU (rowSh_one shU)
        refine grow_put hn (B := w0.g.heap.size) (hasN_of rfl shV rfl) okV ?_ ?_ (by rw [hcV, hrV]; exact r2) ?_ ⟨r3.os, r3.tape, r3.output, r3.size⟩ ?_ hb0 he
        · unfold fits at hfit
          split at hfit
          · simp only [decide_eq_true_eq] at hfit
            omega
          · cases hfit
        · rw [hxv] at hargs
          simp [execOp, ho, resolve, hcal, invoke, builtin, hargs, hty, r1]
        · intro k0 hk0 hne
          refine r3.block k0 hk0 fun hh => ?_
          obtain ⟨b0, nm0, T0, e1, e2, e3, e4, e5, e6⟩ := hvb k0 hh.symm
          exact hne b0 nm0 e1 e2 e5 e6
        · intro g hgv
          rcases r4 with h | h
          · right; exact hvb g (by rw [← h]; exact hgv)
          · left
            rw [h] at hgv
            have := Option.some.inj hgv
            omega
      split at hk
      · -- nil grows
        split at hk
        · rename_i T hem
          split at hk
          · rename_i V hcat
            replace hk := cond_some hk
            obtain ⟨hfit, hk⟩ := hk
            simp only [Option.some.injEq] at hk
            obtain ⟨shT, okT, hrT, hcT⟩ := emptyT_spec (ρ := ρ) hem shU
            exact fin none T V (.slice none 0 0) shT okT hcat hfit (by simp [den]) (by rw [hcT, hrT]; exact World.ownsRow_nil w _ _ _) (fun g h => by simp [Value.ownBlock] at h) (fun b0 h => by cases h) hk.symm
          · simp at hk
        · simp at hk
      · rename_i b1 n1 te1
        replace hk := cond_some hk
        obtain ⟨hc, hk⟩ := hk
        simp only [Bool.and_eq_true] at hc
        have hc2 := beq_eq hc.1
        subst hc2
        have hro := Nat.le_of_ble_eq_true hc.2
        split at hk
        · rename_i T hT
          split at hk
          · rename_i V hcat
            replace hk := cond_some hk
            obtain ⟨hfit, hk⟩ := hk
            simp only [Option.some.injEq] at hk
            have hlT := hget b1 T hT
            obtain ⟨nm1, hb1, hN1, okT, -⟩ := S.cell b1 T hlT
            simp only [OK] at okx
            obtain ⟨nm1', hb1', hr1, ht1, hn1, hle1, hnon1, hmax1⟩ := okx
            rw [hb1] at hb1'
            obtain rfl := Option.some.inj hb1'
            obtain ⟨shT, hcT⟩ := rowSh_of hN1 hr1 (rowSh_cat (P := P) (te := te1) (.inl hcat))
            rw [ht1] at shT
            have hown := ownR b1 nm1 T T n1 te1 hlT hb1 hr1 ht1 hro shT okT (by omega) (by omega) (fun j x hx => by rw [Nat.zero_add]; exact hx) (by omega) (fun h => by have := hnon1 h; omega)
            refine fin (some b1) T V (gsV nm1 n1) shT okT hcat hfit (by simp [den, hb1]) hown (fun g hg => vb b1 nm1 T n1 g hlT hb1 hro hg) ?_ hk.symm
            intro b0 hb0
            obtain rfl := Option.some.inj hb0
            exact ⟨hro, T, hlT⟩
          · simp at hk
        · simp at hk
      · rename_i b1 lo1 n1 te1 nn1 z1
        replace hk := cond_some hk
        obtain ⟨hc, hk⟩ := hk
        simp only [Bool.and_eq_true] at hc
        have hc2 := beq_eq hc.1.1
        have hc3 := beq_eq hc.2.1
        have hc4 := beq_eq hc.2.2
        subst hc2
        subst hc3
        subst hc4
        have hro := Nat.le_of_ble_eq_true hc.1.2
        split at hk
        · rename_i T0 hT0
          split at hk
          · rename_i T hcut
            split at hk
            · rename_i V hcat
              replace hk := cond_some hk
              obtain ⟨hfit, hk⟩ := hk
              simp only [Option.some.injEq] at hk
              have hlT := hget b1 T0 hT0
              obtain ⟨nm1, hb1, hN1, okT0, -⟩ := S.cell b1 T0 hlT
              simp only [OK] at okx
              obtain ⟨nm1', hb1', -, hr1, ht1, hle1, hct1, hnon1, hmax1⟩ := okx
              rw [hb1] at hb1'
              obtain rfl := Option.some.inj hb1'
              obtain ⟨shT, okT, hrT, hlie, -⟩ := cut_spec (ρ := ρ) hN1 hr1 okT0 hcut hle1
              rw [ht1] at shT
              rw [Nat.zero_mul] at hlie
              have hown := ownR b1 nm1 T0 T n1 te1 hlT hb1 hr1 ht1 hro shT okT hrT (by omega) hlie hct1 hnon1
              have hv : den P ρ (.gp b1 0 n1 te1 nn1 0) = gsV nm1 n1 := by
                cases hq : nm1.non with
                | true => simp [den, hb1, gpV, gsV, hq]
                | false => simp [den, hb1, gpV, gsV, hq, Addr.add]
              refine fin (some b1) T V (gsV nm1 n1) shT okT hcat hfit hv hown (fun g hg => vb b1 nm1 T0 n1 g hlT hb1 hro hg) ?_ hk.symm
              intro b0 hb0
              obtain rfl := Option.some.inj hb0
              exact ⟨hro, T0, hlT⟩
            · simp at hk
          · simp at hk
        · simp at hk
      · simp at hk
    · simp at hk

theorem s_lenX {c : Call} {t el : TypeId} {u : AV} {n : Nat} (ho : o.op = .call c) (hcal : c.callee = .builtin .len) (hx : evL (evO gl tm) c.args.toList = some [u]) (ht : c.argTypes.toList = [t]) (hu : P.underlying t = some (.slice el))
    (hv : (∃ b lo te nn z, u = .gp b lo n te nn z) ∨ ∃ b p te d l, u = .dv b p te d l ∧ n = l.length) (he : e = .val (.int .i64 n)) : o.wp P a w next Q := by
  obtain ⟨h1, h2⟩ := evL_sound S hgl hx
  simp only [OKL, and_true] at h2
  have hargs : c.args.map a.eval = #[den P ρ u] := by
    rw [← Array.toArray_toList (xs := c.args.map a.eval), Array.toList_map, h1]; simp [denT]
  have hty : c.argTypes = #[t] := by rw [← Array.toArray_toList (xs := c.argTypes), ht]
  have hmin : IntKind.i64.min = -9223372036854775808 := by decide
  have hmax : IntKind.i64.max = 9223372036854775807 := by decide
  have main : (∃ ad q, den P ρ u = .slice ad n q) ∧ ((n : Nat) : Int) ≤ 9223372036854775807 := by
    rcases hv with ⟨b, lo, te, nn, z, rfl⟩ | ⟨b, p, te, d, l, rfl, rfl⟩
    · simp only [OK] at h2
      obtain ⟨nm, hb, -, hr, ht', hle, hct, hnon, hmx⟩ := h2
      refine ⟨?_, by omega⟩
      cases hq : nm.non with
      | true =>
        have := hnon hq
        have hn0 : n = 0 := by omega
        subst hn0
        exact ⟨none, 0, by simp [den, hb, gpV, hq]⟩
      | false => exact ⟨some (if nm.tot = lo then (⟨nm.blk, nm.off, none⟩ : Addr).add (z * P.cellsOf te) else (⟨nm.blk, nm.off, none⟩ : Addr).add (lo * P.cellsOf te)), nm.tot - lo, by simp only [den, hb, gpV, hq, cond_false]⟩
    · simp only [OK] at h2
      obtain ⟨nm, L, hb, hl, -, -, hlen, hmx, -⟩ := h2
      exact ⟨⟨L.1, L.2, by simp [den, hb, dvV, hl]⟩, by omega⟩
  obtain ⟨⟨ad, q, hden⟩, hbd⟩ := main
  refine put_val hn he (by simp only [OK]; rw [hmin, hmax]; omega) ?_
  rw [hden] at hargs
  simp [execOp, ho, resolve, hcal, invoke, builtin, hargs, hty, Builtin.len_, run_underlying hu, den, goInt]

end
end Go.Vx
