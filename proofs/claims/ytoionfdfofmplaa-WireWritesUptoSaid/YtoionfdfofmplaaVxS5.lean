/- The engine, part S5: from a contract by forms to a row; deep data as arguments. -/
import Derived.Test.YtoionfdfofmplaaVxZ2
import Derived.Test.YtoionfdfofmplaaVxS4
set_option autoImplicit false
set_option linter.unusedVariables false
set_option linter.unusedSimpArgs false
namespace Go.Vx
open Go Go.RowKit

variable {H : Type} {enc : TypeId × Value → H} {P : Program}

/-- All that lies in a world, as what nobody writes to. -/
def Kof (W : World) : Fz := ⟨fun k o => W.cell? ⟨k, o, none⟩, W.heap.size⟩

/-- A measure of data, as the rows' conditions have one. -/
structure Bulk (H : Type) where
  B : DataW H → Nat
  A : List (DataW H) → Nat
  pos : ∀ d, 1 ≤ B d
  cons : ∀ d r, B d + A r ≤ A (d :: r)
  slice : ∀ e s, A e + 1 ≤ B (.slice e s)
  agg : ∀ p, A p + 1 ≤ B (.agg p)

/-- How much the rows in such data hold. -/
def Dc.wt : (d : Dc) → d.T → Nat
  | .tc _, _ => 0
  | .row d _, x => x.length + (x.map d.wt).sum
  | .nil, _ => 0
  | .cons a b, x => a.wt x.1 + b.wt x.2
  | .agg l, x => l.wt x
/-- Elements are of one cell or more. -/
def Dc.pos (P : Program) : Dc → Bool
  | .tc _ => true
  | .row d te => Nat.blt 0 (P.cellsOf te) && d.pos P
  | .nil => true
  | .cons a b => a.pos P && b.pos P
  | .agg l => l.pos P

theorem fitAgg_str {g : List Field → Nat → Nat → Bool} {t : TypeId} (h : fitAgg P g (fun _ _ => false) t = true) : ∃ fs, P.underlying t = some (.struct fs) ∧ g fs.toList 0 (P.cellsOf t) = true := by
  unfold fitAgg at h
  split at h
  · rename_i fs hu; exact ⟨fs, hu, h⟩
  · simp at h
  · cases h

/-- What lies in a slice's elements, one after the other. -/
theorem each_list (β : Bulk H) {T : Type} {wt : T → Nat} {Q : Nat → T → Prop} : ∀ (es : List (DataW H × List MemPlace)) (i0 : Nat), (∀ (i : Nat) x, es[i]? = some x → ∃ y, Q (i0 + i) y ∧ wt y + 1 ≤ β.B x.1) →
    ∃ l : List T, l.length = es.length ∧ (∀ (i : Nat) y, l[i]? = some y → Q (i0 + i) y) ∧ l.length + (l.map wt).sum ≤ β.A (es.map (·.1))
  | [], i0, _ => ⟨[], rfl, fun i y h => by simp at h, Nat.zero_le _⟩
  | e :: es, i0, h => by
    obtain ⟨y, h1, h2⟩ := h 0 e rfl
    obtain ⟨l, k1, k2, k3⟩ := each_list β es (i0 + 1) fun i x hx => by
      obtain ⟨y, h1, h2⟩ := h (i + 1) x (by simpa using hx)
      exact ⟨y, by rw [show i0 + 1 + i = i0 + (i + 1) by omega]; exact h1, h2⟩
    refine ⟨y :: l, by simp [k1], fun i z hz => ?_, ?_⟩
    · cases i with
      | zero => simp at hz; subst hz; exact h1
      | succ i =>
        have := k2 i z (by simpa using hz)
        rw [show i0 + (i + 1) = i0 + 1 + i by omega]
        exact this
    · have := β.cons e.1 (es.map (·.1))
      simp only [List.length_cons, List.map_cons, List.sum_cons] at this ⊢
      omega

/-- A slice of deep data, read. -/
theorem row_open (β : Bulk H) {W : World} {base : Nat} {held : Bool} {d : Dc}
    (ih : ∀ t, (d.fitB P).1 t = true → ∀ (fuel : Nat) (cs : List Value) (x : DataW H × List MemPlace), DataW.trod enc P W base (fun _ => true) held fuel t cs = some x → ∃ y : d.T, (∀ b o, (∀ j v, cs[j]? = some v → W.cell? ⟨b, o + j, none⟩ = some v) → DRep P (Kof W) d b o y) ∧ d.wt y + 1 ≤ β.B x.1)
    {t te : TypeId} (hu : P.underlying t = some (.slice te)) (hf : (d.fitB P).1 te = true) (hp : 0 < P.cellsOf te) {fuel : Nat} {cs : List Value} {x : DataW H × List MemPlace} (h : DataW.trod enc P W base (fun _ => true) held fuel t cs = some x) :
    ∃ (a : Option Addr) (c : Nat) (l : List d.T), cs = [.slice a l.length c] ∧ RepR P (Kof W) d te (a, c) l ∧ l.length + (l.map d.wt).sum + 1 ≤ β.B x.1 := by
  rcases DataW.trod_slice hu h with ⟨hc, hx⟩ | ⟨a, len, cap, elems, rest, n, -, hc, hx, -, hlc, hcm, hel, hat, hsp, -⟩
  · refine ⟨none, 0, [], hc, ⟨⟨fun _ => rfl, fun ad h => by cases h⟩, Nat.le_refl _, by show ((0 : Nat) : Int) ≤ 9223372036854775807; decide, fun i y hy => by simp at hy⟩, ?_⟩
    simp only [List.length_nil, List.map_nil, List.sum_nil, Nat.zero_add]
    exact β.pos _
  · obtain ⟨hrl, hrest⟩ := hsp rfl
    have first : ∀ cs', W.cells? base (a.add (0 * P.cellsOf te)) (P.cellsOf te) = some cs' → a.spot = none ∧ a.block < W.heap.size := by
      intro cs' hcs
      obtain ⟨h4, h5⟩ := cells?_spec hcs
      have h0 : 0 < cs'.length := by omega
      have := h5 0 cs'[0] (List.getElem?_eq_getElem h0)
      rw [Nat.zero_mul] at this
      have e : (a.add 0).add 0 = a := rfl
      rw [e] at this
      refine ⟨World.cell?_spot this, ?_⟩
      unfold World.cell? at this
      rcases Nat.lt_or_ge a.block W.heap.size with h | h
      · exact h
      · rw [Array.getElem?_eq_none h] at this
        simp at this
    have adr : 0 < cap → a.spot = none ∧ a.block < W.heap.size := by
      intro hcap
      rcases Nat.eq_zero_or_pos len with h0 | h0
      · have h1 := hrest 0 (by omega)
        have hr0 : 0 < rest.length := by omega
        rw [List.getElem?_eq_getElem hr0] at h1
        obtain ⟨cs', h2, -⟩ := Option.bind_eq_some_iff.1 h1
        rw [h0] at h2
        exact first cs' h2
      · have h1 := hat 0 h0
        rw [List.getElem?_eq_getElem (show 0 < elems.length by omega)] at h1
        obtain ⟨cs', h2, -⟩ := Option.bind_eq_some_iff.1 h1
        exact first cs' h2
    obtain ⟨l, l1, l2, l3⟩ := each_list β (wt := d.wt) (Q := fun i y => ∃ b' o', some a = some (⟨b', o', none⟩ : Addr) ∧ DRep P (Kof W) d b' (o' + i * P.cellsOf te) y) elems 0 fun i x hi => by
      have hil : i < elems.length := (List.getElem?_eq_some_iff.1 hi).1
      have h1 := hat i (by omega)
      rw [hi] at h1
      obtain ⟨cs', h2, h3⟩ := Option.bind_eq_some_iff.1 h1
      obtain ⟨h4, h5⟩ := cells?_spec h2
      obtain ⟨y, k1, k2⟩ := ih te hf n cs' x h3
      obtain ⟨g1, g2⟩ := adr (by omega)
      obtain ⟨ab, ao, asp⟩ := a
      simp only at g1
      subst g1
      refine ⟨y, ⟨ab, ao, rfl, k1 _ _ fun j v hv => ?_⟩, k2⟩
      have := h5 j v hv
      rw [addr_add, addr_add] at this
      rw [Nat.zero_add]
      exact this
    refine ⟨some a, cap, l, by rw [hc, l1, hel], ⟨⟨fun h => absurd h (by simp), fun ad h hcap => (Option.some.inj h) ▸ adr hcap⟩, by simp only; omega, ?_, fun i y hy => ?_⟩, ?_⟩
    · simp only
      have e : maxLen = 9223372036854775807 := by decide
      rw [e] at hcm
      omega
    · obtain ⟨b', o', q1, q2⟩ := l2 i y hy
      rw [Nat.zero_add] at q2
      exact ⟨b', o', q1, q2⟩
    · have := β.slice (elems.map (·.1)) (rest.map (·.1))
      rw [hx]
      simp only
      omega

/-- What is read there is deep data of the code. -/
theorem Dc.trodB (β : Bulk H) {W : World} {base : Nat} {held : Bool} : (d : Dc) → d.pos P = true →
    (∀ t, (d.fitB P).1 t = true → ∀ (fuel : Nat) (cs : List Value) (x : DataW H × List MemPlace), DataW.trod enc P W base (fun _ => true) held fuel t cs = some x → ∃ y : d.T, (∀ b o, (∀ j v, cs[j]? = some v → W.cell? ⟨b, o + j, none⟩ = some v) → DRep P (Kof W) d b o y) ∧ d.wt y + 1 ≤ β.B x.1) ∧
    (∀ fl o s, (d.fitB P).2 fl o s = true → ∀ (m : Nat) (cs : List Value) (xs : List (DataW H × List MemPlace)), cs.length = s → xs.length = fl.length →
      (∀ (i : Nat) (f : Field), fl[i]? = some f → DataW.trod enc P W base (fun _ => true) held m f.type ((cs.drop f.offset).take (P.cellsOf f.type)) = xs[i]?) →
      ∃ y : d.T, (∀ b o', (∀ j v, cs[j]? = some v → W.cell? ⟨b, o' + j, none⟩ = some v) → DRep P (Kof W) d b (o' + o) y) ∧ d.wt y ≤ β.A (xs.map (·.1))) := by
  have piece : ∀ {cs : List Value} {b o' o k : Nat}, (∀ j v, cs[j]? = some v → W.cell? ⟨b, o' + j, none⟩ = some v) → ∀ j v, ((cs.drop o).take k)[j]? = some v → W.cell? ⟨b, o' + o + j, none⟩ = some v := by
    intro cs b o' o k h j v hv
    rw [List.getElem?_take] at hv
    split at hv
    · rw [List.getElem?_drop] at hv
      have := h _ v hv
      rw [← Nat.add_assoc] at this
      exact this
    · cases hv
  have oneD : ∀ (d : Dc) (g : TypeId → Bool), (∀ t, g t = true → ∀ (fuel : Nat) (cs : List Value) (x : DataW H × List MemPlace), DataW.trod enc P W base (fun _ => true) held fuel t cs = some x → ∃ y : d.T, (∀ b o, (∀ j v, cs[j]? = some v → W.cell? ⟨b, o + j, none⟩ = some v) → DRep P (Kof W) d b o y) ∧ d.wt y + 1 ≤ β.B x.1) →
      ∀ fl o s, oneF P g fl o s = true → ∀ (m : Nat) (cs : List Value) (xs : List (DataW H × List MemPlace)), cs.length = s → xs.length = fl.length →
      (∀ (i : Nat) (f : Field), fl[i]? = some f → DataW.trod enc P W base (fun _ => true) held m f.type ((cs.drop f.offset).take (P.cellsOf f.type)) = xs[i]?) →
      ∃ y : d.T, (∀ b o', (∀ j v, cs[j]? = some v → W.cell? ⟨b, o' + j, none⟩ = some v) → DRep P (Kof W) d b (o' + o) y) ∧ d.wt y ≤ β.A (xs.map (·.1)) := by
    intro d g hg fl o s h m cs xs hl hx hat
    unfold oneF at h
    split at h
    · cases h
    · rename_i f r
      split at h
      · simp only [Bool.and_eq_true] at h
        obtain ⟨⟨h1, h2⟩, h3⟩ := h
        have h1 := beq_eq h1
        have h0 := hat 0 f rfl
        match xs, hx with
        | [x0], _ =>
          obtain ⟨y, k1, k2⟩ := hg _ h2 m _ x0 h0
          refine ⟨y, fun b o' hb => ?_, ?_⟩
          · rw [← h1]
            exact k1 b (o' + f.offset) (piece hb)
          · have := β.cons x0.1 []
            simp only [List.map_cons, List.map_nil]
            omega
      · cases h
  intro d
  induction d with
  | tc c =>
    intro _
    have key : ∀ t, c.fit P t = true → ∀ (fuel : Nat) (cs : List Value) (x : DataW H × List MemPlace), DataW.trod enc P W base (fun _ => true) held fuel t cs = some x → ∃ y : (Dc.tc c).T, (∀ b o, (∀ j v, cs[j]? = some v → W.cell? ⟨b, o + j, none⟩ = some v) → DRep P (Kof W) (.tc c) b o y) ∧ (Dc.tc c).wt y + 1 ≤ β.B x.1 := by
      intro t h fuel cs x hx
      obtain ⟨y, rfl, k2⟩ := (Tc.trodB c).1 t h fuel cs x hx
      exact ⟨y, fun b o hb => ⟨k2, hb⟩, β.pos _⟩
    exact ⟨key, oneD (.tc c) _ key⟩
  | row d te ih =>
    intro hp
    simp only [Dc.pos, Bool.and_eq_true, Nat.blt_eq] at hp
    have key : ∀ t, ((Dc.row d te).fitB P).1 t = true → ∀ (fuel : Nat) (cs : List Value) (x : DataW H × List MemPlace), DataW.trod enc P W base (fun _ => true) held fuel t cs = some x → ∃ y : (Dc.row d te).T, (∀ b o, (∀ j v, cs[j]? = some v → W.cell? ⟨b, o + j, none⟩ = some v) → DRep P (Kof W) (.row d te) b o y) ∧ (Dc.row d te).wt y + 1 ≤ β.B x.1 := by
      intro t h fuel cs x hx
      simp only [Dc.fitB, Bool.and_eq_true] at h
      obtain ⟨⟨h1, h2⟩, h3⟩ := h
      split at h1
      · rename_i e hu
        have h1 := beq_eq h1
        subst h1
        obtain ⟨a, c, l, rfl, ⟨k1, k2, k3, k4⟩, k5⟩ := row_open β (ih hp.2).1 hu h3 hp.1 hx
        refine ⟨l, fun b o hb => ⟨a, c, hb 0 _ rfl, k1, k2, k3, k4⟩, ?_⟩
        simp only [Dc.wt]
        exact k5
      · cases h1
    exact ⟨key, oneD (.row d te) _ key⟩
  | nil =>
    intro _
    refine ⟨fun t h => by simp [Dc.fitB] at h, fun fl o s h m cs xs hl hx hat => ⟨(), fun _ _ _ => trivial, Nat.zero_le _⟩⟩
  | cons a b iha ihb =>
    intro hp
    simp only [Dc.pos, Bool.and_eq_true] at hp
    refine ⟨fun t h => by simp [Dc.fitB] at h, fun fl o s h m cs xs hl hx hat => ?_⟩
    cases fl with
    | nil => simp [Dc.fitB] at h
    | cons f fl =>
      simp only [Dc.fitB, Bool.and_eq_true] at h
      obtain ⟨⟨h1, h2⟩, h3⟩ := h
      have h1 := beq_eq h1
      have h0 := hat 0 f rfl
      match xs, hx with
      | x0 :: xs', hx =>
        obtain ⟨y, k1, k2⟩ := (iha hp.1).1 _ h2 m _ x0 h0
        obtain ⟨z, j1, j2⟩ := (ihb hp.2).2 fl _ s h3 m cs xs' hl (by simpa using hx) (fun i g hg => by
          have := hat (i + 1) g (by simpa using hg)
          simpa using this)
        refine ⟨(y, z), fun b0 o' hb => ⟨?_, ?_⟩, ?_⟩
        · rw [← h1]
          exact k1 b0 (o' + f.offset) (piece hb)
        · have hsz : a.sz = P.cellsOf f.type := (Dc.fit_sz P a).1 f.type h2
          have := j1 b0 o' hb
          rw [Nat.add_assoc, hsz]
          exact this
        · have := β.cons x0.1 (xs'.map (·.1))
          simp only [List.map_cons, Dc.wt]
          omega
  | agg l ih =>
    intro hp
    simp only [Dc.pos] at hp
    have key : ∀ t, ((Dc.agg l).fitB P).1 t = true → ∀ (fuel : Nat) (cs : List Value) (x : DataW H × List MemPlace), DataW.trod enc P W base (fun _ => true) held fuel t cs = some x → ∃ y : (Dc.agg l).T, (∀ b o, (∀ j v, cs[j]? = some v → W.cell? ⟨b, o + j, none⟩ = some v) → DRep P (Kof W) (.agg l) b o y) ∧ (Dc.agg l).wt y + 1 ≤ β.B x.1 := by
      intro t h fuel cs x hx
      obtain ⟨fs, hu, h⟩ := fitAgg_str (show fitAgg P (l.fitB P).2 (fun _ _ => false) t = true from h)
      obtain ⟨xs, m, -, hxx, hl, hxl, hat⟩ := DataW.trod_struct hu hx
      obtain ⟨y, k1, k2⟩ := (ih hp).2 _ _ _ h m cs xs hl (by rw [hxl]; simp) (fun i f hf => hat i f (by simpa using hf))
      refine ⟨y, fun b o hb => by have := k1 b o hb; rw [Nat.add_zero] at this; exact this, ?_⟩
      have := β.agg (xs.map (·.1))
      rw [hxx]
      simp only [Dc.wt]
      omega
    exact ⟨key, oneD (.agg l) _ key⟩

/-- A row of deep data, read. -/
theorem open_deep (β : Bulk H) {W : World} {t e : TypeId} {d : Dc} {v : Value} {dd : DataW H} {ps : List MemPlace} (hu : P.underlying t = some (.slice e)) (hf : d.fit P e = true) (hp : (Dc.row d e).pos P = true) {r : Reach} {b : Nat} (hval : Value.okWide P W r b t v)
    (h : DataW.Trod enc P W 0 (fun _ => true) true t v dd ps) :
    ∃ (l : List d.T) (nm : Nm), nm.K = Kof W ∧ v = dvV nm [] l.length ∧ RepR P nm.K d e (nmL nm) l ∧ l.length + (l.map d.wt).sum + 1 ≤ β.B dd := by
  obtain ⟨fuel, hh⟩ := h
  obtain ⟨a0, len0, cap0, rfl⟩ := WideShapes.okWide_slice hu hval
  simp only [Dc.pos, Bool.and_eq_true, Nat.blt_eq] at hp
  obtain ⟨a, c, l, h1, h2, h3⟩ := row_open β (Dc.trodB β d hp.2).1 hu hf hp.1 hh
  simp only [Value.cells, List.cons.injEq, Value.slice.injEq, and_true] at h1
  obtain ⟨rfl, rfl, rfl⟩ := h1
  rcases a0 with _ | ⟨ab, ao, asp⟩
  · have hc0 := h2.1.1 rfl
    simp only at hc0
    subst hc0
    have hl0 : l.length = 0 := by have := h2.2.1; simp only at this; omega
    refine ⟨l, ⟨0, 0, 0, e, true, 0, true, Kof W⟩, rfl, ?_, h2, h3⟩
    rw [hl0]; rfl
  · have hsp : asp = none := by
      have hval' : Cell.ok P W r b t (.slice (some ⟨ab, ao, asp⟩) l.length cap0) := by
        simpa only [Value.okWide, hu, Cell.okWide] using hval
      simp only [Cell.ok, hu] at hval'
      exact hval'.2.2.2.1
    subst hsp
    exact ⟨l, ⟨ab, ao, l.length, e, true, cap0, false, Kof W⟩, rfl, rfl, h2, h3⟩

/-- A function told by forms keeps its contract, of arguments that are plain or deep. -/
theorem io_at {W : World} {g : FuncId} {ro nh : Nat} {α β μ γ δ : Type} {A : Ag α} {R : Ent β} {M : Ent μ} {B : Pt γ} {M' : Ent δ} {K : List Nat} {F : α × β × μ → Option (γ × δ)} (h : SoundIo P W g ro nh A R M B M' K F) {fn : Func} (hfn : P.funcs[g]? = some fn)
    {x : α × β × μ} {y : γ × δ} (hF : F x = some y) (hm : R.mk x.2.1 ++ M.mk x.2.2 = []) {ρ : Rho} (hρ : ∀ b nm, ρ b = some nm → (32 ≤ b ∧ b < nh) ∧ nm.K = Kof W) (ok : OKL P ρ (A.mk x.1)) {vs : List Value} (hv : denT P ρ (A.mk x.1) = vs) {r : Value} (hr : ∀ ρ', den P ρ' (B.mk y.1) = r) :
    Calls P g vs.toArray W fun e w' => e = .returned r ∧ Below W.heap.size W w' := by
  subst hv
  have S : Sim P ⟨W, W, fun _ => False, fun _ => True, Below.refl _ _, fun _ h => h.elim⟩ ro ρ [] (R.mk x.2.1 ++ M.mk x.2.2) #[] W := by
    rw [hm]
    refine ⟨fun d v h => by simp [lk] at h, fun b T h => by simp [lk] at h, fun b T nm h => by simp [lk] at h, fun b b' T T' nm nm' h => by simp [lk] at h, fun b T nm h => by simp [lk] at h, Kept.refl _, ?_⟩
    refine ⟨fun b nm hb k o v hk => ?_, fun b nm hb => ?_, fun b nm hb k o v hk => .inr trivial, fun b T nm h => by simp [lk] at h, fun b s p h => by simp [lk] at h, fun b s p nm h => by simp [lk] at h, fun b b' s s' p p' nm nm' h => by simp [lk] at h⟩
    · rw [(hρ b nm hb).2] at hk; exact hk
    · rw [(hρ b nm hb).2]; exact Nat.le_refl _
  obtain ⟨-, h1⟩ := h x y hF ⟨W, W, fun _ => False, fun _ => True, Below.refl _ _, fun _ h => h.elim⟩ rfl ρ W S (fun b nm hb => (hρ b nm hb).1) ok
  refine h1.mono ?_
  rintro e w' ⟨a, ρ', rfl, rfl, -, S', -⟩
  exact ⟨by rw [hr], S'.below.all fun _ h => h⟩

end Go.Vx
