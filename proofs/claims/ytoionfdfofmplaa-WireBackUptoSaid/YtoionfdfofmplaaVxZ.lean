/- The engine, part Z: a call of a function that is told by forms. -/
import Derived.Test.YtoionfdfofmplaaVxY
set_option autoImplicit false
set_option linter.unusedSimpArgs false
set_option linter.unusedVariables false
namespace Go.Vx
open Go Go.RowKit

theorem lk_app3 {b : Nat} {l r : List (Nat × AV)} : lk b (l ++ r) = match lk b l with | some v => some v | none => lk b r := lk_app b l r

/-- Names of the contract's, by the caller's: those that are kept; the others are new. -/
def gSig (σ : Sg) (K : List Nat) (nx c : Nat) : Nat :=
  match lkS c σ with
  | some (.nm b) => cond (hasN c K) b (nx + c)
  | _ => nx + c
def mapN (f : Nat → Nat) : List (Nat × AV) → List (Nat × AV)
  | [] => []
  | p :: l => (f p.1, rn f p.2) :: mapN f l
theorem mapN_lk {f : Nat → Nat} {b : Nat} {T : AV} : {l : List (Nat × AV)} → lk b (mapN f l) = some T → ∃ c T1, lk c l = some T1 ∧ b = f c ∧ T = rn f T1
  | [], h => by simp [mapN, lk] at h
  | p :: l, h => by
    rw [mapN] at h
    by_cases hb : f p.1 = b
    · rw [← hb, lk_cons_self] at h
      exact ⟨p.1, p.2, by rw [show p = (p.1, p.2) from rfl, lk_cons_self], hb.symm, (Option.some.inj h).symm⟩
    · rw [lk_cons_ne hb] at h
      obtain ⟨c, T1, h1, h2, h3⟩ := mapN_lk (l := l) h
      by_cases hc : p.1 = c
      · exact (hb (by rw [h2, hc])).elim
      · exact ⟨c, T1, by rw [show p = (p.1, p.2) from rfl, lk_cons_ne hc]; exact h1, h2, h3⟩
/-- The caller's names of the form's. -/
def srcs (σ : Sg) : List Nat → List Nat
  | [] => []
  | c :: l => match lkS c σ with
    | some (.nm b) => b :: srcs σ l
    | _ => srcs σ l
theorem srcs_spec {σ : Sg} {c b : Nat} : {l : List Nat} → c ∈ l → lkS c σ = some (.nm b) → b ∈ srcs σ l
  | [], h, _ => by simp at h
  | d :: l, h, hb => by
    rw [srcs]
    rcases List.mem_cons.1 h with rfl | h
    · rw [hb]; simp
    · split
      · exact List.mem_cons_of_mem _ (srcs_spec h hb)
      · exact srcs_spec h hb
/-- A call told by forms, in the caller's state. -/
def Inl.ct (P : Program) (ro ro' nh : Nat) {α β μ γ δ : Type} (A : Ag α) (R : Ent β) (M : Ent μ) (B : Pt γ) (M' : Ent δ) (K : List Nat) (F : α × β × μ → Option (γ × δ)) : Inl where
  run := fun {X} f vs mem nx k => match A.gS vs [] with
    | some x1 => match M.gS P mem x1.2 with
      | some x3 => match R.gS P mem x3.2 with
        | some x2 => cond (ownOK ro ro' (R.names ++ M.names) x2.2 && (noItr mem && (x2.2.all fun p => Nat.ble 32 p.1 && Nat.blt p.1 nh)))
          (mo (F (x1.1, x2.1, x3.1)) f fun y => k (rn (gSig x2.2 K nx) (B.mk y.1)) (mapN (gSig x2.2 K nx) (M'.mk y.2) ++ dropN (srcs x2.2 M.names) mem) (nx + nh)) f
        | none => f
      | none => f
    | none => f
  par := by
    intro X f vs mem nx k
    split
    · split
      · split
        · refine cond_par _ ?_ rfl
          rw [mo_mo]
          congr 1
        · rfl
      · rfl
    · rfl

theorem lkS_all {σ : Sg} {p : Nat × Src → Bool} (h : σ.all p = true) {c : Nat} {s : Src} (hc : lkS c σ = some s) : p (c, s) = true := by
  induction σ with
  | nil => simp [lkS] at hc
  | cons x l ih =>
    simp only [List.all_cons, Bool.and_eq_true] at h
    rw [lkS] at hc
    cases hq : Nat.beq x.1 c with
    | true =>
      rw [hq] at hc
      rw [← beq_eq hq, ← Option.some.inj hc]; exact h.1
    | false => rw [hq] at hc; exact ih h.2 hc

/-- No iterator. -/
def Pt.nit {α : Type} : Pt α → Bool
  | .itr => false
  | .lit u => match u with
    | .itr _ _ => false
    | _ => true
  | _ => true
theorem Pt.nit_spec {α : Type} {p : Pt α} (h : p.nit = true) (x : α) (s : ByteArray) (q : Nat) : p.mk x ≠ .itr s q := by
  cases p with
  | itr => simp [Pt.nit] at h
  | lit u => rintro rfl; simp [Pt.nit, Pt.mk] at h
  | _ => simp [Pt.mk]
def Ent.nit {α : Type} : Ent α → Bool
  | .nil => true
  | .one _ p => p.nit
  | .cons _ p r => p.nit && r.nit
theorem Ent.nit_spec {α : Type} : {e : Ent α} → e.nit = true → (x : α) → ∀ c s q, lk c (e.mk x) ≠ some (.itr s q)
  | .nil, _, x, c, s, q => by simp [Ent.mk, lk]
  | .one d p, h, x, c, s, q => by
    intro hT
    simp only [Ent.mk] at hT
    by_cases hd : d = c
    · subst hd; rw [lk_cons_self] at hT; exact Pt.nit_spec h x s q (Option.some.inj hT)
    · rw [lk_cons_ne hd] at hT; simp [lk] at hT
  | .cons d p r, h, x, c, s, q => by
    intro hT
    simp only [Ent.nit, Bool.and_eq_true] at h
    simp only [Ent.mk] at hT
    by_cases hd : d = c
    · subst hd; rw [lk_cons_self] at hT; exact Pt.nit_spec h.1 x.1 s q (Option.some.inj hT)
    · rw [lk_cons_ne hd] at hT; exact Ent.nit_spec h.2 x.2 c s q hT

theorem ct_ok {P : Program} {cx : Cx} {w0 : Base} {g : FuncId} {ro' nh : Nat} {α β μ γ δ : Type} {A : Ag α} {R : Ent β} {M : Ent μ} {B : Pt γ} {M' : Ent δ} {K : List Nat} {F : α × β × μ → Option (γ × δ)}
    (hS : SoundIo P w0.g g ro' nh A R M B M' K F)
    (hc : (B.low nh && M'.low nh && (M'.names.all fun d => Nat.blt d nh && Nat.ble ro' d) && (M.names.all fun d => Nat.ble ro' d) && (K.all fun d => hasN d (R.names ++ M.names)) && (R.names.all fun d => Nat.blt d ro') && M'.nit) = true) :
    InlOK P cx w0 g (Inl.ct P cx.ro ro' nh A R M B M' K F) := by
  simp only [Bool.and_eq_true] at hc
  obtain ⟨⟨⟨⟨⟨⟨c1, c2⟩, c3⟩, c4⟩, c5⟩, c6⟩, c7⟩ := hc
  intro vs mem nx v mem' nx' h ρ w S G fr okv
  simp only [Inl.ct] at h
  split at h
  · rename_i x1 hx1
    split at h
    · rename_i x3 hx3
      split at h
      · rename_i x2 hx2
        obtain ⟨ho, h⟩ := cond_some h
        simp only [Bool.and_eq_true] at ho
        obtain ⟨ho, hit, hdom⟩ := ho
        obtain ⟨y, hF, h⟩ := mo_some h
        simp only [Option.some.injEq, Prod.mk.injEq] at h
        obtain ⟨rfl, rfl, rfl⟩ := h
        generalize hσ : x2.2 = σ at *
        obtain ⟨a1, a2⟩ := Ag.gS_spec P w.heap.size A vs [] x1.2 x1.1 hx1
        obtain ⟨b1, b2⟩ := Ent.gS_spec (P := P) w.heap.size M mem x1.2 x3.2 x3.1 hx3
        obtain ⟨d1, d2⟩ := Ent.gS_spec (P := P) w.heap.size R mem x3.2 x2.2 x2.1 hx2
        rw [hσ] at d1 d2
        have Ar := agr_rhoS w.heap.size ρ σ
        have hL : ∀ c T, lk c (R.mk x2.1 ++ M.mk x3.1) = some T → c ∈ R.names ++ M.names ∧ Met P w.heap.size mem c T σ := by
          intro c T hT
          rcases lk_app2 hT with h | ⟨-, h⟩
          · exact ⟨by simp [Ent.names_lk R x2.1 c T h], d2 c T h⟩
          · exact ⟨by simp [Ent.names_lk M x3.1 c T h], (b2 c T h).sub d1⟩
        have S1 := S.under hL ho
        -- the callee's ground
        let ρc := rhoS w.heap.size ρ σ
        have ρcK : ∀ c nm, ρc c = some nm → (∃ b nm0, ρ b = some nm0 ∧ nm.K = nm0.K) ∨ nm.K = nk := by
          intro c nm h
          simp only [ρc, rhoS] at h
          split at h
          · rename_i b hb; exact .inl ⟨b, nm, h, rfl⟩
          · obtain rfl := Option.some.inj h; exact .inr rfl
          · rename_i b p te hb
            obtain ⟨nm0, k1, k2⟩ := subN_K h
            exact .inl ⟨b, nm0, k1, k2⟩
          · cases h
        let Ab : Nat → Prop := fun k => ∃ c T nm b T0, lk c (R.mk x2.1 ++ M.mk x3.1) = some T ∧ ro' ≤ c ∧ ρc c = some nm ∧ nm.non = false ∧ k = nm.blk ∧ lkS c σ = some (.nm b) ∧ ρ b = some nm ∧ lk b mem = some T0 ∧ cx.ro ≤ b
        have mkAb : ∀ c T nm, lk c (R.mk x2.1 ++ M.mk x3.1) = some T → ro' ≤ c → ρc c = some nm → nm.non = false → Ab nm.blk := by
          intro c T nm hT hr hn z
          obtain ⟨hcn, hm, -⟩ := hL c T hT
          rcases hm with ⟨b, T0, q1, q2, -⟩ | ⟨te, q, q1, -⟩
          · exact ⟨c, T, nm, b, T0, hT, hr, hn, z, rfl, q1, by rw [← Ar c _ q1]; exact hn, q2, (ownOK_spec ho hcn hr q1).1⟩
          · have := Ar c _ q1
            rw [show rhoS w.heap.size ρ σ c = some nm from hn] at this
            rw [Option.some.inj this] at z; cases z
        have Aown : ∀ k, Ab k → w0.own k := by
          rintro k ⟨c, T, nm, b, T0, h1, h2, h3, h4, rfl, h6, h7, h8, h9⟩
          exact (S.own b T0 nm h8 h7 h9).1 h4
        let W : Base := ⟨w0.g, w, Ab, fun k => ∃ b nm o v, ρ b = some nm ∧ nm.K.K k o = some v, S.below.below, fun k hk => Base.own_ge (Aown k hk)⟩
        have SW : Sim P W ro' ρc [] (R.mk x2.1 ++ M.mk x3.1) #[] w := by
          refine ⟨S1.slot, S1.cell, fun c T nm hT hn hr => ⟨fun z => .inr (mkAb c T nm hT hr hn z), (S1.own c T nm hT hn hr).2⟩, S1.apart, S1.rows, Kept.refl _, ?_⟩
          have noI : ∀ c s p, lk c (R.mk x2.1 ++ M.mk x3.1) ≠ some (.itr s p) := fun c s p h => (hL c _ h).2.2 s p rfl
          refine ⟨S1.ex.froz, S1.ex.fhs, fun c nm h k o v hk => ?_, S1.ex.away, fun c s p h => (noI c s p h).elim, fun c s p nm h => (noI c s p h).elim, fun c c' s s' p p' nm nm' h => (noI c s p h).elim⟩
          rcases ρcK c nm h with ⟨b, nm0, h2, h3⟩ | h2
          · rw [h3] at hk; exact .inr ⟨b, nm0, o, v, h2, hk⟩
          · rw [h2] at hk; simp [nk] at hk
        have dom : ∀ c nm, ρc c = some nm → 32 ≤ c ∧ c < nh := by
          intro c nm h
          have : ∃ s, lkS c σ = some s := by
            simp only [ρc, rhoS] at h
            split at h
            · exact ⟨_, by assumption⟩
            · exact ⟨_, by assumption⟩
            · exact ⟨_, by assumption⟩
            · cases h
          obtain ⟨s, hs⟩ := this
          have := lkS_all hdom hs
          simp only [Bool.and_eq_true] at this
          exact ⟨Nat.le_of_ble_eq_true this.1, by simpa using this.2⟩
        have subA : SgSub x1.2 σ := b1.trans d1
        obtain ⟨e1, -, e3⟩ := a2.1 ρ ρc (Ar.sub subA) okv
        obtain ⟨k1, k2⟩ := hS (x1.1, x2.1, x3.1) y hF W rfl ρc w SW dom e1
        simp only at k1 k2
        rw [e3] at k1 k2
        refine ⟨k1, k2.mono ?_⟩
        rintro e w' ⟨a, ρ1, rfl, rfl, ok1, SS, kp⟩
        have KK := SS.below
        have hWw : W.w = w := rfl
        -- the names behind the call
        let ρ' : Rho := fun b => if b < nx then ρ b else if b - nx < nh then ρ1 (b - nx) else none
        have lt : ∀ b nm, ρ b = some nm → b < nx := by
          intro b nm h
          rcases Nat.lt_or_ge b nx with h' | h'
          · exact h'
          · rw [fr b h'] at h; cases h
        have xρ : Ext ρ ρ' := fun b nm h => by simp only [ρ', lt b nm h, if_true]; exact h
        let f := gSig σ K nx
        have new : ∀ c, c < nh → ρ' (nx + c) = ρ1 c := fun c hcl => by
          simp only [ρ', show ¬ nx + c < nx by omega, if_false, Nat.add_sub_cancel_left, hcl, if_true]
        -- what a name of the contract's is
        have fc : ∀ c, (∃ b T0 nm, f c = b ∧ c ∈ K ∧ lkS c σ = some (.nm b) ∧ lk b mem = some T0 ∧ ρ b = some nm ∧ ρ1 c = some nm ∧ ρ' b = some nm) ∨ f c = nx + c := by
          intro c
          simp only [f, gSig]
          split
          · rename_i b hb
            cases hq : hasN c K with
            | false => exact .inr rfl
            | true =>
              have hcK := hasN_iff.1 hq
              have hm := hasN_iff.1 (List.all_eq_true.1 c5 c hcK)
              have : ∃ T, lk c (R.mk x2.1 ++ M.mk x3.1) = some T := by
                rw [lk_app3]
                rcases List.mem_append.1 hm with h | h
                · obtain ⟨T, hT⟩ := Ent.lk_names R x2.1 c h
                  exact ⟨T, by rw [hT]⟩
                · obtain ⟨T, hT⟩ := Ent.lk_names M x3.1 c h
                  split
                  · exact ⟨_, rfl⟩
                  · exact ⟨T, hT⟩
              obtain ⟨T, hT⟩ := this
              obtain ⟨-, hmt, -⟩ := hL c T hT
              rcases hmt with ⟨_, T0, q1, q2, -⟩ | ⟨te, q, q1, -⟩
              · rw [hb] at q1; obtain ⟨rfl⟩ := q1
                obtain ⟨nm, g1, -⟩ := S.cell b T0 q2
                have : ρc c = some nm := by rw [show ρc c = ρ b from Ar c _ hb]; exact g1
                exact .inl ⟨b, T0, nm, rfl, hcK, hb, q2, g1, kp c hcK nm this, xρ b nm g1⟩
              · rw [hb] at q1; cases q1
          · exact .inr rfl
        have comp : Ext (Vx.cut ρ1 nh) (fun c => ρ' (f c)) := by
          intro c nm h
          unfold Vx.cut at h
          split at h
          · rename_i hcl
            rcases fc c with ⟨b, T0, nm', h1, -, -, -, -, h5, h6⟩ | h1
            · simp only [h1, h6]; rw [← h5]; exact h
            · simp only [h1]; rw [new c hcl]; exact h
          · cases h
        have E1 : ∀ u, nb nh u = true → OK P ρ1 u → OK P ρ' (rn f u) ∧ den P ρ' (rn f u) = den P ρ1 u := by
          intro u h1 h2
          have h3 := nb_ok P u h1 h2
          obtain ⟨q1, q2⟩ := den_ext P comp u h3
          obtain ⟨r1, r2⟩ := rn_den P ρ' f u
          exact ⟨r2.2 q2, r1.trans (q1.trans (den_ext P (cut_ext ρ1 nh) u h3).1.symm)⟩
        have E1c : ∀ u, nb nh u = true → OK P ρ1 u → cells P ρ' (rn f u) = cells P ρ1 u := fun u h1 h2 => by unfold cells; rw [(E1 u h1 h2).2]
        obtain ⟨v1, v2⟩ := E1 _ (Pt.low_nb B c1 y.1) ok1
        have hM' : ∀ c T1, lk c (M'.mk y.2) = some T1 → c < nh ∧ ro' ≤ c := fun c T1 hT => by
          have := List.all_eq_true.1 c3 c (Ent.names_lk M' y.2 c T1 hT)
          simp only [Bool.and_eq_true] at this
          exact ⟨by simpa using this.1, Nat.le_of_ble_eq_true this.2⟩
        have live : ∀ b T, lk b (mapN f (M'.mk y.2) ++ dropN (srcs σ M.names) mem) = some T → (∃ c T1, lk c (M'.mk y.2) = some T1 ∧ b = f c ∧ T = rn f T1) ∨ (b ∉ srcs σ M.names ∧ lk b mem = some T) := by
          intro b T hT
          rcases lk_app2 hT with h | ⟨-, h⟩
          · exact .inl (mapN_lk h)
          · obtain ⟨h1, h2⟩ := dropN_lk h
            exact .inr ⟨h2, h1⟩
        have atc : ∀ c nm, c < nh → ρ1 c = some nm → ρ' (f c) = some nm := fun c nm hcl h => comp c nm (by unfold Vx.cut; rw [if_pos hcl]; exact h)
        have atc' : ∀ c nm T1, lk c (M'.mk y.2) = some T1 → ρ' (f c) = some nm → ρ1 c = some nm := by
          intro c nm T1 hT h
          obtain ⟨nm', g1, -⟩ := SS.cell c T1 hT
          rw [atc c nm' (hM' c T1 hT).1 g1] at h
          rw [← h]; exact g1
        -- what is not handed over stays as it is
        have noAb : ∀ b T nm, b ∉ srcs σ M.names → lk b mem = some T → ρ b = some nm → nm.non = false → ¬ Ab nm.blk := by
          rintro b T nm hb hT hnm z ⟨c, T1, nm1, b1, T2, h1, h2, h3, h4, h5, h6, h7, h8, h9⟩
          have hcM : c ∈ M.names := by
            rcases lk_app2 h1 with h | ⟨-, h⟩
            · have := List.all_eq_true.1 c6 c (Ent.names_lk R x2.1 c T1 h)
              have : c < ro' := by simpa using this
              omega
            · exact Ent.names_lk M x3.1 c T1 h
          have hne : b1 ≠ b := fun e => hb (e ▸ srcs_spec hcM h6)
          exact S.apart b1 b T2 T nm1 nm h8 hT h7 hnm h9 hne h4 z h5.symm
        have same : ∀ b T nm, b ∉ srcs σ M.names → lk b mem = some T → ρ b = some nm → nm.non = false → nm.blk < w.heap.size → w'.heap[nm.blk]? = w.heap[nm.blk]? :=
          fun b T nm hb hT hnm z hlt => KK.block nm.blk hlt (noAb b T nm hb hT hnm z)
        have toρ : ∀ b T nm, lk b mem = some T → ρ' b = some nm → ρ b = some nm := by
          intro b T nm hT h
          obtain ⟨nm', h1, -⟩ := S.cell b T hT
          rw [xρ b nm' h1] at h
          rw [h1]; exact h
        have liv : ∀ b T nm, lk b mem = some T → ρ b = some nm → nm.non = false → nm.blk < w.heap.size := by
          intro b T nm hT hnm z
          obtain ⟨nm', g1, -, -, g4, -⟩ := S.cell b T hT
          rw [hnm] at g1
          obtain rfl := Option.some.inj g1
          rcases g4 with ⟨-, h⟩ | ⟨h, -⟩
          · exact h
          · rw [h] at z; cases z
        have ownW : ∀ c T1 nm, lk c (M'.mk y.2) = some T1 → ρ1 c = some nm → nm.non = false → w.heap.size ≤ nm.blk ∨ Ab nm.blk := fun c T1 nm hT hnm z => (SS.own c T1 nm hT hnm (hM' c T1 hT).2).1 z
        have cross : ∀ c T1 nm b T nm', lk c (M'.mk y.2) = some T1 → ρ1 c = some nm → nm.non = false → b ∉ srcs σ M.names → lk b mem = some T → ρ b = some nm' → nm'.non = false → nm.blk ≠ nm'.blk := by
          intro c T1 nm b T nm' hT hnm z hb hT' hnm' z' e
          rcases ownW c T1 nm hT hnm z with h | h
          · have := liv b T nm' hT' hnm' z'
            omega
          · rw [e] at h
            exact noAb b T nm' hb hT' hnm' z' h
        -- cells that nobody writes to, of the contract's: known to the caller, or the function's own
        have froz1 : ∀ c nm k o v, ρ1 c = some nm → nm.K.K k o = some v → (w.heap.size ≤ k ∨ Ab k) ∨ ∃ b nm o v, ρ b = some nm ∧ nm.K.K k o = some v := fun c nm k o v h hk => SS.ex.org c nm h k o v hk
        have cases' : ∀ b nm, ρ' b = some nm → ρ b = some nm ∨ ∃ c, ρ1 c = some nm := by
          intro b nm h
          simp only [ρ'] at h
          split at h
          · exact .inl h
          · split at h
            · exact .inr ⟨_, h⟩
            · cases h
        have noI : ∀ b s p, lk b mem ≠ some (.itr s p) := fun b s p => noItr_lk hit
        have noI' : ∀ b s p, lk b (mapN f (M'.mk y.2) ++ dropN (srcs σ M.names) mem) ≠ some (.itr s p) := by
          intro b s p h
          rcases live b _ h with ⟨c, T1, h1, -, h3⟩ | ⟨-, h⟩
          · cases T1 with
            | itr s' p' => exact Ent.nit_spec c7 y.2 c s' p' h1
            | _ => simp [rn] at h3
          · exact noI b s p h
        refine ⟨den P ρ1 (B.mk y.1), ρ', rfl, v2.symm, v1, ⟨fun d v h => by simp [lk] at h, ?_, ?_, ?_, ?_, ?_, ?_⟩, xρ, fun b hb => ?_⟩
        · intro b T hT
          rcases live b T hT with ⟨c, T1, h, rfl, rfl⟩ | ⟨hb, h⟩
          · obtain ⟨nm, g1, g2, g3, g4, g5⟩ := SS.cell c T1 h
            have hnb := Ent.low_nb M' c2 y.2 c T1 h
            have hce := E1c T1 hnb g3
            exact ⟨nm, atc c nm (hM' c T1 h).1 g1, rn_hasN P f nm T1 g2, (E1 T1 hnb g3).1, by rw [hce]; exact g4, fun j x hx => g5 j x (by rw [← hce]; exact hx)⟩
          · obtain ⟨nm, g1, g2, g3, g4, g5⟩ := S.cell b T h
            have hce := cells_ext P xρ T g3
            refine ⟨nm, xρ b nm g1, g2, (den_ext P xρ T g3).2, by rw [hce]; exact Liv.size g4 KK.size, fun j x hx => ?_⟩
            rw [hce] at hx
            rcases g4 with ⟨z1, z2⟩ | ⟨-, z2⟩
            · rw [World.cell?_of_block (same b T nm hb h g1 z1 z2)]; exact g5 j x hx
            · rw [z2] at hx; simp at hx
        · intro b T nm hT hnm hro
          rcases live b T hT with ⟨c, T1, h, rfl, rfl⟩ | ⟨hb, h⟩
          · have hnm := atc' c nm T1 h hnm
            obtain ⟨g1, g2⟩ := SS.own c T1 nm h hnm (hM' c T1 h).2
            obtain ⟨nm', -, -, g3, -⟩ := SS.cell c T1 h
            refine ⟨fun z => ?_, fun j hj => g2 j ?_⟩
            · rcases g1 z with q | q
              · exact .inl (Nat.le_trans S.below.size q)
              · exact Aown _ q
            · rw [E1c T1 (Ent.low_nb M' c2 y.2 c T1 h) g3] at hj; exact hj
          · have hnm := toρ b T nm h hnm
            obtain ⟨h1, h2⟩ := S.own b T nm h hnm hro
            obtain ⟨nm', g1, -, g3, g4, -⟩ := S.cell b T h
            rw [hnm] at g1
            obtain rfl := Option.some.inj g1
            refine ⟨h1, fun j hj => ?_⟩
            rw [cells_ext P xρ T g3] at hj
            rcases g4 with ⟨z1, z2⟩ | ⟨-, z2⟩
            · rw [World.frozen?_of_block (same b T nm hb h hnm z1 z2)]; exact h2 j hj
            · rw [z2] at hj; simp at hj
        · intro b b' T T' nm nm' hT hT' hnm hnm' hro hne z z'
          rcases live b T hT with ⟨c, T1, h, rfl, rfl⟩ | ⟨hb, h⟩
          · have hnm := atc' c nm T1 h hnm
            rcases live b' T' hT' with ⟨c', T1', h', rfl, rfl⟩ | ⟨hb', h'⟩
            · have hnm' := atc' c' nm' T1' h' hnm'
              exact SS.apart c c' T1 T1' nm nm' h h' hnm hnm' (hM' c T1 h).2 (fun e => hne (by rw [e])) z z'
            · exact cross c T1 nm b' T' nm' h hnm z hb' h' (toρ b' T' nm' h' hnm') z'
          · have hnm := toρ b T nm h hnm
            rcases live b' T' hT' with ⟨c', T1', h', rfl, rfl⟩ | ⟨hb', h'⟩
            · have hnm' := atc' c' nm' T1' h' hnm'
              exact (cross c' T1' nm' b T nm h' hnm' z' hb h hnm z).symm
            · exact S.apart b b' T T' nm nm' h h' hnm (toρ b' T' nm' h' hnm') hro hne z z'
        · intro b T nm hT hnm hro hr
          rcases live b T hT with ⟨c, T1, h, rfl, rfl⟩ | ⟨hb, h⟩
          · exact SS.rows c T1 nm h (atc' c nm T1 h hnm) (hM' c T1 h).2 hr
          · have hnm := toρ b T nm h hnm
            cases hq : nm.non with
            | true => exact .inl rfl
            | false =>
              rcases S.rows b T nm h hnm hro hr with z | z
              · rw [hq] at z; cases z
              · exact .inr (z.same (same b T nm hb h hnm hq z.lt))
        · exact S.below.step KK.os KK.tape KK.output KK.size fun k hk hno => KK.block k hk fun hA => hno (Aown k hA)
        · have old : ∀ b nm k o v, ρ b = some nm → nm.K.K k o = some v → k < w.heap.size ∧ w'.heap[k]? = w.heap[k]? := by
            intro b nm k o v h hk
            have hlt := cell_lt (S.ex.froz b nm h k o v hk)
            refine ⟨hlt, KK.block k hlt ?_⟩
            rintro ⟨c, T1, nm1, b1, T2, h1, h2, h3, h4, h5, h6, h7, h8, h9⟩
            exact S.ex.away b1 T2 nm1 h8 h7 h9 h4 b nm h k o v hk h5
          refine ⟨fun b nm h k o v hk => ?_, fun b nm h => ?_, fun b nm h k o v hk => ?_, fun b T nm hT hnm hro z b' nm' hnm' k o v hk => ?_, fun b s p h => (noI' b s p h).elim, fun b s p nm h => (noI' b s p h).elim, fun b b' s s' p p' nm nm' h => (noI' b s p h).elim⟩
          · rcases cases' b nm h with h | ⟨c, h⟩
            · rw [World.cell?_of_block (old b nm k o v h hk).2]; exact S.ex.froz b nm h k o v hk
            · exact SS.ex.froz c nm h k o v hk
          · rcases cases' b nm h with h | ⟨c, h⟩
            · exact Nat.le_trans (S.ex.fhs b nm h) KK.size
            · exact SS.ex.fhs c nm h
          · rcases cases' b nm h with h | ⟨c, h⟩
            · exact S.ex.org b nm h k o v hk
            · rcases froz1 c nm k o v h hk with (q | q) | ⟨b1, nm1, o1, v1, q1, q2⟩
              · exact .inl (.inl (Nat.le_trans S.below.size q))
              · exact .inl (Aown k q)
              · exact S.ex.org b1 nm1 q1 k o1 v1 q2
          · rcases live b T hT with ⟨c, T1, h, rfl, rfl⟩ | ⟨hb, h⟩
            · have hnm := atc' c nm T1 h hnm
              rcases cases' b' nm' hnm' with h' | ⟨c', h'⟩
              · intro e
                rcases ownW c T1 nm h hnm z with q | ⟨c2, T2, nm2, b2, T3, h1, h2, h3, h4, h5, h6, h7, h8, h9⟩
                · have := (old b' nm' k o v h' hk).1
                  omega
                · exact S.ex.away b2 T3 nm2 h8 h7 h9 h4 b' nm' h' k o v hk (e.trans h5)
              · exact SS.ex.away c T1 nm h hnm (hM' c T1 h).2 z c' nm' h' k o v hk
            · have hnm := toρ b T nm h hnm
              rcases cases' b' nm' hnm' with h' | ⟨c', h'⟩
              · exact S.ex.away b T nm h hnm hro z b' nm' h' k o v hk
              · intro e
                rcases froz1 c' nm' k o v h' hk with (q | q) | ⟨b1, nm1, o1, v1, q1, q2⟩
                · have := liv b T nm h hnm z
                  omega
                · rw [e] at q
                  exact noAb b T nm hb h hnm z q
                · exact S.ex.away b T nm h hnm hro z b1 nm1 q1 k o1 v1 q2 e
        · have h1 : ¬ b < nx := by omega
          have h2 : ¬ b - nx < nh := by omega
          simp only [ρ', h1, h2, if_false]
      · cases h
    · cases h
  · cases h

end Go.Vx
