/- The engine, part Pa: names of rows that have grown are read by the names of a loop's head. -/
import Derived.Test.YtoionfdfofmplaaVxP
set_option autoImplicit false
set_option linter.unusedVariables false
set_option linter.unusedSimpArgs false
namespace Go.Vx
open Go Go.RowKit

def notIn (b : Nat) : List Nat → Bool
  | [] => true
  | x :: l => !Nat.beq x b && notIn b l

theorem notIn_spec {b : Nat} : {l : List Nat} → notIn b l = true → b ∉ l
  | [], _ => by simp
  | x :: l, h => by
    simp only [notIn, Bool.and_eq_true, Bool.not_eq_true'] at h
    intro hb
    rcases List.mem_cons.1 hb with rfl | hb
    · have := h.1; simp at this
    · exact notIn_spec h.2 hb

theorem notIn_of {m b : Nat} : {dm : List Nat} → (∀ x ∈ dm, m ≤ x) → b < m → notIn b dm = true
  | [], _, _ => rfl
  | x :: l, h, hb => by
    simp only [notIn, Bool.and_eq_true, Bool.not_eq_true']
    refine ⟨?_, notIn_of (fun y hy => h y (by simp [hy])) hb⟩
    cases hq : Nat.beq x b with
    | false => rfl
    | true => have := beq_eq hq; have := h x (by simp); omega

mutual
/-- All names are below a bound. -/
def nb0 (m : Nat) : AV → Bool
  | .ptr b _ _ => Nat.blt b m
  | .sl b _ _ _ _ _ => Nat.blt b m
  | .gs b _ _ => Nat.blt b m
  | .gp b _ _ _ _ _ => Nat.blt b m
  | .dv b _ _ _ _ => Nat.blt b m
  | .dq b _ _ _ _ _ => Nat.blt b m
  | .itp b => Nat.blt b m
  | .pa b _ _ _ _ => Nat.blt b m
  | .clo _ l => nb0L m l
  | .ifc _ v => nb0 m v
  | .agg l => nb0L m l
  | .rows _ _ => false
  | .tup l => nb0L m l
  | _ => true
def nb0L (m : Nat) : List AV → Bool
  | [] => true
  | v :: l => nb0 m v && nb0L m l
end

mutual
/-- A value speaks of none of these names. -/
def off (dm : List Nat) : AV → Bool
  | .ptr b _ _ => notIn b dm
  | .sl b _ _ _ _ _ => notIn b dm
  | .gs b _ _ => notIn b dm
  | .gp b _ _ _ _ _ => notIn b dm
  | .dv b _ _ _ _ => notIn b dm
  | .dq b _ _ _ _ _ => notIn b dm
  | .itp b => notIn b dm
  | .pa b _ _ _ _ => notIn b dm
  | .clo _ l => offL dm l
  | .ifc _ v => off dm v
  | .agg l => offL dm l
  | .rows _ _ => false
  | .tup l => offL dm l
  | _ => true
def offL (dm : List Nat) : List AV → Bool
  | [] => true
  | v :: l => off dm v && offL dm l
end

/-- These names hidden. -/
def hide (ρ : Rho) (dm : List Nat) : Rho := fun b => if b ∈ dm then none else ρ b
theorem hide_ext (ρ : Rho) (dm : List Nat) : Ext (hide ρ dm) ρ := fun b nm h => by
  unfold hide at h
  split at h
  · simp at h
  · exact h

mutual
theorem off_ok (P : Program) {ρ : Rho} {dm : List Nat} : (v : AV) → off dm v = true → OK P ρ v → OK P (hide ρ dm) v
  | .int _ _, _, ok => by simpa [OK] using ok
  | .bool _, _, _ => by simp [OK]
  | .str _, _, ok => by simpa [OK] using ok
  | .ptr b p t, h, ok => by
    simp only [off] at h
    simp only [OK] at ok ⊢
    obtain ⟨nm, o, h1, h2⟩ := ok
    exact ⟨nm, o, by unfold hide; rw [if_neg (notIn_spec h)]; exact h1, h2⟩
  | .nilp, _, _ => by simp [OK]
  | .sl b _ _ _ _ _, h, ok => by
    simp only [off] at h
    simp only [OK] at ok ⊢
    obtain ⟨nm, o, n, h1, h2⟩ := ok
    exact ⟨nm, o, n, by unfold hide; rw [if_neg (notIn_spec h)]; exact h1, h2⟩
  | .nils, _, _ => by simp [OK]
  | .pa b _ _ _ _, h, ok => by
    simp only [off] at h
    simp only [OK] at ok ⊢
    obtain ⟨nm, o, n, h1, h2⟩ := ok
    exact ⟨nm, o, n, by unfold hide; rw [if_neg (notIn_spec h)]; exact h1, h2⟩
  | .gs b _ _, h, ok => by
    simp only [off] at h
    simp only [OK] at ok ⊢
    obtain ⟨nm, h1, h2⟩ := ok
    exact ⟨nm, by unfold hide; rw [if_neg (notIn_spec h)]; exact h1, h2⟩
  | .clo _ l, h, ok => by simp only [off] at h; simp only [OK] at ok ⊢; exact offL_ok P l h ok
  | .nilfn, _, _ => by simp [OK]
  | .nilif, _, _ => by simp [OK]
  | .ifc _ v, h, ok => by simp only [off] at h; simp only [OK] at ok ⊢; exact off_ok P v h ok
  | .ints _ _ _, _, ok => by simpa [OK] using ok
  | .agg l, h, ok => by simp only [off] at h; simp only [OK] at ok ⊢; exact offL_ok P l h ok
  | .rows _ _, h, _ => by simp [off] at h
  | .tup l, h, ok => by simp only [off] at h; simp only [OK] at ok ⊢; exact offL_ok P l h ok
  | .vec _ _, _, ok => by simpa [OK] using ok
  | .gp b _ _ _ _ _, h, ok => by
    simp only [off] at h
    simp only [OK] at ok ⊢
    obtain ⟨nm, h1, h2⟩ := ok
    exact ⟨nm, by unfold hide; rw [if_neg (notIn_spec h)]; exact h1, h2⟩
  | .dv b _ _ _ _, h, ok => by
    simp only [off] at h
    simp only [OK] at ok ⊢
    obtain ⟨nm, l, h1, h2⟩ := ok
    exact ⟨nm, l, by unfold hide; rw [if_neg (notIn_spec h)]; exact h1, h2⟩
  | .dq b _ _ _ _ _, h, ok => by
    simp only [off] at h
    simp only [OK] at ok ⊢
    obtain ⟨nm, b', o', c, h1, h2⟩ := ok
    exact ⟨nm, b', o', c, by unfold hide; rw [if_neg (notIn_spec h)]; exact h1, h2⟩
  | .dc _ _, _, _ => by simp [OK]
  | .itr _ _, _, ok => by simpa [OK] using ok
  | .itp b, h, ok => by
    simp only [off] at h
    simp only [OK] at ok ⊢
    obtain ⟨nm, h1⟩ := ok
    exact ⟨nm, by unfold hide; rw [if_neg (notIn_spec h)]; exact h1⟩
theorem offL_ok (P : Program) {ρ : Rho} {dm : List Nat} : (l : List AV) → offL dm l = true → OKL P ρ l → OKL P (hide ρ dm) l
  | [], _, _ => by simp [OKL]
  | v :: l, h, ok => by
    simp only [offL, Bool.and_eq_true] at h
    simp only [OKL] at ok ⊢
    exact ⟨off_ok P v h.1 ok.1, offL_ok P l h.2 ok.2⟩
end

theorem off_den (P : Program) {ρ ρ' : Rho} {dm : List Nat} {v : AV} (h : off dm v = true) (ok : OK P ρ v) (he : ∀ b, b ∉ dm → ρ' b = ρ b) : den P ρ' v = den P ρ v ∧ OK P ρ' v := by
  have h0 := off_ok P v h ok
  have e' : Ext (hide ρ dm) ρ' := fun b nm hb => by
    unfold hide at hb
    split at hb
    · simp at hb
    · rename_i hn; rw [he b hn]; exact hb
  obtain ⟨a1, -⟩ := den_ext P (hide_ext ρ dm) v h0
  obtain ⟨b1, b2⟩ := den_ext P e' v h0
  exact ⟨b1.trans a1.symm, b2⟩

theorem off_cells (P : Program) {ρ ρ' : Rho} {dm : List Nat} {v : AV} (h : off dm v = true) (ok : OK P ρ v) (he : ∀ b, b ∉ dm → ρ' b = ρ b) : cells P ρ' v = cells P ρ v := by
  unfold cells; rw [(off_den P h ok he).1]

mutual
theorem nb_off {m : Nat} {dm : List Nat} (hd : ∀ x ∈ dm, m ≤ x) : (v : AV) → nb0 m v = true → off dm v = true
  | .int _ _, _ => rfl
  | .bool _, _ => rfl
  | .str _, _ => rfl
  | .ptr b _ _, h => by simp only [nb0] at h; exact notIn_of hd (by simpa using h)
  | .nilp, _ => rfl
  | .sl b _ _ _ _ _, h => by simp only [nb0] at h; exact notIn_of hd (by simpa using h)
  | .nils, _ => rfl
  | .pa b _ _ _ _, h => by simp only [nb0] at h; exact notIn_of hd (by simpa using h)
  | .gs b _ _, h => by simp only [nb0] at h; exact notIn_of hd (by simpa using h)
  | .clo _ l, h => by simp only [nb0] at h; simp only [off]; exact nb_offL hd l h
  | .nilfn, _ => rfl
  | .nilif, _ => rfl
  | .ifc _ v, h => by simp only [nb0] at h; simp only [off]; exact nb_off hd v h
  | .ints _ _ _, _ => rfl
  | .agg l, h => by simp only [nb0] at h; simp only [off]; exact nb_offL hd l h
  | .rows _ _, h => by simp [nb0] at h
  | .tup l, h => by simp only [nb0] at h; simp only [off]; exact nb_offL hd l h
  | .vec _ _, _ => rfl
  | .gp b _ _ _ _ _, h => by simp only [nb0] at h; exact notIn_of hd (by simpa using h)
  | .dv b _ _ _ _, h => by simp only [nb0] at h; exact notIn_of hd (by simpa using h)
  | .dq b _ _ _ _ _, h => by simp only [nb0] at h; exact notIn_of hd (by simpa using h)
  | .dc _ _, _ => rfl
  | .itr _ _, _ => rfl
  | .itp b, h => by simp only [nb0] at h; exact notIn_of hd (by simpa using h)
theorem nb_offL {m : Nat} {dm : List Nat} (hd : ∀ x ∈ dm, m ≤ x) : (l : List AV) → nb0L m l = true → offL dm l = true
  | [], _ => rfl
  | v :: l, h => by
    simp only [nb0L, Bool.and_eq_true] at h
    simp only [offL, Bool.and_eq_true]
    exact ⟨nb_off hd v h.1, nb_offL hd l h.2⟩
end

/-- What a row is made of: numbers of a kind, or data of a code. -/
inductive Rk where
  | int (k : IntKind)
  | code (c : Tc)
def Rk.T : Rk → AV
  | .int k => .ints k 0 []
  | .code c => .vec c []
def Rk.ok (P : Program) (t : TypeId) : Rk → Bool
  | .int k => (match P.underlying t with | some (.int k') => kEq k k' | _ => false) && Nat.beq (P.cellsOf t) 1
  | .code c => c.fit P t
theorem Rk.T_spec (P : Program) (ρ : Rho) (q : Rk) : OK P ρ q.T ∧ cells P ρ q.T = [] := by
  cases q with
  | int k => exact ⟨by simp [Rk.T, OK], by rw [Rk.T, cells_ints]; rfl⟩
  | code c => exact ⟨by simp [Rk.T, OK], by rw [Rk.T, cells_vec]; rfl⟩
theorem Rk.has {P : Program} {t : TypeId} {q : Rk} (h : q.ok P t = true) (hs : Nat) : HasN P ⟨hs, 0, 0, t, true, 0, true, nk⟩ q.T := by
  cases q with
  | int k =>
    simp only [Rk.ok, Bool.and_eq_true] at h
    simp only [Rk.T, HasN, if_true]
    refine ⟨trivial, ?_, beq_eq h.2⟩
    have h3 := h.1
    split at h3
    · rename_i k' hk'
      rw [hk', kEq_eq h3]
    · cases h3
  | code c =>
    simp only [Rk.T, HasN, if_true]
    exact ⟨rfl, h⟩

/-- A value is known under other names: it speaks of none of them, or is a row of its own, or a nil row. -/
def RenV (ρ ρ' : Rho) (dm : List Nat) (hs : Nat) (v v' : AV) : Prop :=
  (v' = v ∧ off dm v = true) ∨ (∃ b c n t, v' = .gs b n t ∧ v = .gs c n t ∧ ρ' b = ρ c) ∨ (∃ b t, v' = .gs b 0 t ∧ v = .nils ∧ ρ' b = some ⟨hs, 0, 0, t, true, 0, true, nk⟩)
def RenL (ρ ρ' : Rho) (dm : List Nat) (hs : Nat) : List AV → List AV → Prop
  | [], [] => True
  | v :: l, v' :: l' => RenV ρ ρ' dm hs v v' ∧ RenL ρ ρ' dm hs l l'
  | _, _ => False
/-- What a stretch holds, under other names. -/
def RenT (ρ ρ' : Rho) (dm : List Nat) (hs : Nat) (T T' : AV) : Prop :=
  (T' = T ∧ off dm T = true) ∨ ∃ l l', T = .agg l ∧ T' = .agg l' ∧ RenL ρ ρ' dm hs l l'

theorem RenV.spec {P : Program} {ρ ρ' : Rho} {dm : List Nat} {hs : Nat} {v v' : AV} (h : RenV ρ ρ' dm hs v v') (ok : OK P ρ v) (he : ∀ b, b ∉ dm → ρ' b = ρ b) : den P ρ' v' = den P ρ v ∧ OK P ρ' v' ∧ ∀ t, Has P v t → Has P v' t := by
  rcases h with ⟨rfl, ho⟩ | ⟨b, c, n, t, rfl, rfl, e⟩ | ⟨b, t, rfl, rfl, e⟩
  · obtain ⟨k1, k2⟩ := off_den P ho ok he
    exact ⟨k1, k2, fun _ h => h⟩
  · simp only [OK] at ok ⊢
    obtain ⟨nm, q1, q2⟩ := ok
    exact ⟨by simp [den, e, q1], ⟨nm, by rw [e]; exact q1, q2⟩, fun _ h => by simpa only [Has] using h⟩
  · refine ⟨by simp [den, e, gsV], ?_, fun _ h => by simpa only [Has] using h⟩
    simp only [OK]
    exact ⟨_, e, rfl, rfl, rfl, Nat.le_refl _, fun _ => trivial, by show ((0 : Nat) : Int) ≤ 9223372036854775807; decide⟩
theorem RenL.spec {P : Program} {ρ ρ' : Rho} {dm : List Nat} {hs : Nat} (he : ∀ b, b ∉ dm → ρ' b = ρ b) : {l l' : List AV} → RenL ρ ρ' dm hs l l' → OKL P ρ l → denC P ρ' l' = denC P ρ l ∧ OKL P ρ' l' ∧ (∀ fs o s, HasF P l fs o s → HasF P l' fs o s) ∧ (∀ e, HasA P l e → HasA P l' e) ∧ l'.length = l.length
  | [], [], _, _ => ⟨rfl, trivial, fun fs o s h => h, fun e h => h, rfl⟩
  | v :: l, v' :: l', h, ok => by
    obtain ⟨h1, h2, h3⟩ := h.1.spec ok.1 he
    obtain ⟨k1, k2, k3, k4, k5⟩ := RenL.spec he h.2 ok.2
    refine ⟨by simp only [denC, h1, k1], ⟨h2, k2⟩, ?_, ?_, by simp [k5]⟩
    · intro fs o s hf
      cases fs with
      | nil => simp [HasF] at hf
      | cons f fs =>
        simp only [HasF] at hf ⊢
        exact ⟨hf.1, h3 _ hf.2.1, k3 _ _ _ hf.2.2⟩
    · intro e hf
      simp only [HasA] at hf ⊢
      exact ⟨h3 _ hf.1, k4 _ hf.2⟩
theorem RenT.spec {P : Program} {ρ ρ' : Rho} {dm : List Nat} {hs : Nat} {T T' : AV} (h : RenT ρ ρ' dm hs T T') (ok : OK P ρ T) (he : ∀ b, b ∉ dm → ρ' b = ρ b) : cells P ρ' T' = cells P ρ T ∧ OK P ρ' T' ∧ ∀ nm, HasN P nm T → HasN P nm T' := by
  rcases h with ⟨rfl, ho⟩ | ⟨l, l', rfl, rfl, h⟩
  · exact ⟨off_cells P ho ok he, (off_den P ho ok he).2, fun _ h => h⟩
  · simp only [OK] at ok
    obtain ⟨k1, k2, k3, k4, k5⟩ := RenL.spec he h ok
    refine ⟨by rw [cells_agg, cells_agg, k1], by simpa only [OK] using k2, fun nm hn => ?_⟩
    unfold HasN at hn ⊢
    split at hn
    · rename_i hr
      rw [if_pos hr]
      simp only at hn ⊢
      exact ⟨by rw [k5]; exact hn.1, k4 _ hn.2⟩
    · rename_i hr
      rw [if_neg hr]
      simp only [Has] at hn ⊢
      rcases hn with ⟨fs, h1, h2⟩ | ⟨n, e, h1, h2, h3, h4⟩
      · exact .inl ⟨fs, h1, k3 _ _ _ h2⟩
      · exact .inr ⟨n, e, h1, by rw [k5]; exact h2, k4 _ h3, h4⟩

/-- A state is known under other names: each slot and each stretch of the new one is one of the old one, or a nil row. -/
structure Renamed (P : Program) (ro : Nat) (ρ ρ' : Rho) (dm : List Nat) (st st' : St) (hs : Nat) (src : Nat → Option Nat) : Prop where
  same : ∀ b, b ∉ dm → ρ' b = ρ b
  slot : ∀ d v', lk d st'.tm = some v' → ∃ v, lk d st.tm = some v ∧ RenV ρ ρ' dm hs v v'
  mem : ∀ b T, lk b st'.mem = some T → (∃ c T0, src b = some c ∧ lk c st.mem = some T0 ∧ ρ' b = ρ c ∧ RenT ρ ρ' dm hs T0 T ∧ (ro ≤ b → ro ≤ c)) ∨
    (src b = none ∧ ∃ t q, T = Rk.T q ∧ ρ' b = some ⟨hs, 0, 0, t, true, 0, true, nk⟩ ∧ q.ok P t = true)
  inj : ∀ b b' T T' c, lk b st'.mem = some T → lk b' st'.mem = some T' → src b = some c → src b' = some c → b = b'
  nx : st'.nx = st.nx
  low : ∀ b ∈ dm, b < st.nx
  val : ∀ b nm, ρ' b = some nm → (∃ c, ρ c = some nm) ∨ nm.K = nk

theorem In.renamed {P : Program} {cx : Cx} {w0 : Base} {ρ ρ' : Rho} {dm : List Nat} {st st' : St} {a : Act} {w : World} {src : Nat → Option Nat} (I : In P cx w0 ρ st a w) (R : Renamed P cx.ro ρ ρ' dm st st' w.heap.size src)
    (hgl : ∀ g v, cx.gl g = some v → off dm v = true) : In P cx w0 ρ' st' a w := by
  have S := I.sim
  have E1 : Exs w0 cx.ro ρ' st'.mem w := by
    refine S.ex.ren (src := src) R.val (fun b T hT => ?_) R.inj
    rcases R.mem b T hT with ⟨c, T0, h0, h1, h2, h3, h4⟩ | ⟨-, t, q, rfl, h2, -⟩
    · refine .inl ⟨c, T0, h0, h1, h2, h4, ?_⟩
      rcases h3 with ⟨rfl, -⟩ | ⟨l, l', -, rfl, -⟩
      · exact .inl rfl
      · exact .inr fun s p e => by cases e
    · exact .inr ⟨fun s p e => by (cases q <;> cases e), _, h2, rfl⟩
  refine ⟨⟨?_, ?_, ?_, ?_, ?_, S.below, E1⟩, ?_, I.nt, ?_, I.df⟩
  · intro d v' hd
    obtain ⟨v, hv, h⟩ := R.slot d v' hd
    obtain ⟨h1, h2, h3⟩ := S.slot d v hv
    refine ⟨h1, ?_⟩
    obtain ⟨k1, k2, -⟩ := h.spec h3 R.same
    exact ⟨by rw [h2, k1], k2⟩
  · intro b T hT
    rcases R.mem b T hT with ⟨c, T0, -, h1, h2, h3, -⟩ | ⟨-, t, q, rfl, h2, h3⟩
    · obtain ⟨nm, q1, q2, q3, q4, q5⟩ := S.cell c T0 h1
      obtain ⟨hc, k2, kh⟩ := h3.spec q3 R.same
      exact ⟨nm, by rw [h2]; exact q1, kh _ q2, k2, by rw [hc]; exact q4, fun j x hx => q5 j x (by rw [← hc]; exact hx)⟩
    · have hq := Rk.T_spec P ρ' q
      exact ⟨_, h2, Rk.has h3 _, hq.1, .inr ⟨rfl, hq.2⟩, fun j x hx => by rw [hq.2] at hx; simp at hx⟩
  · intro b T nm hT hnm hro
    rcases R.mem b T hT with ⟨c, T0, -, h1, h2, h3, h4⟩ | ⟨-, t, q, rfl, h2, -⟩
    · rw [h2] at hnm
      obtain ⟨q1, q2⟩ := S.own c T0 nm h1 hnm (h4 hro)
      obtain ⟨nm', g1, -, g3, -⟩ := S.cell c T0 h1
      exact ⟨q1, fun j hj => q2 j (by rw [(h3.spec g3 R.same).1] at hj; exact hj)⟩
    · rw [h2] at hnm
      obtain rfl := Option.some.inj hnm
      exact ⟨fun _ => .inl S.below.size, fun j hj => by rw [(Rk.T_spec P ρ' q).2] at hj; simp at hj⟩
  · intro b b' T T' nm nm' hT hT' hnm hnm' hro hne z1 z2
    rcases R.mem b T hT with ⟨c, T0, s1, h1, h2, h3, h4⟩ | ⟨-, t, q, rfl, h2, -⟩
    · rcases R.mem b' T' hT' with ⟨c', T0', s1', h1', h2', -, -⟩ | ⟨-, t, q, rfl, h2', -⟩
      · rw [h2] at hnm
        rw [h2'] at hnm'
        refine S.apart c c' T0 T0' nm nm' h1 h1' hnm hnm' (h4 hro) (fun hcc => ?_) z1 z2
        subst hcc
        exact hne (R.inj b b' T T' c hT hT' s1 s1')
      · rw [h2'] at hnm'
        obtain rfl := Option.some.inj hnm'
        cases z2
    · rw [h2] at hnm
      obtain rfl := Option.some.inj hnm
      cases z1
  · intro b T nm hT hnm hro hr
    rcases R.mem b T hT with ⟨c, T0, -, h1, h2, h3, h4⟩ | ⟨-, t, q, rfl, h2, -⟩
    · rw [h2] at hnm
      exact S.rows c T0 nm h1 hnm (h4 hro) hr
    · rw [h2] at hnm
      obtain rfl := Option.some.inj hnm
      exact .inl rfl
  · intro b hb
    rw [R.nx] at hb
    have hn : b ∉ dm := fun h => by have := R.low b h; omega
    rw [R.same b hn]
    exact I.fresh b hb
  · intro g v hg
    obtain ⟨h1, h2⟩ := I.gl g v hg
    obtain ⟨k1, k2⟩ := off_den P (hgl g v hg) h2 R.same
    exact ⟨by rw [k1]; exact h1, k2⟩

/-- A slot that holds all of a row, the row's name at the loop's head, its elements' type. -/
abbrev Gl := List (Nat × Nat × TypeId)
def Gl.byD : Gl → Nat → Option (Nat × TypeId)
  | [], _ => none
  | x :: l, e => cond (Nat.beq x.1 e) (some x.2) (Gl.byD l e)
def Gl.byB : Gl → Nat → Option (Nat × TypeId)
  | [], _ => none
  | x :: l, b => cond (Nat.beq x.2.1 b) (some (x.1, x.2.2)) (Gl.byB l b)

/-- What lies at a place: a slot, or (from 1048576 on) a field of what a stretch holds. -/
def posV (tm mem : List (Nat × AV)) (e : Nat) : Option AV :=
  cond (Nat.blt e 1048576) (lk e tm) (match lk ((e - 1048576) / 64) mem with
    | some (.agg l) => l[(e - 1048576) % 64]?
    | _ => none)

/-- The name that a row has now; none: nil. -/
def srcN (l : Gl) (tm mem : List (Nat × AV)) (b : Nat) : Option Nat :=
  match Gl.byB l b with
  | some (d, _) => match posV tm mem d with
    | some (.gs c _ _) => some c
    | _ => none
  | none => some b

def renV (l : Gl) (tm mem : List (Nat × AV)) (dm : List Nat) (e : Nat) (v : AV) : Option AV :=
  match Gl.byD l e with
  | some (b, te) => match v with
    | .gs c n t => match srcN l tm mem b with
      | some c' => cond (Nat.beq c c' && Nat.beq t te) (some (.gs b n t)) none
      | none => none
    | .nils => match srcN l tm mem b, Gl.byB l b with
      | none, some (_, t) => some (.gs b 0 t)
      | _, _ => none
    | _ => none
  | none => cond (off dm v) (some v) none
def renFs (l : Gl) (tm mem : List (Nat × AV)) (dm : List Nat) : Nat → List AV → Option (List AV)
  | _, [] => some []
  | e, v :: r => match renV l tm mem dm e v with
    | some v' => match renFs l tm mem dm (e + 1) r with
      | some r' => some (v' :: r')
      | none => none
    | none => none

def tmR (l : Gl) (tm mem : List (Nat × AV)) (dm : List Nat) (e : Nat) : Option AV :=
  match lk e tm with
  | some v => renV l tm mem dm e v
  | none => none

/-- Are there places among the fields of that stretch? -/
def Gl.hasF : Gl → Nat → Bool
  | [], _ => false
  | x :: l, c => (Nat.ble 1048576 x.1 && Nat.beq ((x.1 - 1048576) / 64) c) || Gl.hasF l c

def renT (l : Gl) (tm mem : List (Nat × AV)) (dm : List Nat) (c : Nat) (T : AV) : Option AV :=
  cond (l.hasF c) (match T with
    | .agg fs => match renFs l tm mem dm (1048576 + 64 * c) fs with
      | some fs' => some (.agg fs')
      | none => none
    | _ => none) (cond (off dm T) (some T) none)

def memR (l : Gl) (tm mem : List (Nat × AV)) (dm : List Nat) (kd : Nat → Option Rk) (b : Nat) : Option AV :=
  match srcN l tm mem b with
  | some c => match lk c mem with
    | some T => renT l tm mem dm c T
    | none => none
  | none => match kd b with
    | some k => some k.T
    | none => none

def pick (f : Nat → Option AV) : List Nat → List (Nat × AV)
  | [] => []
  | e :: l => match f e with
    | some v => (e, v) :: pick f l
    | none => pick f l

theorem pick_lk {f : Nat → Option AV} {d : Nat} {v : AV} : {l : List Nat} → lk d (pick f l) = some v → f d = some v ∧ d ∈ l
  | [], h => by simp [pick, lk] at h
  | e :: l, h => by
    rw [pick] at h
    split at h
    · rename_i u hu
      by_cases he : e = d
      · subst he
        rw [lk_cons_self] at h
        exact ⟨by rw [hu]; exact h, by simp⟩
      · rw [lk_cons_ne he] at h
        obtain ⟨h1, h2⟩ := pick_lk h
        exact ⟨h1, by simp [h2]⟩
    · obtain ⟨h1, h2⟩ := pick_lk h
      exact ⟨h1, by simp [h2]⟩

/-- No two of the names have one source. -/
def noTwo (f : Nat → Option Nat) : List Nat → Bool
  | [] => true
  | b :: l => (match f b with
    | some c => l.all fun b' => Nat.beq b b' || (match f b' with | some c' => !Nat.beq c c' | none => true)
    | none => true) && noTwo f l

theorem noTwo_spec {f : Nat → Option Nat} : {l : List Nat} → noTwo f l = true → ∀ b b' c, b ∈ l → b' ∈ l → f b = some c → f b' = some c → b = b'
  | [], _, b, _, _, hb, _, _, _ => by simp at hb
  | x :: l, h, b, b', c, hb, hb', h1, h2 => by
    simp only [noTwo, Bool.and_eq_true] at h
    obtain ⟨ha, hl⟩ := h
    have key : ∀ y, y ∈ l → f x = some c → f y = some c → x = y := by
      intro y hy hx hyc
      rw [hx] at ha
      simp only [List.all_eq_true, Bool.or_eq_true] at ha
      rcases ha y hy with h | h
      · exact beq_eq h
      · rw [hyc] at h; simp at h
    rcases List.mem_cons.1 hb with e | hb2
    · rcases List.mem_cons.1 hb' with e' | hb2'
      · rw [e, e']
      · rw [e] at h1 ⊢
        exact key b' hb2' h1 h2
    · rcases List.mem_cons.1 hb' with e' | hb2'
      · rw [e'] at h2 ⊢
        exact (key b hb2 h2 h1).symm
      · exact noTwo_spec hl b b' c hb2 hb2' h1 h2

theorem byB_mem {l : Gl} {b : Nat} {x : Nat × TypeId} (h : Gl.byB l b = some x) : b ∈ l.map (·.2.1) ∧ (x.1, b, x.2) ∈ l := by
  induction l with
  | nil => simp [Gl.byB] at h
  | cons y l ih =>
    rw [Gl.byB] at h
    cases hq : Nat.beq y.2.1 b with
    | true =>
      rw [hq] at h
      simp only [cond_true, Option.some.injEq] at h
      subst h
      have := beq_eq hq
      subst this
      exact ⟨by simp, by simp⟩
    | false =>
      rw [hq] at h
      obtain ⟨h1, h2⟩ := ih h
      exact ⟨by simp only [List.map_cons, List.mem_cons]; exact .inr h1, by simp [h2]⟩
/-- The state by the head's names. -/
def normS (l : Gl) (ds bs : List Nat) (kd : Nat → Option Rk) (nx : Nat) (st : St) : Option St :=
  match l with
  | [] => some st
  | l => cond (noTwo (srcN l st.tm st.mem) bs && l.all fun x => Nat.blt x.2.1 st.nx && (match srcN l st.tm st.mem x.2.1 with | some c => Nat.beq c x.2.1 || Nat.ble nx c | none => true))
      (some { tm := pick (tmR l st.tm st.mem (l.map (·.2.1))) ds, mem := pick (memR l st.tm st.mem (l.map (·.2.1)) kd) bs, nx := st.nx }) none

/-- The types of the rows. -/
def tyOK (P : Program) (l : Gl) (kd : Nat → Option Rk) : Bool :=
  l.all fun x => match kd x.2.1 with
    | some k => k.ok P x.2.2
    | none => true

theorem In.norm {P : Program} {cx : Cx} {w0 : Base} {ρ : Rho} {st st' : St} {a : Act} {w : World} (I : In P cx w0 ρ st a w) {l : Gl} {ds bs : List Nat} {kd : Nat → Option Rk} {nx : Nat} (h : normS l ds bs kd nx st = some st')
    (hty : tyOK P l kd = true) (hro : cx.ro ≤ nx) (hdm : ∀ x ∈ l, cx.ro ≤ x.2.1) (hgl : ∀ g v, cx.gl g = some v → off (l.map (·.2.1)) v = true) : ∃ ρ', In P cx w0 ρ' st' a w ∧ ∀ b, b ∉ l.map (·.2.1) → ρ' b = ρ b := by
  unfold normS at h
  split at h
  · simp only [Option.some.injEq] at h
    subst h
    exact ⟨ρ, I, fun _ _ => rfl⟩
  · obtain ⟨hc, h⟩ := cond_some h
    simp only [Option.some.injEq] at h
    subst h
    simp only [Bool.and_eq_true] at hc
    obtain ⟨hc1, hc2⟩ := hc
    have hc3 := List.all_eq_true.1 hc2
    let ρ' : Rho := fun b => match Gl.byB l b with
      | some (_, t) => (match srcN l st.tm st.mem b with
        | some c => ρ c
        | none => some ⟨w.heap.size, 0, 0, t, true, 0, true, nk⟩)
      | none => ρ b
    have same : ∀ b, b ∉ l.map (·.2.1) → ρ' b = ρ b := by
      intro b hb
      show (match Gl.byB l b with | some (_, t) => _ | none => ρ b) = ρ b
      cases hq : Gl.byB l b with
      | none => rfl
      | some x => exact absurd (byB_mem hq).1 hb
    have rsrc : ∀ b c, srcN l st.tm st.mem b = some c → ρ' b = ρ c := by
      intro b c hs
      show (match Gl.byB l b with | some (_, t) => _ | none => ρ b) = ρ c
      cases hq : Gl.byB l b with
      | none =>
        unfold srcN at hs
        rw [hq] at hs
        simp only [Option.some.injEq] at hs
        rw [hs]
      | some x => simp only [hs]
    have val : ∀ b nm, ρ' b = some nm → (∃ c, ρ c = some nm) ∨ nm.K = nk := by
      intro b nm hb
      have hb : (match Gl.byB l b with | some (_, t) => (match srcN l st.tm st.mem b with | some c => ρ c | none => some (⟨w.heap.size, 0, 0, t, true, 0, true, nk⟩ : Nm)) | none => ρ b) = some nm := hb
      split at hb
      · split at hb
        · exact .inl ⟨_, hb⟩
        · exact .inr (by rw [← Option.some.inj hb])
      · exact .inl ⟨_, hb⟩
    have ren : ∀ {e : Nat} {v v' : AV}, renV l st.tm st.mem (l.map (·.2.1)) e v = some v' → RenV ρ ρ' (l.map (·.2.1)) w.heap.size v v' := by
      intro e v v' h1
      unfold renV at h1
      split at h1
      · rename_i b te hb
        split at h1
        · rename_i c n t
          split at h1
          · rename_i c' hs
            obtain ⟨hcc, h1⟩ := cond_some h1
            simp only [Bool.and_eq_true] at hcc
            simp only [Option.some.injEq] at h1
            subst h1
            have := beq_eq hcc.1
            subst this
            exact .inr (.inl ⟨b, _, n, t, rfl, rfl, rsrc b _ hs⟩)
          · simp at h1
        · split at h1
          · rename_i d' t hs hbb
            simp only [Option.some.injEq] at h1
            subst h1
            refine .inr (.inr ⟨b, _, rfl, rfl, ?_⟩)
            show (match Gl.byB l b with | some (_, t) => _ | none => ρ b) = _
            rw [hbb]
            simp only [hs]
          · simp at h1
        · simp at h1
      · obtain ⟨ho, h1⟩ := cond_some h1
        simp only [Option.some.injEq] at h1
        subst h1
        exact .inl ⟨rfl, ho⟩
    have renL : ∀ (fs : List AV) (e : Nat) (fs' : List AV), renFs l st.tm st.mem (l.map (·.2.1)) e fs = some fs' → RenL ρ ρ' (l.map (·.2.1)) w.heap.size fs fs' := by
      intro fs
      induction fs with
      | nil =>
        intro e fs' h1
        simp only [renFs, Option.some.injEq] at h1
        subst h1
        trivial
      | cons v fs ih =>
        intro e fs' h1
        simp only [renFs] at h1
        split at h1
        · rename_i v' hv
          split at h1
          · rename_i r' hr
            simp only [Option.some.injEq] at h1
            subst h1
            exact ⟨ren hv, ih _ _ hr⟩
          · simp at h1
        · simp at h1
    have renTs : ∀ {c : Nat} {T T' : AV}, renT l st.tm st.mem (l.map (·.2.1)) c T = some T' → RenT ρ ρ' (l.map (·.2.1)) w.heap.size T T' := by
      intro c T T' h1
      unfold renT at h1
      cases hf : l.hasF c with
      | true =>
        rw [hf, cond_true] at h1
        split at h1
        · rename_i fs
          split at h1
          · rename_i fs' hr
            simp only [Option.some.injEq] at h1
            subst h1
            exact .inr ⟨fs, fs', rfl, rfl, renL _ _ _ hr⟩
          · simp at h1
        · simp at h1
      | false =>
        rw [hf, cond_false] at h1
        obtain ⟨ho, h1⟩ := cond_some h1
        simp only [Option.some.injEq] at h1
        subst h1
        exact .inl ⟨rfl, ho⟩
    refine ⟨ρ', I.renamed (src := srcN l st.tm st.mem) (dm := l.map (·.2.1)) ⟨same, ?_, ?_, ?_, rfl, ?_, val⟩ hgl, same⟩
    · intro d v' hd
      obtain ⟨h1, -⟩ := pick_lk hd
      unfold tmR at h1
      split at h1
      · rename_i v hv
        exact ⟨v, hv, ren h1⟩
      · simp at h1
    · intro b T hT
      obtain ⟨h1, -⟩ := pick_lk hT
      unfold memR at h1
      split at h1
      · rename_i c hs
        split at h1
        · rename_i T' hT'
          refine .inl ⟨c, T', hs, hT', rsrc b c hs, renTs h1, fun hb => ?_⟩
          cases hq : Gl.byB l b with
          | none =>
            unfold srcN at hs
            rw [hq] at hs
            simp only [Option.some.injEq] at hs
            omega
          | some x =>
            have := hc3 _ (byB_mem hq).2
            simp only [Bool.and_eq_true] at this
            have h2 := this.2
            rw [hs] at h2
            simp only [Bool.or_eq_true] at h2
            rcases h2 with h2 | h2
            · rw [beq_eq h2]; exact hb
            · have := Nat.le_of_ble_eq_true h2; omega
        · simp at h1
      · rename_i hs
        split at h1
        · rename_i k hk
          simp only [Option.some.injEq] at h1
          subst h1
          cases hq : Gl.byB l b with
          | none => unfold srcN at hs; rw [hq] at hs; simp at hs
          | some x =>
            have h2 := List.all_eq_true.1 hty _ (byB_mem hq).2
            simp only [hk] at h2
            refine .inr ⟨hs, x.2, k, rfl, ?_, h2⟩
            show (match Gl.byB l b with | some (_, t) => _ | none => ρ b) = _
            rw [hq]
            simp only [hs]
        · simp at h1
    · intro b b' T T' c hT hT' h1 h2
      exact noTwo_spec hc1 b b' c (pick_lk hT).2 (pick_lk hT').2 h1 h2
    · intro b hb
      obtain ⟨x, hx, rfl⟩ := List.mem_map.1 hb
      have := hc3 x hx
      simp only [Bool.and_eq_true] at this
      simpa using this.1

end Go.Vx
