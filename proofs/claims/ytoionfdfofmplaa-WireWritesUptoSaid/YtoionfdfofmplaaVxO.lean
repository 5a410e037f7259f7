/- The engine, part O: a region that draws its order; a piece of code; a whole function. -/
import Derived.Test.YtoionfdfofmplaaVxN
set_option autoImplicit false
set_option linter.unusedVariables false
set_option linter.unusedSimpArgs false
namespace Go.Vx
open Go Go.RowKit

theorem maskAt_bits (ms : List Nat) (b : Nat) : (es : List Edge) → (s : Nat) → (es.foldl (fun s e => cond (Region.binds .any e) (s ||| (2 ^ e.on ||| ms.getD e.on 0)) s) s).testBit b = true →
    s.testBit b = true ∨ ∃ e ∈ es, Region.binds .any e = true ∧ (e.on = b ∨ (ms.getD e.on 0).testBit b = true)
  | [], s, h => .inl h
  | e :: es, s, h => by
    simp only [List.foldl_cons] at h
    rcases maskAt_bits ms b es _ h with h | ⟨e', h1, h2⟩
    · cases hb : Region.binds .any e
      · rw [hb] at h; exact .inl h
      · rw [hb] at h
        simp only [cond_true, Nat.testBit_or, Bool.or_eq_true, Nat.testBit_two_pow, decide_eq_true_eq] at h
        rcases h with h | h
        · exact .inl h
        · exact .inr ⟨e, by simp, hb, h⟩
    · exact .inr ⟨e', by simp [h1], h2⟩

theorem masks_pre : (l : List Oper) → (pre : List Nat) → (k : Nat) → k < pre.length → (masks l pre).getD k 0 = pre.getD k 0
  | [], pre, k, _ => rfl
  | o :: l, pre, k, h => by
    rw [masks, masks_pre l _ k (by simp; omega)]
    simp [List.getD_eq_getElem?_getD, List.getElem?_append_left h]

theorem masks_at : (l : List Oper) → (pre : List Nat) → (t : Nat) → (o : Oper) → l[t]? = some o →
    ∃ pre', pre'.length = pre.length + t ∧ (∀ k, k < pre'.length → (masks l pre).getD k 0 = pre'.getD k 0) ∧ (masks l pre).getD (pre.length + t) 0 = maskAt pre' o
  | [], _, _, _, h => by simp at h
  | o' :: l, pre, 0, o, h => by
    simp only [List.getElem?_cons_zero, Option.some.injEq] at h
    subst h
    refine ⟨pre, rfl, fun k hk => masks_pre _ pre k hk, ?_⟩
    rw [masks, masks_pre l _ _ (by simp)]
    simp [List.getD_eq_getElem?_getD]
  | o' :: l, pre, t + 1, o, h => by
    obtain ⟨pre', h1, h2, h3⟩ := masks_at l (pre ++ [maskAt pre o']) t o (by simpa using h)
    refine ⟨pre', by rw [h1]; simp; omega, fun k hk => by rw [masks]; exact h2 k hk, ?_⟩
    rw [masks, ← h3]
    congr 1
    simp; omega

theorem edges_spec : (l : List (Nat × Oper)) → edgesOK l = true → ∀ p ∈ l, ∀ e ∈ p.2.after.toList, Region.binds .any e = true → e.on < p.1
  | [], _, p, hp => by simp at hp
  | x :: l, h, p, hp => by
    simp only [edgesOK, Bool.and_eq_true, List.all_eq_true] at h
    rcases List.mem_cons.1 hp with rfl | hp
    · intro e he hb
      have h2 := h.1 e he
      simpa [hb] using h2
    · exact edges_spec l h.2 p hp

section
variable {ops : Array Oper} (hE : edgesOK (numbered 0 ops.toList) = true)
include hE

theorem edge_at {i : Nat} {o : Oper} (hi : ops[i]? = some o) : ∀ e ∈ o.after.toList, Region.binds .any e = true → e.on < i := by
  intro e he
  have hmem : (i, o) ∈ numbered 0 ops.toList := by
    have hlt : i < ops.size := by
      rcases Nat.lt_or_ge i ops.size with h | h
      · exact h
      · simp [Array.getElem?_eq_none h] at hi
    have h1 : (numbered 0 ops.toList)[i]? = some (i, o) := by
      have key : ∀ (l : List Oper) (k t : Nat) (o : Oper), l[t]? = some o → (numbered k l)[t]? = some (k + t, o) := by
        intro l
        induction l with
        | nil => intro k t o h; simp at h
        | cons a l ih =>
          intro k t o h
          cases t with
          | zero => simp at h; simp [numbered, h]
          | succ t => simp at h; simp only [numbered, List.getElem?_cons_succ, ih (k + 1) t o h]; congr 2; omega
      have := key ops.toList 0 i o (by simpa using hi)
      simpa using this
    exact List.mem_of_getElem? h1
  exact edges_spec _ hE (i, o) hmem e he

theorem mask_spec {i : Nat} {o : Oper} (hi : ops[i]? = some o) {b : Nat} (hb : ((masks ops.toList []).getD i 0).testBit b = true) :
    ∃ e ∈ o.after.toList, Region.binds .any e = true ∧ e.on < i ∧ (e.on = b ∨ ((masks ops.toList []).getD e.on 0).testBit b = true) := by
  obtain ⟨pre', h1, h2, h3⟩ := masks_at ops.toList [] i o (by simpa using hi)
  simp only [List.length_nil, Nat.zero_add] at h1 h3
  rw [h3] at hb
  rcases maskAt_bits pre' b o.after.toList 0 hb with h | ⟨e, he, hbn, h⟩
  · simp at h
  · have hlt := edge_at hE hi e he hbn
    exact ⟨e, he, hbn, hlt, by rw [h2 e.on (by omega)]; exact h⟩

theorem mask_lt {i b : Nat} (hb : ((masks ops.toList []).getD i 0).testBit b = true) (hi : i < ops.size) : b < i := by
  induction i using Nat.strongRecOn with
  | _ i ih =>
    obtain ⟨e, -, -, hlt, h⟩ := mask_spec hE (Array.getElem?_eq_getElem hi) hb
    rcases h with h | h
    · omega
    · have := ih e.on hlt h (by omega); omega
end

theorem numbered_sorted {α : Type} : (l : List α) → (k : Nat) → (numbered k l).Pairwise fun a b => a.1 < b.1
  | [], _ => by simp [numbered]
  | a :: l, k => by
    simp only [numbered, List.pairwise_cons]
    refine ⟨fun p hp => ?_, numbered_sorted l (k + 1)⟩
    have := (numbered_mem l (k + 1) p hp).1
    omega

theorem sep_acc {nx : Nat} {ms : List Nat} {os : List (Option Nat)} (i j : Nat) (h : sepO (os.getD i none) (os.getD j none) = true) (b : Nat) (hb : accD nx ms os i b = true) : accD nx ms os j b = false := by
  unfold accD at hb ⊢
  unfold sepO at h
  split at h
  · rename_i a ha
    split at h
    · rename_i c hc
      rw [ha] at hb
      simp only [Bool.and_eq_true] at hb
      have e := beq_eq hb.2
      subst e
      cases hq : Nat.beq b c
      · simp
      · rw [hq] at h; simp at h
    · simp at h
  · simp at h

theorem loose_spec {all : Array Oper} {os : List (Option Nat)} {o : Nat × Oper} {m : Nat} : {l : List (Nat × Oper)} → loose all os o m l = true → ∀ x ∈ l, m.testBit x.1 = true ∨ ind all os x o = true
  | [], _, x, hx => by simp at hx
  | y :: l, h, x, hx => by
    simp only [loose, Bool.and_eq_true, Bool.or_eq_true] at h
    rcases List.mem_cons.1 hx with rfl | hx
    · exact h.1
    · exact loose_spec h.2 x hx

theorem looseAll_spec {all : Array Oper} {os : List (Option Nat)} {ms : List Nat} : {l done : List (Nat × Oper)} → looseAll all os ms l done = true → l.Pairwise (fun a b => (ms.getD b.1 0).testBit a.1 = true ∨ ind all os a b = true) ∧ ∀ a ∈ done, ∀ b ∈ l, (ms.getD b.1 0).testBit a.1 = true ∨ ind all os a b = true
  | [], done, _ => by simp
  | x :: l, done, h => by
    simp only [looseAll, Bool.and_eq_true] at h
    obtain ⟨h1, h2⟩ := looseAll_spec h.2
    refine ⟨List.pairwise_cons.2 ⟨fun b hb => h2 x (by simp) b hb, h1⟩, fun a ha b hb => ?_⟩
    rcases List.mem_cons.1 hb with rfl | hb
    · exact loose_spec h.1 a ha
    · exact h2 a (by simp [ha]) b hb

/-- The operations that are still to be done. -/
def todo (ops : Array Oper) (listed : Array Bool) : List (Nat × Oper) := (numbered 0 ops.toList).filter fun p => !listed.getD p.1 true

theorem draw_any {P : Program} {cx : Cx} {w0 : Base} (hΓ : ∀ g C, cx.Γ g = some C → SoundAt P w0.g g C) {ops : Array Oper} (hE : edgesOK (numbered 0 ops.toList) = true) {os : List (Option Nat)} (hL : looseAll ops os (masks ops.toList []) (numbered 0 ops.toList) [] = true)
    {Q : Exit → Act → World → Prop} {nx : Nat} {s : St} : (fuel : Nat) → (listed : Array Bool) → listed.size = ops.size →
    (∀ i, listed.getD i false = true → ∀ b, ((masks ops.toList []).getD i 0).testBit b = true → listed.getD b false = true) → (todo ops listed).length = fuel →
    {ρ : Rho} → {st : St} → {a : Act} → {w : World} → st.nx = nx → a.tmps.size = cx.nt → Sim P w0 cx.ro ρ st.tm st.mem a.tmps w → GL P ρ cx.gl → (∀ p ∈ todo ops listed, ρ (nx + p.1) = none) →
    (∃ s', runOps P cx (accD nx (masks ops.toList []) os) ops none (todo ops listed) st some = some s' ∧ Alike s s') →
    (∀ ρ' a' w', Sim P w0 cx.ro ρ' s.tm s.mem a'.tmps w' → a'.defers = a.defers → a'.tmps.size = cx.nt → Ext ρ ρ' → (∀ b, (∀ p ∈ todo ops listed, b ≠ nx + p.1) → ρ' b = ρ b) → Q .normal a' w') →
    wpAny P .any ops Q fuel listed a w
  | fuel, listed, hsz, hcl, hfu, ρ, st, a, w, hnx, hnt, S, hgl, hm, ⟨s', hrun, hal⟩, hK => by
    have hsort : (todo ops listed).Pairwise fun a b => a.1 < b.1 := (numbered_sorted ops.toList 0).filter _
    have hmem : ∀ p ∈ todo ops listed, ops[p.1]? = some p.2 ∧ listed.getD p.1 true = false := by
      intro p hp
      obtain ⟨h1, h2⟩ := List.mem_filter.1 hp
      exact ⟨numbered_ops ops p h1, by simpa using h2⟩
    cases fuel with
    | zero =>
      have hnil : todo ops listed = [] := List.eq_nil_of_length_eq_zero hfu
      rw [hnil] at hrun hK
      simp only [runOps, Option.some.injEq] at hrun
      subst hrun
      refine ⟨?_, hK ρ a w (S.alike hal.symm) rfl hnt (Ext.refl ρ) (fun _ _ => rfl)⟩
      unfold Region.ready
      rw [List.filter_eq_nil_iff]
      intro i hi
      have hlt := List.mem_range.1 hi
      have hnot : (i, ops[i]) ∉ todo ops listed := by rw [hnil]; simp
      have hin : (i, ops[i]) ∈ numbered 0 ops.toList := by
        have : (numbered 0 ops.toList).map Prod.fst = List.range' 0 ops.toList.length := numbered_fst _ _
        have hmem' : i ∈ (numbered 0 ops.toList).map Prod.fst := by rw [this]; simp [List.mem_range']; exact hlt
        obtain ⟨p, hp, hpi⟩ := List.mem_map.1 hmem'
        have h2 := numbered_ops ops p hp
        rw [hpi, Array.getElem?_eq_getElem hlt] at h2
        have : p = (i, ops[i]) := by
          obtain ⟨p1, p2⟩ := p
          simp only at hpi h2
          subst hpi
          rw [Option.some.inj h2]
        rw [← this]; exact hp
      have : ¬ (!listed.getD i true) = true := fun hh => hnot (List.mem_filter.2 ⟨hin, hh⟩)
      simp only [Bool.not_eq_true', Bool.not_eq_false] at this
      rw [this]
      simp
    | succ fuel =>
      have hinn : ∀ i, i < ops.size → (i, ops[i]?) = (i, ops[i]?) := fun _ _ => rfl
      have hin : ∀ i (hlt : i < ops.size), (i, ops[i]) ∈ numbered 0 ops.toList := by
        intro i hlt
        have : (numbered 0 ops.toList).map Prod.fst = List.range' 0 ops.toList.length := numbered_fst _ _
        have hmem' : i ∈ (numbered 0 ops.toList).map Prod.fst := by rw [this]; simp [List.mem_range']; exact hlt
        obtain ⟨p, hp, hpi⟩ := List.mem_map.1 hmem'
        have h2 := numbered_ops ops p hp
        rw [hpi, Array.getElem?_eq_getElem hlt] at h2
        have : p = (i, ops[i]) := by
          obtain ⟨p1, p2⟩ := p
          simp only at hpi h2
          subst hpi
          rw [Option.some.inj h2]
        rw [← this]; exact hp
      have hget : ∀ i, i < ops.size → listed.getD i true = listed.getD i false := by
        intro i hi
        simp [Array.getD_eq_getD_getElem?, Array.getElem?_eq_getElem (show i < listed.size by omega)]
      refine ⟨fun hr => ?_, fun i hi => ?_⟩
      · -- something is ready
        exfalso
        cases ht : todo ops listed with
        | nil => rw [ht] at hfu; simp at hfu
        | cons p rest =>
          have hp : p ∈ todo ops listed := by rw [ht]; simp
          obtain ⟨h1, h2⟩ := hmem p hp
          have hlt : p.1 < ops.size := by
            rcases Nat.lt_or_ge p.1 ops.size with h | h
            · exact h
            · simp [Array.getElem?_eq_none h] at h1
          have : p.1 ∈ Region.ready .any ops listed := by
            unfold Region.ready
            refine List.mem_filter.2 ⟨List.mem_range.2 hlt, ?_⟩
            rw [h2, h1]
            simp only [Bool.not_false, Option.map_some, Option.getD_some, Bool.true_and]
            rw [Array.all_eq_true_iff_forall_mem]
            intro e he
            cases hbn : Region.binds .any e
            · rfl
            have hlow := edge_at hE h1 e (by simpa using he) hbn
            have hon : e.on < ops.size := by omega
            have hls : listed.getD e.on true = true := by
              cases hq : listed.getD e.on true
              · exfalso
                have hmem2 : (e.on, ops[e.on]) ∈ todo ops listed := List.mem_filter.2 ⟨hin e.on hon, by simp [hq]⟩
                rw [ht] at hmem2
                rcases List.mem_cons.1 hmem2 with h | h
                · rw [← h] at hlow; simp only at hlow; omega
                · rw [ht] at hsort
                  have := (List.pairwise_cons.1 hsort).1 _ h
                  simp only at this; omega
              · rfl
            rw [← hget e.on hon, hls]; simp
          rw [hr] at this
          simp at this
      · obtain ⟨hi1, hi2⟩ := List.mem_filter.1 hi
        have hlt := List.mem_range.1 hi1
        simp only [Bool.and_eq_true, Bool.not_eq_true'] at hi2
        obtain ⟨hnl, hrd⟩ := hi2
        rw [Array.getElem?_eq_getElem hlt] at hrd
        simp only [Option.map_some, Option.getD_some] at hrd
        have hx : (i, ops[i]) ∈ todo ops listed := List.mem_filter.2 ⟨hin i hlt, by simp [hnl]⟩
        obtain ⟨A, B, hAB⟩ := List.append_of_mem hx
        -- all that must come ahead of it is done
        have hpre : ∀ b, ((masks ops.toList []).getD i 0).testBit b = true → listed.getD b false = true := by
          intro b hb
          obtain ⟨e, he, hbn, hlt', h⟩ := mask_spec hE (Array.getElem?_eq_getElem hlt) hb
          rw [Array.all_eq_true_iff_forall_mem] at hrd
          have h1 := hrd e (by simpa using he)
          rw [hbn] at h1
          simp only [Bool.not_true, Bool.false_or] at h1
          rcases h with h | h
          · rw [← h]; exact h1
          · exact hcl e.on h1 b h
        have hsort' := hsort
        rw [hAB] at hsort'
        have hAlt : ∀ a ∈ A, a.1 < i := fun a ha => (List.pairwise_append.1 hsort').2.2 a ha (i, ops[i]) (by simp)
        have hBgt : ∀ b ∈ B, i < b.1 := fun b hb => (List.pairwise_cons.1 (List.pairwise_append.1 hsort').2.1).1 b hb
        have hloose : (todo ops listed).Pairwise (fun a b => ((masks ops.toList []).getD b.1 0).testBit a.1 = true ∨ ind ops os a b = true) := (looseAll_spec hL).1.filter _
        rw [hAB] at hloose
        have hA : ∀ a ∈ A, a.1 ≠ i ∧ ind ops os a (i, ops[i]) = true ∧ accD nx (masks ops.toList []) os a.1 (nx + i) = false ∧ accD nx (masks ops.toList []) os i (nx + a.1) = false := by
          intro a ha
          have hal := hAlt a ha
          have ham : a ∈ todo ops listed := by rw [hAB]; simp [ha]
          obtain ⟨ha1, ha2⟩ := hmem a ham
          have hno : ((masks ops.toList []).getD i 0).testBit a.1 = false := by
            cases hq : ((masks ops.toList []).getD i 0).testBit a.1
            · rfl
            · have := hpre a.1 hq
              rw [← hget a.1 (by omega), ha2] at this
              simp at this
          have hno' : ((masks ops.toList []).getD a.1 0).testBit i = false := by
            cases hq : ((masks ops.toList []).getD a.1 0).testBit i
            · rfl
            · have := mask_lt hE hq (by omega); omega
          have hbl : ∀ k, Nat.blt (nx + k) nx = false := fun k => by
            cases hq : Nat.blt (nx + k) nx
            · rfl
            · have := Nat.le_of_ble_eq_true (show Nat.ble (nx + k + 1) nx = true from hq); omega
          refine ⟨by omega, ?_, ?_, ?_⟩
          · rcases (List.pairwise_append.1 hloose).2.2 a ha (i, ops[i]) (by simp) with h | h
            · simp only at h; rw [hno] at h; simp at h
            · exact h
          · unfold accD; split <;> simp only [hbl, Nat.add_sub_cancel_left, hno', Bool.or_false, Bool.false_and]
          · unfold accD; split <;> simp only [hbl, Nat.add_sub_cancel_left, hno, Bool.or_false, Bool.false_and]
        rw [hAB] at hrun
        obtain ⟨t, ht1, ht2⟩ := run_front (i, ops[i]) nx os sep_acc A B hA hnx hrun
        rw [runOps_cons] at ht1
        obtain ⟨s1, k1, k2⟩ := Option.bind_eq_some_iff.1 ht1
        have hnx1 : s1.nx = nx := (step_nx k1).trans hnx
        have htodo : todo ops (listed.setIfInBounds i true) = A ++ B := by
          have h1 : todo ops (listed.setIfInBounds i true) = (todo ops listed).filter fun p => !Nat.beq p.1 i := by
            unfold todo
            rw [List.filter_filter]
            refine List.filter_congr fun p hp => ?_
            by_cases hpi : p.1 = i
            · simp [hpi, Array.getD_eq_getD_getElem?, show i < listed.size by omega]
            · have hq : Nat.beq p.1 i = false := by
                cases hq : Nat.beq p.1 i
                · rfl
                · exact absurd (beq_eq hq) hpi
              have hne : i ≠ p.1 := fun h => hpi h.symm
              simp [hq, Array.getD_eq_getD_getElem?, hne]
          have hbe : ∀ k, k ≠ i → Nat.beq k i = false := fun k hk => by
            cases hq : Nat.beq k i
            · rfl
            · exact absurd (beq_eq hq) hk
          rw [h1, hAB, List.filter_append, List.filter_cons]
          have e1 : A.filter (fun p => !Nat.beq p.1 i) = A := List.filter_eq_self.2 fun p hp => by
            have := hAlt p hp; rw [hbe p.1 (by omega)]; rfl
          have e2 : B.filter (fun p => !Nat.beq p.1 i) = B := List.filter_eq_self.2 fun p hp => by
            have := hBgt p hp; rw [hbe p.1 (by omega)]; rfl
          rw [e1, e2]
          simp
        have hmemAB : ∀ p ∈ A ++ B, p ∈ todo ops listed ∧ p.1 ≠ i := by
          intro p hp
          rcases List.mem_append.1 hp with h | h
          · exact ⟨by rw [hAB]; simp [h], by have := hAlt p h; omega⟩
          · exact ⟨by rw [hAB]; simp [h], by have := hBgt p h; omega⟩
        refine wpOp_sound hΓ (Array.getElem?_eq_getElem hlt) hnt S hgl (by rw [hnx]; exact hm (i, ops[i]) hx) k1 (fun ρ1 a1 w1 S1 hd1 hs1 he1 hr1 => ?_)
        rw [hnx] at hr1
        refine draw_any hΓ hE hL fuel (listed.setIfInBounds i true) (by simp [hsz]) ?_ ?_ hnx1 hs1 S1 (hgl.ext he1) ?_ ⟨t, by rw [htodo]; exact k2, hal.trans ht2⟩ ?_
        · intro j hj b hb
          have up : ∀ b, listed.getD b false = true → (listed.setIfInBounds i true).getD b false = true := by
            intro b hb
            by_cases hbi : i = b
            · subst hbi; simp [Array.getD_eq_getD_getElem?, show i < listed.size by omega]
            · rw [← hb]; simp [Array.getD_eq_getD_getElem?, hbi]
          by_cases hji : i = j
          · subst hji; exact up b (hpre b hb)
          · refine up b (hcl j ?_ b hb)
            rw [← hj]; simp [Array.getD_eq_getD_getElem?, hji]
        · rw [htodo]
          rw [hAB] at hfu
          simp at hfu ⊢; omega
        · intro p hp
          rw [htodo] at hp
          obtain ⟨h1, h2⟩ := hmemAB p hp
          rw [hr1 _ (by omega)]
          exact hm p h1
        · intro ρ2 a2 w2 S2 hd2 hs2 he2 hr2
          refine hK ρ2 a2 w2 S2 (hd2.trans hd1) hs2 (he1.trans he2) (fun b hb => ?_)
          rw [hr2 b (fun p hp => by rw [htodo] at hp; exact hb p (hmemAB p hp).1), hr1 b (hb (i, ops[i]) hx)]

end Go.Vx
