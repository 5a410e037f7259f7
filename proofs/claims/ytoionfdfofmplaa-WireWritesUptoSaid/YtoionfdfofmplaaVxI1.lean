/- The engine, part I1: what a slice of flat data holds lies where it points. -/
import Derived.Test.YtoionfdfofmplaaVxH
import Derived.Great.BuildSlice
import Derived.Laws.OwnMore
set_option autoImplicit false
set_option linter.unusedVariables false
set_option linter.unusedSimpArgs false
namespace Go.Vx
open Go Go.RowKit

theorem flat_drop {c : Tc} {s : Nat} : (l : List c.T) → (∀ x ∈ l, (c.cs x).length = s) → (lo n : Nat) → ∀ j x, (((l.drop lo).take n).flatMap c.cs)[j]? = some x → (l.flatMap c.cs)[lo * s + j]? = some x
  | l, hs, 0, n, j, x, h => by
    rw [Nat.zero_mul, Nat.zero_add]
    rw [List.drop_zero] at h
    have e : l.flatMap c.cs = (l.take n).flatMap c.cs ++ (l.drop n).flatMap c.cs := by rw [← List.flatMap_append, List.take_append_drop]
    have hj : j < ((l.take n).flatMap c.cs).length := (List.getElem?_eq_some_iff.1 h).1
    rw [e, List.getElem?_append_left hj]
    exact h
  | [], hs, lo + 1, n, j, x, h => by simp at h
  | y :: l, hs, lo + 1, n, j, x, h => by
    rw [List.drop_succ_cons] at h
    have := flat_drop l (fun z hz => hs z (by simp [hz])) lo n j x h
    rw [List.flatMap_cons, List.getElem?_append_right (by rw [hs y (by simp), Nat.succ_mul]; omega), hs y (by simp)]
    rw [← this]
    congr 1
    rw [Nat.succ_mul]; omega

section
variable {P : Program} {ρ : Rho}
/-- What a row is made of, but for how many there are. -/
def RowSh (P : Program) (te : TypeId) : AV → Prop
  | .ints k _ _ => P.underlying te = some (.int k) ∧ P.cellsOf te = 1
  | .agg l => HasA P l te
  | .vec c _ => c.fit P te = true
  | _ => False
theorem rowSh_len {te : TypeId} {T : AV} (h : RowSh P te T) (ok : OK P ρ T) : (cells P ρ T).length = rowN T * P.cellsOf te := by
  cases T <;> simp only [RowSh] at h
  case ints k n l =>
    simp only [OK] at ok
    rw [cells_ints, List.length_map, ok.1, h.2, Nat.mul_one]; rfl
  case agg l =>
    simp only [OK] at ok
    rw [cells_agg, len_A P ρ l te h ok]; rfl
  case vec c l =>
    simp only [OK] at ok
    rw [cells_vec, flat_len P h ok]; rfl
theorem rowSh_one {te : TypeId} {T : AV} (h : RowSh P te T) : ∀ z ∈ cells P ρ T, z.oneCell' = true := by
  intro z hz
  cases T <;> simp only [RowSh] at h
  case ints k n l =>
    rw [cells_ints] at hz; obtain ⟨q, -, rfl⟩ := List.mem_map.1 hz; rfl
  case agg l =>
    rw [cells_agg] at hz
    exact one_A P ρ l te h z hz
  case vec c l =>
    rw [cells_vec] at hz
    obtain ⟨x, -, hx⟩ := List.mem_flatMap.1 hz
    rw [← cells_mk P ρ] at hx
    exact one_cells P ρ _ te (Tc.fit_has h x) z hx
end

section
variable {P : Program} {w0 : Base} {ro : Nat} {ρ : Rho} {tm mem : List (Nat × AV)} {a : Act} {w : World} (S : Sim P w0 ro ρ tm mem a.tmps w)
  {gl : Nat → Option AV} (hgl : GL P ρ gl)

/-- A part of what a row holds. -/
theorem cut_spec {T U : AV} {lo n : Nat} {nm : Nm} (hN : HasN P nm T) (hr : nm.row = true) (ok : OK P ρ T) (h : cutT lo n T = some U) (hle : lo + n ≤ nm.cap) :
    RowSh P nm.ty U ∧ OK P ρ U ∧ rowN U = n ∧ LiesAt (cells P ρ T) (lo * P.cellsOf nm.ty) (cells P ρ U) ∧ pl U = true := by
  simp only [HasN, hr, if_true] at hN
  cases T <;> simp only [cutT, Option.some.injEq] at h <;> try (cases h; done)
  case ints k n0 l =>
    subst h
    simp only at hN
    simp only [OK] at ok
    obtain ⟨rfl, h1, h2⟩ := hN
    refine ⟨⟨h1, h2⟩, ?_, rfl, ?_, rfl⟩
    · simp only [OK]
      refine ⟨by simp; omega, fun x hx => ok.2 x (List.mem_of_mem_drop (List.mem_of_mem_take hx))⟩
    · intro j x hx
      rw [cells_ints] at hx ⊢
      rw [h2, Nat.mul_one]
      simp only [List.getElem?_map] at hx ⊢
      rw [List.getElem?_take] at hx
      split at hx
      · rw [List.getElem?_drop] at hx
        exact hx
      · simp at hx
  case vec c l =>
    subst h
    simp only at hN
    simp only [OK] at ok
    obtain ⟨h0, h1⟩ := hN
    refine ⟨h1, ?_, by simp [rowN]; omega, ?_, rfl⟩
    · simp only [OK]
      exact fun x hx => ok x (List.mem_of_mem_drop (List.mem_of_mem_take hx))
    · intro j x hx
      rw [cells_vec] at hx ⊢
      exact flat_drop l (fun y hy => vec_len P h1 (ok y hy)) lo n j x hx

theorem flatT_spec {c : Tc} {te : TypeId} {x : List c.T} (hf : c.fit P te = true) (hx : ∀ y ∈ x, c.ok y) : RowSh P te (flatT c x) ∧ OK P ρ (flatT c x) ∧ rowN (flatT c x) = x.length ∧ cells P ρ (flatT c x) = x.flatMap c.cs ∧ pl (flatT c x) = true := by
  cases c with
  | int k =>
    obtain ⟨h1, h2⟩ := fitInt_spec (show fitInt P k te = true from hf)
    refine ⟨⟨h1, h2⟩, ?_, rfl, ?_, rfl⟩
    · simp only [flatT, OK]
      exact ⟨trivial, fun y hy => hx y hy⟩
    · simp only [flatT]
      rw [cells_ints]
      clear h1 h2 hf
      induction x with
      | nil => rfl
      | cons y x ih => rw [List.map_cons, List.flatMap_cons, ih (fun z hz => hx z (by simp [hz]))]; rfl
  | _ => exact ⟨hf, by simpa only [flatT, OK] using hx, rfl, cells_vec P ρ _ _, rfl⟩

include S in
/-- What a slice of flat data holds lies where it points. -/
theorem rowC_at {get : Nat → Option AV} (hget : ∀ b T, get b = some T → lk b mem = some T) {v U : AV} {te : TypeId} (h : rowC get v = some (U, te)) (ok : OK P ρ v) :
    RowSh P te U ∧ OK P ρ U ∧ pl U = true ∧ ((rowN U : Nat) : Int) ≤ 9223372036854775807 ∧
    ((∃ z, den P ρ v = .slice z 0 0 ∧ ((∀ b p t d x, v ≠ .dv b p t d x) → z = none) ∧ rowN U = 0 ∧ cells P ρ U = []) ∨ ∃ b o q, den P ρ v = .slice (some ⟨b, o, none⟩) (rowN U) q ∧ b < w.heap.size ∧ rowN U ≤ q ∧ (q : Int) ≤ 9223372036854775807 ∧ ∀ j u, (cells P ρ U)[j]? = some u → w.cell? ⟨b, o + j, none⟩ = some u) := by
  cases v <;> simp only [rowC] at h <;> try (cases h; done)
  case gs b n te' =>
    split at h
    · rename_i T hT
      obtain ⟨c4, h⟩ := cond_some h
      simp only [Option.some.injEq, Prod.mk.injEq] at h
      obtain ⟨rfl, rfl⟩ := h
      obtain ⟨nm, hb, hN, okT, hs, hcell⟩ := S.cell b T (hget b T hT)
      simp only [OK] at ok
      obtain ⟨nm', hb', hr, ht', hn', hle, hnon, hmax⟩ := ok
      rw [hb] at hb'
      obtain rfl := Option.some.inj hb'
      have hsh : RowSh P nm.ty T ∧ rowN T = nm.cap := by
        simp only [HasN, hr, if_true] at hN
        cases T <;> simp only at hN <;> first | exact ⟨hN.2, hN.1⟩ | exact hN.elim | (simp [pl] at c4; done)
      rw [ht'] at hsh
      refine ⟨hsh.1, okT, c4, by omega, ?_⟩
      cases hq : nm.non with
      | true =>
        left
        refine ⟨none, by simp [den, hb, gsV, hq], fun _ => rfl, by have := hnon hq; omega, ?_⟩
        rcases hs with ⟨z, -⟩ | ⟨-, z⟩
        · rw [hq] at z; cases z
        · exact z
      | false =>
        right
        have hlt : nm.blk < w.heap.size := by
          rcases hs with ⟨-, z⟩ | ⟨z, -⟩
          · exact z
          · rw [hq] at z; cases z
        exact ⟨nm.blk, nm.off, nm.tot, by simp [den, hb, gsV, hq, hn', hsh.2], hlt, by omega, hmax, hcell⟩
    · simp at h
  case gp b lo n te' nn z =>
    split at h
    · rename_i T hT
      split at h
      · rename_i U' hU
        simp only [Option.some.injEq, Prod.mk.injEq] at h
        obtain ⟨rfl, rfl⟩ := h
        obtain ⟨nm, hb, hN, okT, hs, hcell⟩ := S.cell b T (hget b T hT)
        simp only [OK] at ok
        obtain ⟨nm', hb', -, hr, ht', hle, hct, hnon, hmax⟩ := ok
        rw [hb] at hb'
        obtain rfl := Option.some.inj hb'
        obtain ⟨k1, k2, k3, k4, k5⟩ := cut_spec (ρ := ρ) hN hr okT hU hle
        rw [ht'] at k1 k4
        refine ⟨k1, k2, k5, by omega, ?_⟩
        cases hq : nm.non with
        | true =>
          left
          refine ⟨none, by simp [den, hb, gpV, hq], fun _ => rfl, by have := hnon hq; omega, ?_⟩
          have hnil : cells P ρ T = [] := by
            rcases hs with ⟨z, -⟩ | ⟨-, z⟩
            · rw [hq] at z; cases z
            · exact z
          rw [hnil] at k4
          cases hc : cells P ρ U' with
          | nil => rfl
          | cons x r => have := k4 0 x (by rw [hc]; rfl); simp at this
        | false =>
          right
          have hbl : nm.blk < w.heap.size := by
            rcases hs with ⟨-, z⟩ | ⟨z, -⟩
            · exact z
            · rw [hq] at z; cases z
          by_cases hlt : nm.tot = lo
          · have hn0 : n = 0 := by omega
            refine ⟨nm.blk, nm.off + z * P.cellsOf te', nm.tot - lo, by simp [den, hb, gpV, hq, hlt, k3, addr_add], hbl, by omega, by omega, fun j u hu => ?_⟩
            have hl := rowSh_len (ρ := ρ) k1 k2
            rw [k3, hn0, Nat.zero_mul] at hl
            rw [List.eq_nil_of_length_eq_zero hl] at hu
            simp at hu
          · refine ⟨nm.blk, nm.off + lo * P.cellsOf te', nm.tot - lo, by simp [den, hb, gpV, hq, hlt, k3, addr_add], hbl, by omega, by omega, fun j u hu => ?_⟩
            rw [Nat.add_assoc]
            exact hcell _ u (k4 j u hu)
      · simp at h
    · simp at h
  case sl b p off len cap te' =>
    split at h
    · rename_i T hT
      split at h
      · rename_i k0 n0 l0 hT'
        obtain ⟨hlen, h⟩ := cond_some h
        simp only [Option.some.injEq, Prod.mk.injEq] at h
        obtain ⟨rfl, rfl⟩ := h
        simp only [OK] at ok
        obtain ⟨nm, of, n, hb, hbase, hcn, hlc, hmx⟩ := ok
        obtain ⟨k1, k2, k3, k4, k5, k6⟩ := base_ints S (hget b T hT) hb hbase hT'
        obtain ⟨nm', hb', hN, okT, hs, hcell⟩ := S.cell b T (hget b T hT)
        rw [hb] at hb'
        obtain rfl := Option.some.inj hb'
        have hlen' : 0 < len := by simpa using hlen
        have hbl : nm.blk < w.heap.size := by
          rcases hs with ⟨-, z⟩ | ⟨-, z⟩
          · exact z
          · exfalso
            have h0 : 0 < (cells P ρ (.ints k0 n0 l0)).length := by rw [cells_ints, List.length_map]; omega
            have h1 := k6 0 _ (List.getElem?_eq_getElem h0)
            rw [z] at h1; simp at h1
        refine ⟨⟨k4, k5⟩, ?_, rfl, by simp only [rowN]; omega, .inr ⟨nm.blk, nm.off + (of + off), cap, ?_, hbl, hlc, hmx, fun j u hu => ?_⟩⟩
        · simp only [OK]
          exact ⟨by simp; omega, fun x hx => k3 x (List.mem_of_mem_drop (List.mem_of_mem_take hx))⟩
        · rw [den_sl hb hbase]; simp [rowN, k5]
        · rw [cells_ints] at hu
          simp only [List.getElem?_map] at hu
          rw [List.getElem?_take] at hu
          split at hu
          · rw [List.getElem?_drop] at hu
            have h1 : (cells P ρ (.ints k0 n0 l0))[off + j]? = some u := by rw [cells_ints, List.getElem?_map]; exact hu
            have h2 := hcell _ u (k6 (off + j) u h1)
            rw [show nm.off + (of + off) + j = nm.off + (of + (off + j)) by omega]
            exact h2
          · simp at hu
      · simp at h
    · simp at h
  case dv b p tq d x =>
    cases d <;> simp only at h <;> try (cases h; done)
    case tc c =>
      simp only [Option.some.injEq, Prod.mk.injEq] at h
      obtain ⟨rfl, rfl⟩ := h
      simp only [OK] at ok
      obtain ⟨nm, l, hb, hl, hf, hadr, hlen, hmax, hrep⟩ := ok
      have hok : ∀ y ∈ x, c.ok y := by
        intro y hy
        obtain ⟨i, hi, rfl⟩ := List.getElem_of_mem hy
        obtain ⟨b', o', -, h2⟩ := hrep i _ (List.getElem?_eq_getElem hi)
        exact h2.1
      obtain ⟨k1, k2, k3, k4, k5⟩ := flatT_spec (ρ := ρ) (x := x) hf hok
      refine ⟨k1, k2, k5, by rw [k3]; omega, ?_⟩
      have hv : den P ρ (.dv b p tq (.tc c) x) = .slice l.1 x.length l.2 := by simp [den, hb, dvV, hl]
      rw [k3, k4]
      rcases hl1 : l.1 with _ | ⟨ab, ao, asp⟩
      · left
        have h0 := hadr.1 hl1
        have hx0 : x = [] := List.eq_nil_of_length_eq_zero (by omega)
        subst hx0
        exact ⟨none, by rw [hv, hl1, h0]; rfl, fun _ => rfl, rfl, rfl⟩
      · rcases Nat.eq_zero_or_pos l.2 with hz0 | hz0
        · left
          have hx0 : x = [] := List.eq_nil_of_length_eq_zero (by omega)
          subst hx0
          exact ⟨some ⟨ab, ao, asp⟩, by rw [hv, hl1, hz0]; rfl, fun h => absurd rfl (h _ _ _ _ _), rfl, rfl⟩
        right
        have hsp := (hadr.2 _ hl1 hz0).1
        simp only at hsp
        subst hsp
        refine ⟨ab, ao, l.2, by rw [hv, hl1], Nat.lt_of_lt_of_le (hadr.2 _ hl1 hz0).2 (S.ex.fhs b nm hb), hlen, hmax, fun j u hu => ?_⟩
        have key : ∀ (x : List c.T) (o : Nat), (∀ i y, x[i]? = some y → DRep P nm.K (.tc c) ab (o + i * P.cellsOf tq) y) → ∀ j u, (x.flatMap c.cs)[j]? = some u → nm.K.K ab (o + j) = some u := by
          intro x
          induction x with
          | nil => intro o _ j u h; simp at h
          | cons y x ih =>
            intro o h j u hj
            have h0 := h 0 y rfl
            have hly : (c.cs y).length = P.cellsOf tq := vec_len P hf h0.1
            rw [List.flatMap_cons] at hj
            by_cases hjl : j < (c.cs y).length
            · rw [List.getElem?_append_left hjl] at hj
              have := h0.2 j u hj
              rwa [Nat.zero_mul, Nat.add_zero] at this
            · rw [List.getElem?_append_right (by omega)] at hj
              have := ih (o + P.cellsOf tq) (fun i z hz => by
                have := h (i + 1) z (by simpa using hz)
                rwa [Nat.succ_mul, Nat.add_comm (i * _) _, ← Nat.add_assoc] at this) _ u hj
              rw [← this]
              congr 1
              omega
        refine S.ex.froz b nm hb ab (ao + j) u (key x ao (fun i y hy => ?_) j u hu)
        obtain ⟨b', o', h1, h2⟩ := hrep i y hy
        rw [hl1] at h1
        simp only [Option.some.injEq, Addr.mk.injEq, and_true] at h1
        obtain ⟨rfl, rfl⟩ := h1
        exact h2
end

end Go.Vx
