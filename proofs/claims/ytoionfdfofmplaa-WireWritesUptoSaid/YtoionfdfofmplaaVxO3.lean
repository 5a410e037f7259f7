/- The engine, part O3: an append whose base is looked at later. -/
import Derived.Test.YtoionfdfofmplaaVxO2
set_option autoImplicit false
set_option linter.unusedVariables false
set_option linter.unusedSimpArgs false
namespace Go.Vx
open Go Go.RowKit

/-- One more name, for what nobody writes to. -/
theorem Sim.addK {P : Program} {w0 : Base} {ro : Nat} {ρ : Rho} {mem : List (Nat × AV)} {w : World} (S : Sim P w0 ro ρ [] mem #[] w) {m : Nat} (hm : ρ m = none) (nm : Nm)
    (hK : ∀ k o v, nm.K.K k o = some v → w.cell? ⟨k, o, none⟩ = some v ∧ (w0.own k ∨ w0.F k) ∧ ∀ b T nm', lk b mem = some T → ρ b = some nm' → ro ≤ b → nm'.non = false → k ≠ nm'.blk) (hs : nm.K.hs ≤ w.heap.size) :
    Sim P w0 ro (upd ρ m nm) [] mem #[] w := by
  have E := ext_upd hm nm
  have old : ∀ {b T}, lk b mem = some T → upd ρ m nm b = ρ b := by
    intro b T hT
    obtain ⟨nm', h1, -⟩ := S.cell b T hT
    unfold upd
    split
    · rename_i e; subst e; rw [hm] at h1; cases h1
    · rfl
  have one : ∀ {b nm'}, upd ρ m nm b = some nm' → (b = m ∧ nm' = nm) ∨ ρ b = some nm' := by
    intro b nm' h
    unfold upd at h
    split at h
    · rename_i e; exact .inl ⟨e, (Option.some.inj h).symm⟩
    · exact .inr h
  refine ⟨fun d v h => by simp [lk] at h, ?_, ?_, ?_, ?_, S.below, ⟨?_, ?_, ?_, ?_, ?_, ?_, ?_⟩⟩
  · intro b T hT
    obtain ⟨nm', h1, h2, h3, h4, h5⟩ := S.cell b T hT
    have e := cells_ext P E T h3
    refine ⟨nm', E b nm' h1, h2, (den_ext P E T h3).2, ?_, fun j x hx => h5 j x (by rw [← e]; exact hx)⟩
    rw [e]; exact h4
  · intro b T nm' hT hnm hr
    rw [old hT] at hnm
    obtain ⟨nm1, h1, -, h3, -⟩ := S.cell b T hT
    obtain ⟨k1, k2⟩ := S.own b T nm' hT hnm hr
    exact ⟨k1, fun j hj => k2 j (by rw [← cells_ext P E T h3]; exact hj)⟩
  · intro b b' T T' nm1 nm2 hT hT' h1 h2
    rw [old hT] at h1
    rw [old hT'] at h2
    exact S.apart b b' T T' nm1 nm2 hT hT' h1 h2
  · intro b T nm' hT hnm
    rw [old hT] at hnm
    exact S.rows b T nm' hT hnm
  · intro b nm' hb k o v hk
    rcases one hb with ⟨-, rfl⟩ | hb
    · exact (hK k o v hk).1
    · exact S.ex.froz b nm' hb k o v hk
  · intro b nm' hb
    rcases one hb with ⟨-, rfl⟩ | hb
    · exact hs
    · exact S.ex.fhs b nm' hb
  · intro b nm' hb k o v hk
    rcases one hb with ⟨-, rfl⟩ | hb
    · exact (hK k o v hk).2.1
    · exact S.ex.org b nm' hb k o v hk
  · intro b T nm1 hT hb hr hn b' nm' hb' k o v hk
    rw [old hT] at hb
    rcases one hb' with ⟨-, rfl⟩ | hb'
    · exact (hK k o v hk).2.2 b T nm1 hT hb hr hn
    · exact S.ex.away b T nm1 hT hb hr hn b' nm' hb' k o v hk
  · intro b s p hT
    obtain ⟨nm', h1, h2⟩ := S.ex.its b s p hT
    exact ⟨nm', by rw [old hT]; exact h1, h2⟩
  · intro b s p nm1 hT hb b' T nm' hT' hb'
    rw [old hT] at hb
    rw [old hT'] at hb'
    exact S.ex.ita b s p nm1 hT hb b' T nm' hT' hb'
  · intro b b' s s' p p' nm1 nm2 hT hT' hb hb'
    rw [old hT] at hb
    rw [old hT'] at hb'
    exact S.ex.itd b b' s s' p p' nm1 nm2 hT hT' hb hb'

theorem Sim.subM {P : Program} {w0 : Base} {ro : Nat} {ρ : Rho} {mem mem' : List (Nat × AV)} {w : World} (S : Sim P w0 ro ρ [] mem #[] w) (h : ∀ b T, lk b mem' = some T → lk b mem = some T) : Sim P w0 ro ρ [] mem' #[] w :=
  ⟨fun d v h => by simp [lk] at h, fun b T hT => S.cell b T (h b T hT), fun b T nm hT => S.own b T nm (h b T hT), fun b b' T T' nm nm' hT hT' => S.apart b b' T T' nm nm' (h b T hT) (h b' T' hT'), fun b T nm hT => S.rows b T nm (h b T hT), S.below, S.ex.sub h⟩

/-- What a row of flat data holds. -/
theorem flatOf_spec {P : Program} {ρ : Rho} {te : TypeId} {T : AV} {d : (c : Tc) × List c.T} (h : flatOf T = some d) (sh : RowSh P te T) (ok : OK P ρ T) :
    d.1.fit P te = true ∧ (∀ x ∈ d.2, d.1.ok x) ∧ cells P ρ T = d.2.flatMap d.1.cs ∧ rowN T = d.2.length := by
  cases T <;> simp only [flatOf, Option.some.injEq] at h <;> try (cases h; done)
  case ints k n l =>
    subst h
    simp only [RowSh] at sh
    simp only [OK] at ok
    refine ⟨?_, fun x hx => ok.2 x hx, ?_, ?_⟩
    · simp [Tc.fit, Tc.fitB, fitInt, sh.1, sh.2]
    · rw [cells_ints]
      clear ok
      induction l with
      | nil => rfl
      | cons y l ih => rw [List.map_cons, List.flatMap_cons, ih]; rfl
    · exact ok.1.symm
  case vec c l =>
    subst h
    simp only [RowSh] at sh
    simp only [OK] at ok
    exact ⟨sh, ok, cells_vec P ρ c l, rfl⟩

theorem flat_in (P : Program) {c : Tc} {te : TypeId} (hf : c.fit P te = true) : ∀ (l : List c.T), (∀ x ∈ l, c.ok x) → ∀ (i : Nat) (y : c.T), l[i]? = some y → ∀ (j : Nat) (v : Value), (c.cs y)[j]? = some v → (l.flatMap c.cs)[i * P.cellsOf te + j]? = some v
  | [], _, i, y, h, _, _, _ => by simp at h
  | x :: l, ok, 0, y, h, j, v, hv => by
    simp only [List.getElem?_cons_zero, Option.some.injEq] at h
    subst h
    rw [List.flatMap_cons, Nat.zero_mul, Nat.zero_add, List.getElem?_append_left (List.getElem?_eq_some_iff.1 hv).1]
    exact hv
  | x :: l, ok, i + 1, y, h, j, v, hv => by
    have hl := vec_len P hf (ok x (by simp))
    have := flat_in P hf l (fun z hz => ok z (by simp [hz])) i y (by simpa using h) j v hv
    rw [List.flatMap_cons, List.getElem?_append_right (by rw [hl, Nat.succ_mul]; omega), hl, show (i + 1) * P.cellsOf te + j - P.cellsOf te = i * P.cellsOf te + j by rw [Nat.succ_mul]; omega]
    exact this

theorem repR_of {P : Program} {K : Fz} {c : Tc} {te : TypeId} {l : List c.T} {blk off tot : Nat} (hf : c.fit P te = true) (hok : ∀ x ∈ l, c.ok x) (hcell : ∀ j v, (l.flatMap c.cs)[j]? = some v → K.K blk (off + j) = some v) (hlen : l.length ≤ tot) (hmax : (tot : Int) ≤ 9223372036854775807) (hs : blk < K.hs) :
    RepR P K (.tc c) te (some ⟨blk, off, none⟩, tot) l := by
  refine ⟨⟨fun h => absurd h (by simp), fun ad h _ => ?_⟩, hlen, hmax, fun i y hy => ⟨blk, off, rfl, hok y (List.mem_of_getElem? hy), fun j v hv => ?_⟩⟩
  · obtain rfl := Option.some.inj h
    exact ⟨rfl, hs⟩
  · have := hcell _ v (flat_in P hf l hok i y hy j v hv)
    rw [← Nat.add_assoc] at this
    exact this

/-- What lies there is data that nobody writes to any more. -/
theorem Sim.freeze {P : Program} {w0 : Base} {ro : Nat} {ρ : Rho} {mem : List (Nat × AV)} {w : World} (S : Sim P w0 ro ρ [] mem #[] w) {m : Nat} (hm : ρ m = none) {te : TypeId} {c : Tc} {l : List c.T} (hf : c.fit P te = true) (hok : ∀ x ∈ l, c.ok x) {v : Value}
    (hv : (v = .slice none 0 0 ∧ l.length = 0) ∨ ∃ g off cap, v = .slice (some ⟨g, off, none⟩) l.length cap ∧ g < w.heap.size ∧ l.length ≤ cap ∧ (cap : Int) ≤ 9223372036854775807 ∧ (w0.own g ∨ w0.F g) ∧ (∀ j x, (l.flatMap c.cs)[j]? = some x → w.cell? ⟨g, off + j, none⟩ = some x) ∧
      ∀ b T nm', lk b mem = some T → ρ b = some nm' → ro ≤ b → nm'.non = false → g ≠ nm'.blk) :
    ∃ nm, Sim P w0 ro (upd ρ m nm) [] mem #[] w ∧ OK P (upd ρ m nm) (.dv m [] te (.tc c) l) ∧ den P (upd ρ m nm) (.dv m [] te (.tc c) l) = v := by
  rcases hv with ⟨rfl, hl⟩ | ⟨g, off, cap, rfl, hg, hlc, hmx, hown, hcell, haw⟩
  · refine ⟨⟨0, 0, 0, te, true, 0, true, nk⟩, S.addK hm _ (fun k o v h => by simp [nk] at h) (Nat.zero_le _), ?_, ?_⟩
    · have self : upd ρ m ⟨0, 0, 0, te, true, 0, true, nk⟩ m = some ⟨0, 0, 0, te, true, 0, true, nk⟩ := by simp [upd]
      simp only [OK]
      exact ⟨_, (none, 0), self, rfl, hf, ⟨fun _ => rfl, fun ad h => by cases h⟩, by simp only; omega, by show ((0 : Nat) : Int) ≤ 9223372036854775807; decide, fun i y hy => by rw [List.eq_nil_of_length_eq_zero hl] at hy; simp at hy⟩
    · simp [den, upd, dvV, dloc, nmL, hl]
  · let K : Fz := ⟨fun k o => if k = g then w.cell? ⟨k, o, none⟩ else none, w.heap.size⟩
    have self : upd ρ m ⟨g, off, l.length, te, true, cap, false, K⟩ m = some ⟨g, off, l.length, te, true, cap, false, K⟩ := by simp [upd]
    refine ⟨⟨g, off, l.length, te, true, cap, false, K⟩, S.addK hm _ (fun k o v h => ?_) (Nat.le_refl _), ?_, ?_⟩
    · simp only [K] at h
      split at h
      · rename_i hk
        subst hk
        exact ⟨h, hown, haw⟩
      · cases h
    · simp only [OK]
      exact ⟨_, (some ⟨g, off, none⟩, cap), self, rfl, hf, repR_of hf hok (fun j v hv => by simp only [K, if_true]; exact hcell j v hv) hlc hmx hg⟩
    · simp [den, self, dvV, dloc, nmL]

/-- append, on a row of its own: what it was is still there. -/
theorem app_keep {P : Program} {w : World} {t el ty : TypeId} {B n m : Nat} {v yv : Value} {xs news : List Value} (hrt : rowTy P el = true) (hfit : fits P el (n + m) = true) (hu : P.underlying t = some (.slice el))
    (hown : w.ownsRow B el (P.cellsOf el) v n xs) (hB : B ≤ w.heap.size)
    (hy : (yv = .slice none 0 0 ∧ m = 0 ∧ news = []) ∨ ∃ ad c, yv = .slice (some ad) m c ∧ ∀ j u, news[j]? = some u → w.cell? (ad.add j) = some u) (hl : news.length = m * P.cellsOf el) (h1 : ∀ u ∈ news, u.oneCell' = true) :
    ∃ v' w', (Builtin.append_ #[t, t] ty #[v, yv]).run P w = .ok v' w' ∧ w'.ownsRow B el (P.cellsOf el) v' (n + m) (xs ++ news) ∧ w.grownBy w' v.ownBlock ∧ (v'.ownBlock = v.ownBlock ∨ v'.ownBlock = some w.heap.size) ∧
      ∀ g, v.ownBlock = some g → ∀ j u, xs[j]? = some u → w'.cell? ⟨g, j, none⟩ = some u := by
  obtain ⟨v', w', k1, k2, k3, k4⟩ := app_run (ty := ty) hrt hfit hu hown hB hy hl h1
  refine ⟨v', w', k1, k2, k3, k4, fun g hg j u hj => ?_⟩
  have old : v'.ownBlock = some g → w'.cell? ⟨g, j, none⟩ = some u := by
    intro h
    have := k2.cells h j u (by rw [List.getElem?_append_left (List.getElem?_eq_some_iff.1 hj).1]; exact hj)
    rw [addr_add, Nat.zero_add] at this
    exact this
  have was : w.cell? ⟨g, j, none⟩ = some u := by
    have := hown.cells hg j u hj
    rw [addr_add, Nat.zero_add] at this
    exact this
  rcases k4 with h | h
  · exact old (h.trans hg)
  · -- a new block: the old one is as it was
    rcases hown.2 with ⟨rfl, -⟩ | ⟨g', cap, cur, rfl, hbg, hgg, hnc, hcm, hcs, htake⟩
    · simp [Value.ownBlock] at hg
    · have hg' : g' = g := by simpa [Value.ownBlock] using hg
      subst hg'
      have hlt : g' < w.heap.size := (Array.getElem?_eq_some_iff.1 hgg).1
      unfold rowTy at hrt
      unfold fits at hfit
      cases hi : P.info? el with
      | none => rw [hi] at hrt; simp at hrt
      | some i =>
        rw [hi] at hrt hfit
        simp only at hrt hfit
        have hsz : P.cellsOf el = i.size := by simp [Program.cellsOf, hi]
        cases hz : i.zero with
        | none => rw [hz] at hrt; simp at hrt
        | some z =>
          simp only [decide_eq_true_eq] at hfit
          rw [hsz] at hown hl hcs htake
          rcases hy with ⟨rfl, rfl, rfl⟩ | ⟨ad, c, rfl, hc⟩
          · have := run_append_owned_none (P := P) w B t ty el i i.size hu hi _ n xs hown
            rw [this] at k1
            simp only [Result.ok.injEq] at k1
            rw [← k1.2]; exact was
          · by_cases hroom : n + m ≤ cap
            · have hfit' : n * i.size + news.length ≤ cur.size := by rw [hl, hcs, ← Nat.add_mul]; exact Nat.mul_le_mul_right _ hroom
              have := run_append_room (P := P) w t ty el i hu hi g' n cap cur hgg ad m c news hl hc h1 hroom hfit'
              rw [this] at k1
              simp only [Result.ok.injEq] at k1
              exact old (by rw [← k1.1]; rfl)
            · have holds : ∀ j u, xs[j]? = some u → w.cell? ((⟨g', 0, none⟩ : Addr).add j) = some u := hown.cells (g := g') rfl
              have := run_append_grow (P := P) w t ty el i z hu hi hz ⟨g', 0, none⟩ n cap xs hown.1 holds ad m c news hl hc (by omega) (by omega) (growslice_fits (by omega) hfit.1)
              rw [this] at k1
              simp only [Result.ok.injEq] at k1
              rw [← k1.2, World.cell?_of_block (w := w) (heap_alloc_old w.drew _ hlt)]
              exact was

/-- Such an append does in the model what it does on abstract states. -/
theorem keep_ok {P : Program} {cx : Cx} {w0 : Base} {o : Oper} {st : St} {b : Nat} {te : TypeId} {d : (c : Tc) × List c.T} {y : AV} (h : keepAt P cx o st = some (b, te, d, y)) :
    o.guard = none ∧ ∀ (nx : Nat) (v : AV) (mem' : List (Nat × AV)) (nx' : Nat), (keepI P b te y).run none [] st.mem nx (fun v m n => some (v, m, n)) = some (v, mem', nx') →
    ∀ (ρ : Rho) (a : Act) (w : World), Sim P w0 cx.ro ρ st.tm st.mem a.tmps w → GL P ρ cx.gl → (∀ b, nx ≤ b → ρ b = none) →
      ∃ w' ρ', (execOp a.eval o).run P w = .ok (.value (den P ρ' v)) w' ∧ OK P ρ' v ∧ Sim P w0 cx.ro ρ' [] mem' #[] w' ∧ Ext ρ ρ' ∧ (∀ b, nx' ≤ b → ρ' b = none) ∧
        ∀ n, OK P ρ' (.gs b n te) → OK P ρ' (.dv (nx + 2) [] te (.tc d.1) d.2) ∧ den P ρ' (.dv (nx + 2) [] te (.tc d.1) d.2) = den P ρ' (.gs b n te) := by
  unfold keepAt at h
  split at h
  case h_2 => cases h
  split at h
  case h_2 => cases h
  rename_i c ho
  split at h
  case h_2 => cases h
  rename_i hcal
  split at h
  case h_2 => cases h
  rename_i hgd
  split at h
  case h_2 => cases h
  rename_i b1 n1 te1 y1 t1 t2 hx hty
  split at h
  case h_2 => cases h
  rename_i e hu
  replace h := cond_some h
  obtain ⟨hc, h⟩ := h
  simp only [Bool.and_eq_true] at hc
  obtain ⟨⟨⟨ht12, hete⟩, hro⟩, hrt⟩ := hc
  have ht12 := beq_eq ht12
  have hete := beq_eq hete
  have hro := Nat.le_of_ble_eq_true hro
  subst ht12
  subst hete
  split at h
  case h_2 => cases h
  rename_i T hT
  split at h
  case h_2 => cases h
  rename_i d1 hd
  simp only [Option.some.injEq, Prod.mk.injEq] at h
  obtain ⟨rfl, rfl, rfl, rfl⟩ := h
  refine ⟨hgd, fun nx v mem' nx' hr ρ a w S hgl hfr => ?_⟩
  simp only [keepI, hT] at hr
  split at hr
  case h_2 => cases hr
  rename_i r hrow
  obtain ⟨U, te2⟩ := r
  replace hr := cond_some hr
  obtain ⟨hte, hr⟩ := hr
  have hte := beq_eq hte
  simp only at hte hr
  subst hte
  split at hr
  case h_2 => cases hr
  rename_i V hcat
  split at hr
  case h_2 => cases hr
  rename_i d2 hd2
  replace hr := cond_some hr
  obtain ⟨hfit, hr⟩ := hr
  simp only [Option.some.injEq, Prod.mk.injEq] at hr
  obtain ⟨rfl, rfl, rfl⟩ := hr
  obtain ⟨h1, h2⟩ := evL_sound S hgl hx
  simp only [OKL, and_true] at h2
  obtain ⟨okx, oky⟩ := h2
  have hargs : c.args.map a.eval = #[den P ρ (.gs b1 n1 te2), den P ρ y1] := by
    rw [← Array.toArray_toList (xs := c.args.map a.eval), Array.toList_map, h1]; simp [denT]
  have hty' : c.argTypes = #[t1, t1] := by rw [← Array.toArray_toList (xs := c.argTypes), hty]
  obtain ⟨shU, okU, plU, hmaxU, hyv⟩ := rowC_at S (get := fun b => lk b st.mem) (fun _ _ h => h) hrow oky
  have hlenU := rowSh_len shU okU
  have hyv' : (den P ρ y1 = .slice none 0 0 ∧ rowN U = 0 ∧ cells P ρ U = []) ∨ ∃ ad q, den P ρ y1 = .slice (some ad) (rowN U) q ∧ ∀ j u, (cells P ρ U)[j]? = some u → w.cell? (ad.add j) = some u := by
    rcases hyv with ⟨z, e1, -, e2, e3⟩ | ⟨b, of, q, e1, -, -, -, e4⟩
    · cases z with
      | none => exact .inl ⟨e1, e2, e3⟩
      | some ad => exact .inr ⟨ad, 0, by rw [e1, e2], fun j u hj => by rw [e3] at hj; simp at hj⟩
    · exact .inr ⟨⟨b, of, none⟩, q, e1, fun j u hj => by rw [addr_add]; exact e4 j u hj⟩
  obtain ⟨nm, hb, hN, okT, hs, hcell⟩ := S.cell b1 T hT
  have okx0 := okx
  simp only [OK] at okx
  obtain ⟨nm', hb', hrw, hty1, hn1, hle, hnon, hmx⟩ := okx
  rw [hb] at hb'
  obtain rfl := Option.some.inj hb'
  obtain ⟨shT, hrT⟩ := rowSh_of hN hrw (rowSh_cat (P := P) (te := te2) (.inl hcat))
  rw [hty1] at shT
  obtain ⟨shV, okV, hrV, hcV⟩ := catT_spec hcat shT shU okT okU
  obtain ⟨fT, oT, cT, nT⟩ := flatOf_spec hd shT okT
  obtain ⟨fV, oV, cV, nV⟩ := flatOf_spec hd2 shV okV
  have hlenT := rowSh_len shT okT
  have hv : den P ρ (.gs b1 n1 te2) = gsV nm n1 := by simp [den, hb]
  have hown : w.ownsRow w0.g.heap.size te2 (P.cellsOf te2) (gsV nm n1) (rowN T) (cells P ρ T) := by
    refine ⟨hlenT, ?_⟩
    cases hq : nm.non with
    | true => exact .inl ⟨by simp [gsV, hq], by have := hnon hq; omega⟩
    | false =>
      rcases S.rows b1 T nm hT hb hro hrw with h | ⟨q1, q2, q3, cur, q4, q5⟩
      · rw [hq] at h; cases h
      · rw [hty1] at q4 q5
        refine .inr ⟨nm.blk, nm.tot, cur, by simp [gsV, hq, q1]; omega, Base.own_ge ((S.own b1 T nm hT hb hro).1 hq), q4, by omega, q3, q5, ?_⟩
        refine List.ext_getElem? fun j => ?_
        rw [List.getElem?_take]
        by_cases hj : j < rowN T * P.cellsOf te2
        · rw [if_pos hj]
          have hj' : j < (cells P ρ T).length := by rw [hlenT]; exact hj
          have := hcell j _ (List.getElem?_eq_getElem hj')
          rw [q1, Nat.zero_add, cell_of_row w nm.blk j cur te2 (0, 0) q4] at this
          rw [List.getElem?_eq_getElem hj']
          simpa using this
        · rw [if_neg hj]
          rw [List.getElem?_eq_none (by rw [hlenT]; omega)]
  have hfit' : fits P te2 (rowN T + rowN U) = true := by rw [← hrV]; exact hfit
  obtain ⟨v', w', r1, r2, r3, r4, r5⟩ := app_keep (ty := o.type) hrt hfit' hu hown S.below.below.size hyv' hlenU (rowSh_one shU)
  rw [← hrV, ← hcV] at r2
  have hrun : (execOp a.eval o).run P w = .ok (.value v') w' := by
    rw [hv] at hargs
    simp [execOp, ho, resolve, hcal, invoke, builtin, hargs, hty', r1]
  have S0 : Sim P w0 cx.ro ρ [] st.mem #[] w := ⟨fun d v h => by simp [lk] at h, S.cell, S.own, S.apart, S.rows, S.below, S.ex⟩
  have ob : ∀ g, (gsV nm n1).ownBlock = some g → nm.non = false ∧ g = nm.blk := by
    intro g hg
    cases hq : nm.non with
    | true => simp [gsV, hq, Value.ownBlock] at hg
    | false =>
      simp [gsV, hq, Value.ownBlock] at hg
      exact ⟨rfl, hg.symm⟩
  have hmaxV : ((rowN V : Nat) : Int) ≤ 9223372036854775807 := by
    unfold fits at hfit
    split at hfit
    · simp only [decide_eq_true_eq] at hfit
      omega
    · cases hfit
  have noI : ∀ s p, V ≠ .itr s p := by
    intro s p e
    rw [e] at hd2
    simp [flatOf] at hd2
  -- the answer's row, as one of the frame's own at first
  obtain ⟨nm1, hA, hvV⟩ : ∃ nm1 : Nm, After P cx.ro ρ st.mem w (nx + 0) (.grow (some b1) V fun c => .gs c (rowN V) te2) (den P (upd ρ (nx + 0) nm1) (.gs (nx + 0) (rowN V) te2)) (upd ρ (nx + 0) nm1) w' ∧
      ((v' = .slice none 0 0 ∧ rowN V = 0) ∨ ∃ g cap, v' = .slice (some ⟨g, 0, none⟩) (rowN V) cap ∧ g < w'.heap.size ∧ rowN V ≤ cap ∧ (cap : Int) ≤ 9223372036854775807 ∧ nm1.non = false ∧ nm1.blk = g ∧ ∀ j x, (cells P ρ V)[j]? = some x → w'.cell? ⟨g, 0 + j, none⟩ = some x) := by
    have hgk : ∀ k, k < w.heap.size → (∀ b0 nm0, some b1 = some b0 → ρ b0 = some nm0 → nm0.non = false → k ≠ nm0.blk) → w'.heap[k]? = w.heap[k]? := by
      intro k hk hne
      refine r3.block k hk fun hh => ?_
      obtain ⟨e1, e2⟩ := ob k hh.symm
      exact hne b1 nm rfl hb e1 e2
    have hbb : ∀ b0, some b1 = some b0 → cx.ro ≤ b0 ∧ ∃ T0, lk b0 st.mem = some T0 := by
      intro b0 h0
      obtain rfl := Option.some.inj h0
      exact ⟨hro, T, hT⟩
    have hw : w'.os = w.os ∧ w'.tape = w.tape ∧ w'.output = w.output ∧ w.heap.size ≤ w'.heap.size := ⟨r3.os, r3.tape, r3.output, r3.size⟩
    rcases r2.2 with ⟨hv0, hn0⟩ | ⟨g, cap, cur, hv0, hbg, hgg, hnc, hcm, hcs, htake⟩
    · have hnil : cells P ρ V = [] := List.eq_nil_of_length_eq_zero (by rw [r2.1, hn0, Nat.zero_mul])
      refine ⟨⟨w.heap.size, 0, rowN V, te2, true, rowN V, true, nk⟩, .grow (some b1) V _ _ w' (hasN_of rfl shV rfl) okV ?_ rfl ⟨rfl, noI⟩ (fun _ => hnil) (fun h => by cases h) (.inl (Nat.le_refl _)) hw hgk hbb, .inl ⟨hv0, hn0⟩⟩
      simp only [OK]
      exact ⟨_, by simp [upd]; rfl, rfl, rfl, rfl, Nat.le_refl _, fun _ => hn0, hmaxV⟩
    · have hglt : g < w'.heap.size := (Array.getElem?_eq_some_iff.1 hgg).1
      have hcap : (cap : Int) ≤ 9223372036854775807 := by simp only [maxLen] at hcm; omega
      have hcells : ∀ j x, (cells P ρ V)[j]? = some x → w'.cell? ⟨g, 0 + j, none⟩ = some x := by
        intro j x hx
        have := r2.cells (g := g) (by rw [hv0]; rfl) j x hx
        rw [addr_add] at this
        exact this
      refine ⟨⟨g, 0, rowN V, te2, true, cap, false, nk⟩, .grow (some b1) V _ _ w' (hasN_of rfl shV rfl) okV ?_ rfl ⟨rfl, noI⟩ (fun h => by cases h) (fun _ => ⟨⟨rfl, hnc, hcm, cur, hgg, hcs⟩, hcells⟩) ?_ hw hgk hbb, .inr ⟨g, cap, hv0, hglt, hnc, hcap, rfl, rfl, hcells⟩⟩
      · simp only [OK]
        exact ⟨_, by simp [upd]; rfl, rfl, rfl, rfl, hnc, (fun h => absurd h (by simp)), hcap⟩
      · rcases r4 with h | h
        · rw [hv0] at h
          obtain ⟨e1, e2⟩ := ob g h.symm
          exact .inr ⟨b1, nm, T, rfl, hb, hT, hro, e1, e2⟩
        · rw [hv0] at h
          have := Option.some.inj h
          simp only at this
          exact .inl (by simp only; omega)
  obtain ⟨S1, E1, -⟩ := sim_app (st := { tm := [], mem := st.mem, nx := nx }) (a := { tmps := #[], defers := [] }) (i := 0) (d := none) S0 (by rw [Nat.add_zero]; exact hfr nx (Nat.le_refl _)) (fun _ h => by cases h) hA
  simp only [Nat.add_zero] at S1 E1
  have hmem : ∀ {b2 T2}, lk b2 (del (some b1) st.mem) = some T2 → lk b2 st.mem = some T2 ∧ b2 ≠ b1 ∧ b2 ≠ nx ∧ b2 ≠ nx + 1 ∧ b2 ≠ nx + 2 := by
    intro b2 T2 h
    obtain ⟨k1, k2⟩ := lk_del h
    obtain ⟨nm2, k3, -⟩ := S.cell b2 T2 k1
    have hlt : b2 < nx := by
      rcases Nat.lt_or_ge b2 nx with h | h
      · exact h
      · rw [hfr b2 h] at k3; cases k3
    exact ⟨k1, fun e => k2 (by rw [e]), by omega, by omega, by omega⟩
  have S2 : Sim P w0 cx.ro (upd ρ nx nm1) [] (del (some b1) st.mem) #[] w' := by
    refine Sim.subM (mem := (nx, V) :: del (some b1) st.mem) ⟨fun d v h => by simp [lk] at h, S1.cell, S1.own, S1.apart, S1.rows, S1.below, S1.ex⟩ fun b2 T2 h => ?_
    rw [lk_cons_ne (fun e => (hmem h).2.2.1 e.symm)]
    exact h
  have lV : lk nx ((nx, V) :: del (some b1) st.mem) = some V := lk_cons_self _ _ _
  have r1n : upd ρ nx nm1 nx = some nm1 := by simp [upd]
  have hblk : ∀ g, v'.ownBlock = some g → w0.own g := by
    intro g hg
    rcases r4 with h | h
    · rw [h] at hg
      obtain ⟨e1, e2⟩ := ob g hg
      rw [e2]
      exact (S.own b1 T nm hT hb hro).1 e1
    · rw [h] at hg
      obtain rfl := Option.some.inj hg
      exact .inl S.below.size
  -- both rows: nobody writes to them any more
  obtain ⟨nmV, S3, o3, e3⟩ := S2.freeze (m := nx + 1) (te := te2) (c := d2.1) (l := d2.2) (v := v') (by simp only [upd]; rw [if_neg (by omega)]; exact hfr _ (by omega)) fV oV (by
    rw [nV, cV] at hvV
    rcases hvV with ⟨q1, q2⟩ | ⟨g, cap, q1, q2, q3, q4, q5, q6, q7⟩
    · exact .inl ⟨q1, q2⟩
    · refine .inr ⟨g, 0, cap, q1, q2, q3, q4, .inl (hblk g (by rw [q1]; rfl)), q7, fun b2 T2 nm2 k1 k2 k3 k4 => ?_⟩
      have := S1.apart b2 nx T2 V nm2 nm1 (by
        show lk b2 ((nx, V) :: del (some b1) st.mem) = some T2
        rw [lk_cons_ne (fun e => (hmem k1).2.2.1 e.symm)]; exact k1) lV k2 r1n k3 (hmem k1).2.2.1 k4 q5
      rw [q6] at this
      exact fun e => this e.symm)
  obtain ⟨nmT, S4, o4, e4⟩ := S3.freeze (m := nx + 2) (te := te2) (c := d1.1) (l := d1.2) (v := gsV nm n1) (by simp only [upd]; rw [if_neg (by omega), if_neg (by omega)]; exact hfr _ (by omega)) fT oT (by
    cases hq : nm.non with
    | true => exact .inl ⟨by simp [gsV, hq], by rw [← nT, hrT]; exact hnon hq ▸ hn1.symm⟩
    | false =>
      have hlt : nm.blk < w.heap.size := by
        rcases hs with ⟨-, z⟩ | ⟨z, -⟩
        · exact z
        · rw [hq] at z; cases z
      rcases S.rows b1 T nm hT hb hro hrw with h | ⟨z1, -⟩
      · rw [hq] at h; cases h
      refine .inr ⟨nm.blk, nm.off, nm.tot, by simp [gsV, hq]; omega, Nat.lt_of_lt_of_le hlt r3.size, by omega, hmx, .inl ((S.own b1 T nm hT hb hro).1 hq), fun j x hx => ?_, fun b2 T2 nm2 k1 k2 k3 k4 => ?_⟩
      · rw [← cT] at hx
        rw [z1, Nat.zero_add]
        exact r5 nm.blk (by simp [gsV, hq, Value.ownBlock]) j x hx
      · obtain ⟨l1, l2, l3, l4, -⟩ := hmem k1
        simp only [upd] at k2
        rw [if_neg l4, if_neg l3] at k2
        exact fun e => S.apart b2 b1 T2 T nm2 nm l1 hT k2 hb k3 l2 k4 hq e.symm)
  have E2 : Ext (upd ρ nx nm1) (upd (upd ρ nx nm1) (nx + 1) nmV) := ext_upd (by simp only [upd]; rw [if_neg (by omega)]; exact hfr _ (by omega)) nmV
  have E3 : Ext (upd (upd ρ nx nm1) (nx + 1) nmV) (upd (upd (upd ρ nx nm1) (nx + 1) nmV) (nx + 2) nmT) := ext_upd (by simp only [upd]; rw [if_neg (by omega), if_neg (by omega)]; exact hfr _ (by omega)) nmT
  obtain ⟨f1, f2⟩ := den_ext P E3 _ o3
  refine ⟨w', _, by rw [f1, e3]; exact hrun, f2, S4, E1.trans (E2.trans E3), fun b2 hb2 => ?_, fun n hn => ⟨o4, ?_⟩⟩
  · simp only [upd]
    rw [if_neg (by omega), if_neg (by omega), if_neg (by omega)]
    exact hfr b2 (by omega)
  · rw [e4]
    simp only [OK] at hn
    obtain ⟨nm2, hb2, -, -, hn2, -⟩ := hn
    have hb3 := (E1.trans (E2.trans E3)) b1 nm hb
    rw [hb3] at hb2
    obtain rfl := Option.some.inj hb2
    simp only [den, hb3, hn2, hn1]

end Go.Vx
