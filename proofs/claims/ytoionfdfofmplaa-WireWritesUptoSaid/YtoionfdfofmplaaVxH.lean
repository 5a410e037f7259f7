/- The engine, part H: soundness of the other operations. -/
import Derived.Test.YtoionfdfofmplaaVxG
import Derived.ChangeKeysEq
set_option autoImplicit false
set_option linter.unusedVariables false
set_option linter.unusedSimpArgs false
namespace Go.Vx
open Go Go.RowKit

theorem run_sizeOf_pos {P : Program} {t : TypeId} (h : 0 < P.cellsOf t) (w : World) : (sizeOf t).run P w = .ok (P.cellsOf t) w := by
  unfold Program.cellsOf at h ⊢
  cases hi : P.info? t with
  | none => rw [hi] at h; simp at h
  | some i => simp [sizeOf, typeInfo, hi]

theorem run_part' {P : Program} {ρ : Rho} {v : AV} {t : TypeId} (hv : Has P v t) (ok : OK P ρ v) (as bs : List Value) (w : World) :
    (part t (as ++ (cells P ρ v ++ bs)).toArray as.length).run P w = .ok (den P ρ v) w := by
  obtain ⟨d, hd, hw⟩ := has_wide hv
  unfold part
  rw [Sem.run_bind, run_isAgg' hd, hw]
  cases hwv : wide v with
  | true =>
    have hl := len_cells P ρ v t hv ok
    have : (as ++ (cells P ρ v ++ bs)).toArray.extract as.length (as.length + P.cellsOf t) = (cells P ρ v).toArray := by
      rw [← hl]
      apply Array.ext'
      simp
    simp only [if_true, Result.andThen_ok, Sem.run_bind, run_sizeOf' hd, this, den_wide P ρ v hwv, Sem.run_pure]
  | false =>
    have h1 := den_narrow P ρ v t hv hwv
    simp [h1]

theorem tdiv_rem_bd (k : IntKind) (a b : Int) (h1 : k.min ≤ a) (h2 : a ≤ k.max) : k.min ≤ a.tmod b ∧ a.tmod b ≤ k.max := by
  have hmin : k.min ≤ 0 := by cases k <;> simp [IntKind.min, IntKind.signed, IntKind.bits]
  have hmax : 0 ≤ k.max := by cases k <;> simp [IntKind.max, IntKind.signed, IntKind.bits]
  have e0 : (a.tmod b).natAbs ≤ a.natAbs := by rw [Int.natAbs_tmod]; exact Nat.mod_le _ _
  rcases Int.le_total 0 a with h | h
  · have e1 := Int.tmod_nonneg b h
    omega
  · have e1 := Int.tmod_nonneg b (show 0 ≤ -a by omega)
    rw [Int.neg_tmod] at e1
    omega

theorem shr_bd (k : IntKind) (a : Int) (n : Nat) (h1 : k.min ≤ a) (h2 : a ≤ k.max) : k.min ≤ a.fdiv (2 ^ n) ∧ a.fdiv (2 ^ n) ≤ k.max := by
  have hmin : k.min ≤ 0 := by cases k <;> simp [IntKind.min, IntKind.signed, IntKind.bits]
  have hmax : 0 ≤ k.max := by cases k <;> simp [IntKind.max, IntKind.signed, IntKind.bits]
  have hp : (0 : Int) < 2 ^ n := Int.pow_pos (by decide)
  rw [Int.fdiv_eq_ediv_of_nonneg _ (Int.le_of_lt hp)]
  generalize hq : (2 : Int) ^ n = q at *
  have hq1 : 1 ≤ q := by omega
  rcases Int.le_total 0 a with h | h
  · have e1 : 0 ≤ a / q := Int.ediv_nonneg h (by omega)
    have e2 : a / q ≤ a := Int.ediv_le_self _ h
    omega
  · have e1 : a / q ≤ 0 := by
      have := Int.ediv_le_ediv (c := q) hp h
      simpa using this
    have e2 : a ≤ a / q := by
      have h3 : (-a) ≥ 0 := by omega
      have := Int.le_ediv_of_mul_le hp (a := a) (b := a) (by
        have := Int.mul_le_mul_of_nonneg_left hq1 h3
        have e : -a * 1 = -a := by simp
        have e' : -a * q = -(a * q) := Int.neg_mul a q
        omega)
      exact this
    omega

theorem ibin_bd (op : BinOp) (k : IntKind) (a b : Int) (h1 : k.min ≤ a) (h2 : a ≤ k.max) : k.min ≤ ibin op k a b ∧ ibin op k a b ≤ k.max := by
  have hmin : k.min ≤ 0 := by cases k <;> simp [IntKind.min, IntKind.signed, IntKind.bits]
  have hmax : 0 ≤ k.max := by cases k <;> simp [IntKind.max, IntKind.signed, IntKind.bits]
  cases op <;> simp only [ibin]
  case rem => exact tdiv_rem_bd k a b h1 h2
  case shr => exact shr_bd k a _ h1 h2
  all_goals first
    | exact wrap_bd k _
    | exact ⟨hmin, hmax⟩

section
variable {P : Program} (w : World) (t : TypeId) (k k' : IntKind) (a b : Int)
theorem run_b03 {op : BinOp} (h : bcl op = 3) (hb : 0 ≤ b) : (binOp op t (.int k a) (.int k' b)).run P w = .ok (.int k (ibin op k a b)) w := by
  have : ¬ b < 0 := by omega
  cases op <;> simp [bcl] at h <;> simp [binOp, Op.shift, this, ibin]
theorem run_b01 {op : BinOp} (h : bcl op = 1) (hb : (b == 0) = false) : (binOp op t (.int k a) (.int k b)).run P w = .ok (.int k (ibin op k a b)) w := by
  have : ¬ b = 0 := by simpa using hb
  cases op <;> simp [bcl] at h <;> simp [binOp, Op.intDiv, this, ibin]
theorem run_b04 {op : BinOp} (h : bcl op = 4) : (binOp op t (.int k a) (.int k b)).run P w = .ok (.bool (icmp op a b)) w := by
  cases op <;> simp [bcl] at h <;> simp [binOp, Op.intCmp, icmp]
theorem run_b02 {op : BinOp} (h : bcl op = 0 ∨ bcl op = 2) : (binOp op t (.int k a) (.int k b)).run P w = .ok (.int k (ibin op k a b)) w := by
  cases op <;> simp [bcl] at h <;> simp [binOp, Op.intArith, Op.intBits, ibin]
theorem run_guard (op : BinOp) (x y : Operand) : (eqGuard op t x y (.int k a) (.int k' b)).run P w = .ok () w := by
  unfold eqGuard
  split <;> simp
end

section
variable {P : Program} {w0 : Base} {ro : Nat} {ρ : Rho} {tm mem : List (Nat × AV)} {a : Act} {w : World} (S : Sim P w0 ro ρ tm mem a.tmps w)
  {gl : Nat → Option AV} (hgl : GL P ρ gl) {m : Nat}
  {o : Oper} {e : Eff} {next : Act → World → Prop} {Q : Exit → Act → World → Prop} (hn : ∀ v ρ' w', After P ro ρ mem w m e v ρ' w' → next (a.put o.dst v) w')
include S hn hgl

theorem s_nilCheck {x : Operand} {b : Nat} {p : List Nat} {t : TypeId} (ho : o.op = .nilCheck x) (hx : evO gl tm x = some (.ptr b p t)) (he : e = .val (.ptr b p t)) : o.wp P a w next Q := by
  obtain ⟨h1, h2⟩ := ev_sound S hgl hx
  refine put_val hn he h2 ?_
  have h3 := h2
  simp only [OK] at h3
  obtain ⟨nm, of, hb, hp⟩ := h3
  rw [den_ptr hb hp] at h1 ⊢
  simp [execOp, ho, h1]

theorem s_bin {op : BinOp} {t ty : TypeId} {x y : Operand} {q q' : IntKind} {i j : Int} {v : AV} (ho : o.op = .binOp op t x y ty) (hx : evO gl tm x = some (.int q i)) (hy : evO gl tm y = some (.int q' j))
    (hv : (bcl op = 3 ∧ 0 ≤ j ∧ v = .int q (ibin op q i j)) ∨ (bcl op = 1 ∧ q = q' ∧ (j == 0) = false ∧ v = .int q (ibin op q i j)) ∨ (bcl op = 4 ∧ q = q' ∧ v = .bool (icmp op i j)) ∨ ((bcl op = 0 ∨ bcl op = 2) ∧ q = q' ∧ v = .int q (ibin op q i j)))
    (he : e = .val v) : o.wp P a w next Q := by
  obtain ⟨h1, h2⟩ := ev_sound S hgl hx
  obtain ⟨h3, -⟩ := ev_sound S hgl hy
  simp only [OK] at h2
  simp only [den] at h1 h3
  have hbd := ibin_bd op q i j h2.1 h2.2
  have hg := fun (w : World) => run_guard (P := P) w t q q' i j op x y
  rcases hv with ⟨hc, hb, rfl⟩ | ⟨hc, rfl, hb, rfl⟩ | ⟨hc, rfl, rfl⟩ | ⟨hc, rfl, rfl⟩
  · exact put_val hn he (by simpa only [OK] using hbd) (by simp [execOp, ho, h1, h3, hg, run_b03 (P := P) w t q q' i j hc hb, den])
  · exact put_val hn he (by simpa only [OK] using hbd) (by simp [execOp, ho, h1, h3, hg, run_b01 (P := P) w t q i j hc hb, den])
  · exact put_val hn he (by simp [OK]) (by simp [execOp, ho, h1, h3, hg, run_b04 (P := P) w t q i j hc, den])
  · exact put_val hn he (by simpa only [OK] using hbd) (by simp [execOp, ho, h1, h3, hg, run_b02 (P := P) w t q i j hc, den])

theorem s_un {op : UnOp} {t : TypeId} {x : Operand} {u v : AV} (ho : o.op = .unOp op t x) (hx : evO gl tm x = some u)
    (hv : (∃ q i, op = .neg ∧ u = .int q i ∧ v = .int q (ineg q i)) ∨ (∃ q i, op = .xor ∧ u = .int q i ∧ v = .int q (inot q i)) ∨ (∃ b, op = .not ∧ u = .bool b ∧ v = .bool (!b))) (he : e = .val v) : o.wp P a w next Q := by
  obtain ⟨h1, -⟩ := ev_sound S hgl hx
  rcases hv with ⟨q, i, rfl, rfl, rfl⟩ | ⟨q, i, rfl, rfl, rfl⟩ | ⟨b, rfl, rfl, rfl⟩ <;> simp only [den] at h1
  · exact put_val hn he (by simp only [OK, ineg]; exact wrap_bd _ _) (by simp [execOp, ho, h1, Op.unary, Op.intArith, ineg, den])
  · exact put_val hn he (by simp only [OK, inot]; exact wrap_bd _ _) (by simp [execOp, ho, h1, Op.unary, Op.intBits, inot, den])
  · exact put_val hn he (by simp [OK]) (by simp [execOp, ho, h1, Op.unary, den])

theorem s_conv {s d : TypeId} {x : Operand} {q r : IntKind} {i : Int} {ds : TypeDesc} (ho : o.op = .convert s d x) (hx : evO gl tm x = some (.int r i)) (hs : P.underlying s = some ds) (hd : P.underlying d = some (.int q)) (he : e = .val (.int q (q.wrap i))) : o.wp P a w next Q := by
  obtain ⟨h1, -⟩ := ev_sound S hgl hx
  simp only [den] at h1
  exact put_val hn he (by simp only [OK]; exact wrap_bd _ _) (by simp [execOp, ho, h1, convert, run_underlying hs, run_underlying hd, Conv.intToInt, den])

theorem s_fieldAddr {s : TypeId} {x : Operand} {i b : Nat} {p : List Nat} {fs : Array Field} {f : Field} (ho : o.op = .fieldAddr s x i) (hx : evO gl tm x = some (.ptr b p s)) (hs : P.underlying s = some (.struct fs)) (hf : fs[i]? = some f)
    (hz : 0 < P.cellsOf f.type) (he : e = .val (.ptr b (p ++ [i]) f.type)) : o.wp P a w next Q := by
  obtain ⟨h1, h2⟩ := ev_sound S hgl hx
  simp only [OK] at h2
  obtain ⟨nm, of, hb, hp⟩ := h2
  have hp' := pathN_snoc hp (i := i) (o' := f.offset) (u := f.type) (by simp [stepT, hs, hf])
  refine put_val hn he (by simp only [OK]; exact ⟨nm, _, hb, hp'⟩) ?_
  rw [den_ptr hb hp] at h1
  rw [den_ptr hb hp']
  have hz' : ¬ P.cellsOf f.type = 0 := by omega
  simp [execOp, ho, h1, Instr.fieldAt, run_underlying hs, hf, Instr.sureAddr, fieldPlace, run_sizeOf_pos hz, hz', addr_add, Nat.add_assoc]

theorem s_field {s : TypeId} {x : Operand} {i : Nat} {l : List AV} {v : AV} {fs : Array Field} (ho : o.op = .field s x i) (hx : evO gl tm x = some (.agg l)) (hs : P.underlying s = some (.struct fs)) (hc : chk P (.agg l) s = true) (hv : l[i]? = some v)
    (he : e = .val v) : o.wp P a w next Q := by
  obtain ⟨h1, h2⟩ := ev_sound S hgl hx
  have hh := has_of_chk P _ s hc
  simp only [Has] at hh
  rcases hh with ⟨fs', hu, hF⟩ | ⟨n, e', hu, -⟩
  · rw [hs] at hu
    simp only [Option.some.injEq, TypeDesc.struct.injEq] at hu
    subst hu
    have hlen : (i : Nat) < fs.size := by
      have h3 := okL_get (by simpa only [OK] using h2) hv
      have : ∀ (l : List AV) (fs : List Field) (o s : Nat), HasF P l fs o s → l.length = fs.length := by
        intro l
        induction l with
        | nil => intro fs o s h; cases fs with
          | nil => rfl
          | cons => simp [HasF] at h
        | cons v l ih => intro fs o s h; cases fs with
          | nil => simp [HasF] at h
          | cons f fs => simp only [HasF] at h; simp [ih _ _ _ h.2.2]
      have hl := this l fs.toList 0 _ hF
      rcases Nat.lt_or_ge i l.length with hi | hi
      · simpa [hl] using hi
      · simp [List.getElem?_eq_none hi] at hv
    have hfi : fs.toList[i]? = some fs[i] := by simp [hlen]
    simp only [OK] at h2
    obtain ⟨u, as, bs, k1, k2, k3, k4, k5, -⟩ := field_at P ρ l fs.toList 0 _ hF h2 i fs[i] hfi
    rw [hv] at k1
    obtain rfl := Option.some.inj k1
    refine put_val hn he k3 ?_
    have hr := run_part' (P := P) k2 k3 as bs w
    have hoff : as.length = fs[i].offset := by omega
    have hcs : den P ρ (.agg l) = .agg (as ++ (cells P ρ v ++ bs)).toArray := by
      rw [den_wide P ρ (.agg l) rfl, cells_agg, k4]
    rw [hcs] at h1
    rw [hoff] at hr
    simp [execOp, ho, h1, Instr.field, run_underlying hs, hlen, asAgg, hr]
  · rw [hs] at hu; simp at hu

theorem s_indexAddr {t el : TypeId} {x y : Operand} {b n : Nat} {p : List Nat} {q : IntKind} {i : Int} (ho : o.op = .indexAddr t x y) (hx : evO gl tm x = some (.ptr b p t)) (hy : evO gl tm y = some (.int q i)) (ht : P.underlying t = some (.array n el))
    (hz : 0 < P.cellsOf el) (hi : 0 ≤ i ∧ i < (n : Int)) (he : e = .val (.ptr b (p ++ [i.toNat]) el)) : o.wp P a w next Q := by
  obtain ⟨h1, h2⟩ := ev_sound S hgl hx
  obtain ⟨h3, -⟩ := ev_sound S hgl hy
  simp only [den] at h3
  simp only [OK] at h2
  obtain ⟨nm, of, hb, hp⟩ := h2
  have hp' := pathN_snoc hp (step_arr ht (i := i.toNat) (by omega))
  refine put_val hn he (by simp only [OK]; exact ⟨nm, _, hb, hp'⟩) ?_
  rw [den_ptr hb hp] at h1
  rw [den_ptr hb hp']
  simp [execOp, ho, h1, h3, Instr.indexAt, asIntOf, run_underlying ht, Instr.sureAddr, hi, run_sizeOf_pos hz, addr_add, Nat.add_assoc]

theorem s_indexAddrS {t el : TypeId} {x y : Operand} {b off len cap : Nat} {p : List Nat} {q : IntKind} {i : Int} (ho : o.op = .indexAddr t x y) (hx : evO gl tm x = some (.sl b p off len cap el)) (hy : evO gl tm y = some (.int q i)) (ht : P.underlying t = some (.slice el))
    (hz : 0 < P.cellsOf el) (hi : 0 ≤ i ∧ i < (len : Int)) (he : e = .val (.ptr b (p ++ [off + i.toNat]) el)) : o.wp P a w next Q := by
  obtain ⟨h1, h2⟩ := ev_sound S hgl hx
  obtain ⟨h3, -⟩ := ev_sound S hgl hy
  simp only [den] at h3
  simp only [OK] at h2
  obtain ⟨nm, of, n, hb, hp, hcap, hlen, -⟩ := h2
  have hp' := base_elem hp (i := off + i.toNat) (by omega)
  refine put_val hn he (by simp only [OK]; exact ⟨nm, _, hb, hp'⟩) ?_
  rw [den_sl hb hp] at h1
  rw [den_ptr hb hp']
  simp [execOp, ho, h1, h3, Instr.indexAt, asIntOf, run_underlying ht, hi, run_sizeOf_pos hz, addr_add, Nat.add_assoc, Nat.add_mul]

theorem s_indexAddrG {t el : TypeId} {x y : Operand} {b n : Nat} {q : IntKind} {i : Int} (ho : o.op = .indexAddr t x y) (hx : evO gl tm x = some (.gs b n el)) (hy : evO gl tm y = some (.int q i)) (ht : P.underlying t = some (.slice el))
    (hz : 0 < P.cellsOf el) (hi : 0 ≤ i ∧ i < (n : Int)) (he : e = .val (.ptr b [i.toNat] el)) : o.wp P a w next Q := by
  obtain ⟨h1, h2⟩ := ev_sound S hgl hx
  obtain ⟨h3, -⟩ := ev_sound S hgl hy
  simp only [den] at h3
  simp only [OK] at h2
  obtain ⟨nm, hb, hr, ht', hn', -, hnon, -⟩ := h2
  have hnn : nm.non = false := by
    cases hq : nm.non with
    | false => rfl
    | true => have := hnon hq; omega
  have hp' : pathN P nm [i.toNat] = some (i.toNat * P.cellsOf el, el) := by
    unfold pathN
    rw [if_pos hr]
    simp only [pathT, ht', show i.toNat < nm.cap by omega, if_true, Nat.add_zero]
  have hv : den P ρ (.gs b n el) = .slice (some ⟨nm.blk, nm.off, none⟩) n nm.tot := by simp [den, hb, gsV, hnn]
  rw [hv] at h1
  refine put_val hn he (by simp only [OK]; exact ⟨nm, _, hb, hp'⟩) ?_
  rw [den_ptr hb hp']
  simp [execOp, ho, h1, h3, Instr.indexAt, asIntOf, run_underlying ht, hi, run_sizeOf_pos hz, addr_add, Nat.add_assoc, Nat.add_mul]

theorem s_indexI {t el : TypeId} {x y : Operand} {n : Nat} {l : List Int} {q r : IntKind} {i : Int} (ho : o.op = .index t x y) (hx : evO gl tm x = some (.ints q n l)) (hy : evO gl tm y = some (.int r i)) (ht : P.underlying t = some (.array n el))
    (hc : chk P (.ints q n l) t = true) (hi : 0 ≤ i ∧ i < (n : Int)) (he : e = .val (.int q (l.getD i.toNat 0))) : o.wp P a w next Q := by
  obtain ⟨h1, h2⟩ := ev_sound S hgl hx
  obtain ⟨h3, -⟩ := ev_sound S hgl hy
  simp only [den] at h3
  have hh := has_of_chk P _ t hc
  obtain ⟨u, as, bs, k1, k2, k3, k4, k5, -⟩ := step_down P ρ _ t hh h2 i.toNat _ _ (step_arr ht (by omega))
  simp only [sub1, Option.some.injEq] at k1
  subst k1
  refine put_val hn he k3 ?_
  obtain ⟨d, hd, -⟩ := has_wide k2
  have hr := run_part' (P := P) k2 k3 as bs w
  rw [k5] at hr
  have hcs : den P ρ (.ints q n l) = .agg (as ++ (cells P ρ (.int q (l.getD i.toNat 0)) ++ bs)).toArray := by
    rw [den_wide P ρ (.ints q n l) rfl, k4]
  rw [hcs] at h1
  simp only [execOp, ho, h1, h3, Instr.index, asIntOf, Sem.run_bind, run_underlying ht, Sem.run_pure, Result.andThen_ok, hi, and_self, if_true, run_sizeOf' hd, hr]

theorem s_indexA {t el : TypeId} {x y : Operand} {n : Nat} {l : List AV} {v : AV} {r : IntKind} {i : Int} (ho : o.op = .index t x y) (hx : evO gl tm x = some (.agg l)) (hy : evO gl tm y = some (.int r i)) (ht : P.underlying t = some (.array n el))
    (hc : chk P (.agg l) t = true) (hil : 0 ≤ i ∧ i < (l.length : Int)) (hv : subL l i.toNat = some v) (he : e = .val v) : o.wp P a w next Q := by
  have hi := hil.1
  rw [subL_eq (by omega)] at hv
  obtain ⟨h1, h2⟩ := ev_sound S hgl hx
  obtain ⟨h3, -⟩ := ev_sound S hgl hy
  simp only [den] at h3
  have hh := has_of_chk P _ t hc
  have hin : i.toNat < n := by
    simp only [Has] at hh
    rcases hh with ⟨fs, hu, -⟩ | ⟨n', e', hu, hl, -⟩
    · rw [ht] at hu; simp at hu
    · rw [ht] at hu
      simp only [Option.some.injEq, TypeDesc.array.injEq] at hu
      obtain ⟨rfl, rfl⟩ := hu
      rcases Nat.lt_or_ge i.toNat l.length with hi | hi
      · omega
      · simp [List.getElem?_eq_none hi] at hv
  obtain ⟨u, as, bs, k1, k2, k3, k4, k5, -⟩ := step_down P ρ _ t hh h2 i.toNat _ _ (step_arr ht hin)
  simp only [sub1] at k1
  rw [subL_eq (List.getElem?_eq_some_iff.1 hv).1, hv] at k1
  obtain rfl := Option.some.inj k1
  refine put_val hn he k3 ?_
  obtain ⟨d, hd, -⟩ := has_wide k2
  have hr := run_part' (P := P) k2 k3 as bs w
  rw [k5] at hr
  have hcs : den P ρ (.agg l) = .agg (as ++ (cells P ρ v ++ bs)).toArray := by
    rw [den_wide P ρ (.agg l) rfl, k4]
  rw [hcs] at h1
  have hi' : 0 ≤ i ∧ i < (n : Int) := by omega
  simp only [execOp, ho, h1, h3, Instr.index, asIntOf, Sem.run_bind, run_underlying ht, Sem.run_pure, Result.andThen_ok, hi', and_self, if_true, run_sizeOf' hd, hr]

theorem s_indexStr {t : TypeId} {x y : Operand} {s : ByteArray} {r : IntKind} {i : Int} (ho : o.op = .index t x y) (hx : evO gl tm x = some (.str s)) (hy : evO gl tm y = some (.int r i)) (ht : P.underlying t = some .string)
    (hi : 0 ≤ i ∧ i < (s.size : Int)) (he : e = .val (.int .u8 (s.data.toList.getD i.toNat 0).toNat)) : o.wp P a w next Q := by
  obtain ⟨h1, -⟩ := ev_sound S hgl hx
  obtain ⟨h3, -⟩ := ev_sound S hgl hy
  simp only [den] at h1 h3
  have hlt : i.toNat < s.size := by omega
  have hb : s[i.toNat]? = some (s.data.toList.getD i.toNat 0) := by
    have hlt' : i.toNat < s.data.toList.length := by simpa using hlt
    rw [List.getD_eq_getElem?_getD, List.getElem?_eq_getElem hlt']
    simp only [Option.getD_some, Array.getElem_toList]
    rw [getElem?_pos s i.toNat hlt]
    rfl
  refine put_val hn he ?_ ?_
  · simp only [OK, IntKind.min, IntKind.max, IntKind.signed, IntKind.bits]
    have := (s.data.toList.getD i.toNat 0).toNat_lt
    simp only [Bool.false_eq_true, if_false]
    omega
  · simp [execOp, ho, h1, h3, Instr.index, asIntOf, run_underlying ht, hi.1, hb, den]

theorem s_extract {x : Operand} {i : Nat} {l : List AV} {v : AV} (ho : o.op = .extract x i) (hx : evO gl tm x = some (.tup l)) (hv : l[i]? = some v) (he : e = .val v) : o.wp P a w next Q := by
  obtain ⟨h1, h2⟩ := ev_sound S hgl hx
  simp only [OK] at h2
  simp only [den] at h1
  have := denT_get (P := P) (ρ := ρ) hv
  exact put_val hn he (okL_get h2 hv) (by simp [execOp, ho, h1, Instr.extract, this])

theorem s_makeFunc {g : FuncId} {first caps : Array Operand} {l : List AV} (ho : o.op = .makeFunc (.func g) first caps) (hf : first.toList = []) (hc : evL (evO gl tm) caps.toList = some l) (he : e = .val (.clo g l)) : o.wp P a w next Q := by
  obtain ⟨h1, h2⟩ := evL_sound S hgl hc
  have hf' : first = #[] := by apply Array.ext'; simpa using hf
  subst hf'
  have hc' : caps.map a.eval = (denT P ρ l).toArray := by rw [← h1, ← Array.toList_map, Array.toArray_toList]
  exact put_val hn he (by simpa only [OK] using h2) (by simp [execOp, ho, Instr.makeFunc, hc', den])

theorem s_makeInterface {t : TypeId} {x : Operand} {v : AV} {d : TypeDesc} (ho : o.op = .makeInterface t x) (hx : evO gl tm x = some v) (hd : P.underlying t = some d) (hi : ∀ ms, d ≠ .interface ms) (he : e = .val (.ifc t v)) : o.wp P a w next Q := by
  obtain ⟨h1, h2⟩ := ev_sound S hgl hx
  have hc : P.concrete t = true := by
    unfold Program.concrete
    rw [hd]
    cases d <;> simp_all
  exact put_val hn he (by simpa only [OK] using h2) (by simp [execOp, ho, h1, run_makeInterface w t _ hc, den])

end

end Go.Vx
