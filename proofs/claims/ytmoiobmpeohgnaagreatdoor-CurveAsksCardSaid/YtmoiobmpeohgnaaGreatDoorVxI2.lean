/- The engine, part I2: more operations: parts of rows, rows that nobody writes to, texts, made rows. -/
import Derived.Test.YtmoiobmpeohgnaaGreatDoorVxI
import Derived.Laws.IdiomStrings
import Derived.Lib.SliceRun
import Derived.Lib.AppendZeros
set_option autoImplicit false
set_option linter.unusedVariables false
set_option linter.unusedSimpArgs false
namespace Go.Vx
open Go Go.RowKit
section
variable {P:Program} {w0:Base} {ro:Nat} {ρ:Rho} {tm mem:List (Nat × AV)} {a:Act} {w:World} (S:Sim P w0 ro ρ tm mem a.tmps w)
 {gl:Nat → Option AV} (hgl:GL P ρ gl)
include S hgl
theorem ZCt {x:Option Operand} {d y Y:Nat} (hy:y ≤ Y) {α:Type} {k:Nat → Option α} {r : α} (h:bnd (evO gl tm) x d y none k = some r) (code:BoundsCode) :
  ∃ i, k i = some r ∧ ((x = none ∧ i = d) ∨ (∃ o, x = some o ∧ i ≤ y ∧ ∀ w : World, (Instr.sliceBound (a.eval o) Y code).run P w = .ok i w)) := by
 unfold bnd at h
 cases x with
 | none => exact ⟨d, h, .inl ⟨rfl, rfl⟩⟩
 | some o =>
  simp only at h
  split at h
  ·rename_i q i hi
   replace h := Zag h
   obtain ⟨hc, h⟩ := h
   simp only [decide_eq_true_eq] at hc
   obtain ⟨h1, -⟩ := ZaH S hgl hi
   simp only [den] at h1
   exact ⟨i.toNat, h, .inr ⟨o, rfl, by omega, fun w => by simp [Instr.sliceBound, h1, asIntOf, show 0 ≤ i ∧ i ≤ (Y:Int) by omega]⟩⟩
  ·simp at h
theorem ZhM {lo hi:Option Operand} {len cap Cap:Nat} {α:Type} {k:Nat → Nat → Option α} {r : α} (isS:Bool) (hlc:len ≤ cap) (hcc:cap ≤ Cap)
  (h:bnd (evO gl tm) hi len cap none (fun h => bnd (evO gl tm) lo 0 h none fun l => k h l) = some r) :
  ∃ h l, k h l = some r ∧ l ≤ h ∧ h ≤ cap ∧ (∀ w : World, (Instr.sliceBounds isS len Cap (lo.map a.eval) (hi.map a.eval) none).run P w = .ok (l, h, Cap) w) ∧ (lo = none → l = 0) := by
 obtain ⟨i, h1, h2⟩ := ZCt S hgl hcc h (if isS then .sliceAcap else .sliceAlen)
 obtain ⟨j, h3, h4⟩ := Zwr S hgl h1 .sliceB
 refine ⟨i, j, h3, ?_, ?_, fun w => ?_, fun hn => ?_⟩
 ·rcases h4 with ⟨-, rfl⟩ | ⟨o, -, hj, -⟩ <;> omega
 ·rcases h2 with ⟨-, rfl⟩ | ⟨o, -, hi, -⟩ <;> omega
 rotate_left
 ·rcases h4 with ⟨-, rfl⟩ | ⟨o, h5, -⟩
  ·rfl
  ·rw [hn] at h5; cases h5
 ·unfold Instr.sliceBounds
  rcases h2 with ⟨rfl, rfl⟩ | ⟨o, rfl, -, ho⟩ <;> rcases h4 with ⟨rfl, rfl⟩ | ⟨o', rfl, -, ho'⟩ <;> simp_all
variable {m:Nat} {o:Oper} {e:Eff} {next:Act → World → Prop} {Q:Exit → Act → World → Prop} (hn:∀ v ρ' w', After P ro ρ mem w m e v ρ' w' → next (a.put o.dst v) w')
include hn
theorem ZFm {t el:TypeId} {x:Operand} {lo hi:Option Operand} {b n:Nat} (ho:o.op = .slice t x lo hi none) (hx:evO gl tm x = some (.gs b n el)) (ht:P.underlying t = some (.slice el)) (hz : 0 < P.cellsOf el)
  (h:bnd (evO gl tm) hi n n none (fun h => bnd (evO gl tm) lo 0 h none fun l => some (.val (.gp b l (h - l) el false 0))) = some e) : o.wp P a w next Q := by
 obtain ⟨h1, h2⟩ := ZaH S hgl hx
 simp only [OK] at h2
 obtain ⟨nm, hb, hr, ht', hn', hle, hnon, hmx⟩ := h2
 cases hq : nm.non with
 | true =>
  have hn0 := hnon hq
  subst hn0
  obtain ⟨h, l, k1, k2, k3, k4, k5⟩ := ZhM S hgl (Cap := 0) true (Nat.le_refl _) (Nat.le_refl _) h
  simp only [Option.some.injEq] at k1
  have h0 : h = 0 := by omega
  have l0 : l = 0 := by omega
  subst h0; subst l0
  have hv : den P ρ (.gs b 0 el) = .slice none 0 0 := by simp [den, hb, gsV, hq]
  refine Zbj hn k1.symm ?_ ?_
  ·simp only [OK]
   exact ⟨nm, hb, (fun h => by cases h), hr, ht', by omega, by omega, fun _ => by omega, hmx⟩
  ·rw [hv] at h1
   simp only [execOp, ho, h1, Instr.sliceAt, Instr.slice, Sem.run_bind, run_underlying ht, Result.andThen_ok, Sem.run_pure, Option.map_none, k4, ZbM hz]
   simp [den, hb, gpV, hq]
 | false =>
  obtain ⟨h, l, k1, k2, k3, k4, k5⟩ := ZhM S hgl true (Nat.le_refl _) hle h
  simp only [Option.some.injEq] at k1
  have hv : den P ρ (.gs b n el) = .slice (some ⟨nm.blk, nm.off, none⟩) n nm.tot := by simp [den, hb, gsV, hq]
  refine Zbj hn k1.symm ?_ ?_
  ·simp only [OK]
   exact ⟨nm, hb, (fun h => by cases h), hr, ht', by omega, by omega, (fun z => by rw [hq] at z; cases z), hmx⟩
  ·rw [hv] at h1
   simp only [execOp, ho, h1, Instr.sliceAt, Instr.slice, Sem.run_bind, run_underlying ht, Result.andThen_ok, Sem.run_pure, Option.map_none, k4, ZbM hz]
   by_cases hl : nm.tot = l <;> simp [den, hb, gpV, hq, hl, Addr.add]
theorem ZBI {t el:TypeId} {x:Operand} {lo hi:Option Operand} {b lo0 n z:Nat} {nn:Bool} (ho:o.op = .slice t x lo hi none) (hx:evO gl tm x = some (.gp b lo0 n el nn z)) (ht:P.underlying t = some (.slice el)) (hz : 0 < P.cellsOf el)
  (h:bnd (evO gl tm) hi n n none (fun h => bnd (evO gl tm) lo 0 h none fun l => some (.val (.gp b (lo0 + l) (h - l) el nn (cond (Nat.beq l 0) z lo0)))) = some e) : o.wp P a w next Q := by
 obtain ⟨h1, h2⟩ := ZaH S hgl hx
 simp only [OK] at h2
 obtain ⟨nm, hb, hnn, hr, ht', hle, hct, hnon, hmx⟩ := h2
 cases hq : nm.non with
 | true =>
  have hn0 := hnon hq
  have e1 : n = 0 := by omega
  have e2 : lo0 = 0 := by omega
  subst e1; subst e2
  obtain ⟨h, l, k1, k2, k3, k4, k5⟩ := ZhM S hgl (Cap := 0) true (by omega) (by omega) h
  simp only [Option.some.injEq] at k1
  have h0 : h = 0 := by omega
  have l0 : l = 0 := by omega
  subst h0; subst l0
  have hv : den P ρ (.gp b 0 0 el nn z) = .slice none 0 0 := by simp [den, hb, gpV, hq]
  refine Zbj hn k1.symm ?_ ?_
  ·simp only [OK]
   exact ⟨nm, hb, hnn, hr, ht', by omega, hct, hnon, hmx⟩
  ·rw [hv] at h1
   simp only [execOp, ho, h1, Instr.sliceAt, Instr.slice, Sem.run_bind, run_underlying ht, Result.andThen_ok, Sem.run_pure, Option.map_none, k4, ZbM hz]
   simp [den, hb, gpV, hq]
 | false =>
  obtain ⟨h, l, k1, k2, k3, k4, k5⟩ := ZhM S hgl (Cap := nm.tot - lo0) true (by omega) (by omega) h
  simp only [Option.some.injEq] at k1
  have hv : den P ρ (.gp b lo0 n el nn z) = .slice (some (if nm.tot = lo0 then (⟨nm.blk, nm.off, none⟩ : Addr).add (z * P.cellsOf el) else (⟨nm.blk, nm.off, none⟩ : Addr).add (lo0 * P.cellsOf el))) n (nm.tot - lo0) := by simp [den, hb, gpV, hq]
  refine Zbj hn k1.symm ?_ ?_
  ·simp only [OK]
   exact ⟨nm, hb, hnn, hr, ht', by omega, hct, hnon, hmx⟩
  ·rw [hv] at h1
   simp only [execOp, ho, h1, Instr.sliceAt, Instr.slice, Sem.run_bind, run_underlying ht, Result.andThen_ok, Sem.run_pure, Option.map_none, k4, ZbM hz]
   have hv' : den P ρ (.gp b (lo0 + l) (h - l) el nn (cond (Nat.beq l 0) z lo0)) = .slice (some (if nm.tot = lo0 + l then (⟨nm.blk, nm.off, none⟩ : Addr).add ((cond (Nat.beq l 0) z lo0) * P.cellsOf el) else (⟨nm.blk, nm.off, none⟩ : Addr).add ((lo0 + l) * P.cellsOf el))) (h - l) (nm.tot - (lo0 + l)) := by simp [den, hb, gpV, hq]
   rw [hv', show nm.tot - (lo0 + l) = nm.tot - lo0 - l by omega]
   by_cases h6 : nm.tot - lo0 = l
   ·have h7 : nm.tot = lo0 + l := by omega
    rw [if_pos h6, if_pos h7]
    cases l with
    | zero =>
     rw [if_pos (by omega:nm.tot = lo0)]
     rfl
    | succ l =>
     rw [if_neg (by omega:¬ nm.tot = lo0)]
     rfl
   ·have h7 : ¬ nm.tot = lo0 + l := by omega
    have h8 : ¬ nm.tot = lo0 := by omega
    rw [if_neg h6, if_neg h7, if_neg h8]
    simp only [Option.map_some, Zc6, Nat.add_mul, Nat.add_assoc]
theorem ZFn {t el:TypeId} {x:Operand} {lo hi:Option Operand} {b:Nat} {p:List Ds} {d:Dc} {l0:List d.T} (ho:o.op = .slice t x lo hi none) (hx:evO gl tm x = some (.dv b p el d l0)) (ht:P.underlying t = some (.slice el)) (hz : 0 < P.cellsOf el)
  (h:bnd (evO gl tm) hi l0.length l0.length none (fun h => bnd (evO gl tm) lo 0 h none fun l => some (.val (.dv b (p ++ [.sub l (P.cellsOf el)]) el d ((l0.drop l).take (h - l))))) = some e) : o.wp P a w next Q := by
 obtain ⟨h1, h2⟩ := ZaH S hgl hx
 simp only [OK] at h2
 obtain ⟨nm, L, hb, hl, hf, hadr, hlen, hmx, hrep⟩ := h2
 obtain ⟨h, l, k1, k2, k3, k4, k5⟩ := ZhM S hgl (Cap := L.2) true (Nat.le_refl _) hlen h
 simp only [Option.some.injEq] at k1
 have happ : dloc nm.K (nmL nm) (p ++ [.sub l (P.cellsOf el)]) = some (if L.2 = l then L.1 else L.1.map (·.add (l * P.cellsOf el)), L.2 - l) := by
  have key : ∀ (p:List Ds) (q:Option Addr × Nat), dloc nm.K q p = some L → dloc nm.K q (p ++ [.sub l (P.cellsOf el)]) = some (if L.2 = l then L.1 else L.1.map (·.add (l * P.cellsOf el)), L.2 - l) := by
   intro p
   induction p with
   | nil => intro q h; simp only [dloc, Option.some.injEq] at h; subst h; rfl
   | cons s p ih =>
    intro q h
    cases s with
    | sub lo s => simp only [dloc, List.cons_append] at h ⊢; exact ih _ h
    | elem i s o =>
     simp only [dloc, List.cons_append] at h ⊢
     split at h
     ·split at h
      ·exact ih _ h
      ·cases h
     ·cases h
  exact key p _ hl
 have hv : den P ρ (.dv b p el d l0) = .slice L.1 l0.length L.2 := by simp [den, hb, dvV, hl]
 have htl : ((l0.drop l).take (h - l)).length = h - l := by simp; omega
 refine Zbj hn k1.symm ?_ ?_
 ·simp only [OK]
  refine ⟨nm, _, hb, happ, hf, ⟨?_, ?_⟩, by simp only; omega, by simp only; omega, ?_⟩
  ·intro hn0
   simp only at hn0 ⊢
   have : L.1 = none := by
    split at hn0
    ·exact hn0
    ·simpa using hn0
   have := hadr.1 this
   omega
  ·intro ad had
   simp only at had
   split at had
   ·exact hadr.2 ad had
   ·obtain ⟨a0, ha0, rfl⟩ := Option.map_eq_some_iff.1 had
    obtain ⟨g1, g2⟩ := hadr.2 a0 ha0
    unfold Addr.add
    split
    ·exact ⟨g1, g2⟩
    ·exact ⟨rfl, g2⟩
  ·intro i y hy
   rw [List.getElem?_take] at hy
   split at hy
   ·rename_i hi'
    rw [List.getElem?_drop] at hy
    obtain ⟨b', o', g1, g2⟩ := hrep (l + i) y hy
    have hne : ¬ L.2 = l := by
     have := (List.getElem?_eq_some_iff.1 hy).1
     omega
    refine ⟨b', o' + l * P.cellsOf el, ?_, ?_⟩
    ·simp only [hne, if_false, g1, Option.map_some, Zc6]
    ·rw [Nat.add_mul] at g2
     rw [Nat.add_assoc]; exact g2
   ·cases hy
 ·rw [hv] at h1
  simp only [execOp, ho, h1, Instr.sliceAt, Instr.slice, Sem.run_bind, run_underlying ht, Result.andThen_ok, Sem.run_pure, Option.map_none, k4, ZbM hz]
  simp only [den, hb, dvV, happ, htl]
theorem ZFo {t:TypeId} {x:Operand} {lo hi:Option Operand} {s:ByteArray} (ho:o.op = .slice t x lo hi none) (hx:evO gl tm x = some (.str s)) (ht:P.underlying t = some .string)
  (h:bnd (evO gl tm) hi s.size s.size none (fun h => bnd (evO gl tm) lo 0 h none fun l => some (.val (.str (s.extract l h)))) = some e) : o.wp P a w next Q := by
 obtain ⟨h1, h2⟩ := ZaH S hgl hx
 obtain ⟨h, l, k1, k2, k3, k4⟩ := Zk9 S hgl false (Nat.le_refl _) h
 simp only [Option.some.injEq] at k1
 simp only [den] at h1
 simp only [OK] at h2
 refine Zbj hn k1.symm ?_ ?_
 ·simp only [OK]
  have : (s.extract l h).size ≤ s.size := by simp [ByteArray.size_extract]; omega
  omega
 ·simp [execOp, ho, h1, Instr.sliceAt, Instr.slice, run_underlying ht, den]
  rw [k4 w]
  rfl
theorem Zzz {t el:TypeId} {x y:Operand} {b lo n z:Nat} {nn:Bool} {q:IntKind} {i:Int} (ho:o.op = .indexAddr t x y) (hx:evO gl tm x = some (.gp b lo n el nn z)) (hy:evO gl tm y = some (.int q i)) (ht:P.underlying t = some (.slice el))
  (hz : 0 < P.cellsOf el) (hi : 0 ≤ i ∧ i < (n:Int)) (he:e = .val (.ptr b [lo + i.toNat] el)) : o.wp P a w next Q := by
 obtain ⟨h1, h2⟩ := ZaH S hgl hx
 obtain ⟨h3, -⟩ := ZaH S hgl hy
 simp only [den] at h3
 simp only [OK] at h2
 obtain ⟨nm, hb, -, hr, ht', hle, hct, hnon, -⟩ := h2
 have hnn : nm.non = false := by
  cases hq : nm.non with
  | false => rfl
  | true => have := hnon hq; omega
 have hp' : pathN P nm [lo + i.toNat] = some ((lo + i.toNat) * P.cellsOf el, el) := by
  unfold pathN
  rw [if_pos hr]
  simp only [pathT, ht', show lo + i.toNat < nm.cap by omega, if_true, Nat.add_zero]
 have hne : ¬ nm.tot = lo := by omega
 have hv : den P ρ (.gp b lo n el nn z) = .slice (some ⟨nm.blk, nm.off + lo * P.cellsOf el, none⟩) n (nm.tot - lo) := by simp [den, hb, gpV, hnn, hne, Zc6]
 rw [hv] at h1
 refine Zbj hn he (by simp only [OK]; exact ⟨nm, _, hb, hp'⟩) ?_
 rw [ZfH hb hp']
 simp [execOp, ho, h1, h3, Instr.indexAt, asIntOf, run_underlying ht, hi, ZbM hz, Zc6, Nat.add_assoc, Nat.add_mul]
theorem ZzA {t el:TypeId} {x y:Operand} {b:Nat} {p:List Ds} {d:Dc} {l0:List d.T} {q:IntKind} {i:Int} (ho:o.op = .indexAddr t x y) (hx:evO gl tm x = some (.dv b p el d l0)) (hy:evO gl tm y = some (.int q i)) (ht:P.underlying t = some (.slice el))
  (hz : 0 < P.cellsOf el) (hi : 0 ≤ i ∧ i < (l0.length : Int)) (he:e = .val (.dq b p (i.toNat * P.cellsOf el) el d (l0.getD i.toNat d.dft))) : o.wp P a w next Q := by
 obtain ⟨h1, h2⟩ := ZaH S hgl hx
 obtain ⟨h3, -⟩ := ZaH S hgl hy
 simp only [den] at h3
 simp only [OK] at h2
 obtain ⟨nm, L, hb, hl, hf, hadr, hlen, hmx, hrep⟩ := h2
 have hlt : i.toNat < l0.length := by omega
 have hget : l0[i.toNat]? = some (l0.getD i.toNat d.dft) := by rw [List.getD_eq_getElem?_getD, List.getElem?_eq_getElem hlt]; rfl
 obtain ⟨b', o', g1, g2⟩ := hrep _ _ hget
 have hv : den P ρ (.dv b p el d l0) = .slice (some ⟨b', o', none⟩) l0.length L.2 := by simp [den, hb, dvV, hl, g1]
 rw [hv] at h1
 refine Zbj hn he ?_ ?_
 ·simp only [OK]
  exact ⟨nm, b', o', L.2, hb, by rw [hl, ← g1], hf, g2⟩
 ·have hp : den P ρ (.dq b p (i.toNat * P.cellsOf el) el d (l0.getD i.toNat d.dft)) = .pointer (some ⟨b', o' + i.toNat * P.cellsOf el, none⟩) := by simp [den, hb, dqV, hl, g1, Zc6]
  rw [hp]
  simp [execOp, ho, h1, h3, Instr.indexAt, asIntOf, run_underlying ht, hi, ZbM hz, Zc6]
theorem s_loadD {t:TypeId} {x:Operand} {b at0:Nat} {p:List Ds} {c:Tc} {v:c.T} (ho:o.op = .load t x) (hx:evO gl tm x = some (.dq b p at0 t (.tc c) v)) (hc:c.fit P t = true) (he:e = .val (c.mk v)) : o.wp P a w next Q := by
 obtain ⟨h1, h2⟩ := ZaH S hgl hx
 simp only [OK] at h2
 obtain ⟨nm, b', o', q, hb, hl, -, hok, hrep⟩ := h2
 have hp : den P ρ (.dq b p at0 t (.tc c) v) = .pointer (some ⟨b', o' + at0, none⟩) := by simp [den, hb, dqV, hl, Zc6]
 rw [hp] at h1
 have hO : OK P ρ (c.mk v) := Tc.ok_mk.2 hok
 refine Zbj hn he hO ?_
 have hrun := Zk7 (P := P) (ρ := ρ) (w := w) (Tc.fit_has hc v) hO b' (o' + at0) (fun j y hy => S.ex.froz b nm hb b' (o' + at0 + j) y (hrep j y (by rw [← Znl P ρ]; exact hy)))
 simp [execOp, ho, Instr.loadAt, h1, Instr.sureAddr, hrun]
omit S hgl hn in
theorem ZzB : (l:List Int) → (r:ByteArray) → l.foldl (fun r n => r.push (UInt8.ofNat n.toNat)) r = ⟨r.data ++ (bStr l).data⟩
 | [], r => by simp [bStr]
 | n :: l, r => by
  rw [List.foldl_cons, ZzB l]
  simp [bStr, ByteArray.push]
omit S hgl hn in
theorem ZzC (l:List Int) : (bStr l).size = l.length := by simp [bStr, ByteArray.size]
theorem s_bstr {s d el:TypeId} {x:Operand} {v:AV} {k:Nat} {l:List Int} {get:Nat → Option AV} (hget:∀ b T, get b = some T → lk b mem = some T) (ho:o.op = .convert s d x) (hx:evO gl tm x = some v) (hs:P.underlying s = some (.slice el)) (hd:P.underlying d = some .string)
  (hr:rowC get v = some (.ints .u8 k l, el)) (he:e = .val (.str (bStr l))) : o.wp P a w next Q := by
 obtain ⟨h1, h2⟩ := ZaH S hgl hx
 obtain ⟨⟨k1, -⟩, k2, -, k4, k5⟩ := Zyu S hget hr h2
 simp only [OK] at k2
 simp only [rowN] at k4 k5
 refine Zbj hn he (by simp only [OK]; rw [ZzC, k2.1]; exact k4) ?_
 rcases k5 with ⟨e1, e2, -⟩ | ⟨b, of, q, e1, -, -, -, e4⟩
 ·have : l = [] := List.eq_nil_of_length_eq_zero (by rw [k2.1, e2])
  subst this
  rw [e1] at h1
  have hr := run_convert_bytes_string (P := P) w s d el none 0 0 hs k1 hd
  have hb : (Conv.bytesToString (.slice none 0 0)).run P w = .ok (.string ByteArray.empty) w := rfl
  have h9 : (execOp a.eval o).run P w = ((convert s d (.slice none 0 0)).run P w).andThen fun v w => .ok (.value v) w := by
   unfold execOp
   rw [ho]
   simp only [h1, Sem.run_bind, Sem.run_pure]
  rw [h9, hr, hb]
  rfl
 ·rw [e1] at h1
  have hl := run_loadCells_list (P := P) (w := w) ⟨b, of, none⟩ (l.map (Value.int .u8)) (fun j v hj => by rw [Zc6]; exact e4 j v (by rw [Zbi]; exact hj))
  rw [List.length_map, k2.1] at hl
  have hr := run_convert_bytes_string (P := P) w s d el (some ⟨b, of, none⟩) k q hs k1 hd
  rw [run_bytesToString w _ k q l hl, ZzB] at hr
  have h9 : (execOp a.eval o).run P w = ((convert s d (.slice (some ⟨b, of, none⟩) k q)).run P w).andThen fun v w => .ok (.value v) w := by
   unfold execOp
   rw [ho]
   simp only [h1, Sem.run_bind, Sem.run_pure]
  rw [h9, hr]
  simp only [Result.andThen_ok, den]
  have h8 : (ByteArray.mk (ByteArray.empty.data ++ (bStr l).data)) = bStr l := by
   show ByteArray.mk (#[] ++ (bStr l).data) = bStr l
   rw [Array.empty_append]
  rw [h8]
theorem s_bstr0 {s d el:TypeId} {x:Operand} (ho:o.op = .convert s d x) (hx:evO gl tm x = some .nils) (hs:P.underlying s = some (.slice el)) (hd:P.underlying d = some .string) (hk:P.underlying el = some (.int .u8))
  (he:e = .val (.str (bStr []))) : o.wp P a w next Q := by
 obtain ⟨h1, -⟩ := ZaH S hgl hx
 simp only [den] at h1
 refine Zbj hn he (by simp only [OK]; rw [ZzC]; decide) ?_
 have hr := run_convert_bytes_string (P := P) w s d el none 0 0 hs hk hd
 have hb : (Conv.bytesToString (.slice none 0 0)).run P w = .ok (.string ByteArray.empty) w := rfl
 have h9 : (execOp a.eval o).run P w = ((convert s d (.slice none 0 0)).run P w).andThen fun v w => .ok (.value v) w := by
  unfold execOp
  rw [ho]
  simp only [h1, Sem.run_bind, Sem.run_pure]
 rw [h9, hr, hb]
 rfl
theorem ZFp {t ty:TypeId} {x y:Operand} {s u:ByteArray} (ho:o.op = .binOp .add t x y ty) (hx:evO gl tm x = some (.str s)) (hy:evO gl tm y = some (.str u)) (hi:inR .i64 ((s.size + u.size : Nat) : Int) = true)
  (he:e = .val (.str (s ++ u))) : o.wp P a w next Q := by
 obtain ⟨h1, -⟩ := ZaH S hgl hx
 obtain ⟨h2, -⟩ := ZaH S hgl hy
 simp only [den] at h1 h2
 simp only [inR, decide_eq_true_eq] at hi
 refine Zbj hn he ?_ ?_
 ·simp only [OK]
  have hmax : IntKind.i64.max = 9223372036854775807 := by decide
  rw [hmax] at hi
  rw [ByteArray.size_append]; exact hi.2
 ·have hlt : ¬ (((s.size + u.size : Nat) : Int) > IntKind.i64.max) := by have := hi.2; omega
  have h9 : ((s.size : Int) + (u.size : Int)) ≤ IntKind.i64.max := by have := hi.2; omega
  have hmax : IntKind.i64.max = 9223372036854775807 := by decide
  rw [hmax] at h9
  simp [execOp, ho, h1, h2, den, eqGuard, binOp, Op.stringOp]
  omega
theorem s_eqNil {t ty el:TypeId} {x y:Operand} {b lo n z:Nat} {te:TypeId} (ho:o.op = .binOp .eql t x y ty) (hx:evO gl tm x = some (.gp b lo n te true z)) (hy:evO gl tm y = some .nils) (ht:P.underlying t = some (.slice el))
  (he:e = .val (.bool false)) : o.wp P a w next Q := by
 obtain ⟨h1, h2⟩ := ZaH S hgl hx
 obtain ⟨h3, -⟩ := ZaH S hgl hy
 simp only [OK] at h2
 obtain ⟨nm, hb, hnn, -⟩ := h2
 have hq := hnn trivial
 simp only [den] at h3
 have hv : den P ρ (.gp b lo n te true z) = .slice (some (if nm.tot = lo then (⟨nm.blk, nm.off, none⟩ : Addr).add (z * P.cellsOf te) else (⟨nm.blk, nm.off, none⟩ : Addr).add (lo * P.cellsOf te))) n (nm.tot - lo) := by simp [den, hb, gpV, hq]
 rw [hv] at h1
 refine Zbj hn he (by simp [OK]) ?_
 have hr := Lib.run_eql_slice_nil (P := P) w t el (some (if nm.tot = lo then (⟨nm.blk, nm.off, none⟩ : Addr).add (z * P.cellsOf te) else (⟨nm.blk, nm.off, none⟩ : Addr).add (lo * P.cellsOf te))) n (nm.tot - lo) 0 0 ht
 simp [execOp, ho, h1, h3, eqGuard, den, hr]
omit S hgl hn in
theorem Zyx (z:Array Value) (n j:Nat) (hj:j < n) : (madeCells z n).toList[j]? = some (z[j % z.size]!) := by
 have : j < (madeCells z n).size := by rw [size_madeCells]; exact hj
 simp [madeCells, hj]
omit S hgl hn in
theorem ZoP {el:TypeId} {n:Nat} {T:AV} (h:zeroRow P el n = some T) : RowSh P el T ∧ OK P ρ T ∧ rowN T = n ∧ (∀ s p, T ≠ .itr s p) ∧
  ∃ i v, P.info? el = some i ∧ i.zero = some v ∧ ∀ j x, (cells P ρ T)[j]? = some x → j < n * P.cellsOf el ∧ (v.cells.size = P.cellsOf el → x = v.cells[j % v.cells.size]!) := by
 unfold zeroRow at h
 split at h
 ·rename_i k hz
  obtain ⟨i, v, hi, hv, -, hc, hH, -⟩ := ZpW hz ρ
  split at h
  ·rename_i k' hk'
   obtain ⟨hkk, h⟩ := Zag h
   obtain rfl := Option.some.inj h
   obtain rfl := ZiT hkk
   unfold intTy at hk'
   split at hk'
   ·rename_i k2 hk2
    obtain ⟨hc1, hk'⟩ := Zag hk'
    obtain rfl := Option.some.inj hk'
    have hc1 := Zat hc1
    have hcc : v.cells = #[.int k2 0] := by
     have h0 : cells P ρ (.int k2 0) = [.int k2 0] := by simp [cells, den, Value.cells]
     rw [h0] at hc
     rw [← Array.toArray_toList (xs := v.cells), hc]
    refine ⟨⟨hk2, hc1⟩, ?_, rfl, (fun s p e => by cases e), i, v, hi, hv, fun j x hx => ?_⟩
    ·simp only [OK]
     refine ⟨by simp, fun x hx => ?_⟩
     have := List.eq_of_mem_replicate hx
     subst this
     cases k2 <;> decide
    ·rw [Zbi] at hx
     simp only [List.map_replicate, List.getElem?_replicate] at hx
     split at hx
     ·rename_i hj
      refine ⟨by rw [hc1]; omega, fun _ => ?_⟩
      rw [hcc, ← Option.some.inj hx]
      simp [Nat.mod_one]
     ·cases hx
   ·cases hk'
  ·cases h
 ·rename_i z hno hz
  split at h
  ·rename_i c hcd
   split at h
   ·rename_i x0 hx0
    obtain rfl := Option.some.inj h
    obtain ⟨i, v, hi, hv, -, hc, hH, hO⟩ := ZpW hz ρ
    obtain rfl := Tc.get_mk hx0
    have hf := ZtT (P := P) hcd
    have hok := Tc.ok_mk.1 hO
    rw [Znl] at hc
    have hlen := ZtW P hf hok
    refine ⟨hf, ?_, by simp [rowN], (fun s p e => by cases e), i, v, hi, hv, fun j x hx => ?_⟩
    ·simp only [OK]
     intro y hy
     rw [List.eq_of_mem_replicate hy]; exact hok
    ·rw [ZcG] at hx
     have key : ∀ (n:Nat) (j:Nat) (x:Value), ((List.replicate n x0).flatMap c.cs)[j]? = some x → j < n * P.cellsOf el ∧ (c.cs x0)[j % P.cellsOf el]? = some x := by
      intro n
      induction n with
      | zero => intro j x h; simp at h
      | succ n ih =>
       intro j x h
       rw [List.replicate_succ, List.flatMap_cons] at h
       by_cases hj : j < (c.cs x0).length
       ·rw [List.getElem?_append_left hj] at h
        refine ⟨by rw [Nat.succ_mul]; omega, ?_⟩
        rw [Nat.mod_eq_of_lt (by omega)]; exact h
       ·rw [List.getElem?_append_right (by omega)] at h
        obtain ⟨h1, h2⟩ := ih _ x h
        refine ⟨by rw [Nat.succ_mul]; omega, ?_⟩
        rw [← h2]
        congr 1
        rw [hlen] at hj ⊢
        conv => lhs; rw [show j = (j - P.cellsOf el) + P.cellsOf el by omega]
        rw [Nat.add_mod_right]
     obtain ⟨h1, h2⟩ := key n j x hx
     refine ⟨h1, fun hsz => ?_⟩
     rw [← hc] at h2
     rw [hsz]
     rw [Array.getElem?_toList] at h2
     rw [getElem!_def, h2]
   ·cases h
  ·cases h
 ·cases h
theorem s_make {t el:TypeId} {T:AV} {q q':IntKind} {i j:Int} {x y:Operand} (ho:o.op = .makeSlice t x y) (hx:evO gl tm x = some (.int q i)) (hy:evO gl tm y = some (.int q' j)) (ht:P.underlying t = some (.slice el))
  (hz:zeroRow P el i.toNat = some T) (hij : 0 ≤ i ∧ i ≤ j) (hf:fits P el j.toNat = true) (hrt:rowTy P el = true) (he:e = .grow none T fun c => .gs c i.toNat el) : o.wp P a w next Q := by
 obtain ⟨h1, -⟩ := ZaH S hgl hx
 obtain ⟨h2, -⟩ := ZaH S hgl hy
 simp only [den] at h1 h2
 obtain ⟨k1, k2, k3, k4, inf, v, k5, k6, k7⟩ := ZoP (ρ := ρ) hz
 unfold fits at hf
 rw [k5] at hf
 simp only [decide_eq_true_eq] at hf
 unfold rowTy at hrt
 rw [k5] at hrt
 simp only [k6, Bool.and_eq_true] at hrt
 have hsz : P.cellsOf el = inf.size := by simp [Program.cellsOf, k5]
 have hvs : v.cells.size = inf.size := Zat hrt.1
 have hj0 : ((j.toNat : Nat) : Int) = j := by omega
 have hby : (inf.bytes : Int) * j ≤ 281474976710656 := by
  have h1 := hf.1
  have h3 : ((j.toNat * inf.bytes : Nat) : Int) ≤ 140737488355328 := by omega
  rw [Int.natCast_mul, hj0, Int.mul_comm] at h3
  omega
 have hrun := run_make (P := P) w t el inf v ht k5 k6 q q' i j hij.1 hij.2 hby (by omega)
 subst he
 let nm : Nm := ⟨w.heap.size, 0, i.toNat, el, true, j.toNat, false, nk⟩
 have self : upd ρ m nm m = some nm := by simp [upd]
 refine ZlT (v := den P (upd ρ m nm) (.gs m i.toNat el)) (w' := w.alloc (.cells (madeCells v.cells (j.toNat * inf.size)) el)) ?_ ?_
 ·simp [execOp, ho, h1, h2, hrun, den, self, gsV, nm]
 ·have hblk : (w.alloc (.cells (madeCells v.cells (j.toNat * inf.size)) el)).heap[w.heap.size]? = some (.cells (madeCells v.cells (j.toNat * inf.size)) el (0, 0)) := by
   show (w.heap.push _)[w.heap.size]? = _
   simp
  have hb := (Below.refl w.heap.size w).alloc (Nat.le_refl _) (.cells (madeCells v.cells (j.toNat * inf.size)) el)
  refine hn _ _ _ (.grow none T _ nm _ (Zq4 rfl k1 k3) k2 ?_ rfl ⟨rfl, k4⟩ (fun h => by cases h) (fun _ => ⟨⟨rfl, ?_, ?_, _, hblk, ?_⟩, fun jj x hx => ?_⟩) (.inl (Nat.le_refl _)) ⟨hb.os, hb.tape, hb.output, hb.size⟩ (fun k hk _ => hb.block k hk) (fun b0 h => by cases h))
  ·simp only [OK]
   exact ⟨nm, self, rfl, rfl, rfl, by show i.toNat ≤ j.toNat; omega, (fun h => by cases h), by show ((j.toNat : Nat) : Int) ≤ _; omega⟩
  ·show i.toNat ≤ j.toNat; omega
  ·show j.toNat ≤ maxLen; unfold maxLen; omega
  ·rw [size_madeCells]; show _ = j.toNat * P.cellsOf el; rw [hsz]
  ·obtain ⟨g1, g2⟩ := k7 jj x hx
   rw [hsz] at g1
   have g2 := g2 (by rw [hvs, hsz])
   simp only [nm, Nat.zero_add]
   have hlt : jj < j.toNat * inf.size := Nat.lt_of_lt_of_le g1 (Nat.mul_le_mul_right _ (by omega))
   rw [cell_of_row _ w.heap.size jj _ el (0, 0) hblk]
   have := Zyx v.cells (j.toNat * inf.size) jj hlt
   rw [Array.getElem?_toList] at this
   rw [this, g2]
omit S hgl hn in
theorem Zyy (z:Array Value) (n j:Nat) (hj:j < n * z.size) : (Builtin.zeroCells z n)[j]? = some (z[j % z.size]!) := by
 simp [Builtin.zeroCells, hj]
theorem s_appZ {c:Call} {t t' el:TypeId} {kn:IntKind} {x y:AV} (ho:o.op = .call c) (hcal:c.callee = .builtin .append) (hx:evL (evO gl tm) c.args.toList = some [x, y]) (ht:c.argTypes.toList = [t, t'])
  (hu:P.underlying t = some (.slice el)) (hu':P.underlying t' = some (.int kn)) (hk:appZ P el x y none some = some e) : o.wp P a w next Q := by
 obtain ⟨h1, -⟩ := Zf6 S hgl hx
 have hargs : c.args.map a.eval = #[den P ρ x, den P ρ y] := by
  rw [← Array.toArray_toList (xs := c.args.map a.eval), Array.toList_map, h1]; simp [denT]
 have hty : c.argTypes = #[t, t'] := by rw [← Array.toArray_toList (xs := c.argTypes), ht]
 unfold appZ at hk
 split at hk
 ·split at hk
  ·rename_i q i
   split at hk
   ·rename_i T hz
    replace hk := Zag hk
    obtain ⟨hc, he⟩ := hk
    simp only [Bool.and_eq_true, decide_eq_true_eq] at hc
    obtain ⟨⟨h0, hf⟩, hrt⟩ := hc
    simp only [Option.some.injEq] at he
    obtain ⟨k1, k2, k3, k4, inf, v, k5, k6, k7⟩ := ZoP (ρ := ρ) hz
    unfold fits at hf
    rw [k5] at hf
    simp only [decide_eq_true_eq] at hf
    unfold rowTy at hrt
    rw [k5] at hrt
    simp only [k6, Bool.and_eq_true] at hrt
    have hsz : P.cellsOf el = inf.size := by simp [Program.cellsOf, k5]
    have hvs : v.cells.size = inf.size := Zat hrt.1
    have hpos : 0 < inf.size := by simpa using hrt.2
    have hi0 : ((i.toNat : Nat) : Int) = i := by omega
    have hrun := Lib.run_append_nil_zeros (P := P) w t t' o.type el inf v q kn hu hu' k5 k6 i.toNat (by omega) hpos (by omega) (by omega)
    rw [hi0] at hrun
    have hge := grownCap_ge w i.toNat 0 el
    have hcm : grownCap w i.toNat 0 el ≤ maxLen := grownCap_le_maxLen w i.toNat 0 el (by simp only [maxLen]; omega)
    have hmn : (grownCap w i.toNat 0 el : Int) ≤ 9223372036854775807 := by simp only [maxLen] at hcm; omega
    subst he
    let nm : Nm := ⟨w.heap.size, 0, i.toNat, el, true, grownCap w i.toNat 0 el, false, nk⟩
    have self : upd ρ m nm m = some nm := by simp [upd]
    simp only [den] at hargs
    refine ZlT (v := den P (upd ρ m nm) (.gs m i.toNat el)) (w' := w.drew.alloc (.cells (Builtin.zeroCells v.cells i.toNat ++ Builtin.zeroCells v.cells (grownCap w i.toNat 0 el - i.toNat)) el)) ?_ ?_
    ·simp [execOp, ho, resolve, hcal, invoke, builtin, hargs, hty, hrun, den, self, gsV, nm]
    ·have hblk : (w.drew.alloc (.cells (Builtin.zeroCells v.cells i.toNat ++ Builtin.zeroCells v.cells (grownCap w i.toNat 0 el - i.toNat)) el)).heap[w.heap.size]? = some (.cells (Builtin.zeroCells v.cells i.toNat ++ Builtin.zeroCells v.cells (grownCap w i.toNat 0 el - i.toNat)) el (0, 0)) := heap_alloc_new w.drew _
     refine hn _ _ _ (.grow none T _ nm _ (Zq4 rfl k1 k3) k2 ?_ rfl ⟨rfl, k4⟩ (fun h => by cases h) (fun _ => ⟨⟨rfl, ?_, ?_, _, hblk, ?_⟩, fun jj x hx => ?_⟩) (.inl (Nat.le_refl _)) ⟨rfl, rfl, rfl, by simp⟩ (fun k hk _ => heap_alloc_old w.drew _ hk) (fun b0 h => by cases h))
     ·simp only [OK]
      exact ⟨nm, self, rfl, rfl, rfl, hge, (fun h => by cases h), hmn⟩
     ·exact hge
     ·exact hcm
     ·rw [Array.size_append, size_zeroCells, size_zeroCells, ← Nat.add_mul, hsz, hvs]
      show _ = grownCap w i.toNat 0 el * inf.size
      congr 1
      omega
     ·obtain ⟨g1, g2⟩ := k7 jj x hx
      have g2 := g2 (by rw [hvs, hsz])
      simp only [nm, Nat.zero_add]
      rw [cell_of_row _ w.heap.size jj _ el (0, 0) hblk]
      have hlt : jj < i.toNat * v.cells.size := by rw [hvs, ← hsz]; exact g1
      rw [Array.getElem?_append_left (by rw [size_zeroCells]; exact hlt), Zyy _ _ _ hlt, g2]
   ·cases hk
  ·cases hk
 ·cases hk
theorem s_capN {c:Call} {t el:TypeId} (ho:o.op = .call c) (hcal:c.callee = .builtin .cap) (hx:evL (evO gl tm) c.args.toList = some [.nils]) (ht:c.argTypes.toList = [t]) (hu:P.underlying t = some (.slice el))
  (he:e = .val (.int .i64 0)) : o.wp P a w next Q := by
 obtain ⟨h1, -⟩ := Zf6 S hgl hx
 have hargs : c.args.map a.eval = #[.slice none 0 0] := by
  rw [← Array.toArray_toList (xs := c.args.map a.eval), Array.toList_map, h1]; simp [denT, den]
 have hty : c.argTypes = #[t] := by rw [← Array.toArray_toList (xs := c.argTypes), ht]
 refine Zbj hn he (by simp only [OK]; decide) ?_
 simp [execOp, ho, resolve, hcal, invoke, builtin, hargs, hty, Builtin.cap_, run_underlying hu, den, goInt]
omit S hgl in
theorem s_empty {t el:TypeId} {T:AV} {ps:Array (Nat × Operand)} (ho:o.op = .buildSlice t 0 ps) (hps:ps.toList = []) (ht:P.underlying t = some (.slice el))
  (hz:zeroRow P el 0 = some T) (hrt:rowTy P el = true) (he:e = .grow none T fun c => .gs c 0 el) : o.wp P a w next Q := by
 obtain ⟨k1, k2, k3, k4, inf, v, k5, k6, k7⟩ := ZoP (ρ := ρ) hz
 have hsz : P.cellsOf el = inf.size := by simp [Program.cellsOf, k5]
 have hp : ps = #[] := by rw [← Array.toArray_toList (xs := ps), hps]
 have hrun : (Instr.buildSlice t 0 #[]).run P w = .ok (.slice (some ⟨w.heap.size, 0, none⟩) 0 0) (w.alloc (.cells #[] el)) := by
  simp [Instr.buildSlice, run_underlying ht, sizeOf, typeInfo, k5, Instr.fill, newRow, Array.range_zero']
 subst he
 let nm : Nm := ⟨w.heap.size, 0, 0, el, true, 0, false, nk⟩
 have self : upd ρ m nm m = some nm := by simp [upd]
 refine ZlT (v := den P (upd ρ m nm) (.gs m 0 el)) (w' := w.alloc (.cells #[] el)) ?_ ?_
 ·simp [execOp, ho, hp, hrun, den, self, gsV, nm]
 ·have hblk : (w.alloc (.cells #[] el)).heap[w.heap.size]? = some (.cells #[] el (0, 0)) := by
   show (w.heap.push _)[w.heap.size]? = _
   simp
  have hb := (Below.refl w.heap.size w).alloc (Nat.le_refl _) (.cells #[] el)
  refine hn _ _ _ (.grow none T _ nm _ (Zq4 rfl k1 k3) k2 ?_ rfl ⟨rfl, k4⟩ (fun h => by cases h) (fun _ => ⟨⟨rfl, Nat.le_refl _, Nat.zero_le _, _, hblk, ?_⟩, fun jj x hx => ?_⟩) (.inl (Nat.le_refl _)) ⟨hb.os, hb.tape, hb.output, hb.size⟩ (fun k hk _ => hb.block k hk) (fun b0 h => by cases h))
  ·simp only [OK]
   exact ⟨nm, self, rfl, rfl, rfl, Nat.le_refl _, (fun h => by cases h), by show ((0 : Nat) : Int) ≤ 9223372036854775807; decide⟩
  ·show _ = 0 * _; simp
  ·have := (k7 jj x hx).1
   omega
theorem s_appX {get:Nat → Option AV} (hget:∀ b T, get b = some T → lk b mem = some T) {c:Call} {t el:TypeId} {x y:AV} (ho:o.op = .call c) (hcal:c.callee = .builtin .append) (hx:evL (evO gl tm) c.args.toList = some [x, y]) (ht:c.argTypes.toList = [t, t])
  (hu:P.underlying t = some (.slice el)) (hk:appX P ro el x y get none some = some e) : o.wp P a w next Q := by
 obtain ⟨h1, h2⟩ := Zf6 S hgl hx
 simp only [OKL, and_true] at h2
 obtain ⟨okx, oky⟩ := h2
 have hargs : c.args.map a.eval = #[den P ρ x, den P ρ y] := by
  rw [← Array.toArray_toList (xs := c.args.map a.eval), Array.toList_map, h1]; simp [denT]
 have hty : c.argTypes = #[t, t] := by rw [← Array.toArray_toList (xs := c.argTypes), ht]
 -- what is a row of the frame's own, in the model
 have ownR : ∀ (b1:Nat) (nm1:Nm) (T0 T:AV) (n1:Nat) (te:TypeId), lk b1 mem = some T0 → ρ b1 = some nm1 → nm1.row = true → nm1.ty = te → ro ≤ b1 → RowSh P te T → OK P ρ T → rowN T = n1 → n1 ≤ nm1.cap → LiesAt (cells P ρ T0) 0 (cells P ρ T) →
   nm1.cap ≤ nm1.tot → (nm1.non = true → nm1.cap = 0) → w.ownsRow w0.g.heap.size te (P.cellsOf te) (gsV nm1 n1) (rowN T) (cells P ρ T) := by
  intro b1 nm1 T0 T n1 te hlT hb1 hr1 ht1 hro shT okT hrn hle1 hlie hct hnon1
  have hlen := Zj9 shT okT
  obtain ⟨nm1', hb1', hN1, okT0, hs1, hcell1⟩ := S.cell b1 T0 hlT
  rw [hb1] at hb1'
  obtain rfl := Option.some.inj hb1'
  refine ⟨hlen, ?_⟩
  cases hq : nm1.non with
  | true => exact .inl ⟨by simp [gsV, hq], by have := hnon1 hq; omega⟩
  | false =>
   rcases S.rows b1 T0 nm1 hlT hb1 hro hr1 with h | h
   ·rw [hq] at h; cases h
   ·obtain ⟨q1, q2, q3, cur, q4, q5⟩ := h
    rw [ht1] at q4 q5
    refine .inr ⟨nm1.blk, nm1.tot, cur, by simp [gsV, hq, q1, hrn], Base.own_ge ((S.own b1 T0 nm1 hlT hb1 hro).1 hq), q4, by rw [hrn]; omega, q3, q5, ?_⟩
    refine List.ext_getElem? fun j => ?_
    rw [List.getElem?_take]
    by_cases hj : j < rowN T * P.cellsOf te
    ·rw [if_pos hj]
     have hj' : j < (cells P ρ T).length := by rw [hlen]; exact hj
     have h0 := hlie j _ (List.getElem?_eq_getElem hj')
     rw [Nat.zero_add] at h0
     have := hcell1 j _ h0
     rw [q1, Nat.zero_add, cell_of_row w nm1.blk j cur te (0, 0) q4] at this
     rw [List.getElem?_eq_getElem hj']
     simpa using this
    ·rw [if_neg hj]
     rw [List.getElem?_eq_none (by rw [hlen]; omega)]
 have vb : ∀ (b1:Nat) (nm1:Nm) (T0:AV) (n1 g:Nat), lk b1 mem = some T0 → ρ b1 = some nm1 → ro ≤ b1 → (gsV nm1 n1).ownBlock = some g → ∃ b0 nm0 T0, some b1 = some b0 ∧ ρ b0 = some nm0 ∧ lk b0 mem = some T0 ∧ ro ≤ b0 ∧ nm0.non = false ∧ g = nm0.blk := by
  intro b1 nm1 T0 n1 g hlT hb1 hro hg
  cases hq : nm1.non with
  | true => simp [gsV, hq, Value.ownBlock] at hg
  | false =>
   refine ⟨b1, nm1, T0, rfl, hb1, hlT, hro, hq, ?_⟩
   simp [gsV, hq, Value.ownBlock] at hg; exact hg.symm
 have rowT : ∀ {el:TypeId}, rowTy P el = true → ∃ i, P.info? el = some i := by
  intro el h
  unfold rowTy at h
  split at h
  ·rename_i i hi; exact ⟨i, hi⟩
  ·cases h
 have shOf : ∀ {T:AV} {nm:Nm}, HasN P nm T → nm.row = true → pl T = true → RowSh P nm.ty T ∧ rowN T = nm.cap := by
  intro T nm hN hr hp
  simp only [HasN, hr, if_true] at hN
  cases T <;> simp only at hN <;> first | exact ⟨hN.2, hN.1⟩ | exact hN.elim | (simp [pl] at hp; done)
 unfold appX at hk
 split at hk
 ·-- nothing is appended
  split at hk
  ·replace hk := Zag hk
   obtain ⟨hrt, hk⟩ := hk
   simp only [Option.some.injEq] at hk
   refine Zbj hn hk.symm (by simp [OK]) ?_
   simp only [den] at hargs ⊢
   obtain ⟨i, hi⟩ := rowT hrt
   have hr := run_append_owned_none (P := P) w 0 t o.type el i i.size hu hi (.slice none 0 0) 0 [] (World.ownsRow_nil w _ _ _)
   simp [execOp, ho, resolve, hcal, invoke, builtin, hargs, hty, hr]
  ·rename_i b1 n1 te1
   replace hk := Zag hk
   obtain ⟨hc, hk⟩ := hk
   simp only [Bool.and_eq_true] at hc
   have hc2 := Zat hc.1.1
   subst hc2
   have hro := Nat.le_of_ble_eq_true hc.2
   split at hk
   ·rename_i T hT
    replace hk := Zag hk
    obtain ⟨hp, hk⟩ := hk
    simp only [Option.some.injEq] at hk
    have hlT := hget b1 T hT
    obtain ⟨nm1, hb1, hN1, okT, -⟩ := S.cell b1 T hlT
    have okx0 := okx
    simp only [OK] at okx
    obtain ⟨nm1', hb1', hr1, ht1, hn1, hle1, hnon1, hmax1⟩ := okx
    rw [hb1] at hb1'
    obtain rfl := Option.some.inj hb1'
    obtain ⟨shT, hcT⟩ := shOf hN1 hr1 hp
    rw [ht1] at shT
    have hown := ownR b1 nm1 T T n1 te1 hlT hb1 hr1 ht1 hro shT okT (by omega) (by omega) (fun j x hx => by rw [Nat.zero_add]; exact hx) (by omega) (fun h => by have := hnon1 h; omega)
    obtain ⟨i, hi⟩ := rowT hc.1.2
    have hv : den P ρ (.gs b1 n1 te1) = gsV nm1 n1 := by simp [den, hb1]
    refine Zbj hn hk.symm okx0 ?_
    have hr := run_append_owned_none (P := P) w _ t o.type te1 i _ hu hi _ _ _ hown
    have hnl : den P ρ .nils = .slice none 0 0 := by simp [den]
    rw [hv, hnl] at hargs
    rw [hv]
    simp [execOp, ho, resolve, hcal, invoke, builtin, hargs, hty, hr]
   ·cases hk
  ·cases hk
 ·split at hk
  ·rename_i r hr
   obtain ⟨U, te2⟩ := r
   replace hk := Zag hk
   obtain ⟨hc, hk⟩ := hk
   simp only [Bool.and_eq_true] at hc
   obtain ⟨hc1, hrt⟩ := hc
   have hc1 := Zat hc1
   simp only at hc1 hk
   subst hc1
   obtain ⟨shU, okU, plU, hmaxU, hyv⟩ := Zyu S hget hr oky
   have hlenU := Zj9 shU okU
   have hyv' : (den P ρ y = .slice none 0 0 ∧ rowN U = 0 ∧ cells P ρ U = []) ∨ ∃ ad q, den P ρ y = .slice (some ad) (rowN U) q ∧ ∀ j u, (cells P ρ U)[j]? = some u → w.cell? (ad.add j) = some u := by
    rcases hyv with h | ⟨b, of, q, e1, -, -, -, e4⟩
    ·exact .inl h
    ·exact .inr ⟨⟨b, of, none⟩, q, e1, fun j u hj => by rw [Zc6]; exact e4 j u hj⟩
   have fin : ∀ (b:Option Nat) (T V:AV) (v:Value), RowSh P te2 T → OK P ρ T → catT T U = some V → fits P te2 (rowN V) = true →
     den P ρ x = v → w.ownsRow w0.g.heap.size te2 (P.cellsOf te2) v (rowN T) (cells P ρ T) →
     (∀ g, v.ownBlock = some g → ∃ b0 nm0 T0, b = some b0 ∧ ρ b0 = some nm0 ∧ lk b0 mem = some T0 ∧ ro ≤ b0 ∧ nm0.non = false ∧ g = nm0.blk) →
     (∀ b0, b = some b0 → ro ≤ b0 ∧ ∃ T0, lk b0 mem = some T0) → e = .grow b V (fun c => .gs c (rowN V) te2) → o.wp P a w next Q := by
    intro b T V v shT okT hcat hfit hxv hown hvb hb0 he
    obtain ⟨shV, okV, hrV, hcV⟩ := ZzD hcat shT shU okT okU
    obtain ⟨v', w', r1, r2, r3, r4⟩ := ZD4 (ty := o.type) (m := rowN U) (news := cells P ρ U) hrt (by rw [← hrV]; exact hfit) hu hown S.below.below.size hyv' hlenU (Zwl shU)
    refine ZvX hn (B := w0.g.heap.size) (Zq4 rfl shV rfl) okV ?_ ?_ (by rw [hcV, hrV]; exact r2) ?_ ⟨r3.os, r3.tape, r3.output, r3.size⟩ ?_ hb0 he
    ·unfold fits at hfit
     split at hfit
     ·simp only [decide_eq_true_eq] at hfit
      omega
     ·cases hfit
    ·rw [hxv] at hargs
     simp [execOp, ho, resolve, hcal, invoke, builtin, hargs, hty, r1]
    ·intro k0 hk0 hne
     refine r3.block k0 hk0 fun hh => ?_
     obtain ⟨b0, nm0, T0, e1, e2, e3, e4, e5, e6⟩ := hvb k0 hh.symm
     exact hne b0 nm0 e1 e2 e5 e6
    ·intro g hgv
     rcases r4 with h | h
     ·right; exact hvb g (by rw [← h]; exact hgv)
     ·left
      rw [h] at hgv
      have := Option.some.inj hgv
      omega
   split at hk
   ·-- nil grows
    split at hk
    ·rename_i T hem
     split at hk
     ·rename_i V hcat
      replace hk := Zag hk
      obtain ⟨hfit, hk⟩ := hk
      simp only [Option.some.injEq] at hk
      obtain ⟨shT, okT, hrT, hcT⟩ := Zws (ρ := ρ) hem shU
      exact fin none T V (.slice none 0 0) shT okT hcat hfit (by simp [den]) (by rw [hcT, hrT]; exact World.ownsRow_nil w _ _ _) (fun g h => by simp [Value.ownBlock] at h) (fun b0 h => by cases h) hk.symm
     ·simp at hk
    ·simp at hk
   ·rename_i b1 n1 te1
    replace hk := Zag hk
    obtain ⟨hc, hk⟩ := hk
    simp only [Bool.and_eq_true] at hc
    have hc2 := Zat hc.1
    subst hc2
    have hro := Nat.le_of_ble_eq_true hc.2
    split at hk
    ·rename_i T hT
     split at hk
     ·rename_i V hcat
      replace hk := Zag hk
      obtain ⟨hfit, hk⟩ := hk
      simp only [Option.some.injEq] at hk
      have hlT := hget b1 T hT
      obtain ⟨nm1, hb1, hN1, okT, -⟩ := S.cell b1 T hlT
      simp only [OK] at okx
      obtain ⟨nm1', hb1', hr1, ht1, hn1, hle1, hnon1, hmax1⟩ := okx
      rw [hb1] at hb1'
      obtain rfl := Option.some.inj hb1'
      obtain ⟨shT, hcT⟩ := Zsa hN1 hr1 (Zsh (P := P) (te := te1) (.inl hcat))
      rw [ht1] at shT
      have hown := ownR b1 nm1 T T n1 te1 hlT hb1 hr1 ht1 hro shT okT (by omega) (by omega) (fun j x hx => by rw [Nat.zero_add]; exact hx) (by omega) (fun h => by have := hnon1 h; omega)
      refine fin (some b1) T V (gsV nm1 n1) shT okT hcat hfit (by simp [den, hb1]) hown (fun g hg => vb b1 nm1 T n1 g hlT hb1 hro hg) ?_ hk.symm
      intro b0 hb0
      obtain rfl := Option.some.inj hb0
      exact ⟨hro, T, hlT⟩
     ·simp at hk
    ·simp at hk
   ·rename_i b1 lo1 n1 te1 nn1 z1
    replace hk := Zag hk
    obtain ⟨hc, hk⟩ := hk
    simp only [Bool.and_eq_true] at hc
    have hc2 := Zat hc.1.1
    have hc3 := Zat hc.2.1
    have hc4 := Zat hc.2.2
    subst hc2
    subst hc3
    subst hc4
    have hro := Nat.le_of_ble_eq_true hc.1.2
    split at hk
    ·rename_i T0 hT0
     split at hk
     ·rename_i T hcut
      split at hk
      ·rename_i V hcat
       replace hk := Zag hk
       obtain ⟨hfit, hk⟩ := hk
       simp only [Option.some.injEq] at hk
       have hlT := hget b1 T0 hT0
       obtain ⟨nm1, hb1, hN1, okT0, -⟩ := S.cell b1 T0 hlT
       simp only [OK] at okx
       obtain ⟨nm1', hb1', -, hr1, ht1, hle1, hct1, hnon1, hmax1⟩ := okx
       rw [hb1] at hb1'
       obtain rfl := Option.some.inj hb1'
       obtain ⟨shT, okT, hrT, hlie, -⟩ := ZBJ (ρ := ρ) hN1 hr1 okT0 hcut hle1
       rw [ht1] at shT
       rw [Nat.zero_mul] at hlie
       have hown := ownR b1 nm1 T0 T n1 te1 hlT hb1 hr1 ht1 hro shT okT hrT (by omega) hlie hct1 hnon1
       have hv : den P ρ (.gp b1 0 n1 te1 nn1 0) = gsV nm1 n1 := by
        cases hq : nm1.non with
        | true => simp [den, hb1, gpV, gsV, hq]
        | false => simp [den, hb1, gpV, gsV, hq, Addr.add]
       refine fin (some b1) T V (gsV nm1 n1) shT okT hcat hfit hv hown (fun g hg => vb b1 nm1 T0 n1 g hlT hb1 hro hg) ?_ hk.symm
       intro b0 hb0
       obtain rfl := Option.some.inj hb0
       exact ⟨hro, T0, hlT⟩
      ·simp at hk
     ·simp at hk
    ·simp at hk
   ·simp at hk
  ·simp at hk
theorem ZGl {c:Call} {t el:TypeId} {u:AV} {n:Nat} (ho:o.op = .call c) (hcal:c.callee = .builtin .len) (hx:evL (evO gl tm) c.args.toList = some [u]) (ht:c.argTypes.toList = [t]) (hu:P.underlying t = some (.slice el))
  (hv:(∃ b lo te nn z, u = .gp b lo n te nn z) ∨ ∃ b p te d l, u = .dv b p te d l ∧ n = l.length) (he:e = .val (.int .i64 n)) : o.wp P a w next Q := by
 obtain ⟨h1, h2⟩ := Zf6 S hgl hx
 simp only [OKL, and_true] at h2
 have hargs : c.args.map a.eval = #[den P ρ u] := by
  rw [← Array.toArray_toList (xs := c.args.map a.eval), Array.toList_map, h1]; simp [denT]
 have hty : c.argTypes = #[t] := by rw [← Array.toArray_toList (xs := c.argTypes), ht]
 have hmin : IntKind.i64.min = -9223372036854775808 := by decide
 have hmax : IntKind.i64.max = 9223372036854775807 := by decide
 have main : (∃ ad q, den P ρ u = .slice ad n q) ∧ ((n:Nat) : Int) ≤ 9223372036854775807 := by
  rcases hv with ⟨b, lo, te, nn, z, rfl⟩ | ⟨b, p, te, d, l, rfl, rfl⟩
  ·simp only [OK] at h2
   obtain ⟨nm, hb, -, hr, ht', hle, hct, hnon, hmx⟩ := h2
   refine ⟨?_, by omega⟩
   cases hq : nm.non with
   | true =>
    have := hnon hq
    have hn0 : n = 0 := by omega
    subst hn0
    exact ⟨none, 0, by simp [den, hb, gpV, hq]⟩
   | false => exact ⟨some (if nm.tot = lo then (⟨nm.blk, nm.off, none⟩ : Addr).add (z * P.cellsOf te) else (⟨nm.blk, nm.off, none⟩ : Addr).add (lo * P.cellsOf te)), nm.tot - lo, by simp only [den, hb, gpV, hq, cond_false]⟩
  ·simp only [OK] at h2
   obtain ⟨nm, L, hb, hl, -, -, hlen, hmx, -⟩ := h2
   exact ⟨⟨L.1, L.2, by simp [den, hb, dvV, hl]⟩, by omega⟩
 obtain ⟨⟨ad, q, hden⟩, hbd⟩ := main
 refine Zbj hn he (by simp only [OK]; rw [hmin, hmax]; omega) ?_
 rw [hden] at hargs
 simp [execOp, ho, resolve, hcal, invoke, builtin, hargs, hty, Builtin.len_, run_underlying hu, den, goInt]
end
end Go.Vx
