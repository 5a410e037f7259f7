/- Numbers, part H: powers and inverses; the laws of the field. -/
import Derived.Test.YtmoiobmpeohgnaaGreatDoorVyG
import Derived.Test.YtmoiobmpeohgnaaGreatDoorVyE
import Derived.Test.YtmoiobmpeohgnaaGreatDoorVyR
set_option autoImplicit false
set_option linter.unusedSimpArgs false
namespace Go.Vx
open Go
theorem ZoK (a b n:Int) : (a % n * b) % n = (a * b) % n := by rw [Int.mul_emod, Int.emod_emod_of_dvd _ (Int.dvd_refl n), ← Int.mul_emod]
theorem Zr5 (a b n:Int) : (a * (b % n)) % n = (a * b) % n := by rw [Int.mul_emod, Int.emod_emod_of_dvd _ (Int.dvd_refl n), ← Int.mul_emod]
theorem mod_mod (a n:Int) : a % n % n = a % n := Int.emod_emod_of_dvd _ (Int.dvd_refl n)
theorem pow_mod (a n:Int) : (e:Nat) → (a % n) ^ e % n = a ^ e % n
 | 0 => by simp
 | e + 1 => by rw [Int.pow_succ, Int.pow_succ, Zr5, ← ZoK, pow_mod a n e, ZoK]
def PowOf (x:Int) (e:Nat) (r:LI) : Prop := Can r ∧ val r = x ^ e % pF
theorem PowOf.mul {x:Int} {e f:Nat} {r s:LI} (hr:PowOf x e r) (hs:PowOf x f s) : ∃ t, Zap r s = some t ∧ PowOf x (e + f) t := by
 obtain ⟨t, h1, h2, h3⟩ := Zyj hr.1.L5 hs.1.L5
 exact ⟨t, h1, h2, by rw [h3, hr.2, hs.2, ZoK, Zr5, Int.pow_add]⟩
theorem PowOf.mulr {x:Int} {e:Nat} {r a:LI} (hr:PowOf x e r) (ha:L5 a) (hx:val a = x) : ∃ t, Zap r a = some t ∧ PowOf x (e + 1) t := by
 obtain ⟨t, h1, h2, h3⟩ := Zyj hr.1.L5 ha
 exact ⟨t, h1, h2, by rw [h3, hr.2, hx, ZoK, Int.pow_succ]⟩
theorem PowOf.sq {x:Int} {e:Nat} {r:LI} (hr:PowOf x e r) : ∃ t, ZaK r = some t ∧ PowOf x (2 * e) t := by
 obtain ⟨t, h1, h2, h3⟩ := ZAv hr.1.L5
 exact ⟨t, h1, h2, by rw [h3, hr.2, ZoK, Zr5, Nat.two_mul, Int.pow_add]⟩
theorem wrapi64 {n:Int} (h0 : 0 ≤ n) (h1:n ≤ 9223372036854775807) : IntKind.wrap .i64 n = n := by
 simp [IntKind.wrap, IntKind.signed, IntKind.bits]
 split <;> omega
theorem Zu6 {x:Int} (N:Nat) (b:Int) (hb:b ≤ 1000) : (k:Nat) → (fuel:Nat) → k < fuel → (i:Int) → 0 ≤ i → i + k = b → (e:Nat) → (r:LI) → PowOf x e r →
  ∃ t, loopF (Zcc N) fuel (((), (), b, i), (r, ())) = some (.inl (((), ()), (t, ()))) ∧ PowOf x (e * 2 ^ k) t
 | 0, fuel + 1, _, i, h0, hi, e, r, hr => by
  refine ⟨r, ?_, by simpa using hr⟩
  rw [Zbh]
  have : icmp .lss i b = false := by simp [icmp]; omega
  simp only [Zcc, this, cond_false, mo]
 | k + 1, fuel + 1, hf, i, h0, hi, e, r, hr => by
  obtain ⟨t, h1, h2⟩ := hr.sq
  have hlt : icmp .lss i b = true := by simp [icmp]; omega
  have hadd : ibin .add .i64 i 1 = i + 1 := wrapi64 (n := i + 1) (by omega) (by omega)
  obtain ⟨u, h3, h4⟩ := Zu6 N b hb k fuel (by omega) (i + 1) (by omega) (by omega) (2 * e) t h2
  refine ⟨u, ?_, by rw [Nat.pow_succ, Nat.mul_comm (2 ^ k) 2, ← Nat.mul_assoc, Nat.mul_comm e 2]; exact h4⟩
  rw [Zbh]
  simp only [Zcc, hlt, cond_true, h1, mo, hadd]
  exact h3
theorem ZdJ {x:Int} {e:Nat} {r:LI} (hr:PowOf x e r) (k:Nat) (hk:k < 300) : ∃ t, ZaC 300 r (k:Int) = some t ∧ PowOf x (e * 2 ^ k) t := by
 obtain ⟨t, h1, h2⟩ := Zu6 (x := x) 300 (k:Int) (by omega) k 300 hk 0 (by decide) (by omega) e r hr
 refine ⟨t, ?_, h2⟩
 unfold ZaC
 rw [h1]
 rfl
theorem PowOf.cast {x:Int} {e f:Nat} {r:LI} (h:PowOf x e r) (hf:e = f) : PowOf x f r := hf ▸ h
theorem Zzg {a:LI} (ha:L5 a) : ∃ r s, Zez 300 a = some (r, s) ∧ PowOf (val a) 1809251394333065553493296640760748560207343510400633813116524750123642650623 r ∧ PowOf (val a) 11 s := by
 unfold Zez
 obtain ⟨r1, h1, c1, v1⟩ := ZAv ha
 have p1 : PowOf (val a) 2 r1 := ⟨c1, by rw [v1, Int.pow_succ, Int.pow_succ, Int.pow_zero, Int.one_mul]⟩
 obtain ⟨r2, h2, p2⟩ := ZdJ p1 2 (by decide)
 obtain ⟨r3, h3, p3⟩ := p2.mulr ha rfl
 replace p3 := p3.cast (f := 9) (by decide)
 obtain ⟨r4, h4, p4⟩ := p3.mul p1
 replace p4 := p4.cast (f := 11) (by decide)
 obtain ⟨r5, h5, p5⟩ := p4.sq
 obtain ⟨r6, h6, p6⟩ := p5.mul p3
 replace p6 := p6.cast (f := 31) (by decide)
 obtain ⟨r7, h7, p7⟩ := ZdJ p6 5 (by decide)
 obtain ⟨r8, h8, p8⟩ := p7.mul p6
 replace p8 := p8.cast (f := 1023) (by decide)
 obtain ⟨r9, h9, p9⟩ := ZdJ p8 10 (by decide)
 obtain ⟨r10, h10, p10⟩ := p9.mul p8
 replace p10 := p10.cast (f := 1048575) (by decide)
 obtain ⟨r11, h11, p11⟩ := ZdJ p10 20 (by decide)
 obtain ⟨r12, h12, p12⟩ := p11.mul p10
 replace p12 := p12.cast (f := 1099511627775) (by decide)
 obtain ⟨r13, h13, p13⟩ := ZdJ p12 10 (by decide)
 obtain ⟨r14, h14, p14⟩ := p13.mul p8
 replace p14 := p14.cast (f := 1125899906842623) (by decide)
 obtain ⟨r15, h15, p15⟩ := ZdJ p14 50 (by decide)
 obtain ⟨r16, h16, p16⟩ := p15.mul p14
 replace p16 := p16.cast (f := 1267650600228229401496703205375) (by decide)
 obtain ⟨r17, h17, p17⟩ := ZdJ p16 100 (by decide)
 obtain ⟨r18, h18, p18⟩ := p17.mul p16
 replace p18 := p18.cast (f := 1606938044258990275541962092341162602522202993782792835301375) (by decide)
 obtain ⟨r19, h19, p19⟩ := ZdJ p18 50 (by decide)
 obtain ⟨r20, h20, p20⟩ := p19.mul p14
 replace p20 := p20.cast (f := 1809251394333065553493296640760748560207343510400633813116524750123642650623) (by decide)
 refine ⟨r20, r4, ?_, p20, p4⟩
 simp only [h1, h3, h4, h5, h6, h8, h10, h12, h14, h16, h18, h20, mo, show ZaC 300 r1 2 = some r2 from h2, show ZaC 300 r6 5 = some r7 from h7, show ZaC 300 r8 10 = some r9 from h9,
  show ZaC 300 r10 20 = some r11 from h11, show ZaC 300 r12 10 = some r13 from h13, show ZaC 300 r14 50 = some r15 from h15, show ZaC 300 r16 100 = some r17 from h17, show ZaC 300 r18 50 = some r19 from h19]
def eInv : Nat := 57896044618658097711785492504343953926634992332820282019728792003956564819947
theorem ZAo {a:LI} (ha:L5 a) : ∃ r, ZdK 300 a = some r ∧ PowOf (val a) eInv r := by
 unfold ZdK
 obtain ⟨r, s, h1, p1, p2⟩ := Zzg ha
 obtain ⟨t, h2, p3⟩ := ZdJ p1 5 (by decide)
 obtain ⟨u, h3, p4⟩ := p3.mul p2
 refine ⟨u, ?_, p4.cast (by decide)⟩
 simp only [h1, mo, show ZaC 300 r 5 = some t from h2, h3]
theorem fermat (x:Int) (h:x % pF ≠ 0) : x ^ (eInv + 1) % pF = 1 := by
 have key : ∀ (e:Nat) (n:Nat), ((n:Int) ^ e) % (57896044618658097711785492504343953926634992332820282019728792003956564819949 : Nat) = ((n ^ e % 57896044618658097711785492504343953926634992332820282019728792003956564819949 : Nat) : Int) := fun e n => by
  rw [← Int.natCast_pow, ← Int.natCast_emod]
 have h0 : 0 ≤ x % pF := Int.emod_nonneg _ (by decide)
 have hn : x % pF = ((x % pF).toNat : Int) := by omega
 rw [← pow_mod, hn]
 have h1 : (x % pF).toNat % 57896044618658097711785492504343953926634992332820282019728792003956564819949 ≠ 0 := by
  have := Int.emod_lt_of_pos x ZxI
  simp only [pF] at *
  omega
 have h2 := luc_F.2 _ h1
 have h3 := key (eInv + 1) (x % pF).toNat
 rw [show eInv + 1 = 57896044618658097711785492504343953926634992332820282019728792003956564819949 - 1 from rfl, h2] at h3
 exact h3
theorem inv_mul (x:Int) (h:x % pF ≠ 0) : x * (x ^ eInv % pF) % pF = 1 := by
 rw [Zr5, Int.mul_comm, ← Int.pow_succ]
 exact fermat x h
theorem ZtI : Can [1, 0, 0, 0, 0] := ⟨1, 0, 0, 0, 0, rfl, by decide, by decide, by decide, by decide, by decide, by decide⟩
end Go.Vx
