import Derived.KernelRfl
import Derived.Test.YtmoiobmpeohgnaaGreatDoorVyA
set_option autoImplicit false
namespace Go.Vx
def pm (m:Nat) : Nat → Nat → Nat → Nat
 | 0, _, _ => 1 % m
 | k + 1, b, e => cond (Nat.beq e 0) (1 % m) (cond (Nat.beq (e % 2) 1) (pm m k (b * b % m) (e / 2) * b % m) (pm m k (b * b % m) (e / 2)))
theorem ZAw (m:Nat) : (k b e:Nat) → e < 2 ^ k → pm m k b e = b ^ e % m
 | 0, b, e, h => by
  have : e = 0 := by simpa using h
  subst this
  simp [pm]
 | k + 1, b, e, h => by
  have h2 : e / 2 < 2 ^ k := by rw [Nat.pow_succ] at h; omega
  have ih := ZAw m k (b * b % m) (e / 2) h2
  have sq : (b * b % m) ^ (e / 2) % m = b ^ (2 * (e / 2)) % m := by
   rw [← Nat.pow_mod, ← Nat.pow_two, ← Nat.pow_mul]
  unfold pm
  rw [ih, sq]
  by_cases h0 : e = 0
  ·subst h0; simp
  ·have e0 : Nat.beq e 0 = false := by
    cases hq : Nat.beq e 0
    ·rfl
    ·exact absurd (Nat.eq_of_beq_eq_true hq) h0
   rw [e0, cond_false]
   by_cases h1 : e % 2 = 1
   ·have e1 : Nat.beq (e % 2) 1 = true := by rw [h1]; rfl
    rw [e1, cond_true, Nat.mod_mul_mod, ← Nat.pow_succ]
    congr 2
    omega
   ·have e1 : Nat.beq (e % 2) 1 = false := by
     cases hq : Nat.beq (e % 2) 1
     ·rfl
     ·exact absurd (Nat.eq_of_beq_eq_true hq) h1
    rw [e1, cond_false]
    congr 2
    omega
def Pri (n:Nat) : Prop := 2 ≤ n ∧ ∀ m, m ∣ n → m = 1 ∨ m = n
theorem ZCg (m:Nat) (h : 2 ≤ m) : ∃ q, Pri q ∧ q ∣ m := by
 induction m using Nat.strongRecOn with
 | _ m ih =>
  by_cases hp : Pri m
  ·exact ⟨m, hp, Nat.dvd_refl m⟩
  ·have : ∃ k, k ∣ m ∧ k ≠ 1 ∧ k ≠ m := by
    refine Classical.byContradiction fun hn => hp ⟨h, fun k hk => ?_⟩
    refine Classical.byContradiction fun hk2 => hn ⟨k, hk, fun e => hk2 (.inl e), fun e => hk2 (.inr e)⟩
   obtain ⟨k, hk, k1, k2⟩ := this
   have hpos : 0 < m := by omega
   have hle := Nat.le_of_dvd hpos hk
   have k0 : k ≠ 0 := fun e => by subst e; have := Nat.eq_zero_of_zero_dvd hk; omega
   obtain ⟨q, hq, hqk⟩ := ih k (by omega) (by omega)
   exact ⟨q, hq, Nat.dvd_trans hqk hk⟩
theorem Pri.dvd_mul {q a b:Nat} (h:Pri q) (hd:q ∣ a * b) : q ∣ a ∨ q ∣ b := by
 by_cases ha : q ∣ a
 ·exact .inl ha
 ·refine .inr (Nat.Coprime.dvd_of_dvd_mul_left ?_ hd)
  rcases h.2 (Nat.gcd q a) (Nat.gcd_dvd_left q a) with h1 | h1
  ·exact h1
  ·exact absurd (h1 ▸ Nat.gcd_dvd_right q a) ha
theorem Pri.dvd_pow {q a:Nat} (h:Pri q) : (e:Nat) → q ∣ a ^ e → q ∣ a
 | 0, hd => by
  have h1 := h.1
  rw [Nat.pow_zero] at hd
  have h2 := Nat.le_of_dvd (by decide) hd
  omega
 | e + 1, hd => by
  rw [Nat.pow_succ] at hd
  rcases h.dvd_mul hd with h1 | h1
  ·exact h.dvd_pow e h1
  ·exact h1
def prodP : List (Nat × Nat) → Nat
 | [] => 1
 | x :: l => x.1 ^ x.2 * prodP l
theorem ZDx {q:Nat} (h:Pri q) : (l:List (Nat × Nat)) → (∀ x ∈ l, Pri x.1) → q ∣ prodP l → ∃ x ∈ l, x.1 = q
 | [], _, hd => by
  have h1 := h.1
  have h2 := Nat.le_of_dvd (by decide) (show q ∣ 1 from hd)
  omega
 | x :: l, hl, hd => by
  rcases h.dvd_mul hd with h1 | h1
  ·have h2 := h.dvd_pow x.2 h1
   rcases (hl x (by simp)).2 q h2 with h3 | h3
   ·have := h.1; omega
   ·exact ⟨x, by simp, h3.symm⟩
  ·obtain ⟨y, hy, e⟩ := ZDx h l (fun y hy => hl y (by simp [hy])) h1
   exact ⟨y, by simp [hy], e⟩
theorem surj (k:Nat) : ∀ (f:Nat → Nat), (∀ i, i < k → f i < k) → (∀ i j, i < k → j < k → f i = f j → i = j) → ∀ y, y < k → ∃ i, i < k ∧ f i = y := by
 induction k with
 | zero => intro f _ _ y hy; omega
 | succ k ih =>
  intro f hf inj y hy
  have hz := hf k (by omega)
  have key : ∀ y, y < k → ∃ i, i < k ∧ (if f i = k then f k else f i) = y := by
   refine ih (fun i => if f i = k then f k else f i) ?_ ?_
   ·intro i hi
    have h1 := hf i (by omega)
    show (if f i = k then f k else f i) < k
    split
    ·rename_i h
     have : f k ≠ k := fun e => by have := inj i k (by omega) (by omega) (by rw [h, e]); omega
     omega
    ·omega
   ·intro i j hi hj h
    replace h : (if f i = k then f k else f i) = (if f j = k then f k else f j) := h
    split at h
    ·rename_i h1
     split at h
     ·rename_i h2
      exact inj i j (by omega) (by omega) (by rw [h1, h2])
     ·have := inj k j (by omega) (by omega) h; omega
    ·split at h
     ·have := inj i k (by omega) (by omega) h; omega
     ·exact inj i j (by omega) (by omega) h
  by_cases hyk : y = k
  ·by_cases h0 : f k = k
   ·exact ⟨k, by omega, by omega⟩
   ·obtain ⟨i, hi, h1⟩ := key (f k) (by omega)
    split at h1
    ·rename_i h2; exact ⟨i, by omega, by omega⟩
    ·have := inj i k (by omega) (by omega) h1; omega
  ·by_cases h0 : f k = y
   ·exact ⟨k, by omega, h0⟩
   ·obtain ⟨i, hi, h1⟩ := key y (by omega)
    split at h1
    ·exact absurd h1 h0
    ·exact ⟨i, by omega, h1⟩
theorem Zzh {Q:Nat → Prop} (n:Nat) (h:Q n) : ∃ d, Q d ∧ ∀ k, k < d → ¬ Q k := by
 induction n using Nat.strongRecOn with
 | _ n ih =>
  by_cases hk : ∃ k, k < n ∧ Q k
  ·obtain ⟨k, k1, k2⟩ := hk
   exact ih k k1 k2
  ·exact ⟨n, h, fun k h1 h2 => hk ⟨k, h1, h2⟩⟩
theorem Zq2 {n g d q:Nat} (h:g ^ d % n = 1 % n) : g ^ (d * q) % n = 1 % n := by
 rw [Nat.pow_mul, Nat.pow_mod, h, ← Nat.pow_mod, Nat.one_pow]
theorem lucas {n g:Nat} (hn : 2 ≤ n) {l:List (Nat × Nat)} (hl:∀ x ∈ l, Pri x.1) (hprod:prodP l = n - 1) (h1:g ^ (n - 1) % n = 1) (hq:∀ x ∈ l, g ^ ((n - 1) / x.1) % n ≠ 1) :
  Pri n ∧ ∀ a, a % n ≠ 0 → a ^ (n - 1) % n = 1 := by
 have one : 1 % n = 1 := Nat.mod_eq_of_lt (by omega)
 obtain ⟨d, ⟨d0, d1⟩, dmin⟩ := Zzh (Q := fun k => 0 < k ∧ g ^ k % n = 1) (n - 1) ⟨by omega, h1⟩
 -- the order divides n - 1
 have hdvd : d ∣ n - 1 := by
  have e : n - 1 = d * ((n - 1) / d) + (n - 1) % d := (Nat.div_add_mod _ _).symm
  have hr := Nat.mod_lt (n - 1) d0
  have h2 : g ^ ((n - 1) % d) % n = 1 := by
   have h3 := h1
   rw [e, Nat.pow_add, Nat.mul_mod, Zq2 (by rw [d1, one]), one, Nat.one_mul, Nat.mod_mod] at h3
   have e2 : (d * ((n - 1) / d) + (n - 1) % d) % d = (n - 1) % d := by rw [← e]
   exact h3
  have h0 : (n - 1) % d = 0 := by
   refine Classical.byContradiction fun hne => ?_
   exact dmin _ hr ⟨by omega, h2⟩
  exact Nat.dvd_of_mod_eq_zero h0
 -- it is n - 1
 have hd : d = n - 1 := by
  refine Classical.byContradiction fun hne => ?_
  obtain ⟨m, hm⟩ := hdvd
  have m2 : 2 ≤ m := by
   rcases m with _ | _ | m
   ·simp at hm; omega
   ·simp at hm; omega
   ·omega
  obtain ⟨q, hqp, hqm⟩ := ZCg m m2
  obtain ⟨x, hx, hxq⟩ := ZDx hqp l hl (by rw [hprod, hm]; exact Nat.dvd_trans hqm (Nat.dvd_mul_left m d))
  refine hq x hx ?_
  obtain ⟨t, ht⟩ := hqm
  rw [hxq, hm, ht, show d * (q * t) = q * (d * t) by rw [← Nat.mul_assoc, ← Nat.mul_assoc, Nat.mul_comm d q], Nat.mul_div_cancel_left _ (by have := hqp.1; omega)]
  rw [Zq2 (by rw [d1, one]), one]
 subst hd
 -- powers are units
 have unit : ∀ i, i ≤ n - 1 → g ^ i * g ^ (n - 1 - i) % n = 1 := fun i hi => by rw [← Nat.pow_add, show i + (n - 1 - i) = n - 1 by omega, h1]
 have nz : ∀ i, i < n - 1 → 1 ≤ g ^ i % n := by
  intro i hi
  refine Nat.pos_of_ne_zero fun h0 => ?_
  have := unit i (by omega)
  rw [Nat.mul_mod, h0] at this
  simp at this
 have inj : ∀ i j, i < n - 1 → j < n - 1 → g ^ i % n = g ^ j % n → i ≤ j → i = j := by
  intro i j hi hj h hij
  refine Classical.byContradiction fun hne => ?_
  have h2 : g ^ (j - i) % n = 1 := by
   have e1 : g ^ j * g ^ (n - 1 - i) % n = g ^ i * g ^ (n - 1 - i) % n := by rw [Nat.mul_mod, ← h, ← Nat.mul_mod]
   rw [unit i (by omega), ← Nat.pow_add, show j + (n - 1 - i) = (n - 1) + (j - i) by omega, Nat.pow_add, Nat.mul_mod, h1, Nat.one_mul, Nat.mod_mod] at e1
   exact e1
  exact dmin (j - i) (by omega) ⟨by omega, h2⟩
 have all : ∀ a, a % n ≠ 0 → ∃ i, i < n - 1 ∧ g ^ i % n = a % n := by
  intro a ha
  have hlt := Nat.mod_lt a (show n > 0 by omega)
  obtain ⟨i, hi, h⟩ := surj (n - 1) (fun i => g ^ i % n - 1) (fun i hi => by have := nz i hi; have := Nat.mod_lt (g ^ i) (show n > 0 by omega); show g ^ i % n - 1 < n - 1; omega) (fun i j hi hj h => by
   have hi1 := nz i hi
   have hj1 := nz j hj
   replace h : g ^ i % n - 1 = g ^ j % n - 1 := h
   rcases Nat.le_total i j with hij | hij
   ·exact inj i j hi hj (by omega) hij
   ·exact (inj j i hj hi (by omega) hij).symm) (a % n - 1) (by omega)
  have := nz i hi
  replace h : g ^ i % n - 1 = a % n - 1 := h
  exact ⟨i, hi, by omega⟩
 have fermat : ∀ a, a % n ≠ 0 → a ^ (n - 1) % n = 1 := by
  intro a ha
  obtain ⟨i, -, h⟩ := all a ha
  rw [Nat.pow_mod, ← h, ← Nat.pow_mod, ← Nat.pow_mul, Nat.mul_comm, Zq2 (by rw [h1, one]), one]
 refine ⟨⟨hn, fun m hm => ?_⟩, fermat⟩
 refine Classical.byContradiction fun hne => ?_
 have hle := Nat.le_of_dvd (by omega) hm
 have hm0 : m ≠ 0 := fun e => by subst e; have := Nat.eq_zero_of_zero_dvd hm; omega
 have hm1 : m % n ≠ 0 := by rw [Nat.mod_eq_of_lt (by omega)]; exact hm0
 have h2 := fermat m hm1
 have h3 : m ^ (n - 1) % m = 1 % m := by
  have : m ^ (n - 1) % n % m = m ^ (n - 1) % m := Nat.mod_mod_of_dvd _ hm
  rw [← this, h2]
 have h4 : m ^ (n - 1) % m = 0 := by
  rw [show n - 1 = (n - 2) + 1 by omega, Nat.pow_succ]
  exact Nat.mul_mod_left _ _
 rw [h4] at h3
 have : 1 % m = 1 := Nat.mod_eq_of_lt (by omega)
 omega
def lucasB (n g k:Nat) (l:List (Nat × Nat)) : Bool :=
 Nat.ble 2 n && Nat.beq (prodP l) (n - 1) && Nat.ble (n + 1) (2 ^ k) && Nat.beq (pm n k g (n - 1)) 1 && l.all fun x => !Nat.beq (pm n k g ((n - 1) / x.1)) 1
theorem ZgH {n g k:Nat} {l:List (Nat × Nat)} (hl:∀ x ∈ l, Pri x.1) (h:lucasB n g k l = true) : Pri n ∧ ∀ a, a % n ≠ 0 → a ^ (n - 1) % n = 1 := by
 simp only [lucasB, Bool.and_eq_true, List.all_eq_true, Bool.not_eq_true'] at h
 obtain ⟨⟨⟨⟨h1, h2⟩, h3⟩, h4⟩, h5⟩ := h
 have hk := Nat.le_of_ble_eq_true h3
 have hn := Nat.le_of_ble_eq_true h1
 refine lucas (g := g) hn hl (Nat.eq_of_beq_eq_true h2) ?_ ?_
 ·rw [← ZAw n k g (n - 1) (by omega)]
  exact Nat.eq_of_beq_eq_true h4
 ·intro x hx
  have h6 := h5 x hx
  have : (n - 1) / x.1 ≤ n - 1 := Nat.div_le_self _ _
  rw [← ZAw n k g _ (by omega)]
  intro e
  rw [e] at h6
  simp at h6
def trial (n:Nat) : Nat → Bool
 | 0 => true
 | k + 1 => cond (Nat.ble k 1) true (!Nat.beq (n % k) 0 && trial n k)
theorem ZtP (n:Nat) : (k:Nat) → trial n k = true → ∀ m, 2 ≤ m → m < k → ¬ m ∣ n
 | 0, _, m, h, hm => by omega
 | k + 1, ht, m, h, hm => by
  unfold trial at ht
  intro hd
  cases hb : Nat.ble k 1
  ·rw [hb, cond_false, Bool.and_eq_true, Bool.not_eq_true'] at ht
   by_cases e : m = k
   ·subst e
    rw [Nat.mod_eq_zero_of_dvd hd] at ht
    simp at ht
   ·exact ZtP n k ht.2 m h (by omega) hd
  ·have := Nat.le_of_ble_eq_true hb; omega
theorem ZbV {n:Nat} (k:Nat) (h:(Nat.ble 2 n && Nat.ble (n + 1) (k * k) && trial n k) = true) : Pri n := by
 simp only [Bool.and_eq_true] at h
 obtain ⟨⟨h1, h2⟩, h3⟩ := h
 have hn := Nat.le_of_ble_eq_true h1
 have hk := Nat.le_of_ble_eq_true h2
 refine ⟨hn, fun m hm => ?_⟩
 refine Classical.byContradiction fun hne => ?_
 obtain ⟨t, ht⟩ := hm
 have m0 : m ≠ 0 := fun e => by subst e; simp at ht; omega
 have t0 : t ≠ 0 := fun e => by subst e; simp at ht; omega
 have t1 : t ≠ 1 := fun e => by subst e; simp at ht; omega
 have hm' := ZtP n k h3 m (by omega)
 have ht' := ZtP n k h3 t (by omega)
 have c1 : k ≤ m := Nat.le_of_not_lt fun hlt => hm' hlt ⟨t, ht⟩
 have c2 : k ≤ t := Nat.le_of_not_lt fun hlt => ht' hlt ⟨m, by rw [ht, Nat.mul_comm]⟩
 have := Nat.mul_le_mul c1 c2
 omega
end Go.Vx
set_option autoImplicit false
namespace Go.Vx
theorem pri_2 : Pri 2 := ZbV 2 (by kernel_rfl)
theorem pri_3 : Pri 3 := ZbV 2 (by kernel_rfl)
theorem pri_5 : Pri 5 := ZbV 3 (by kernel_rfl)
theorem pri_7 : Pri 7 := ZbV 3 (by kernel_rfl)
theorem pri_13 : Pri 13 := ZbV 4 (by kernel_rfl)
theorem pri_19 : Pri 19 := ZbV 5 (by kernel_rfl)
theorem pri_31 : Pri 31 := ZbV 6 (by kernel_rfl)
theorem pri_43 : Pri 43 := ZbV 7 (by kernel_rfl)
theorem pri_47 : Pri 47 := ZbV 7 (by kernel_rfl)
theorem pri_97 : Pri 97 := ZbV 10 (by kernel_rfl)
theorem pri_103 : Pri 103 := ZbV 11 (by kernel_rfl)
theorem pri_107 : Pri 107 := ZbV 11 (by kernel_rfl)
theorem pri_127 : Pri 127 := ZbV 12 (by kernel_rfl)
theorem pri_131 : Pri 131 := ZbV 12 (by kernel_rfl)
theorem pri_223 : Pri 223 := ZbV 15 (by kernel_rfl)
theorem pri_353 : Pri 353 := ZbV 19 (by kernel_rfl)
theorem pri_419 : Pri 419 := ZbV 21 (by kernel_rfl)
theorem pri_991 : Pri 991 := ZbV 32 (by kernel_rfl)
theorem ZFa : Pri 1723 := ZbV 42 (by kernel_rfl)
theorem ZFb : Pri 2437 := ZbV 50 (by kernel_rfl)
theorem ZFc : Pri 3727 := ZbV 62 (by kernel_rfl)
theorem ZFd : Pri 4153 := ZbV 65 (by kernel_rfl)
theorem ZDy : Pri 37853 := ZbV 195 (by kernel_rfl)
theorem ZDz : Pri 57467 := ZbV 240 (by kernel_rfl)
theorem ZDA : Pri 65147 := ZbV 256 (by kernel_rfl)
theorem ZCh : Pri 430751 ∧ ∀ a, a % 430751 ≠ 0 → a ^ (430751 - 1) % 430751 = 1 := by
 refine ZgH (g := 17) (k := 20) (l := [(2, 1), (5, 3), (1723, 1)]) ?_ (by kernel_rfl)
 intro x hx
 simp only [List.mem_cons, List.not_mem_nil, or_false] at hx
 rcases hx with rfl | rfl | rfl
 ·exact pri_2
 ·exact pri_5
 ·exact ZFa
theorem ZoL : Pri 31757755568855353 ∧ ∀ a, a % 31757755568855353 ≠ 0 → a ^ (31757755568855353 - 1) % 31757755568855353 = 1 := by
 refine ZgH (g := 10) (k := 56) (l := [(2, 3), (3, 1), (31, 1), (107, 1), (223, 1), (4153, 1), (430751, 1)]) ?_ (by kernel_rfl)
 intro x hx
 simp only [List.mem_cons, List.not_mem_nil, or_false] at hx
 rcases hx with rfl | rfl | rfl | rfl | rfl | rfl | rfl
 ·exact pri_2
 ·exact pri_3
 ·exact pri_31
 ·exact pri_107
 ·exact pri_223
 ·exact ZFd
 ·exact ZCh.1
theorem ZCi : Pri 569003 ∧ ∀ a, a % 569003 ≠ 0 → a ^ (569003 - 1) % 569003 = 1 := by
 refine ZgH (g := 2) (k := 21) (l := [(2, 1), (7, 1), (97, 1), (419, 1)]) ?_ (by kernel_rfl)
 intro x hx
 simp only [List.mem_cons, List.not_mem_nil, or_false] at hx
 rcases hx with rfl | rfl | rfl | rfl
 ·exact pri_2
 ·exact pri_7
 ·exact pri_97
 ·exact pri_419
theorem Zxa : Pri 2773320623 ∧ ∀ a, a % 2773320623 ≠ 0 → a ^ (2773320623 - 1) % 2773320623 = 1 := by
 refine ZgH (g := 5) (k := 33) (l := [(2, 1), (2437, 1), (569003, 1)]) ?_ (by kernel_rfl)
 intro x hx
 simp only [List.mem_cons, List.not_mem_nil, or_false] at hx
 rcases hx with rfl | rfl | rfl
 ·exact pri_2
 ·exact ZFb
 ·exact ZCi.1
theorem Zv8 : Pri 72106336199 ∧ ∀ a, a % 72106336199 ≠ 0 → a ^ (72106336199 - 1) % 72106336199 = 1 := by
 refine ZgH (g := 7) (k := 38) (l := [(2, 1), (13, 1), (2773320623, 1)]) ?_ (by kernel_rfl)
 intro x hx
 simp only [List.mem_cons, List.not_mem_nil, or_false] at hx
 rcases hx with rfl | rfl | rfl
 ·exact pri_2
 ·exact pri_13
 ·exact Zxa.1
theorem ZAx : Pri 8574133 ∧ ∀ a, a % 8574133 ≠ 0 → a ^ (8574133 - 1) % 8574133 = 1 := by
 refine ZgH (g := 2) (k := 25) (l := [(2, 2), (3, 1), (7, 1), (103, 1), (991, 1)]) ?_ (by kernel_rfl)
 intro x hx
 simp only [List.mem_cons, List.not_mem_nil, or_false] at hx
 rcases hx with rfl | rfl | rfl | rfl | rfl
 ·exact pri_2
 ·exact pri_3
 ·exact pri_7
 ·exact pri_103
 ·exact pri_991
theorem Zp2 : Pri 1919519569386763 ∧ ∀ a, a % 1919519569386763 ≠ 0 → a ^ (1919519569386763 - 1) % 1919519569386763 = 1 := by
 refine ZgH (g := 2) (k := 52) (l := [(2, 1), (3, 1), (7, 1), (19, 1), (47, 2), (127, 1), (8574133, 1)]) ?_ (by kernel_rfl)
 intro x hx
 simp only [List.mem_cons, List.not_mem_nil, or_false] at hx
 rcases hx with rfl | rfl | rfl | rfl | rfl | rfl | rfl
 ·exact pri_2
 ·exact pri_3
 ·exact pri_7
 ·exact pri_19
 ·exact pri_47
 ·exact pri_127
 ·exact ZAx.1
theorem ZDB : Pri 75707 ∧ ∀ a, a % 75707 ≠ 0 → a ^ (75707 - 1) % 75707 = 1 := by
 refine ZgH (g := 2) (k := 18) (l := [(2, 1), (37853, 1)]) ?_ (by kernel_rfl)
 intro x hx
 simp only [List.mem_cons, List.not_mem_nil, or_false] at hx
 rcases hx with rfl | rfl
 ·exact pri_2
 ·exact ZDy
theorem Zf4 : Pri 75445702479781427272750846543864801 ∧ ∀ a, a % 75445702479781427272750846543864801 ≠ 0 → a ^ (75445702479781427272750846543864801 - 1) % 75445702479781427272750846543864801 = 1 := by
 refine ZgH (g := 7) (k := 117) (l := [(72106336199, 1), (1919519569386763, 1), (2, 5), (3, 2), (5, 2), (75707, 1)]) ?_ (by kernel_rfl)
 intro x hx
 simp only [List.mem_cons, List.not_mem_nil, or_false] at hx
 rcases hx with rfl | rfl | rfl | rfl | rfl | rfl
 ·exact Zv8.1
 ·exact Zp2.1
 ·exact pri_2
 ·exact pri_3
 ·exact pri_5
 ·exact ZDB.1
theorem ZCj : Pri 132049 ∧ ∀ a, a % 132049 ≠ 0 → a ^ (132049 - 1) % 132049 = 1 := by
 refine ZgH (g := 26) (k := 19) (l := [(2, 4), (3, 2), (7, 1), (131, 1)]) ?_ (by kernel_rfl)
 intro x hx
 simp only [List.mem_cons, List.not_mem_nil, or_false] at hx
 rcases hx with rfl | rfl | rfl | rfl
 ·exact pri_2
 ·exact pri_3
 ·exact pri_7
 ·exact pri_131
theorem ZAy : Pri 1923133 ∧ ∀ a, a % 1923133 ≠ 0 → a ^ (1923133 - 1) % 1923133 = 1 := by
 refine ZgH (g := 2) (k := 22) (l := [(2, 2), (3, 1), (43, 1), (3727, 1)]) ?_ (by kernel_rfl)
 intro x hx
 simp only [List.mem_cons, List.not_mem_nil, or_false] at hx
 rcases hx with rfl | rfl | rfl | rfl
 ·exact pri_2
 ·exact pri_3
 ·exact pri_43
 ·exact ZFc
theorem Zcd : Pri 74058212732561358302231226437062788676166966415465897661863160754340907 ∧ ∀ a, a % 74058212732561358302231226437062788676166966415465897661863160754340907 ≠ 0 → a ^ (74058212732561358302231226437062788676166966415465897661863160754340907 - 1) % 74058212732561358302231226437062788676166966415465897661863160754340907 = 1 := by
 refine ZgH (g := 2) (k := 237) (l := [(31757755568855353, 1), (75445702479781427272750846543864801, 1), (2, 1), (3, 1), (353, 1), (57467, 1), (132049, 1), (1923133, 1)]) ?_ (by kernel_rfl)
 intro x hx
 simp only [List.mem_cons, List.not_mem_nil, or_false] at hx
 rcases hx with rfl | rfl | rfl | rfl | rfl | rfl | rfl | rfl
 ·exact ZoL.1
 ·exact Zf4.1
 ·exact pri_2
 ·exact pri_3
 ·exact pri_353
 ·exact ZDz
 ·exact ZCj.1
 ·exact ZAy.1
theorem luc_F : Pri 57896044618658097711785492504343953926634992332820282019728792003956564819949 ∧ ∀ a, a % 57896044618658097711785492504343953926634992332820282019728792003956564819949 ≠ 0 → a ^ (57896044618658097711785492504343953926634992332820282019728792003956564819949 - 1) % 57896044618658097711785492504343953926634992332820282019728792003956564819949 = 1 := by
 refine ZgH (g := 2) (k := 256) (l := [(74058212732561358302231226437062788676166966415465897661863160754340907, 1), (2, 2), (3, 1), (65147, 1)]) ?_ (by kernel_rfl)
 intro x hx
 simp only [List.mem_cons, List.not_mem_nil, or_false] at hx
 rcases hx with rfl | rfl | rfl | rfl
 ·exact Zcd.1
 ·exact pri_2
 ·exact pri_3
 ·exact ZDA
end Go.Vx
set_option autoImplicit false
namespace Go.Vx
theorem mmod (a n:Int) : a % n % n = a % n := Int.emod_emod_of_dvd _ (Int.dvd_refl _)
theorem mml (a b n:Int) : (a % n * b) % n = (a * b) % n := by rw [Int.mul_emod, mmod, ← Int.mul_emod]
theorem mmr (a b n:Int) : (a * (b % n)) % n = (a * b) % n := by rw [Int.mul_emod, mmod, ← Int.mul_emod]
theorem mneg (a n:Int) : (- (a % n)) % n = (- a) % n := by rw [← Int.zero_sub, Int.sub_emod_emod, Int.zero_sub]
theorem mpow (a n:Int) : (e:Nat) → (a % n) ^ e % n = a ^ e % n
 | 0 => by simp
 | e + 1 => by rw [Int.pow_succ, Int.pow_succ, mmr, ← mml, mpow a n e, mml]
structure K where
 v : Int
 h : v % pF = v
theorem K.ext {a b:K} (h:a.v = b.v) : a = b := by
 cases a; cases b; cases h; rfl
def K.of (x:Int) : K := ⟨x % pF, mmod _ _⟩
theorem K.of_v (a:K) : K.of a.v = a := K.ext a.h
theorem K.of_eq {x y:Int} : K.of x = K.of y ↔ x % pF = y % pF := ⟨fun h => congrArg K.v h, fun h => K.ext h⟩
instance : Add K := ⟨fun a b => K.of (a.v + b.v)⟩
instance : Mul K := ⟨fun a b => K.of (a.v * b.v)⟩
instance : Neg K := ⟨fun a => K.of (- a.v)⟩
instance : Sub K := ⟨fun a b => K.of (a.v - b.v)⟩
instance : NatCast K := ⟨fun n => K.of n⟩
instance : IntCast K := ⟨fun n => K.of n⟩
instance (n:Nat) : OfNat K n := ⟨K.of n⟩
instance : HPow K Nat K := ⟨fun a n => K.of (a.v ^ n)⟩
instance : SMul Nat K := ⟨fun n a => K.of n * a⟩
instance : SMul Int K := ⟨fun n a => K.of n * a⟩
theorem K.add_def (a b:K) : a + b = K.of (a.v + b.v) := rfl
theorem K.mul_def (a b:K) : a * b = K.of (a.v * b.v) := rfl
theorem K.neg_def (a:K) : - a = K.of (- a.v) := rfl
theorem K.sub_def (a b:K) : a - b = K.of (a.v - b.v) := rfl
theorem K.pow_def (a:K) (n:Nat) : a ^ n = K.of (a.v ^ n) := rfl
theorem K.v_of (x:Int) : (K.of x).v = x % pF := rfl
theorem K.of_add (x y:Int) : K.of (x + y) = K.of x + K.of y := by rw [K.add_def, K.of_eq, K.v_of, K.v_of, Int.emod_add_emod, Int.add_emod_emod]
theorem K.of_mul (x y:Int) : K.of (x * y) = K.of x * K.of y := by rw [K.mul_def, K.of_eq, K.v_of, K.v_of, mml, mmr]
theorem K.of_neg (x:Int) : K.of (- x) = - K.of x := by rw [K.neg_def, K.of_eq, K.v_of, mneg]
theorem K.of_sub (x y:Int) : K.of (x - y) = K.of x - K.of y := by rw [K.sub_def, K.of_eq, K.v_of, K.v_of, Int.emod_sub_emod, Int.sub_emod_emod]
theorem K.of_pow (x:Int) (n:Nat) : K.of (x ^ n) = K.of x ^ n := by rw [K.pow_def, K.of_eq, K.v_of, mpow]
theorem K.of_mod (x:Int) : K.of (x % pF) = K.of x := by rw [K.of_eq, mmod]
theorem K.ind {Q:K → Prop} (h:∀ x, Q (K.of x)) (a:K) : Q a := by rw [← K.of_v a]; exact h _
instance : Lean.Grind.CommRing K where
 nsmul := inferInstance
 zsmul := inferInstance
 npow := inferInstance
 add_zero a := by induction a using K.ind with | h x => rw [show (0 : K) = K.of 0 from rfl, ← K.of_add, Int.add_zero]
 add_comm a b := by rw [K.add_def, K.add_def, Int.add_comm]
 add_assoc a b c := by
  induction a using K.ind with | h x => induction b using K.ind with | h y => induction c using K.ind with | h z => simp only [← K.of_add, Int.add_assoc]
 mul_assoc a b c := by
  induction a using K.ind with | h x => induction b using K.ind with | h y => induction c using K.ind with | h z => simp only [← K.of_mul, Int.mul_assoc]
 mul_one a := by induction a using K.ind with | h x => rw [show (1 : K) = K.of 1 from rfl, ← K.of_mul, Int.mul_one]
 one_mul a := by induction a using K.ind with | h x => rw [show (1 : K) = K.of 1 from rfl, ← K.of_mul, Int.one_mul]
 left_distrib a b c := by
  induction a using K.ind with | h x => induction b using K.ind with | h y => induction c using K.ind with | h z => simp only [← K.of_add, ← K.of_mul, Int.mul_add]
 right_distrib a b c := by
  induction a using K.ind with | h x => induction b using K.ind with | h y => induction c using K.ind with | h z => simp only [← K.of_add, ← K.of_mul, Int.add_mul]
 zero_mul a := by induction a using K.ind with | h x => rw [show (0 : K) = K.of 0 from rfl, ← K.of_mul, Int.zero_mul]
 mul_zero a := by induction a using K.ind with | h x => rw [show (0 : K) = K.of 0 from rfl, ← K.of_mul, Int.mul_zero]
 pow_zero a := by rw [K.pow_def, Int.pow_zero]; rfl
 pow_succ a n := by induction a using K.ind with | h x => rw [← K.of_pow, ← K.of_pow, ← K.of_mul, Int.pow_succ]
 ofNat_succ a := by
  show K.of ((a + 1 : Nat) : Int) = K.of (a:Int) + K.of 1
  rw [← K.of_add]; rfl
 neg_add_cancel a := by induction a using K.ind with | h x => rw [← K.of_neg, ← K.of_add, Int.add_left_neg]; rfl
 sub_eq_add_neg a b := by
  induction a using K.ind with | h x => induction b using K.ind with | h y => rw [← K.of_neg, ← K.of_add, ← K.of_sub, Int.sub_eq_add_neg]
 neg_zsmul i a := by
  show K.of (-i) * a = -(K.of i * a)
  induction a using K.ind with | h x => rw [← K.of_mul, ← K.of_mul, ← K.of_neg, Int.neg_mul]
 intCast_neg i := K.of_neg i
 mul_comm a b := by rw [K.mul_def, K.mul_def, Int.mul_comm]
example (a b c:K) (h:a * b = c) : (a + b) ^ 2 = a ^ 2 + 2 * c + b ^ 2 := by grind
theorem K.mul_zero' {a b:K} (h:a * b = 0) : a = 0 ∨ b = 0 := by
 induction a using K.ind with
 | h x => induction b using K.ind with
  | h y =>
   rw [← K.of_mul, show (0 : K) = K.of 0 from rfl, K.of_eq] at h
   rw [show (0 : K) = K.of 0 from rfl, K.of_eq, K.of_eq]
   have h0 : (0 : Int) % pF = 0 := rfl
   rw [h0] at h ⊢
   have hd : (pF:Int) ∣ x * y := Int.dvd_of_emod_eq_zero h
   have hn : (57896044618658097711785492504343953926634992332820282019728792003956564819949 : Nat) ∣ x.natAbs * y.natAbs := by
    have := Int.natAbs_dvd_natAbs.2 hd
    rwa [Int.natAbs_mul] at this
   rcases luc_F.1.dvd_mul hn with h1 | h1
   ·exact .inl (Int.emod_eq_zero_of_dvd (Int.natAbs_dvd_natAbs.1 h1))
   ·exact .inr (Int.emod_eq_zero_of_dvd (Int.natAbs_dvd_natAbs.1 h1))
end Go.Vx
set_option autoImplicit false
namespace Go.Vx
def eP1 : Nat := 57896044618658097711785492504343953926634992332820282019728792003956564819948
def eQ : Nat := 14474011154664524427946373126085988481658748083205070504932198000989141204987
def eR : Nat := 7237005577332262213973186563042994240829374041602535252466099000494570602493
theorem K.fermat {a:K} (h:a ≠ 0) : a ^ eP1 = 1 := by
 induction a using K.ind with
 | h x =>
  rw [← K.of_pow, show (1 : K) = K.of 1 from rfl, K.of_eq]
  have hx : x % pF ≠ 0 := fun e => h (by rw [show (0 : K) = K.of 0 from rfl, K.of_eq, e]; rfl)
  have key : ∀ (e:Nat) (n:Nat), ((n:Int) ^ e) % (57896044618658097711785492504343953926634992332820282019728792003956564819949 : Nat) = ((n ^ e % 57896044618658097711785492504343953926634992332820282019728792003956564819949 : Nat) : Int) := fun e n => by
   rw [← Int.natCast_pow, ← Int.natCast_emod]
  have h0 : 0 ≤ x % pF := Int.emod_nonneg _ (by decide)
  have hn : x % pF = ((x % pF).toNat : Int) := by omega
  rw [← mpow, hn]
  have h1 : (x % pF).toNat % 57896044618658097711785492504343953926634992332820282019728792003956564819949 ≠ 0 := by
   have := Int.emod_lt_of_pos x ZxI
   simp only [pF] at *
   omega
  have h2 := luc_F.2 _ h1
  have h3 := key eP1 (x % pF).toNat
  rw [show eP1 = 57896044618658097711785492504343953926634992332820282019728792003956564819949 - 1 from rfl, h2] at h3
  exact h3
theorem K.pow_add (a:K) (m n:Nat) : a ^ (m + n) = a ^ m * a ^ n := by
 induction a using K.ind with | h x => rw [← K.of_pow, ← K.of_pow, ← K.of_pow, ← K.of_mul, Int.pow_add]
theorem K.pow_mul (a:K) (m n:Nat) : a ^ (m * n) = (a ^ m) ^ n := by
 induction a using K.ind with | h x => rw [← K.of_pow, ← K.of_pow, ← K.of_pow, Int.pow_mul]
theorem K.mul_pow (a b:K) (n:Nat) : (a * b) ^ n = a ^ n * b ^ n := by
 induction a using K.ind with | h x => induction b using K.ind with | h y => rw [← K.of_pow, ← K.of_pow, ← K.of_mul, ← K.of_mul, ← K.of_pow, Int.mul_pow]
def kI : K := K.of 19681161376707505956807079304988542015446066515923890162744021073123829784752
theorem kI_sq : kI * kI = -1 := by
 unfold kI
 rw [← K.of_mul, show (-1 : K) = K.of (-1) from by rw [K.of_neg]; rfl, K.of_eq]
 decide
theorem K.one_ne : (1 : K) ≠ 0 := fun h => by
 have := K.of_eq.1 (show K.of 1 = K.of 0 from h)
 revert this; decide
theorem K.two_ne : (2 : K) ≠ 0 := fun h => by
 have := K.of_eq.1 (show K.of 2 = K.of 0 from h)
 revert this; decide
theorem K.quarter {a:K} (h:a ≠ 0) : a ^ eQ = 1 ∨ a ^ eQ = -1 ∨ a ^ eQ = kI ∨ a ^ eQ = -kI := by
 have h4 : (a ^ eQ) ^ 4 = 1 := by
  rw [← K.pow_mul, show eQ * 4 = eP1 from rfl]
  exact K.fermat h
 have hi := kI_sq
 generalize a ^ eQ = w at *
 have e : (w - 1) * ((w + 1) * ((w - kI) * (w + kI))) = 0 := by grind
 rcases K.mul_zero' e with h1 | h1
 ·exact .inl (by grind)
 ·rcases K.mul_zero' h1 with h1 | h1
  ·exact .inr (.inl (by grind))
  ·rcases K.mul_zero' h1 with h1 | h1
   ·exact .inr (.inr (.inl (by grind)))
   ·exact .inr (.inr (.inr (by grind)))
theorem K.mul_ne {a b:K} (ha:a ≠ 0) (hb:b ≠ 0) : a * b ≠ 0 := fun h => (K.mul_zero' h).elim ha hb
theorem K.pow_ne {a:K} (ha:a ≠ 0) : (n:Nat) → a ^ n ≠ 0
 | 0 => by rw [show a ^ 0 = 1 from Lean.Grind.Semiring.pow_zero a]; exact K.one_ne
 | n + 1 => by rw [Lean.Grind.Semiring.pow_succ]; exact K.mul_ne (K.pow_ne ha n) ha
theorem eQ_eq : eQ = eR * 2 + 1 := rfl
theorem K.ratio (u v:K) : v * ((u * v ^ 3) * (u * v ^ 7) ^ eR) ^ 2 = u * (u * v ^ 7) ^ eQ := by
 have h : (u * v ^ 7) ^ eQ = ((u * v ^ 7) ^ eR) ^ 2 * (u * v ^ 7) := by
  rw [eQ_eq, Lean.Grind.Semiring.pow_succ, K.pow_mul]
 rw [h]
 generalize (u * v ^ 7) ^ eR = t
 grind
end Go.Vx
