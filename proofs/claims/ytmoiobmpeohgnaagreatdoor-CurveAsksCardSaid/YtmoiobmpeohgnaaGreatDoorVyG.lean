/- Numbers, part G: Mul and Square. Written by genmul.py. -/
import Derived.Test.YtmoiobmpeohgnaaGreatDoorVyF
set_option autoImplicit false
set_option linter.unusedSimpArgs false
set_option linter.unusedVariables false
namespace Go.Vx
open Go
def mulC (a:LI) (b:LI) : Option (LI) :=
 mo (Zac (0, 0) (List.getD a 0 0) (List.getD b 0 0)) none fun r53 =>
 mo (Zac (r53.1, r53.2) (ibin .mul .u64 19 (List.getD a 1 0)) (List.getD b 4 0)) none fun r54 =>
 let x7 := (ibin .mul .u64 19 (List.getD a 2 0))
 mo (Zac (r54.1, r54.2) x7 (List.getD b 3 0)) none fun r55 =>
 let x8 := (ibin .mul .u64 19 (List.getD a 3 0))
 mo (Zac (r55.1, r55.2) x8 (List.getD b 2 0)) none fun r56 =>
 let x9 := (ibin .mul .u64 19 (List.getD a 4 0))
 mo (Zac (r56.1, r56.2) x9 (List.getD b 1 0)) none fun r57 =>
 mo (Zac (0, 0) (List.getD a 0 0) (List.getD b 1 0)) none fun r58 =>
 mo (Zac (r58.1, r58.2) (List.getD a 1 0) (List.getD b 0 0)) none fun r59 =>
 mo (Zac (r59.1, r59.2) x7 (List.getD b 4 0)) none fun r60 =>
 mo (Zac (r60.1, r60.2) x8 (List.getD b 3 0)) none fun r61 =>
 mo (Zac (r61.1, r61.2) x9 (List.getD b 2 0)) none fun r62 =>
 mo (Zac (0, 0) (List.getD a 0 0) (List.getD b 2 0)) none fun r63 =>
 mo (Zac (r63.1, r63.2) (List.getD a 1 0) (List.getD b 1 0)) none fun r64 =>
 mo (Zac (r64.1, r64.2) (List.getD a 2 0) (List.getD b 0 0)) none fun r65 =>
 mo (Zac (r65.1, r65.2) x8 (List.getD b 4 0)) none fun r66 =>
 mo (Zac (r66.1, r66.2) x9 (List.getD b 3 0)) none fun r67 =>
 mo (Zac (0, 0) (List.getD a 0 0) (List.getD b 3 0)) none fun r68 =>
 mo (Zac (r68.1, r68.2) (List.getD a 1 0) (List.getD b 2 0)) none fun r69 =>
 mo (Zac (r69.1, r69.2) (List.getD a 2 0) (List.getD b 1 0)) none fun r70 =>
 mo (Zac (r70.1, r70.2) (List.getD a 3 0) (List.getD b 0 0)) none fun r71 =>
 mo (Zac (r71.1, r71.2) x9 (List.getD b 4 0)) none fun r72 =>
 mo (Zac (0, 0) (List.getD a 0 0) (List.getD b 4 0)) none fun r73 =>
 mo (Zac (r73.1, r73.2) (List.getD a 1 0) (List.getD b 3 0)) none fun r74 =>
 mo (Zac (r74.1, r74.2) (List.getD a 2 0) (List.getD b 2 0)) none fun r75 =>
 mo (Zac (r75.1, r75.2) (List.getD a 3 0) (List.getD b 1 0)) none fun r76 =>
 mo (Zac (r76.1, r76.2) (List.getD a 4 0) (List.getD b 0 0)) none fun r77 =>
 mo (ZcU (r57.1, r57.2) (r62.1, r62.2) (r67.1, r67.2) (r72.1, r72.2) (r77.1, r77.2)) none fun r78 =>
 some r78
def sqC (a:LI) : Option (LI) :=
 mo (Zac (0, 0) (List.getD a 0 0) (List.getD a 0 0)) none fun r17 =>
 mo (Zac (r17.1, r17.2) (ibin .mul .u64 38 (List.getD a 1 0)) (List.getD a 4 0)) none fun r18 =>
 let x5 := (ibin .mul .u64 38 (List.getD a 2 0))
 mo (Zac (r18.1, r18.2) x5 (List.getD a 3 0)) none fun r19 =>
 let x6 := (ibin .mul .u64 2 (List.getD a 0 0))
 mo (Zac (0, 0) x6 (List.getD a 1 0)) none fun r20 =>
 mo (Zac (r20.1, r20.2) x5 (List.getD a 4 0)) none fun r21 =>
 let x7 := (ibin .mul .u64 19 (List.getD a 3 0))
 mo (Zac (r21.1, r21.2) x7 (List.getD a 3 0)) none fun r22 =>
 mo (Zac (0, 0) x6 (List.getD a 2 0)) none fun r23 =>
 mo (Zac (r23.1, r23.2) (List.getD a 1 0) (List.getD a 1 0)) none fun r24 =>
 mo (Zac (r24.1, r24.2) (ibin .mul .u64 2 x7) (List.getD a 4 0)) none fun r25 =>
 mo (Zac (0, 0) x6 (List.getD a 3 0)) none fun r26 =>
 let x8 := (ibin .mul .u64 2 (List.getD a 1 0))
 mo (Zac (r26.1, r26.2) x8 (List.getD a 2 0)) none fun r27 =>
 mo (Zac (r27.1, r27.2) (ibin .mul .u64 19 (List.getD a 4 0)) (List.getD a 4 0)) none fun r28 =>
 mo (Zac (0, 0) x6 (List.getD a 4 0)) none fun r29 =>
 mo (Zac (r29.1, r29.2) x8 (List.getD a 3 0)) none fun r30 =>
 mo (Zac (r30.1, r30.2) (List.getD a 2 0) (List.getD a 2 0)) none fun r31 =>
 mo (ZcU (r19.1, r19.2) (r22.1, r22.2) (r25.1, r25.2) (r28.1, r28.2) (r31.1, r31.2)) none fun r32 =>
 some r32
theorem ZEi (a b:LI) : Zap a b = cond (!(ZaJ a)) (mulC (Zaa a) (Zaa b)) (cond (!(ZaJ b)) (mulC (Zaa a) (Zaa b)) (mulC a b)) := rfl
theorem ZFK (a:LI) : ZaK a = cond (!(ZaJ a)) (sqC (Zaa a)) (sqC a) := rfl
theorem ZaM {d:Int × Int} {a b:Int} (n:Int) (hn : 0 ≤ n ∧ n ≤ 10) (hd:U2 d) (hB:dv d ≤ n * 324518553658426726783156020576256) (ha : 0 ≤ a ∧ a ≤ 144115188075855872) (hb : 0 ≤ b ∧ b < M51) :
  ∃ r, Zac (d.1, d.2) a b = some r ∧ U2 r ∧ dv r = dv d + a * b ∧ dv r ≤ (n + 1) * 324518553658426726783156020576256 := by
 have q := ZzX ha.1 ha.2 hb.1 (Int.le_of_lt hb.2)
 have ua : U a := by simp only [U]; omega
 have ub : U b := by simp only [U, M51] at *; omega
 obtain ⟨r, h1, h2, h3⟩ := Zmd hd ua ub (by simp only [M51] at *; omega)
 refine ⟨r, h1, h2, h3, ?_⟩
 rw [h3]
 simp only [M51] at *
 omega
theorem zero2 : U2 (0, 0) := by simp [U2, U]
theorem zero2v : dv (0, 0) = 0 := rfl
theorem ZEj {x0 x1 x2 x3 x4 y0 y1 y2 y3 y4:Int} (hx0 : 0 ≤ x0 ∧ x0 < M51) (hx1 : 0 ≤ x1 ∧ x1 < M51) (hx2 : 0 ≤ x2 ∧ x2 < M51) (hx3 : 0 ≤ x3 ∧ x3 < M51) (hx4 : 0 ≤ x4 ∧ x4 < M51) (hy0 : 0 ≤ y0 ∧ y0 < M51) (hy1 : 0 ≤ y1 ∧ y1 < M51) (hy2 : 0 ≤ y2 ∧ y2 < M51) (hy3 : 0 ≤ y3 ∧ y3 < M51) (hy4 : 0 ≤ y4 ∧ y4 < M51) :
  ∃ r, mulC [x0, x1, x2, x3, x4] [y0, y1, y2, y3, y4] = some r ∧ Can r ∧ val r = (val [x0, x1, x2, x3, x4] * val [y0, y1, y2, y3, y4]) % pF := by
 unfold mulC
 simp only [List.getD_cons_zero, List.getD_cons_succ]
 have s0 : ibin .mul .u64 19 x4 = 19 * x4 := by rw [u_mul]; simp only [M51] at *; omega
 have s1 : ibin .mul .u64 19 x3 = 19 * x3 := by rw [u_mul]; simp only [M51] at *; omega
 have s2 : ibin .mul .u64 19 x1 = 19 * x1 := by rw [u_mul]; simp only [M51] at *; omega
 have s3 : ibin .mul .u64 19 x2 = 19 * x2 := by rw [u_mul]; simp only [M51] at *; omega
 simp only [s0, s1, s2, s3]
 obtain ⟨r53, q53, u53, v53, b53⟩ := ZaM (d := (0, 0)) (a := x0) (b := y0) 0 (by decide) zero2 (by rw [zero2v]; omega) (by have := hx0; simp only [M51] at this; omega) hy0
 simp only at q53
 simp only [q53, mo]
 obtain ⟨r54, q54, u54, v54, b54⟩ := ZaM (d := r53) (a := (19 * x1)) (b := y4) 1 (by decide) u53 (by simpa using b53) (by have := hx1; simp only [M51] at this; omega) hy4
 simp only [q54, mo]
 obtain ⟨r55, q55, u55, v55, b55⟩ := ZaM (d := r54) (a := (19 * x2)) (b := y3) 2 (by decide) u54 (by simpa using b54) (by have := hx2; simp only [M51] at this; omega) hy3
 simp only [q55, mo]
 obtain ⟨r56, q56, u56, v56, b56⟩ := ZaM (d := r55) (a := (19 * x3)) (b := y2) 3 (by decide) u55 (by simpa using b55) (by have := hx3; simp only [M51] at this; omega) hy2
 simp only [q56, mo]
 obtain ⟨r57, q57, u57, v57, b57⟩ := ZaM (d := r56) (a := (19 * x4)) (b := y1) 4 (by decide) u56 (by simpa using b56) (by have := hx4; simp only [M51] at this; omega) hy1
 simp only [q57, mo]
 obtain ⟨r58, q58, u58, v58, b58⟩ := ZaM (d := (0, 0)) (a := x0) (b := y1) 0 (by decide) zero2 (by rw [zero2v]; omega) (by have := hx0; simp only [M51] at this; omega) hy1
 simp only at q58
 simp only [q58, mo]
 obtain ⟨r59, q59, u59, v59, b59⟩ := ZaM (d := r58) (a := x1) (b := y0) 1 (by decide) u58 (by simpa using b58) (by have := hx1; simp only [M51] at this; omega) hy0
 simp only [q59, mo]
 obtain ⟨r60, q60, u60, v60, b60⟩ := ZaM (d := r59) (a := (19 * x2)) (b := y4) 2 (by decide) u59 (by simpa using b59) (by have := hx2; simp only [M51] at this; omega) hy4
 simp only [q60, mo]
 obtain ⟨r61, q61, u61, v61, b61⟩ := ZaM (d := r60) (a := (19 * x3)) (b := y3) 3 (by decide) u60 (by simpa using b60) (by have := hx3; simp only [M51] at this; omega) hy3
 simp only [q61, mo]
 obtain ⟨r62, q62, u62, v62, b62⟩ := ZaM (d := r61) (a := (19 * x4)) (b := y2) 4 (by decide) u61 (by simpa using b61) (by have := hx4; simp only [M51] at this; omega) hy2
 simp only [q62, mo]
 obtain ⟨r63, q63, u63, v63, b63⟩ := ZaM (d := (0, 0)) (a := x0) (b := y2) 0 (by decide) zero2 (by rw [zero2v]; omega) (by have := hx0; simp only [M51] at this; omega) hy2
 simp only at q63
 simp only [q63, mo]
 obtain ⟨r64, q64, u64, v64, b64⟩ := ZaM (d := r63) (a := x1) (b := y1) 1 (by decide) u63 (by simpa using b63) (by have := hx1; simp only [M51] at this; omega) hy1
 simp only [q64, mo]
 obtain ⟨r65, q65, u65, v65, b65⟩ := ZaM (d := r64) (a := x2) (b := y0) 2 (by decide) u64 (by simpa using b64) (by have := hx2; simp only [M51] at this; omega) hy0
 simp only [q65, mo]
 obtain ⟨r66, q66, u66, v66, b66⟩ := ZaM (d := r65) (a := (19 * x3)) (b := y4) 3 (by decide) u65 (by simpa using b65) (by have := hx3; simp only [M51] at this; omega) hy4
 simp only [q66, mo]
 obtain ⟨r67, q67, u67, v67, b67⟩ := ZaM (d := r66) (a := (19 * x4)) (b := y3) 4 (by decide) u66 (by simpa using b66) (by have := hx4; simp only [M51] at this; omega) hy3
 simp only [q67, mo]
 obtain ⟨r68, q68, u68, v68, b68⟩ := ZaM (d := (0, 0)) (a := x0) (b := y3) 0 (by decide) zero2 (by rw [zero2v]; omega) (by have := hx0; simp only [M51] at this; omega) hy3
 simp only at q68
 simp only [q68, mo]
 obtain ⟨r69, q69, u69, v69, b69⟩ := ZaM (d := r68) (a := x1) (b := y2) 1 (by decide) u68 (by simpa using b68) (by have := hx1; simp only [M51] at this; omega) hy2
 simp only [q69, mo]
 obtain ⟨r70, q70, u70, v70, b70⟩ := ZaM (d := r69) (a := x2) (b := y1) 2 (by decide) u69 (by simpa using b69) (by have := hx2; simp only [M51] at this; omega) hy1
 simp only [q70, mo]
 obtain ⟨r71, q71, u71, v71, b71⟩ := ZaM (d := r70) (a := x3) (b := y0) 3 (by decide) u70 (by simpa using b70) (by have := hx3; simp only [M51] at this; omega) hy0
 simp only [q71, mo]
 obtain ⟨r72, q72, u72, v72, b72⟩ := ZaM (d := r71) (a := (19 * x4)) (b := y4) 4 (by decide) u71 (by simpa using b71) (by have := hx4; simp only [M51] at this; omega) hy4
 simp only [q72, mo]
 obtain ⟨r73, q73, u73, v73, b73⟩ := ZaM (d := (0, 0)) (a := x0) (b := y4) 0 (by decide) zero2 (by rw [zero2v]; omega) (by have := hx0; simp only [M51] at this; omega) hy4
 simp only at q73
 simp only [q73, mo]
 obtain ⟨r74, q74, u74, v74, b74⟩ := ZaM (d := r73) (a := x1) (b := y3) 1 (by decide) u73 (by simpa using b73) (by have := hx1; simp only [M51] at this; omega) hy3
 simp only [q74, mo]
 obtain ⟨r75, q75, u75, v75, b75⟩ := ZaM (d := r74) (a := x2) (b := y2) 2 (by decide) u74 (by simpa using b74) (by have := hx2; simp only [M51] at this; omega) hy2
 simp only [q75, mo]
 obtain ⟨r76, q76, u76, v76, b76⟩ := ZaM (d := r75) (a := x3) (b := y1) 3 (by decide) u75 (by simpa using b75) (by have := hx3; simp only [M51] at this; omega) hy1
 simp only [q76, mo]
 obtain ⟨r77, q77, u77, v77, b77⟩ := ZaM (d := r76) (a := x4) (b := y0) 4 (by decide) u76 (by simpa using b76) (by have := hx4; simp only [M51] at this; omega) hy0
 simp only [q77, mo]
 obtain ⟨r, k1, k2, k3⟩ := Zvd u57 u62 u67 u72 u77 (by omega) (by omega) (by omega) (by omega) (by omega)
 simp only [k1, mo]
 refine ⟨r, rfl, k2, ?_⟩
 rw [k3]
 have e : val [x0, x1, x2, x3, x4] * val [y0, y1, y2, y3, y4] = val [dv r57, dv r62, dv r67, dv r72, dv r77] + pF * (x1 * y4 * 1 + x2 * y3 * 1 + x2 * y4 * 2251799813685248 + x3 * y2 * 1 + x3 * y3 * 2251799813685248 + x3 * y4 * 5070602400912917605986812821504 + x4 * y1 * 1 + x4 * y2 * 2251799813685248 + x4 * y3 * 5070602400912917605986812821504 + x4 * y4 * 11417981541647679048466287755595961091061972992) := by
  simp only [v53, v54, v55, v56, v57, v58, v59, v60, v61, v62, v63, v64, v65, v66, v67, v68, v69, v70, v71, v72, v73, v74, v75, v76, v77, zero2v, val, pF]
  clear k1 k2 k3 q53 q54 q55 q56 q57 q58 q59 q60 q61 q62 q63 q64 q65 q66 q67 q68 q69 q70 q71 q72 q73 q74 q75 q76 q77 b53 b54 b55 b56 b57 b58 b59 b60 b61 b62 b63 b64 b65 b66 b67 b68 b69 b70 b71 b72 b73 b74 b75 b76 b77 u53 u54 u55 u56 u57 u58 u59 u60 u61 u62 u63 u64 u65 u66 u67 u68 u69 u70 u71 u72 u73 u74 u75 u76 u77
  grind
 rw [e, Int.add_mul_emod_self_left]
theorem ZFL {x0 x1 x2 x3 x4:Int} (hx0 : 0 ≤ x0 ∧ x0 < M51) (hx1 : 0 ≤ x1 ∧ x1 < M51) (hx2 : 0 ≤ x2 ∧ x2 < M51) (hx3 : 0 ≤ x3 ∧ x3 < M51) (hx4 : 0 ≤ x4 ∧ x4 < M51) :
  ∃ r, sqC [x0, x1, x2, x3, x4] = some r ∧ Can r ∧ val r = (val [x0, x1, x2, x3, x4] * val [x0, x1, x2, x3, x4]) % pF := by
 unfold sqC
 simp only [List.getD_cons_zero, List.getD_cons_succ]
 have s0 : ibin .mul .u64 38 x2 = 38 * x2 := by rw [u_mul]; simp only [M51] at *; omega
 have s1 : ibin .mul .u64 2 x0 = 2 * x0 := by rw [u_mul]; simp only [M51] at *; omega
 have s2 : ibin .mul .u64 2 x1 = 2 * x1 := by rw [u_mul]; simp only [M51] at *; omega
 have s3 : ibin .mul .u64 38 x1 = 38 * x1 := by rw [u_mul]; simp only [M51] at *; omega
 have s4 : ibin .mul .u64 19 x4 = 19 * x4 := by rw [u_mul]; simp only [M51] at *; omega
 have s5 : ibin .mul .u64 19 x3 = 19 * x3 := by rw [u_mul]; simp only [M51] at *; omega
 have s6 : ibin .mul .u64 2 (19 * x3) = 2 * (19 * x3) := by rw [u_mul]; simp only [M51] at *; omega
 simp only [s0, s1, s2, s3, s4, s5, s6]
 obtain ⟨r17, q17, u17, v17, b17⟩ := ZaM (d := (0, 0)) (a := x0) (b := x0) 0 (by decide) zero2 (by rw [zero2v]; omega) (by have := hx0; simp only [M51] at this; omega) hx0
 simp only at q17
 simp only [q17, mo]
 obtain ⟨r18, q18, u18, v18, b18⟩ := ZaM (d := r17) (a := (38 * x1)) (b := x4) 1 (by decide) u17 (by simpa using b17) (by have := hx1; simp only [M51] at this; omega) hx4
 simp only [q18, mo]
 obtain ⟨r19, q19, u19, v19, b19⟩ := ZaM (d := r18) (a := (38 * x2)) (b := x3) 2 (by decide) u18 (by simpa using b18) (by have := hx2; simp only [M51] at this; omega) hx3
 simp only [q19, mo]
 obtain ⟨r20, q20, u20, v20, b20⟩ := ZaM (d := (0, 0)) (a := (2 * x0)) (b := x1) 0 (by decide) zero2 (by rw [zero2v]; omega) (by have := hx0; simp only [M51] at this; omega) hx1
 simp only at q20
 simp only [q20, mo]
 obtain ⟨r21, q21, u21, v21, b21⟩ := ZaM (d := r20) (a := (38 * x2)) (b := x4) 1 (by decide) u20 (by simpa using b20) (by have := hx2; simp only [M51] at this; omega) hx4
 simp only [q21, mo]
 obtain ⟨r22, q22, u22, v22, b22⟩ := ZaM (d := r21) (a := (19 * x3)) (b := x3) 2 (by decide) u21 (by simpa using b21) (by have := hx3; simp only [M51] at this; omega) hx3
 simp only [q22, mo]
 obtain ⟨r23, q23, u23, v23, b23⟩ := ZaM (d := (0, 0)) (a := (2 * x0)) (b := x2) 0 (by decide) zero2 (by rw [zero2v]; omega) (by have := hx0; simp only [M51] at this; omega) hx2
 simp only at q23
 simp only [q23, mo]
 obtain ⟨r24, q24, u24, v24, b24⟩ := ZaM (d := r23) (a := x1) (b := x1) 1 (by decide) u23 (by simpa using b23) (by have := hx1; simp only [M51] at this; omega) hx1
 simp only [q24, mo]
 obtain ⟨r25, q25, u25, v25, b25⟩ := ZaM (d := r24) (a := (2 * (19 * x3))) (b := x4) 2 (by decide) u24 (by simpa using b24) (by have := hx3; simp only [M51] at this; omega) hx4
 simp only [q25, mo]
 obtain ⟨r26, q26, u26, v26, b26⟩ := ZaM (d := (0, 0)) (a := (2 * x0)) (b := x3) 0 (by decide) zero2 (by rw [zero2v]; omega) (by have := hx0; simp only [M51] at this; omega) hx3
 simp only at q26
 simp only [q26, mo]
 obtain ⟨r27, q27, u27, v27, b27⟩ := ZaM (d := r26) (a := (2 * x1)) (b := x2) 1 (by decide) u26 (by simpa using b26) (by have := hx1; simp only [M51] at this; omega) hx2
 simp only [q27, mo]
 obtain ⟨r28, q28, u28, v28, b28⟩ := ZaM (d := r27) (a := (19 * x4)) (b := x4) 2 (by decide) u27 (by simpa using b27) (by have := hx4; simp only [M51] at this; omega) hx4
 simp only [q28, mo]
 obtain ⟨r29, q29, u29, v29, b29⟩ := ZaM (d := (0, 0)) (a := (2 * x0)) (b := x4) 0 (by decide) zero2 (by rw [zero2v]; omega) (by have := hx0; simp only [M51] at this; omega) hx4
 simp only at q29
 simp only [q29, mo]
 obtain ⟨r30, q30, u30, v30, b30⟩ := ZaM (d := r29) (a := (2 * x1)) (b := x3) 1 (by decide) u29 (by simpa using b29) (by have := hx1; simp only [M51] at this; omega) hx3
 simp only [q30, mo]
 obtain ⟨r31, q31, u31, v31, b31⟩ := ZaM (d := r30) (a := x2) (b := x2) 2 (by decide) u30 (by simpa using b30) (by have := hx2; simp only [M51] at this; omega) hx2
 simp only [q31, mo]
 obtain ⟨r, k1, k2, k3⟩ := Zvd u19 u22 u25 u28 u31 (by omega) (by omega) (by omega) (by omega) (by omega)
 simp only [k1, mo]
 refine ⟨r, rfl, k2, ?_⟩
 rw [k3]
 have e : val [x0, x1, x2, x3, x4] * val [x0, x1, x2, x3, x4] = val [dv r19, dv r22, dv r25, dv r28, dv r31] + pF * (x1 * x4 * 1 + x2 * x3 * 1 + x2 * x4 * 2251799813685248 + x3 * x2 * 1 + x3 * x3 * 2251799813685248 + x3 * x4 * 5070602400912917605986812821504 + x4 * x1 * 1 + x4 * x2 * 2251799813685248 + x4 * x3 * 5070602400912917605986812821504 + x4 * x4 * 11417981541647679048466287755595961091061972992) := by
  simp only [v17, v18, v19, v20, v21, v22, v23, v24, v25, v26, v27, v28, v29, v30, v31, zero2v, val, pF]
  clear k1 k2 k3 q17 q18 q19 q20 q21 q22 q23 q24 q25 q26 q27 q28 q29 q30 q31 b17 b18 b19 b20 b21 b22 b23 b24 b25 b26 b27 b28 b29 b30 b31 u17 u18 u19 u20 u21 u22 u23 u24 u25 u26 u27 u28 u29 u30 u31
  grind
 rw [e, Int.add_mul_emod_self_left]
theorem Zyj {a b:LI} (ha:L5 a) (hb:L5 b) : ∃ r, Zap a b = some r ∧ Can r ∧ val r = (val a * val b) % pF := by
 rw [ZEi]
 refine slim2 ha hb mulC (fun R => ∃ r, R = some r ∧ Can r ∧ val r = (val a * val b) % pF) ?_
 intro a' b' sa sb va vb
 obtain ⟨x0, x1, x2, x3, x4, rfl, h0, h1, h2, h3, h4⟩ := sa
 obtain ⟨y0, y1, y2, y3, y4, rfl, k0, k1, k2, k3, k4⟩ := sb
 obtain ⟨r, e1, e2, e3⟩ := ZEj h0 h1 h2 h3 h4 k0 k1 k2 k3 k4
 exact ⟨r, e1, e2, by rw [e3, Int.mul_emod, va, vb, ← Int.mul_emod]⟩
theorem ZAv {a:LI} (ha:L5 a) : ∃ r, ZaK a = some r ∧ Can r ∧ val r = (val a * val a) % pF := by
 rw [ZFK]
 refine slim1 ha sqC (fun R => ∃ r, R = some r ∧ Can r ∧ val r = (val a * val a) % pF) ?_
 intro a' sa va
 obtain ⟨x0, x1, x2, x3, x4, rfl, h0, h1, h2, h3, h4⟩ := sa
 obtain ⟨r, e1, e2, e3⟩ := ZFL h0 h1 h2 h3 h4
 exact ⟨r, e1, e2, by rw [e3, Int.mul_emod, va, ← Int.mul_emod]⟩
end Go.Vx
