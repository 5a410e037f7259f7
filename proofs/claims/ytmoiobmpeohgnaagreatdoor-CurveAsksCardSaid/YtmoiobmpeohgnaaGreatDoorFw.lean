import Derived.Test.YtmoiobmpeohgnaaGreatDoorFp
import Derived.Test.YtmoiobmpeohgnaaGreatDoorProg
import Derived.Test.YtmoiobmpeohgnaaGreatDoorVxZ2
set_option autoImplicit false
set_option linter.unusedVariables false
set_option linter.unusedSimpArgs false
namespace Go.Vx
open Go Go.Proofs
abbrev GO (w0:World) (l:List Gv) : Prop := GlobOK Tryz.prog w0 l
abbrev SA (w0:World) (g:FuncId) (c:Ct) : Prop := SoundAt Tryz.prog w0 g c
def ZjV : Ct := fct (.cons (.int .u64) (.cons (.int .u64) (.one (.int .u64)))) (.tup (.cons (.int .u64) (.one (.int .u64)))) fun x => ZdL x.1 x.2.1 x.2.2
theorem ZoW {w0:World} : SA w0 72 ZjV :=
 ZAC Tryz.func72 (by kernel_rfl) (by kernel_rfl) (by kernel_rfl) (by kernel_rfl)
def Zso : Ct := fct (.cons (.int .u64) (.cons (.int .u64) (.one (.int .u64)))) (.tup (.cons (.int .u64) (.one (.int .u64)))) fun x => ZfC x.1 x.2.1 x.2.2
theorem Zz3 {w0:World} : SA w0 105 Zso :=
 ZAB Tryz.func105 (by kernel_rfl) (by kernel_rfl) (by kernel_rfl) (by kernel_rfl)
abbrev Zlc : Ag (LI) := (.one (.ints .u64 5))
abbrev Zld : Pt (LI) := (.ints .u64 5)
def Zhj : Ct := tct Zlc Zld fun x => Zbn x
def Zkf : List (FuncId × Ct) := []
def Zrf : List Gv := []
noncomputable def Zrg : List (Nat × Lf) := []
theorem Zsp : RunIs Tryz.prog (Zkf) Zrf 0 (Zrg) Tryz.f70 Zlc Zld (fun x => some (Zbn x)) := by
 intro x; kernel_rfl
theorem Zsq {w0:World}  (hcs:∀ x ∈ Zkf, SA w0 x.1 x.2) : SA w0 70 Zhj := by
 exact Zbr (Zam hcs (Zar _ _) Tryz.func70 (by kernel_rfl) (by kernel_rfl) (S := 0) (fun w _ => Zal _) (fun _ => rfl) (Zsp)) fun _ _ => rfl
theorem Zsr {w0:World}  : SA w0 70 Zhj :=
 Zsq ZaL
abbrev Zle : Ag (LI) := (.one (.ints .u64 5))
abbrev Zlf : Pt (LI) := (.ints .u64 5)
def ZaZ : Ct := tct Zle Zlf fun x => Zaa x
def Zkg : List (FuncId × Ct) := [(70, Zhj)]
def Zrh : List Gv := []
noncomputable def Zri : List (Nat × Lf) := []
theorem Zss : RunIs Tryz.prog (Zkg) Zrh 0 (Zri) Tryz.f41 Zle Zlf (fun x => some (Zaa x)) := by
 intro x; kernel_rfl
theorem Zst {w0:World}  (hcs:∀ x ∈ Zkg, SA w0 x.1 x.2) : SA w0 41 ZaZ := by
 exact Zbr (Zam hcs (Zar _ _) Tryz.func41 (by kernel_rfl) (by kernel_rfl) (S := 0) (fun w _ => Zal _) (fun _ => rfl) (Zss)) fun _ _ => rfl
theorem Zbo {w0:World}  : SA w0 41 ZaZ :=
 Zst (Zai (Zsr) ZaL)
abbrev Zmg : Ag (LI) := (.one (.ints .u64 5))
abbrev Zmh : Pt (Bool) := .bool
def Zds : Ct := tct Zmg Zmh fun x => ZaJ x
def Zlg : List (FuncId × Ct) := []
def Zsu : List Gv := []
noncomputable def Zsv : List (Nat × Lf) := []
theorem Zt7 : RunIs Tryz.prog (Zlg) Zsu 0 (Zsv) Tryz.f40 Zmg Zmh (fun x => some (ZaJ x)) := by
 intro x; kernel_rfl
theorem Zt8 {w0:World}  (hcs:∀ x ∈ Zlg, SA w0 x.1 x.2) : SA w0 40 Zds := by
 exact Zbr (Zam hcs (Zar _ _) Tryz.func40 (by kernel_rfl) (by kernel_rfl) (S := 0) (fun w _ => Zal _) (fun _ => rfl) (Zt7)) fun _ _ => rfl
theorem ZgL {w0:World}  : SA w0 40 Zds :=
 Zt8 ZaL
abbrev Zve : Ag ((Int × Int × Int × Int × Int)) := (.cons (.int .u64) (.cons (.int .u64) (.cons (.int .u64) (.cons (.int .u64) (.one (.int .u64))))))
abbrev Zvf : Pt (LI) := (.ints .u64 5)
def Znn : Ct := tct Zve Zvf fun x => ZfE x.1 x.2.1 x.2.2.1 x.2.2.2.1 x.2.2.2.2
def Zsw : List (FuncId × Ct) := []
def ZyI : List Gv := []
noncomputable def ZyJ : List (Nat × Lf) := []
theorem Zz4 : RunIs Tryz.prog (Zsw) ZyI 0 (ZyJ) Tryz.f94 Zve Zvf (fun x => some (ZfE x.1 x.2.1 x.2.2.1 x.2.2.2.1 x.2.2.2.2)) := by
 intro x; kernel_rfl
theorem Zz5 {w0:World}  (hcs:∀ x ∈ Zsw, SA w0 x.1 x.2) : SA w0 94 Znn := by
 exact Zbr (Zam hcs (Zar _ _) Tryz.func94 (by kernel_rfl) (by kernel_rfl) (S := 0) (fun w _ => Zal _) (fun _ => rfl) (Zz4)) fun _ _ => rfl
theorem Zz6 {w0:World}  : SA w0 94 Znn :=
 Zz5 ZaL
abbrev ZqG : Ag ((Int × Int × Int × Int × Int)) := (.cons (.int .u64) (.cons (.int .u64) (.cons (.int .u64) (.cons (.int .u64) (.one (.int .u64))))))
abbrev ZqH : Pt (LI) := (.ints .u64 5)
def Zf9 : Ct := tct ZqG ZqH fun x => Zbg x.1 x.2.1 x.2.2.1 x.2.2.2.1 x.2.2.2.2
def ZoX : List (FuncId × Ct) := [(94, Znn)]
def ZwG : List Gv := []
noncomputable def ZwH : List (Nat × Lf) := []
theorem Zxb : RunIs Tryz.prog (ZoX) ZwG 0 (ZwH) Tryz.f74 ZqG ZqH (fun x => ZlU x.1 x.2.1 x.2.2.1 x.2.2.2.1 x.2.2.2.2) := by
 intro x; kernel_rfl
theorem Zxc {w0:World}  (hcs:∀ x ∈ ZoX, SA w0 x.1 x.2) : SA w0 74 Zf9 := by
 exact Zbr (Zam hcs (Zar _ _) Tryz.func74 (by kernel_rfl) (by kernel_rfl) (S := 0) (fun w _ => Zal _) (fun _ => rfl) (Zxb)) fun _ _ => Zvr _ _ _ _ _
theorem ZlW {w0:World}  : SA w0 74 Zf9 :=
 Zxc (Zai (Zz6) ZaL)
abbrev ZnO : Ag ((LI × LI)) := (.cons (.ints .u64 5) (.one (.ints .u64 5)))
abbrev ZnP : Pt (LI) := (.ints .u64 5)
def ZdN : Ct := tct ZnO ZnP fun x => ZaO x.1 x.2
def Zmi : List (FuncId × Ct) := [(40, Zds), (41, ZaZ), (74, Zf9)]
def Zt9 : List Gv := []
noncomputable def Zua : List (Nat × Lf) := []
theorem Zvt : RunIs Tryz.prog (Zmi) Zt9 0 (Zua) Tryz.f78 ZnO ZnP (fun x => Zjl x.1 x.2) := by
 intro x; kernel_rfl
theorem Zvu {w0:World}  (hcs:∀ x ∈ Zmi, SA w0 x.1 x.2) : SA w0 78 ZdN := by
 exact Zbr (Zam hcs (Zar _ _) Tryz.func78 (by kernel_rfl) (by kernel_rfl) (S := 0) (fun w _ => Zal _) (fun _ => rfl) (Zvt)) fun _ _ => Zsm _ _
theorem Zhd {w0:World}  : SA w0 78 ZdN :=
 Zvu (Zai (ZgL) (Zai (Zbo) (Zai (ZlW) ZaL)))
abbrev ZnQ : Ag ((LI × LI)) := (.cons (.ints .u64 5) (.one (.ints .u64 5)))
abbrev ZnR : Pt (LI) := (.ints .u64 5)
def Zde : Ct := tct ZnQ ZnR fun x => Zax x.1 x.2
def Zmj : List (FuncId × Ct) := [(40, Zds), (41, ZaZ), (74, Zf9)]
def Zub : List Gv := []
noncomputable def Zuc : List (Nat × Lf) := []
theorem Zvv : RunIs Tryz.prog (Zmj) Zub 0 (Zuc) Tryz.f77 ZnQ ZnR (fun x => Zjm x.1 x.2) := by
 intro x; kernel_rfl
theorem Zvw {w0:World}  (hcs:∀ x ∈ Zmj, SA w0 x.1 x.2) : SA w0 77 Zde := by
 exact Zbr (Zam hcs (Zar _ _) Tryz.func77 (by kernel_rfl) (by kernel_rfl) (S := 0) (fun w _ => Zal _) (fun _ => rfl) (Zvv)) fun _ _ => Zsn _ _
theorem ZfA {w0:World}  : SA w0 77 Zde :=
 Zvw (Zai (ZgL) (Zai (Zbo) (Zai (ZlW) ZaL)))
abbrev ZnS : Ag (LI) := (.one (.ints .u64 5))
abbrev ZnT : Pt (LI) := (.ints .u64 5)
def Zdf : Ct := tct ZnS ZnT fun x => ZaN x
def Zmk : List (FuncId × Ct) := [(77, Zde)]
def Zud : List Gv := []
noncomputable def Zue : List (Nat × Lf) := []
theorem Zvx : RunIs Tryz.prog (Zmk) Zud 0 (Zue) Tryz.f81 ZnS ZnT (fun x => some (ZaN x)) := by
 intro x; kernel_rfl
theorem Zvy {w0:World}  (hcs:∀ x ∈ Zmk, SA w0 x.1 x.2) : SA w0 81 Zdf := by
 exact Zbr (Zam hcs (Zar _ _) Tryz.func81 (by kernel_rfl) (by kernel_rfl) (S := 0) (fun w _ => Zal _) (fun _ => rfl) (Zvx)) fun _ _ => rfl
theorem ZfB {w0:World}  : SA w0 81 Zdf :=
 Zvy (Zai (ZfA) ZaL)
abbrev Zvg : Ag ((Int × Int)) := (.cons (.int .u64) (.one (.int .u64)))
abbrev Zvh : Pt ((Int × Int)) := (.tup (.cons (.int .u64) (.one (.int .u64))))
def ZjW : Ct := tct Zvg Zvh fun x => ZfF x.1 x.2
def Zsx : List (FuncId × Ct) := []
def ZyK : List Gv := []
noncomputable def ZyL : List (Nat × Lf) := []
theorem Zz7 : RunIs Tryz.prog (Zsx) ZyK 0 (ZyL) Tryz.f71 Zvg Zvh (fun x => some (ZfF x.1 x.2)) := by
 intro x; kernel_rfl
theorem Zz8 {w0:World}  (hcs:∀ x ∈ Zsx, SA w0 x.1 x.2) : SA w0 71 ZjW := by
 exact Zbr (Zam hcs (Zar _ _) Tryz.func71 (by kernel_rfl) (by kernel_rfl) (S := 0) (fun w _ => Zal _) (fun _ => rfl) (Zz7)) fun _ _ => rfl
theorem Zvi {w0:World}  : SA w0 71 ZjW :=
 Zz8 ZaL
abbrev Zkh : Ag (((Int × Int) × Int × Int)) := (.cons (.agg (.cons (.int .u64) (.one (.int .u64)))) (.cons (.int .u64) (.one (.int .u64))))
abbrev Zki : Pt ((Int × Int)) := (.agg (.cons (.int .u64) (.one (.int .u64))))
def ZdE : Ct := fct Zkh Zki fun x => Zac x.1 x.2.1 x.2.2
def Zju : List (FuncId × Ct) := [(71, ZjW), (72, ZjV)]
def Zp7 : List Gv := []
noncomputable def Zp8 : List (Nat × Lf) := []
theorem Zrj : RunIs Tryz.prog (Zju) Zp7 0 (Zp8) Tryz.f42 Zkh Zki (fun x => Zac x.1 x.2.1 x.2.2) := by
 intro x; kernel_rfl
theorem Zrk {w0:World}  (hcs:∀ x ∈ Zju, SA w0 x.1 x.2) : SA w0 42 ZdE := by
 exact Zam hcs (Zar _ _) Tryz.func42 (by kernel_rfl) (by kernel_rfl) (S := 0) (fun w _ => Zal _) (fun _ => rfl) (Zrj)
theorem Zhk {w0:World}  : SA w0 42 ZdE :=
 Zrk (Zai (Zvi) (Zai (ZoW) ZaL))
abbrev Zkj : Ag ((Int × Int)) := (.one (.agg (.cons (.int .u64) (.one (.int .u64)))))
abbrev Zkk : Pt (Int) := (.int .u64)
def ZgS : Ct := tct Zkj Zkk fun x => ZbX x
def Zjv : List (FuncId × Ct) := []
def Zp9 : List Gv := []
noncomputable def Zqa : List (Nat × Lf) := []
theorem Zrl : RunIs Tryz.prog (Zjv) Zp9 0 (Zqa) Tryz.f73 Zkj Zkk (fun x => some (ZbX x)) := by
 intro x; kernel_rfl
theorem Zrm {w0:World}  (hcs:∀ x ∈ Zjv, SA w0 x.1 x.2) : SA w0 73 ZgS := by
 exact Zbr (Zam hcs (Zar _ _) Tryz.func73 (by kernel_rfl) (by kernel_rfl) (S := 0) (fun w _ => Zal _) (fun _ => rfl) (Zrl)) fun _ _ => rfl
theorem Zrn {w0:World}  : SA w0 73 ZgS :=
 Zrm ZaL
abbrev ZoY : Ag (((Int × Int) × (Int × Int) × (Int × Int) × (Int × Int) × (Int × Int))) := (.cons (.agg (.cons (.int .u64) (.one (.int .u64)))) (.cons (.agg (.cons (.int .u64) (.one (.int .u64)))) (.cons (.agg (.cons (.int .u64) (.one (.int .u64)))) (.cons (.agg (.cons (.int .u64) (.one (.int .u64)))) (.one (.agg (.cons (.int .u64) (.one (.int .u64)))))))))
abbrev ZoZ : Pt (LI) := (.ints .u64 5)
def Zhe : Ct := fct ZoY ZoZ fun x => ZcU x.1 x.2.1 x.2.2.1 x.2.2.2.1 x.2.2.2.2
def ZnU : List (FuncId × Ct) := [(42, ZdE), (73, ZgS), (74, Zf9)]
def Zvz : List Gv := []
noncomputable def ZvA : List (Nat × Lf) := []
theorem ZwI : RunIs Tryz.prog (ZnU) Zvz 0 (ZvA) Tryz.f43 ZoY ZoZ (fun x => ZcU x.1 x.2.1 x.2.2.1 x.2.2.2.1 x.2.2.2.2) := by
 intro x; kernel_rfl
theorem ZwJ {w0:World}  (hcs:∀ x ∈ ZnU, SA w0 x.1 x.2) : SA w0 43 Zhe := by
 exact Zam hcs (Zar _ _) Tryz.func43 (by kernel_rfl) (by kernel_rfl) (S := 0) (fun w _ => Zal _) (fun _ => rfl) (ZwI)
theorem Zo0 {w0:World}  : SA w0 43 Zhe :=
 ZwJ (Zai (Zhk) (Zai (Zrn) (Zai (ZlW) ZaL)))
abbrev ZnV : Ag ((LI × LI)) := (.cons (.ints .u64 5) (.one (.ints .u64 5)))
abbrev ZnW : Pt (LI) := (.ints .u64 5)
def Zbk : Ct := fct ZnV ZnW fun x => Zap x.1 x.2
def Zml : List (FuncId × Ct) := [(40, Zds), (41, ZaZ), (42, ZdE), (43, Zhe)]
def Zuf : List Gv := []
noncomputable def Zug : List (Nat × Lf) := []
theorem ZvB : RunIs Tryz.prog (Zml) Zuf 0 (Zug) Tryz.f21 ZnV ZnW (fun x => Zap x.1 x.2) := by
 intro x; kernel_rfl
theorem ZvC {w0:World}  (hcs:∀ x ∈ Zml, SA w0 x.1 x.2) : SA w0 21 Zbk := by
 exact Zam hcs (Zar _ _) Tryz.func21 (by kernel_rfl) (by kernel_rfl) (S := 0) (fun w _ => Zal _) (fun _ => rfl) (ZvB)
theorem ZbW {w0:World}  : SA w0 21 Zbk :=
 ZvC (Zai (ZgL) (Zai (Zbo) (Zai (Zhk) (Zai (Zo0) ZaL))))
abbrev Zkl : Ag (LI) := (.one (.ints .u64 5))
abbrev Zkm : Pt (LI) := (.ints .u64 5)
def Zb1 : Ct := fct Zkl Zkm fun x => ZaK x
def Zjw : List (FuncId × Ct) := [(40, Zds), (41, ZaZ), (42, ZdE), (43, Zhe)]
def Zqb : List Gv := []
noncomputable def Zqc : List (Nat × Lf) := []
theorem Zro : RunIs Tryz.prog (Zjw) Zqb 0 (Zqc) Tryz.f80 Zkl Zkm (fun x => ZaK x) := by
 intro x; kernel_rfl
theorem Zrp {w0:World}  (hcs:∀ x ∈ Zjw, SA w0 x.1 x.2) : SA w0 80 Zb1 := by
 exact Zam hcs (Zar _ _) Tryz.func80 (by kernel_rfl) (by kernel_rfl) (S := 0) (fun w _ => Zal _) (fun _ => rfl) (Zro)
theorem Zdg {w0:World}  : SA w0 80 Zb1 :=
 Zrp (Zai (ZgL) (Zai (Zbo) (Zai (Zhk) (Zai (Zo0) ZaL))))
abbrev Zvj : Ag (LI) := (.one (.ints .u8 32))
abbrev Zvk : Pt (LI) := (.ints .u64 5)
def Zno : Ct := tct Zvj Zvk fun x => Zdr x
def Zsy : List (FuncId × Ct) := []
def ZyM : List Gv := []
noncomputable def ZyN : List (Nat × Lf) := []
theorem Zz9 : RunIs Tryz.prog (Zsy) ZyM 0 (ZyN) Tryz.f96 Zvj Zvk (fun x => some (Zdr x)) := by
 intro x; kernel_rfl
theorem ZAa {w0:World}  (hcs:∀ x ∈ Zsy, SA w0 x.1 x.2) : SA w0 96 Zno := by
 exact Zbr (Zam hcs (Zar _ _) Tryz.func96 (by kernel_rfl) (by kernel_rfl) (S := 0) (fun w _ => Zal _) (fun _ => rfl) (Zz9)) fun _ _ => rfl
theorem ZAb {w0:World}  : SA w0 96 Zno :=
 ZAa ZaL
abbrev ZqI : Ag (LI) := (.one (.ints .u8 32))
abbrev ZqJ : Pt ((LI × Int)) := (.tup (.cons (.ints .u64 5) (.one (.int .i64))))
def Zkn : Ct := tct ZqI ZqJ fun x => ZaQ x
def Zo1 : List (FuncId × Ct) := [(41, ZaZ), (96, Zno)]
def ZwK : List Gv := []
noncomputable def ZwL : List (Nat × Lf) := []
theorem Zxd : RunIs Tryz.prog (Zo1) ZwK 0 (ZwL) Tryz.f89 ZqI ZqJ (fun x => ZlV x) := by
 intro x; kernel_rfl
theorem Zxe {w0:World}  (hcs:∀ x ∈ Zo1, SA w0 x.1 x.2) : SA w0 89 Zkn := by
 exact Zbr (Zam hcs (Zar _ _) Tryz.func89 (by kernel_rfl) (by kernel_rfl) (S := 0) (fun w _ => Zal _) (fun _ => rfl) (Zxd)) fun _ _ => Zvs _
theorem Zxf {w0:World}  : SA w0 89 Zkn :=
 Zxe (Zai (Zbo) (Zai (ZAb) ZaL))
abbrev Zko : Ag (LI) := (.one (.ints .u64 5))
abbrev Zkp : Pt (LI) := (.ints .u8 32)
def ZgT : Ct := tct Zko Zkp fun x => Zau x
def Zjx : List (FuncId × Ct) := [(41, ZaZ)]
def Zqd : List Gv := []
noncomputable def Zqe : List (Nat × Lf) := []
theorem Zrq : RunIs Tryz.prog (Zjx) Zqd 0 (Zqe) Tryz.f23 Zko Zkp (fun x => some (Zau x)) := by
 intro x; kernel_rfl
theorem Zrr {w0:World}  (hcs:∀ x ∈ Zjx, SA w0 x.1 x.2) : SA w0 23 ZgT := by
 exact Zbr (Zam hcs (Zar _ _) Tryz.func23 (by kernel_rfl) (by kernel_rfl) (S := 0) (fun w _ => Zal _) (fun _ => rfl) (Zrq)) fun _ _ => rfl
theorem Zrs {w0:World}  : SA w0 23 ZgT :=
 Zrr (Zai (Zbo) ZaL)
abbrev Zjy : Ag ((LI × Int)) := (.cons (.ints .u64 5) (.one (.int .i64)))
abbrev Zjz : Pt (LI) := (.ints .u64 5)
def Zdo (N:Nat) : Ct := fct Zjy Zjz fun x => ZaC N x.1 x.2
def Zej (N:Nat) : List (FuncId × Ct) := [(80, Zb1)]
def Zga : List Gv := []
def Ze7 : Fm ((Unit × Unit × Int × Int)) ((LI × Unit)) := ⟨(.cons 2 (.lit (.ptr 0 [] 32)) (.cons 4 (.lit (.ptr 1 [] 32)) (.cons 5 (.int .i64) (.one 6 (.int .i64))))), (.cons 0 (.ints .u64 5) (.one 1 (.lit (.ints .u64 5 [0, 0, 0, 0, 0]))))⟩
def Ze8 : Fm ((Unit × Unit)) ((LI × Unit)) := ⟨(.cons 2 (.lit (.ptr 0 [] 32)) (.one 4 (.lit (.ptr 1 [] 32)))), (.cons 0 (.ints .u64 5) (.one 1 (.lit (.ints .u64 5 [0, 0, 0, 0, 0]))))⟩
def Ze9 : Fm (Unit) (Unit) := ⟨.nil, .nil⟩
noncomputable def Zgb (N:Nat) : List (Nat × Lf) := [(0, loopCt Ze7 Ze8 Ze9 4 (Zcc N) N)]
theorem ZkU (N:Nat) : StepIs Tryz.prog (cxOf Tryz.f76 (Zej N) Zga 0) (Zgb N) Tryz.f76 0 4 Ze7 Ze8 Ze9 (Zcc N) := by
 intro v; kernel_rfl
theorem Zqf (N:Nat) : RunIs Tryz.prog (Zej N) Zga 0 (Zgb N) Tryz.f76 Zjy Zjz (fun x => ZaC N x.1 x.2) := by
 intro x; kernel_rfl
theorem Zqg {w0:World} (N:Nat)  (hcs:∀ x ∈ Zej N, SA w0 x.1 x.2) : SA w0 76 (Zdo N) := by
 have L0 : ∀ w : Base, w.g = w0 → LoopOK Tryz.prog (cxOf Tryz.f76 (Zej N) Zga 0) w 0 (.loop (loopBody Tryz.f76 0)) (loopCt Ze7 Ze8 Ze9 4 (Zcc N) N) :=
  ZbH hcs (ls := Zgb N) (n := 100) (by kernel_rfl) (ZkU N) N fun w hw => ZaB (lp_no (by kernel_rfl) ZcF)
 exact Zam hcs (Zar _ _) Tryz.func76 (by kernel_rfl) (by kernel_rfl) (S := 0) (fun w hw => ZaB (Ze2 (L0 w hw) (by kernel_rfl) ZcF)) (fun _ => rfl) (Zqf N)
theorem ZgU {w0:World} (N:Nat)  : SA w0 76 (Zdo N) :=
 Zqg N (Zai (Zdg) ZaL)
abbrev Zmm : Ag (LI) := (.one (.ints .u64 5))
abbrev Zmn : Pt ((LI × LI)) := (.tup (.cons (.ints .u64 5) (.one (.ints .u64 5))))
def ZfT (N:Nat) : Ct := fct Zmm Zmn fun x => Zez N x
def Zlh (N:Nat) : List (FuncId × Ct) := [(21, Zbk), (76, (Zdo N)), (80, Zb1)]
def Zsz : List Gv := []
noncomputable def ZsA (N:Nat) : List (Nat × Lf) := []
theorem Zuh (N:Nat) : RunIs Tryz.prog (Zlh N) Zsz 0 (ZsA N) Tryz.f75 Zmm Zmn (fun x => Zez N x) := by
 intro x; kernel_rfl
theorem Zui {w0:World} (N:Nat)  (hcs:∀ x ∈ Zlh N, SA w0 x.1 x.2) : SA w0 75 (ZfT N) := by
 exact Zam hcs (Zar _ _) Tryz.func75 (by kernel_rfl) (by kernel_rfl) (S := 0) (fun w _ => Zal _) (fun _ => rfl) (Zuh N)
theorem Zmo {w0:World} (N:Nat)  : SA w0 75 (ZfT N) :=
 Zui N (Zai (ZbW) (Zai (ZgU N) (Zai (Zdg) ZaL)))
abbrev Zkq : Ag (LI) := (.one (.ints .u64 5))
abbrev Zkr : Pt (LI) := (.ints .u64 5)
def ZgV (N:Nat) : Ct := fct Zkq Zkr fun x => ZdK N x
def ZjA (N:Nat) : List (FuncId × Ct) := [(21, Zbk), (75, (ZfT N)), (76, (Zdo N))]
def Zqh : List Gv := []
noncomputable def Zqi (N:Nat) : List (Nat × Lf) := []
theorem Zrt (N:Nat) : RunIs Tryz.prog (ZjA N) Zqh 0 (Zqi N) Tryz.f44 Zkq Zkr (fun x => ZdK N x) := by
 intro x; kernel_rfl
theorem Zru {w0:World} (N:Nat)  (hcs:∀ x ∈ ZjA N, SA w0 x.1 x.2) : SA w0 44 (ZgV N) := by
 exact Zam hcs (Zar _ _) Tryz.func44 (by kernel_rfl) (by kernel_rfl) (S := 0) (fun w _ => Zal _) (fun _ => rfl) (Zrt N)
theorem Zrv {w0:World} (N:Nat)  : SA w0 44 (ZgV N) :=
 Zru N (Zai (ZbW) (Zai (Zmo N) (Zai (ZgU N) ZaL)))
abbrev Zmp : Ag (LI) := (.one (.ints .u64 5))
abbrev Zmq : Pt (LI) := (.ints .u64 5)
def ZhN (N:Nat) : Ct := fct Zmp Zmq fun x => Zf8 N x
def Zli (N:Nat) : List (FuncId × Ct) := [(21, Zbk), (75, (ZfT N)), (76, (Zdo N))]
def ZsB : List Gv := []
noncomputable def ZsC (N:Nat) : List (Nat × Lf) := []
theorem Zuj (N:Nat) : RunIs Tryz.prog (Zli N) ZsB 0 (ZsC N) Tryz.f103 Zmp Zmq (fun x => Zf8 N x) := by
 intro x; kernel_rfl
theorem Zuk {w0:World} (N:Nat)  (hcs:∀ x ∈ Zli N, SA w0 x.1 x.2) : SA w0 103 (ZhN N) := by
 exact Zam hcs (Zar _ _) Tryz.func103 (by kernel_rfl) (by kernel_rfl) (S := 0) (fun w _ => Zal _) (fun _ => rfl) (Zuj N)
theorem Zul {w0:World} (N:Nat)  : SA w0 103 (ZhN N) :=
 Zuk N (Zai (ZbW) (Zai (Zmo N) (Zai (ZgU N) ZaL)))
abbrev Zks : Ag (LI) := (.one (.ints .u64 5))
abbrev Zkt : Pt (Bool) := .bool
def ZgW : Ct := tct Zks Zkt fun x => ZcH x
def ZjB : List (FuncId × Ct) := [(41, ZaZ)]
def Zqj : List Gv := []
noncomputable def Zqk : List (Nat × Lf) := []
theorem Zrw : RunIs Tryz.prog (ZjB) Zqj 0 (Zqk) Tryz.f91 Zks Zkt (fun x => some (ZcH x)) := by
 intro x; kernel_rfl
theorem Zrx {w0:World}  (hcs:∀ x ∈ ZjB, SA w0 x.1 x.2) : SA w0 91 ZgW := by
 exact Zbr (Zam hcs (Zar _ _) Tryz.func91 (by kernel_rfl) (by kernel_rfl) (S := 0) (fun w _ => Zal _) (fun _ => rfl) (Zrw)) fun _ _ => rfl
theorem Zry {w0:World}  : SA w0 91 ZgW :=
 Zrx (Zai (Zbo) ZaL)
abbrev ZiX : Ag (LI) := (.one (.ints .u64 5))
abbrev ZiY : Pt (Bool) := .bool
def ZfI : Ct := tct ZiX ZiY fun x => Zb9 x
def Zic : List (FuncId × Ct) := [(41, ZaZ)]
def Zn9 : List Gv := []
noncomputable def Zoa : List (Nat × Lf) := []
theorem Zo2 : RunIs Tryz.prog (Zic) Zn9 0 (Zoa) Tryz.f25 ZiX ZiY (fun x => some (Zb9 x)) := by
 intro x; kernel_rfl
theorem Zo3 {w0:World}  (hcs:∀ x ∈ Zic, SA w0 x.1 x.2) : SA w0 25 ZfI := by
 exact Zbr (Zam hcs (Zar _ _) Tryz.func25 (by kernel_rfl) (by kernel_rfl) (S := 0) (fun w _ => Zal _) (fun _ => rfl) (Zo2)) fun _ _ => rfl
theorem Zo4 {w0:World}  : SA w0 25 ZfI :=
 Zo3 (Zai (Zbo) ZaL)
abbrev ZqK : Ag ((Int × LI × LI)) := (.cons (.int .i64) (.cons (.ints .u64 5) (.one (.ints .u64 5))))
abbrev ZqL : Pt (LI) := (.ints .u64 5)
def Zku : Ct := tct ZqK ZqL fun x => ZiW x.1 x.2.1 x.2.2
def Zo5 : List (FuncId × Ct) := [(41, ZaZ)]
def ZwM : List Gv := []
noncomputable def ZwN : List (Nat × Lf) := []
theorem Zxg : RunIs Tryz.prog (Zo5) ZwM 0 (ZwN) Tryz.f106 ZqK ZqL (fun x => some (ZiW x.1 x.2.1 x.2.2)) := by
 intro x; kernel_rfl
theorem Zxh {w0:World}  (hcs:∀ x ∈ Zo5, SA w0 x.1 x.2) : SA w0 106 Zku := by
 exact Zbr (Zam hcs (Zar _ _) Tryz.func106 (by kernel_rfl) (by kernel_rfl) (S := 0) (fun w _ => Zal _) (fun _ => rfl) (Zxg)) fun _ _ => rfl
theorem Zxi {w0:World}  : SA w0 106 Zku :=
 Zxh (Zai (Zbo) ZaL)
abbrev ZnX : Ag (LI) := (.one (.ints .u64 5))
abbrev ZnY : Pt (LI) := (.ints .u64 5)
def ZiB : Ct := tct ZnX ZnY fun x => ZaV x
def Zmr : List (FuncId × Ct) := [(41, ZaZ), (81, Zdf), (106, Zku)]
def Zum : List Gv := []
noncomputable def Zun : List (Nat × Lf) := []
theorem ZvD : RunIs Tryz.prog (Zmr) Zum 0 (Zun) Tryz.f104 ZnX ZnY (fun x => some (ZaV x)) := by
 intro x; kernel_rfl
theorem ZvE {w0:World}  (hcs:∀ x ∈ Zmr, SA w0 x.1 x.2) : SA w0 104 ZiB := by
 exact Zbr (Zam hcs (Zar _ _) Tryz.func104 (by kernel_rfl) (by kernel_rfl) (S := 0) (fun w _ => Zal _) (fun _ => rfl) (ZvD)) fun _ _ => rfl
theorem ZvF {w0:World}  : SA w0 104 ZiB :=
 ZvE (Zai (Zbo) (Zai (ZfB) (Zai (Zxi) ZaL)))
abbrev ZsD : Ag (Int) := (.one (.int .i64))
abbrev ZsE : Pt (LI) := (.ints .u64 5)
def ZiM : Ct := fct ZsD ZsE fun x => Zj4 x
def ZqM : List (FuncId × Ct) := []
def ZcN : List Gv := [⟨9, 127, (.rows 7 fun i => .ints .u64 5 (Zc7 i))⟩]
noncomputable def Zxj : List (Nat × Lf) := []
theorem ZyO : RunIs Tryz.prog (ZqM) ZcN 0 (Zxj) Tryz.f85 ZsD ZsE (fun x => Zj4 x) := by
 intro x; kernel_rfl
theorem ZyP {w0:World}  (hcs:∀ x ∈ ZqM, SA w0 x.1 x.2) (hg:GO w0 ZcN) : SA w0 85 ZiM := by
 exact Zam hcs hg Tryz.func85 (by kernel_rfl) (by kernel_rfl) (S := 0) (fun w _ => Zal _) (fun _ => rfl) (ZyO)
theorem ZsF {w0:World}  (Zbx:GO w0 ZcN) : SA w0 85 ZiM :=
 ZyP ZaL Zbx
abbrev Zms : Ag ((LI × LI)) := (.cons (.ints .u64 5) (.one (.ints .u64 5)))
abbrev Zmt : Pt ((LI × Bool)) := (.tup (.cons (.ints .u64 5) (.one .bool)))
def ZhO (N:Nat) : Ct := fct Zms Zmt fun x => Zdl N x.1 x.2
def Zlj (N:Nat) : List (FuncId × Ct) := [(21, Zbk), (41, ZaZ), (80, Zb1), (81, Zdf), (103, (ZhN N)), (104, ZiB)]
def Zb4 : List Gv := [⟨9, 127, (.rows 7 fun i => .ints .u64 5 (Zc7 i))⟩]
noncomputable def ZsG (N:Nat) : List (Nat × Lf) := []
theorem Zuo (N:Nat) : RunIs Tryz.prog (Zlj N) Zb4 0 (ZsG N) Tryz.f97 Zms Zmt (fun x => Zdl N x.1 x.2) := by
 intro x; kernel_rfl
theorem Zup {w0:World} (N:Nat)  (hcs:∀ x ∈ Zlj N, SA w0 x.1 x.2) (hg:GO w0 Zb4) : SA w0 97 (ZhO N) := by
 exact Zam hcs hg Tryz.func97 (by kernel_rfl) (by kernel_rfl) (S := 0) (fun w _ => Zal _) (fun _ => rfl) (Zuo N)
theorem Zuq {w0:World} (N:Nat)  (Za8:GO w0 Zb4) : SA w0 97 (ZhO N) :=
 Zup N (Zai (ZbW) (Zai (Zbo) (Zai (Zdg) (Zai (ZfB) (Zai (Zul N) (Zai (ZvF) ZaL)))))) Za8
abbrev Zkv : Ag ((LI × LI × LI × LI)) := (.one (.agg (.cons (.ints .u64 5) (.cons (.ints .u64 5) (.cons (.ints .u64 5) (.one (.ints .u64 5)))))))
abbrev Zkw : Pt ((LI × LI × LI × LI)) := (.agg (.cons (.ints .u64 5) (.cons (.ints .u64 5) (.cons (.ints .u64 5) (.one (.ints .u64 5))))))
def Zcn : Ct := tct Zkv Zkw fun x => Zan x
def ZjC : List (FuncId × Ct) := []
def ZaE : List Gv := [⟨3, 32, (.ints .u64 5 [1, 0, 0, 0, 0])⟩]
noncomputable def Zql : List (Nat × Lf) := []
theorem Zrz : RunIs Tryz.prog (ZjC) ZaE 0 (Zql) Tryz.f20 Zkv Zkw (fun x => Zhi x) := by
 intro x; kernel_rfl
theorem ZrA {w0:World}  (hcs:∀ x ∈ ZjC, SA w0 x.1 x.2) (hg:GO w0 ZaE) : SA w0 20 Zcn := by
 exact Zbr (Zam hcs hg Tryz.func20 (by kernel_rfl) (by kernel_rfl) (S := 0) (fun w _ => Zal _) (fun _ => rfl) (Zrz)) fun _ _ => ZoS _
theorem ZdU {w0:World}  (Zah:GO w0 ZaE) : SA w0 20 Zcn :=
 ZrA ZaL Zah
abbrev Zx0 : Ag ((LI × LI)) := (.cons (.ints .u64 5) (.one (.ints .u64 5)))
abbrev Zx1 : Pt ((LI × LI × LI × LI)) := (.agg (.one (.agg (.cons (.ints .u64 5) (.cons (.ints .u64 5) (.cons (.ints .u64 5) (.one (.ints .u64 5))))))))
def Znp : Ct := fct Zx0 Zx1 fun x => ZiK x.1 x.2
def ZwO : List (FuncId × Ct) := [(21, Zbk)]
def Zfa : List Gv := [⟨3, 32, (.ints .u64 5 [1, 0, 0, 0, 0])⟩]
noncomputable def ZAY : List (Nat × Lf) := []
theorem ZCC : RunIs Tryz.prog (ZwO) Zfa 0 (ZAY) Tryz.f86 Zx0 Zx1 (fun x => ZiK x.1 x.2) := by
 intro x; kernel_rfl
theorem ZCD {w0:World}  (hcs:∀ x ∈ ZwO, SA w0 x.1 x.2) (hg:GO w0 Zfa) : SA w0 86 Znp := by
 exact Zam hcs hg Tryz.func86 (by kernel_rfl) (by kernel_rfl) (S := 0) (fun w _ => Zal _) (fun _ => rfl) (ZCC)
theorem Zx2 {w0:World}  (ZcV:GO w0 Zfa) : SA w0 86 Znp :=
 ZCD (Zai (ZbW) ZaL) ZcV
abbrev Zvl : Ag ((LI × LI × LI × LI)) := (.cons (.ints .u64 5) (.cons (.ints .u64 5) (.cons (.ints .u64 5) (.one (.ints .u64 5)))))
abbrev Zvm : Pt ((LI × LI × LI × LI)) := (.agg (.one (.agg (.cons (.ints .u64 5) (.cons (.ints .u64 5) (.cons (.ints .u64 5) (.one (.ints .u64 5))))))))
def ZjX : Ct := fct Zvl Zvm fun x => Zj0 x.1 x.2.1 x.2.2.1 x.2.2.2
def ZsH : List (FuncId × Ct) := [(21, Zbk)]
def ZyQ : List Gv := []
noncomputable def ZyR : List (Nat × Lf) := []
theorem ZAc : RunIs Tryz.prog (ZsH) ZyQ 0 (ZyR) Tryz.f79 Zvl Zvm (fun x => Zj0 x.1 x.2.1 x.2.2.1 x.2.2.2) := by
 intro x; kernel_rfl
theorem ZAd {w0:World}  (hcs:∀ x ∈ ZsH, SA w0 x.1 x.2) : SA w0 79 ZjX := by
 exact Zam hcs (Zar _ _) Tryz.func79 (by kernel_rfl) (by kernel_rfl) (S := 0) (fun w _ => Zal _) (fun _ => rfl) (ZAc)
theorem Zvn {w0:World}  : SA w0 79 ZjX :=
 ZAd (Zai (ZbW) ZaL)
abbrev Zmu : Ag (((LI × LI × LI × LI) × (LI × LI × LI × LI))) := (.cons (.agg (.one (.agg (.cons (.ints .u64 5) (.cons (.ints .u64 5) (.cons (.ints .u64 5) (.one (.ints .u64 5)))))))) (.one (.agg (.one (.agg (.cons (.ints .u64 5) (.cons (.ints .u64 5) (.cons (.ints .u64 5) (.one (.ints .u64 5))))))))))
abbrev Zmv : Pt ((LI × LI × LI × LI)) := (.agg (.one (.agg (.cons (.ints .u64 5) (.cons (.ints .u64 5) (.cons (.ints .u64 5) (.one (.ints .u64 5))))))))
def Zdt : Ct := fct Zmu Zmv fun x => ZaA x.1 x.2
def Zlk : List (FuncId × Ct) := [(20, Zcn), (21, Zbk), (77, Zde), (78, ZdN), (79, ZjX)]
def Zbp : List Gv := [⟨6, 32, (.ints .u64 5 [1859910466990425, 932731440258426, 1072319116312658, 1815898335770999, 633789495995903])⟩]
noncomputable def ZsI : List (Nat × Lf) := []
theorem Zur : RunIs Tryz.prog (Zlk) Zbp 0 (ZsI) Tryz.f45 Zmu Zmv (fun x => ZaA x.1 x.2) := by
 intro x; kernel_rfl
theorem Zus {w0:World}  (hcs:∀ x ∈ Zlk, SA w0 x.1 x.2) (hg:GO w0 Zbp) : SA w0 45 Zdt := by
 exact Zam hcs hg Tryz.func45 (by kernel_rfl) (by kernel_rfl) (S := 0) (fun w _ => Zal _) (fun _ => rfl) (Zur)
theorem ZgM {w0:World}  (Zah:GO w0 ZaE) (ZaD:GO w0 Zbp) : SA w0 45 Zdt :=
 Zus (Zai (ZdU Zah) (Zai (ZbW) (Zai (ZfA) (Zai (Zhd) (Zai (Zvn) ZaL))))) ZaD
abbrev Zmw : Ag ((LI × LI × LI × LI)) := (.one (.agg (.one (.agg (.cons (.ints .u64 5) (.cons (.ints .u64 5) (.cons (.ints .u64 5) (.one (.ints .u64 5)))))))))
abbrev Zmx : Pt ((LI × LI × LI × LI)) := (.agg (.one (.agg (.cons (.ints .u64 5) (.cons (.ints .u64 5) (.cons (.ints .u64 5) (.one (.ints .u64 5))))))))
def ZfU : Ct := tct Zmw Zmx fun x => ZaU x
def Zll : List (FuncId × Ct) := [(20, Zcn), (81, Zdf)]
def ZsJ : List Gv := []
noncomputable def ZsK : List (Nat × Lf) := []
theorem Zut : RunIs Tryz.prog (Zll) ZsJ 0 (ZsK) Tryz.f52 Zmw Zmx (fun x => some (ZaU x)) := by
 intro x; kernel_rfl
theorem Zuu {w0:World}  (hcs:∀ x ∈ Zll, SA w0 x.1 x.2) : SA w0 52 ZfU := by
 exact Zbr (Zam hcs (Zar _ _) Tryz.func52 (by kernel_rfl) (by kernel_rfl) (S := 0) (fun w _ => Zal _) (fun _ => rfl) (Zut)) fun _ _ => rfl
theorem Zmy {w0:World}  (Zah:GO w0 ZaE) : SA w0 52 ZfU :=
 Zuu (Zai (ZdU Zah) (Zai (ZfB) ZaL))
abbrev Zmz : Ag (((LI × LI × LI × LI) × (LI × LI × LI × LI))) := (.cons (.agg (.one (.agg (.cons (.ints .u64 5) (.cons (.ints .u64 5) (.cons (.ints .u64 5) (.one (.ints .u64 5)))))))) (.one (.agg (.one (.agg (.cons (.ints .u64 5) (.cons (.ints .u64 5) (.cons (.ints .u64 5) (.one (.ints .u64 5))))))))))
abbrev ZmA : Pt ((LI × LI × LI × LI)) := (.agg (.one (.agg (.cons (.ints .u64 5) (.cons (.ints .u64 5) (.cons (.ints .u64 5) (.one (.ints .u64 5))))))))
def ZhP : Ct := fct Zmz ZmA fun x => Zex x.1 x.2
def Zlm : List (FuncId × Ct) := [(45, Zdt), (52, ZfU)]
def ZsL : List Gv := []
noncomputable def ZsM : List (Nat × Lf) := []
theorem Zuv : RunIs Tryz.prog (Zlm) ZsL 0 (ZsM) Tryz.f50 Zmz ZmA (fun x => Zex x.1 x.2) := by
 intro x; kernel_rfl
theorem Zuw {w0:World}  (hcs:∀ x ∈ Zlm, SA w0 x.1 x.2) : SA w0 50 ZhP := by
 exact Zam hcs (Zar _ _) Tryz.func50 (by kernel_rfl) (by kernel_rfl) (S := 0) (fun w _ => Zal _) (fun _ => rfl) (Zuv)
theorem Zux {w0:World}  (Zah:GO w0 ZaE) (ZaD:GO w0 Zbp) : SA w0 50 ZhP :=
 Zuw (Zai (ZgM Zah ZaD) (Zai (Zmy Zah) ZaL))
abbrev ZjD : Ag ((LI × LI × LI × LI)) := (.one (.agg (.one (.agg (.cons (.ints .u64 5) (.cons (.ints .u64 5) (.cons (.ints .u64 5) (.one (.ints .u64 5)))))))))
abbrev ZjE : Pt ((LI × LI × LI × LI)) := (.agg (.one (.agg (.cons (.ints .u64 5) (.cons (.ints .u64 5) (.cons (.ints .u64 5) (.one (.ints .u64 5))))))))
def Zek : Ct := fct ZjD ZjE fun x => ZbL x
def ZiZ : List (FuncId × Ct) := [(20, Zcn), (77, Zde), (78, ZdN), (79, ZjX), (80, Zb1), (81, Zdf)]
def Zo6 : List Gv := []
noncomputable def Zo7 : List (Nat × Lf) := []
theorem Zqm : RunIs Tryz.prog (ZiZ) Zo6 0 (Zo7) Tryz.f46 ZjD ZjE (fun x => ZbL x) := by
 intro x; kernel_rfl
theorem Zqn {w0:World}  (hcs:∀ x ∈ ZiZ, SA w0 x.1 x.2) : SA w0 46 Zek := by
 exact Zam hcs (Zar _ _) Tryz.func46 (by kernel_rfl) (by kernel_rfl) (S := 0) (fun w _ => Zal _) (fun _ => rfl) (Zqm)
theorem ZjF {w0:World}  (Zah:GO w0 ZaE) : SA w0 46 Zek :=
 Zqn (Zai (ZdU Zah) (Zai (ZfA) (Zai (Zhd) (Zai (Zvn) (Zai (Zdg) (Zai (ZfB) ZaL))))))
abbrev ZjG : Ag ((LI × LI × LI × LI)) := (.one (.agg (.one (.agg (.cons (.ints .u64 5) (.cons (.ints .u64 5) (.cons (.ints .u64 5) (.one (.ints .u64 5)))))))))
abbrev ZjH : Pt ((LI × LI)) := (.tup (.cons (.ints .u64 5) (.one (.ints .u64 5))))
def Zel (N:Nat) : Ct := fct ZjG ZjH fun x => ZcO N x
def Zi0 (N:Nat) : List (FuncId × Ct) := [(20, Zcn), (21, Zbk), (44, (ZgV N))]
def Zo8 : List Gv := []
noncomputable def Zo9 (N:Nat) : List (Nat × Lf) := []
theorem Zqo (N:Nat) : RunIs Tryz.prog (Zi0 N) Zo8 0 (Zo9 N) Tryz.f22 ZjG ZjH (fun x => ZcO N x) := by
 intro x; kernel_rfl
theorem Zqp {w0:World} (N:Nat)  (hcs:∀ x ∈ Zi0 N, SA w0 x.1 x.2) : SA w0 22 (Zel N) := by
 exact Zam hcs (Zar _ _) Tryz.func22 (by kernel_rfl) (by kernel_rfl) (S := 0) (fun w _ => Zal _) (fun _ => rfl) (Zqo N)
theorem ZjI {w0:World} (N:Nat)  (Zah:GO w0 ZaE) : SA w0 22 (Zel N) :=
 Zqp N (Zai (ZdU Zah) (Zai (ZbW) (Zai (Zrv N) ZaL)))
abbrev Zln : Ag ((LI × LI)) := (.cons (.ints .u64 5) (.one (.ints .u64 5)))
abbrev Zlo : Pt (((LI × LI × LI × LI) × Int)) := (.tup (.cons (.agg (.one (.agg (.cons (.ints .u64 5) (.cons (.ints .u64 5) (.cons (.ints .u64 5) (.one (.ints .u64 5)))))))) (.one (.int .i64))))
def Zhl : Ct := fct Zln Zlo fun x => Zc2 x.1 x.2
def Zkx : List (FuncId × Ct) := [(21, Zbk), (41, ZaZ), (77, Zde), (78, ZdN), (80, Zb1), (85, ZiM), (86, Znp)]
def ZcB : List Gv := [⟨3, 32, (.ints .u64 5 [1, 0, 0, 0, 0])⟩]
noncomputable def ZrB : List (Nat × Lf) := []
theorem ZsN : RunIs Tryz.prog (Zkx) ZcB 0 (ZrB) Tryz.f60 Zln Zlo (fun x => Zc2 x.1 x.2) := by
 intro x; kernel_rfl
theorem ZsO {w0:World}  (hcs:∀ x ∈ Zkx, SA w0 x.1 x.2) (hg:GO w0 ZcB) : SA w0 60 Zhl := by
 exact Zam hcs hg Tryz.func60 (by kernel_rfl) (by kernel_rfl) (S := 0) (fun w _ => Zal _) (fun _ => rfl) (ZsN)
theorem ZsP {w0:World}  (Zbx:GO w0 ZcN) (ZcV:GO w0 Zfa) (ZbQ:GO w0 ZcB) : SA w0 60 Zhl :=
 ZsO (Zai (ZbW) (Zai (Zbo) (Zai (ZfA) (Zai (Zhd) (Zai (Zdg) (Zai (ZsF Zbx) (Zai (Zx2 ZcV) ZaL))))))) ZbQ
abbrev Zvo : Ag (Unit) := .nil
abbrev Zvp : Pt ((LI × LI × LI × LI)) := (.agg (.one (.agg (.cons (.ints .u64 5) (.cons (.ints .u64 5) (.cons (.ints .u64 5) (.one (.ints .u64 5))))))))
def ZhQ : Ct := tct Zvo Zvp fun x => Zay
def ZsQ : List (FuncId × Ct) := []
def Zem : List Gv := [⟨0, 36, (.agg [(.agg [(.ints .u64 5 [1738742601995546, 1146398526822698, 2070867633025821, 562264141797630, 587772402128613]), (.ints .u64 5 [1801439850948184, 1351079888211148, 450359962737049, 900719925474099, 1801439850948198]), (.ints .u64 5 [1, 0, 0, 0, 0]), (.ints .u64 5 [1841354044333475, 16398895984059, 755974180946558, 900171276175154, 1821297809914039])])])⟩]
noncomputable def ZyS : List (Nat × Lf) := []
theorem ZAe : RunIs Tryz.prog (ZsQ) Zem 0 (ZyS) Tryz.f6 Zvo Zvp (fun x => some (Zay)) := by
 intro x; kernel_rfl
theorem ZAf {w0:World}  (hcs:∀ x ∈ ZsQ, SA w0 x.1 x.2) (hg:GO w0 Zem) : SA w0 6 ZhQ := by
 exact Zbr (Zam hcs hg Tryz.func6 (by kernel_rfl) (by kernel_rfl) (S := 0) (fun w _ => Zal _) (fun _ => rfl) (ZAe)) fun _ _ => rfl
theorem Zpa {w0:World}  (Zci:GO w0 Zem) : SA w0 6 ZhQ :=
 ZAf ZaL Zci
abbrev Zpb : Ag (Int) := (.one (.int .i64))
abbrev Zpc : Pt ((LI × LI × LI × LI)) := (.agg (.one (.agg (.cons (.ints .u64 5) (.cons (.ints .u64 5) (.cons (.ints .u64 5) (.one (.ints .u64 5))))))))
def Zjn : Ct := fct Zpb Zpc fun x => ZgG x
def ZnZ : List (FuncId × Ct) := []
def ZdB : List Gv := [⟨8, 117, (.agg [(.agg [(.agg [(.ints .u64 5 [0, 0, 0, 0, 0]), (.ints .u64 5 [0, 0, 0, 0, 0]), (.ints .u64 5 [0, 0, 0, 0, 0]), (.ints .u64 5 [0, 0, 0, 0, 0])])]), (.agg [(.agg [(.ints .u64 5 [358744748052810, 1691584618240980, 977650209285361, 1429865912637724, 560044844278676]), (.ints .u64 5 [2166873539340326, 1778179147085316, 1886209374839743, 1223329526802818, 105300633354275]), (.ints .u64 5 [1, 0, 0, 0, 0]), (.ints .u64 5 [803472979097708, 393902981724766, 1158077081819914, 574391322974006, 336294660666841])])]), (.agg [(.agg [(.ints .u64 5 [1718705420411056, 234908883556509, 2233514472574048, 2117202627021982, 765476049583133]), (.ints .u64 5 [0, 0, 0, 0, 0]), (.ints .u64 5 [1, 0, 0, 0, 0]), (.ints .u64 5 [0, 0, 0, 0, 0])])]), (.agg [(.agg [(.ints .u64 5 [358744748052810, 1691584618240980, 977650209285361, 1429865912637724, 560044844278676]), (.ints .u64 5 [84926274344903, 473620666599931, 365590438845504, 1028470286882429, 2146499180330972]), (.ints .u64 5 [1, 0, 0, 0, 0]), (.ints .u64 5 [1448326834587521, 1857896831960481, 1093722731865333, 1677408490711241, 1915505153018406])])]), (.agg [(.agg [(.ints .u64 5 [0, 0, 0, 0, 0]), (.ints .u64 5 [2251799813685228, 2251799813685247, 2251799813685247, 2251799813685247, 2251799813685247]), (.ints .u64 5 [1, 0, 0, 0, 0]), (.ints .u64 5 [0, 0, 0, 0, 0])])]), (.agg [(.agg [(.ints .u64 5 [1893055065632419, 560215195444267, 1274149604399886, 821933901047523, 1691754969406571]), (.ints .u64 5 [84926274344903, 473620666599931, 365590438845504, 1028470286882429, 2146499180330972]), (.ints .u64 5 [1, 0, 0, 0, 0]), (.ints .u64 5 [803472979097708, 393902981724766, 1158077081819914, 574391322974006, 336294660666841])])]), (.agg [(.agg [(.ints .u64 5 [533094393274173, 2016890930128738, 18285341111199, 134597186663265, 1486323764102114]), (.ints .u64 5 [0, 0, 0, 0, 0]), (.ints .u64 5 [1, 0, 0, 0, 0]), (.ints .u64 5 [0, 0, 0, 0, 0])])]), (.agg [(.agg [(.ints .u64 5 [1893055065632419, 560215195444267, 1274149604399886, 821933901047523, 1691754969406571]), (.ints .u64 5 [2166873539340326, 1778179147085316, 1886209374839743, 1223329526802818, 105300633354275]), (.ints .u64 5 [1, 0, 0, 0, 0]), (.ints .u64 5 [1448326834587521, 1857896831960481, 1093722731865333, 1677408490711241, 1915505153018406])])])])⟩]
noncomputable def ZvG : List (Nat × Lf) := []
theorem ZwP : RunIs Tryz.prog (ZnZ) ZdB 0 (ZvG) Tryz.f58 Zpb Zpc (fun x => ZgG x) := by
 intro x; kernel_rfl
theorem ZwQ {w0:World}  (hcs:∀ x ∈ ZnZ, SA w0 x.1 x.2) (hg:GO w0 ZdB) : SA w0 58 Zjn := by
 exact Zam hcs hg Tryz.func58 (by kernel_rfl) (by kernel_rfl) (S := 0) (fun w _ => Zal _) (fun _ => rfl) (ZwP)
theorem ZwR {w0:World}  (Zcz:GO w0 ZdB) : SA w0 58 Zjn :=
 ZwQ ZaL Zcz
abbrev ZwS : Ag (LI) := (.one (.ints .u64 5))
abbrev ZwT : Pt ((LI × Bool)) := (.tup (.cons (.ints .u64 5) (.one .bool)))
def Zpd (N:Nat) : Ct := fct ZwS ZwT fun x => ZoJ N x
def Zvq (N:Nat) : List (FuncId × Ct) := [(21, Zbk), (77, Zde), (78, ZdN), (80, Zb1), (85, ZiM), (97, (ZhO N))]
def Ze3 : List Gv := [⟨3, 32, (.ints .u64 5 [1, 0, 0, 0, 0])⟩]
noncomputable def ZAg (N:Nat) : List (Nat × Lf) := []
theorem ZAZ (N:Nat) : RunIs Tryz.prog (Zvq N) Ze3 0 (ZAg N) Tryz.f90 ZwS ZwT (fun x => ZoJ N x) := by
 intro x; kernel_rfl
theorem ZA0 {w0:World} (N:Nat)  (hcs:∀ x ∈ Zvq N, SA w0 x.1 x.2) (hg:GO w0 Ze3) : SA w0 90 (Zpd N) := by
 exact Zam hcs hg Tryz.func90 (by kernel_rfl) (by kernel_rfl) (S := 0) (fun w _ => Zal _) (fun _ => rfl) (ZAZ N)
theorem ZA1 {w0:World} (N:Nat)  (Zbx:GO w0 ZcN) (Za8:GO w0 Zb4) (Zdp:GO w0 Ze3) : SA w0 90 (Zpd N) :=
 ZA0 N (Zai (ZbW) (Zai (ZfA) (Zai (Zhd) (Zai (Zdg) (Zai (ZsF Zbx) (Zai (Zuq N Za8) ZaL)))))) Zdp
abbrev Zid : Ag ((LI × LI × LI × LI)) := (.one (.agg (.one (.agg (.cons (.ints .u64 5) (.cons (.ints .u64 5) (.cons (.ints .u64 5) (.one (.ints .u64 5)))))))))
abbrev Zie : Pt (LI) := (.ints .u8 32)
def Zfb (N:Nat) : Ct := fct Zid Zie fun x => Zcl N x
def ZcW (N:Nat) : List (FuncId × Ct) := [(22, (Zel N)), (23, ZgT), (25, ZfI)]
def ZdG : List Gv := []
noncomputable abbrev ZhD (N:Nat) : List (FuncId × Inl) := ((24, inlOf Tryz.prog (ZcW N) ZdG 0 100 [] Tryz.f24) :: [])
theorem ZkV (N:Nat) : InlAll Tryz.prog (ZcW N) ZdG 0 100 (ZhD N) := ⟨⟨Tryz.f24, Tryz.func24, by kernel_rfl, by kernel_rfl, rfl⟩, trivial⟩
noncomputable abbrev ZhR (N:Nat) : List (FuncId × Inl) := (ZhD N)
theorem ZlX (N:Nat) : InlAll Tryz.prog (ZcW N) ZdG 0 100 (ZhR N) := (ZkV N)
noncomputable def Znq (N:Nat) : List (Nat × Lf) := []
theorem Zob (N:Nat) : RunIs Tryz.prog (ZcW N) ZdG 0 (Znq N) Tryz.f10 Zid Zie (fun x => Zcl N x) (fun g => lkI g (ZhR N)) := by
 intro x; kernel_rfl
theorem Zoc {w0:World} (N:Nat)  (hcs:∀ x ∈ ZcW N, SA w0 x.1 x.2) : SA w0 10 (Zfb N) := by
 exact Zq3 hcs (Zar _ _) (ZlX N) Tryz.func10 (by kernel_rfl) (by kernel_rfl) (S := 0) (fun w _ => Zal _) (fun _ => rfl) (Zob N)
theorem Zod {w0:World} (N:Nat)  (Zah:GO w0 ZaE) : SA w0 10 (Zfb N) :=
 Zoc N (Zai (ZjI N Zah) (Zai (Zrs) (Zai (Zo4) ZaL)))
abbrev Zlp : Ag (LI) := (.one (.ints .u8 32))
abbrev Zlq : Pt (((LI × LI × LI × LI) × Int)) := (.tup (.cons (.agg (.one (.agg (.cons (.ints .u64 5) (.cons (.ints .u64 5) (.cons (.ints .u64 5) (.one (.ints .u64 5)))))))) (.one (.int .i64))))
def Zhm (N:Nat) : Ct := fct Zlp Zlq fun x => Zbl N x
def ZdV (N:Nat) : List (FuncId × Ct) := [(81, Zdf), (86, Znp), (89, Zkn), (90, (Zpd N)), (91, ZgW)]
def Zfc : List Gv := []
noncomputable abbrev ZjJ (N:Nat) : List (FuncId × Inl) := ((88, inlOf Tryz.prog (ZdV N) Zfc 0 100 [] Tryz.f88) :: [])
theorem Zoe (N:Nat) : InlAll Tryz.prog (ZdV N) Zfc 0 100 (ZjJ N) := ⟨⟨Tryz.f88, Tryz.func88, by kernel_rfl, by kernel_rfl, rfl⟩, trivial⟩
noncomputable abbrev Zky (N:Nat) : List (FuncId × Inl) := (ZjJ N)
theorem Zpe (N:Nat) : InlAll Tryz.prog (ZdV N) Zfc 0 100 (Zky N) := (Zoe N)
noncomputable def ZrC (N:Nat) : List (Nat × Lf) := []
theorem ZsR (N:Nat) : RunIs Tryz.prog (ZdV N) Zfc 0 (ZrC N) Tryz.f63 Zlp Zlq (fun x => Zbl N x) (fun g => lkI g (Zky N)) := by
 intro x; kernel_rfl
theorem ZsS {w0:World} (N:Nat)  (hcs:∀ x ∈ ZdV N, SA w0 x.1 x.2) : SA w0 63 (Zhm N) := by
 exact Zq3 hcs (Zar _ _) (Zpe N) Tryz.func63 (by kernel_rfl) (by kernel_rfl) (S := 0) (fun w _ => Zal _) (fun _ => rfl) (ZsR N)
theorem ZsT {w0:World} (N:Nat)  (ZcV:GO w0 Zfa) (Zbx:GO w0 ZcN) (Za8:GO w0 Zb4) (Zdp:GO w0 Ze3) : SA w0 63 (Zhm N) :=
 ZsS N (Zai (ZfB) (Zai (Zx2 ZcV) (Zai (Zxf) (Zai (ZA1 N Zbx Za8 Zdp) (Zai (Zry) ZaL)))))
abbrev ZmB : Ag ((LI × LI)) := (.cons (.ints .i64 10) (.one (.ints .i64 10)))
abbrev ZmC : Pt (Bool) := .bool
def ZhS : Ct := tct ZmB ZmC fun x => ZcQ x.1 x.2
def Zlr : List (FuncId × Ct) := []
def ZsU : List Gv := []
noncomputable def ZsV : List (Nat × Lf) := []
theorem Zuy : RunIs Tryz.prog (Zlr) ZsU 0 (ZsV) Tryz.f65 ZmB ZmC (fun x => Ziy x.1 x.2) := by
 intro x; kernel_rfl
theorem Zuz {w0:World}  (hcs:∀ x ∈ Zlr, SA w0 x.1 x.2) : SA w0 65 ZhS := by
 exact Zbr (Zam hcs (Zar _ _) Tryz.func65 (by kernel_rfl) (by kernel_rfl) (S := 0) (fun w _ => Zal _) (fun _ => rfl) (Zuy)) fun _ _ => Zra _ _
theorem ZuA {w0:World}  : SA w0 65 ZhS :=
 Zuz ZaL
abbrev ZmD : Ag ((LI × LI)) := (.cons (.ints .i64 10) (.one (.ints .i64 10)))
abbrev ZmE : Pt (LI) := (.ints .i64 10)
def ZfV : Ct := tct ZmD ZmE fun x => ZbU x.1 x.2
def Zls : List (FuncId × Ct) := []
def ZsW : List Gv := []
noncomputable def ZsX : List (Nat × Lf) := []
theorem ZuB : RunIs Tryz.prog (Zls) ZsW 0 (ZsX) Tryz.f66 ZmD ZmE (fun x => some (ZbU x.1 x.2)) := by
 intro x; kernel_rfl
theorem ZuC {w0:World}  (hcs:∀ x ∈ Zls, SA w0 x.1 x.2) : SA w0 66 ZfV := by
 exact Zbr (Zam hcs (Zar _ _) Tryz.func66 (by kernel_rfl) (by kernel_rfl) (S := 0) (fun w _ => Zal _) (fun _ => rfl) (ZuB)) fun _ _ => rfl
theorem ZmF {w0:World}  : SA w0 66 ZfV :=
 ZuC ZaL
abbrev ZmG : Ag (LI) := (.one (.ints .i64 20))
abbrev ZmH : Pt (LI) := (.ints .i64 10)
def ZcX (N:Nat) : Ct := fct ZmG ZmH fun x => Zbq N x
def ZfW (N:Nat) : List (FuncId × Ct) := [(65, ZhS), (66, ZfV)]
def Zaq : List Gv := [⟨4, 39, (.ints .i64 10 [67108845, 67108863, 67108863, 67108863, 67108863, 67108863, 67108863, 67108863, 67108863, 2097151])⟩]
def ZgX : Fm ((Unit × Int × Unit × Bool)) ((Unit × Unit × LI)) := ⟨(.cons 2 (.lit (.ptr 2 [] 39)) (.cons 3 (.int .i64) (.cons 5 (.lit (.ptr 387 [] 39)) (.one 7 .bool)))), (.cons 0 (.lit (.ints .i64 10 [67108845, 67108863, 67108863, 67108863, 67108863, 67108863, 67108863, 67108863, 67108863, 2097151])) (.cons 2 (.lit (.ints .i64 10 [0, 0, 0, 0, 0, 0, 0, 0, 0, 0])) (.one 387 (.ints .i64 10))))⟩
def ZgY : Fm ((Unit × Unit)) ((Unit × Unit × LI)) := ⟨(.cons 2 (.lit (.ptr 2 [] 39)) (.one 5 (.lit (.ptr 387 [] 39)))), (.cons 0 (.lit (.ints .i64 10 [67108845, 67108863, 67108863, 67108863, 67108863, 67108863, 67108863, 67108863, 67108863, 2097151])) (.cons 2 (.lit (.ints .i64 10 [0, 0, 0, 0, 0, 0, 0, 0, 0, 0])) (.one 387 (.ints .i64 10))))⟩
def ZgZ : Fm (Unit) (Unit) := ⟨.nil, .nil⟩
noncomputable def ZhT (N:Nat) : List (Nat × Lf) := [(4, loopCt ZgX ZgY ZgZ 563 (Zbm N) N)]
theorem Znr (N:Nat) : StepIs Tryz.prog (cxOf Tryz.f34 (ZfW N) Zaq 0) (ZhT N) Tryz.f34 4 563 ZgX ZgY ZgZ (Zbm N) := by
 intro v; kernel_rfl
theorem ZuD (N:Nat) : RunIs Tryz.prog (ZfW N) Zaq 0 (ZhT N) Tryz.f34 ZmG ZmH (fun x => Zbq N x) := by
 intro x; kernel_rfl
theorem ZuE {w0:World} (N:Nat)  (hcs:∀ x ∈ ZfW N, SA w0 x.1 x.2) (hg:GO w0 Zaq) : SA w0 34 (ZcX N) := by
 have L4 : ∀ w : Base, w.g = w0 → LoopOK Tryz.prog (cxOf Tryz.f34 (ZfW N) Zaq 0) w 4 (.loop (loopBody Tryz.f34 4)) (loopCt ZgX ZgY ZgZ 563 (Zbm N) N) :=
  ZbH hcs (ls := ZhT N) (n := 100) (by kernel_rfl) (Znr N) N fun w hw => ZaB (lp_no (by kernel_rfl) ZcF)
 exact Zam hcs hg Tryz.func34 (by kernel_rfl) (by kernel_rfl) (S := 0) (fun w hw => ZaB (Ze2 (L4 w hw) (by kernel_rfl) ZcF)) (fun _ => rfl) (ZuD N)
theorem ZeA {w0:World} (N:Nat)  (Zaf:GO w0 Zaq) : SA w0 34 (ZcX N) :=
 ZuE N (Zai (ZuA) (Zai (ZmF) ZaL)) Zaf
abbrev ZqN : Ag (LI) := (.one (.ints .u64 5))
abbrev ZqO : Pt (LI) := (.ints .i64 10)
def Zkz (N:Nat) : Ct := fct ZqN ZqO fun x => Ze0 N x
def ZeB (N:Nat) : List (FuncId × Ct) := [(34, (ZcX N))]
def Zgc : List Gv := []
def ZiC : Fm ((Unit × Unit × Unit × Int × Int)) ((LI × Unit × LI)) := ⟨(.cons 1 (.lit (.ptr 0 [] 31)) (.cons 2 (.lit (.ptr 1 [] 39)) (.cons 3 (.lit (.ptr 2 [] 72)) (.cons 4 (.int .i64) (.one 5 (.int .i64)))))), (.cons 0 (.ints .u64 5) (.cons 1 (.lit (.ints .i64 10 [0, 0, 0, 0, 0, 0, 0, 0, 0, 0])) (.one 2 (.ints .i64 20))))⟩
def ZiD : Fm ((Unit × Unit × Unit × Int)) ((LI × Unit × LI)) := ⟨(.cons 1 (.lit (.ptr 0 [] 31)) (.cons 2 (.lit (.ptr 1 [] 39)) (.cons 3 (.lit (.ptr 2 [] 72)) (.one 4 (.int .i64))))), (.cons 0 (.ints .u64 5) (.cons 1 (.lit (.ints .i64 10 [0, 0, 0, 0, 0, 0, 0, 0, 0, 0])) (.one 2 (.ints .i64 20))))⟩
def ZiE : Fm (Unit) (Unit) := ⟨.nil, .nil⟩
def ZiF : Fm ((Unit × Unit × Unit × Int)) ((LI × Unit × LI)) := ⟨(.cons 1 (.lit (.ptr 0 [] 31)) (.cons 2 (.lit (.ptr 1 [] 39)) (.cons 3 (.lit (.ptr 2 [] 72)) (.one 4 (.int .i64))))), (.cons 0 (.ints .u64 5) (.cons 1 (.lit (.ints .i64 10 [0, 0, 0, 0, 0, 0, 0, 0, 0, 0])) (.one 2 (.ints .i64 20))))⟩
def ZiG : Fm ((Unit × Unit)) ((Unit × LI)) := ⟨(.cons 2 (.lit (.ptr 1 [] 39)) (.one 3 (.lit (.ptr 2 [] 72)))), (.cons 1 (.lit (.ints .i64 10 [0, 0, 0, 0, 0, 0, 0, 0, 0, 0])) (.one 2 (.ints .i64 20)))⟩
def ZiH : Fm (Unit) (Unit) := ⟨.nil, .nil⟩
noncomputable def Zgd (N:Nat) : List (Nat × Lf) := [(2, loopCt ZiC ZiD ZiE 7 (ZdT N) N), (0, loopCt ZiF ZiG ZiH 4 (ZcR N) N)]
theorem Zqq (N:Nat) : StepIs Tryz.prog (cxOf Tryz.f62 (ZeB N) Zgc 0) (Zgd N) Tryz.f62 2 7 ZiC ZiD ZiE (ZdT N) := by
 intro v; kernel_rfl
theorem Zqr (N:Nat) : StepIs Tryz.prog (cxOf Tryz.f62 (ZeB N) Zgc 0) (Zgd N) Tryz.f62 0 4 ZiF ZiG ZiH (ZcR N) := by
 intro v; kernel_rfl
theorem Zxk (N:Nat) : RunIs Tryz.prog (ZeB N) Zgc 0 (Zgd N) Tryz.f62 ZqN ZqO (fun x => Ze0 N x) := by
 intro x; kernel_rfl
theorem Zxl {w0:World} (N:Nat)  (hcs:∀ x ∈ ZeB N, SA w0 x.1 x.2) : SA w0 62 (Zkz N) := by
 have L2 : ∀ w : Base, w.g = w0 → LoopOK Tryz.prog (cxOf Tryz.f62 (ZeB N) Zgc 0) w 2 (.loop (loopBody Tryz.f62 2)) (loopCt ZiC ZiD ZiE 7 (ZdT N) N) :=
  ZbH hcs (ls := Zgd N) (n := 100) (by kernel_rfl) (Zqq N) N fun w hw => ZaB (lp_no (by kernel_rfl) (lp_no (by kernel_rfl) ZcF))
 have L0 : ∀ w : Base, w.g = w0 → LoopOK Tryz.prog (cxOf Tryz.f62 (ZeB N) Zgc 0) w 0 (.loop (loopBody Tryz.f62 0)) (loopCt ZiF ZiG ZiH 4 (ZcR N) N) :=
  ZbH hcs (ls := Zgd N) (n := 100) (by kernel_rfl) (Zqr N) N fun w hw => ZaB (Ze2 (L2 w hw) (by kernel_rfl) (lp_no (by kernel_rfl) ZcF))
 exact Zam hcs (Zar _ _) Tryz.func62 (by kernel_rfl) (by kernel_rfl) (S := 0) (fun w hw => ZaB (Ze2 (L2 w hw) (by kernel_rfl) (Ze2 (L0 w hw) (by kernel_rfl) ZcF))) (fun _ => rfl) (Zxk N)
theorem Zxm {w0:World} (N:Nat)  (Zaf:GO w0 Zaq) : SA w0 62 (Zkz N) :=
 Zxl N (Zai (ZeA N Zaf) ZaL)
abbrev ZmI : Ag (Int) := (.one (.int .u64))
abbrev ZmJ : Pt (LI) := (.ints .i64 10)
def ZfX (N:Nat) : Ct := fct ZmI ZmJ fun x => Zae N x
def Zlt (N:Nat) : List (FuncId × Ct) := [(34, (ZcX N))]
def ZsY : List Gv := []
noncomputable def ZsZ (N:Nat) : List (Nat × Lf) := []
theorem ZuF (N:Nat) : RunIs Tryz.prog (Zlt N) ZsY 0 (ZsZ N) Tryz.f16 ZmI ZmJ (fun x => Zae N x) := by
 intro x; kernel_rfl
theorem ZuG {w0:World} (N:Nat)  (hcs:∀ x ∈ Zlt N, SA w0 x.1 x.2) : SA w0 16 (ZfX N) := by
 exact Zam hcs (Zar _ _) Tryz.func16 (by kernel_rfl) (by kernel_rfl) (S := 0) (fun w _ => Zal _) (fun _ => rfl) (ZuF N)
theorem ZmK {w0:World} (N:Nat)  (Zaf:GO w0 Zaq) : SA w0 16 (ZfX N) :=
 ZuG N (Zai (ZeA N Zaf) ZaL)
abbrev ZmL : Ag ((LI × LI)) := (.cons (.ints .i64 10) (.one (.ints .i64 10)))
abbrev ZmM : Pt (LI) := (.ints .i64 10)
def Zcr (N:Nat) : Ct := fct ZmL ZmM fun x => Zad N x.1 x.2
def Zlu (N:Nat) : List (FuncId × Ct) := [(34, (ZcX N))]
def Zs0 : List Gv := []
noncomputable def Zs1 (N:Nat) : List (Nat × Lf) := []
theorem ZuH (N:Nat) : RunIs Tryz.prog (Zlu N) Zs0 0 (Zs1 N) Tryz.f39 ZmL ZmM (fun x => Zad N x.1 x.2) := by
 intro x; kernel_rfl
theorem ZuI {w0:World} (N:Nat)  (hcs:∀ x ∈ Zlu N, SA w0 x.1 x.2) : SA w0 39 (Zcr N) := by
 exact Zam hcs (Zar _ _) Tryz.func39 (by kernel_rfl) (by kernel_rfl) (S := 0) (fun w _ => Zal _) (fun _ => rfl) (ZuH N)
theorem ZdO {w0:World} (N:Nat)  (Zaf:GO w0 Zaq) : SA w0 39 (Zcr N) :=
 ZuI N (Zai (ZeA N Zaf) ZaL)
abbrev ZmN : Ag (LI) := (.one (.ints .i64 10))
abbrev ZmO : Pt (LI) := (.ints .i64 10)
def Zdu : Ct := tct ZmN ZmO fun x => ZaY x
def Zlv : List (FuncId × Ct) := [(66, ZfV)]
def Zaz : List Gv := [⟨5, 39, (.ints .i64 10 [0, 0, 0, 0, 0, 0, 0, 0, 0, 0])⟩, ⟨4, 39, (.ints .i64 10 [67108845, 67108863, 67108863, 67108863, 67108863, 67108863, 67108863, 67108863, 67108863, 2097151])⟩]
noncomputable def Zs2 : List (Nat × Lf) := []
theorem ZuJ : RunIs Tryz.prog (Zlv) Zaz 0 (Zs2) Tryz.f69 ZmN ZmO (fun x => Ziz x) := by
 intro x; kernel_rfl
theorem ZuK {w0:World}  (hcs:∀ x ∈ Zlv, SA w0 x.1 x.2) (hg:GO w0 Zaz) : SA w0 69 Zdu := by
 exact Zbr (Zam hcs hg Tryz.func69 (by kernel_rfl) (by kernel_rfl) (S := 0) (fun w _ => Zal _) (fun _ => rfl) (ZuJ)) fun _ _ => Zrb _
theorem ZgN {w0:World}  (Zaj:GO w0 Zaz) : SA w0 69 Zdu :=
 ZuK (Zai (ZmF) ZaL) Zaj
abbrev ZmP : Ag ((LI × LI)) := (.cons (.ints .i64 10) (.one (.ints .i64 10)))
abbrev ZmQ : Pt (LI) := (.ints .i64 10)
def Zdv (N:Nat) : Ct := fct ZmP ZmQ fun x => ZcS N x.1 x.2
def Zlw (N:Nat) : List (FuncId × Ct) := [(39, (Zcr N)), (69, Zdu)]
def Zs3 : List Gv := []
noncomputable def Zs4 (N:Nat) : List (Nat × Lf) := []
theorem ZuL (N:Nat) : RunIs Tryz.prog (Zlw N) Zs3 0 (Zs4 N) Tryz.f37 ZmP ZmQ (fun x => ZcS N x.1 x.2) := by
 intro x; kernel_rfl
theorem ZuM {w0:World} (N:Nat)  (hcs:∀ x ∈ Zlw N, SA w0 x.1 x.2) : SA w0 37 (Zdv N) := by
 exact Zam hcs (Zar _ _) Tryz.func37 (by kernel_rfl) (by kernel_rfl) (S := 0) (fun w _ => Zal _) (fun _ => rfl) (ZuL N)
theorem ZgO {w0:World} (N:Nat)  (Zaf:GO w0 Zaq) (Zaj:GO w0 Zaz) : SA w0 37 (Zdv N) :=
 ZuM N (Zai (ZdO N Zaf) (Zai (ZgN Zaj) ZaL))
abbrev ZmR : Ag ((LI × LI)) := (.cons (.ints .i64 10) (.one (.ints .i64 10)))
abbrev ZmS : Pt (LI) := (.ints .i64 10)
def Za9 (N:Nat) : Ct := fct ZmR ZmS fun x => Zab N x.1 x.2
def Zlx (N:Nat) : List (FuncId × Ct) := [(34, (ZcX N))]
def Zs5 : List Gv := []
noncomputable def Zs6 (N:Nat) : List (Nat × Lf) := []
theorem ZuN (N:Nat) : RunIs Tryz.prog (Zlx N) Zs5 0 (Zs6 N) Tryz.f17 ZmR ZmS (fun x => Zab N x.1 x.2) := by
 intro x; kernel_rfl
theorem ZuO {w0:World} (N:Nat)  (hcs:∀ x ∈ Zlx N, SA w0 x.1 x.2) : SA w0 17 (Za9 N) := by
 exact Zam hcs (Zar _ _) Tryz.func17 (by kernel_rfl) (by kernel_rfl) (S := 0) (fun w _ => Zal _) (fun _ => rfl) (ZuN N)
theorem ZbK {w0:World} (N:Nat)  (Zaf:GO w0 Zaq) : SA w0 17 (Za9 N) :=
 ZuO N (Zai (ZeA N Zaf) ZaL)
abbrev ZfY : Ag ((LI × Int)) := (.cons (.ints .i64 10) (.one (.int .i64)))
abbrev ZfZ : Pt (LI) := (.ints .i64 10)
def Zhn (N:Nat) : Ct := fct ZfY ZfZ fun x => Zfy N x.1 x.2
def ZmT (rec:LI → Int → Option (LI)) (N:Nat) : Ct := fct ZfY ZfZ fun x => Zdm rec N x.1 x.2
def Zdw (rec:LI → Int → Option (LI)) (N:Nat) : List (FuncId × Ct) := [(17, (Za9 N)), (35, (fct (.cons (.ints .i64 10) (.one (.int .i64))) (.ints .i64 10) fun x => rec x.1 x.2))]
def ZeC : List Gv := []
def Zge : Fm ((Int × Unit × Unit × Unit × Unit × Int)) ((LI × Unit × LI × LI)) := ⟨(.cons 1 (.int .i64) (.cons 2 (.lit (.ptr 0 [] 39)) (.cons 4 (.lit (.ptr 1 [] 39)) (.cons 5 (.lit (.ptr 8 [] 39)) (.cons 6 (.lit (.ptr 11 [] 39)) (.one 7 (.int .i64))))))), (.cons 0 (.ints .i64 10) (.cons 1 (.lit (.ints .i64 10 [0, 0, 0, 0, 0, 0, 0, 0, 0, 0])) (.cons 8 (.ints .i64 10) (.one 11 (.ints .i64 10)))))⟩
def Zgf : Fm ((Int × Unit × Unit × Unit × Unit)) ((LI × Unit × LI × LI)) := ⟨(.cons 1 (.int .i64) (.cons 2 (.lit (.ptr 0 [] 39)) (.cons 4 (.lit (.ptr 1 [] 39)) (.cons 5 (.lit (.ptr 8 [] 39)) (.one 6 (.lit (.ptr 11 [] 39))))))), (.cons 0 (.ints .i64 10) (.cons 1 (.lit (.ints .i64 10 [0, 0, 0, 0, 0, 0, 0, 0, 0, 0])) (.cons 8 (.ints .i64 10) (.one 11 (.ints .i64 10)))))⟩
def Zgg : Fm (Unit) (Unit) := ⟨.nil, .nil⟩
noncomputable def ZeD (rec:LI → Int → Option (LI)) (N:Nat) : List (Nat × Lf) := [(0, loopCt Zge Zgf Zgg 14 (Zcb N) N)]
theorem ZmU (rec:LI → Int → Option (LI)) (N:Nat) : StepIs Tryz.prog (cxOf Tryz.f35 (Zdw rec N) ZeC 0) (ZeD rec N) Tryz.f35 0 14 Zge Zgf Zgg (Zcb N) := by
 intro v; kernel_rfl
theorem Zns (rec:LI → Int → Option (LI)) (N:Nat) : RunIs Tryz.prog (Zdw rec N) ZeC 0 (ZeD rec N) Tryz.f35 ZfY ZfZ (fun x => Zdm rec N x.1 x.2) := by
 intro x; kernel_rfl
theorem Znt {w0:World} (rec:LI → Int → Option (LI)) (N:Nat)  (hcs:∀ x ∈ Zdw rec N, SA w0 x.1 x.2) : SA w0 35 (ZmT rec N) := by
 have L0 : ∀ w : Base, w.g = w0 → LoopOK Tryz.prog (cxOf Tryz.f35 (Zdw rec N) ZeC 0) w 0 (.loop (loopBody Tryz.f35 0)) (loopCt Zge Zgf Zgg 14 (Zcb N) N) :=
  ZbH hcs (ls := ZeD rec N) (n := 100) (by kernel_rfl) (ZmU rec N) N fun w hw => ZaB (lp_no (by kernel_rfl) ZcF)
 exact Zam hcs (Zar _ _) Tryz.func35 (by kernel_rfl) (by kernel_rfl) (S := 0) (fun w hw => ZaB (Ze2 (L0 w hw) (by kernel_rfl) ZcF)) (fun _ => rfl) (Zns rec N)
theorem Zly {w0:World} (N:Nat)  (Zaf:GO w0 Zaq) : SA w0 35 (Zhn N) := by
 have h : ∀ m, SA w0 35 (fct ZfY ZfZ fun x => Zdd N m x.1 x.2) := by
  intro m
  induction m with
  | zero => exact ZAA
  | succ m ih => exact Znt (Zdd N m) N (Zai (ZbK N Zaf) (Zai ih ZaL))
 exact h N
abbrev ZjK : Ag (LI) := (.one (.ints .i64 10))
abbrev ZjL : Pt (LI) := (.ints .i64 10)
def ZcI (N:Nat) : Ct := fct ZjK ZjL fun x => Zb3 N x
def Zi1 (N:Nat) : List (FuncId × Ct) := [(17, (Za9 N)), (35, (Zhn N))]
def Zpf : List Gv := []
noncomputable def Zpg (N:Nat) : List (Nat × Lf) := []
theorem Zqs (N:Nat) : RunIs Tryz.prog (Zi1 N) Zpf 0 (Zpg N) Tryz.f18 ZjK ZjL (fun x => Zb3 N x) := by
 intro x; kernel_rfl
theorem Zqt {w0:World} (N:Nat)  (hcs:∀ x ∈ Zi1 N, SA w0 x.1 x.2) : SA w0 18 (ZcI N) := by
 exact Zam hcs (Zar _ _) Tryz.func18 (by kernel_rfl) (by kernel_rfl) (S := 0) (fun w _ => Zal _) (fun _ => rfl) (Zqs N)
theorem Zet {w0:World} (N:Nat)  (Zaf:GO w0 Zaq) : SA w0 18 (ZcI N) :=
 Zqt N (Zai (ZbK N Zaf) (Zai (Zly N Zaf) ZaL))
abbrev Zif : Ag (LI) := (.one (.ints .i64 10))
abbrev Zig : Pt (Bool) := .bool
def Zfd : Ct := tct Zif Zig fun x => Zbw x
def ZhU : List (FuncId × Ct) := []
def Znu : List Gv := []
noncomputable def Znv : List (Nat × Lf) := []
theorem Zof : RunIs Tryz.prog (ZhU) Znu 0 (Znv) Tryz.f27 Zif Zig (fun x => some (Zbw x)) := by
 intro x; kernel_rfl
theorem Zog {w0:World}  (hcs:∀ x ∈ ZhU, SA w0 x.1 x.2) : SA w0 27 Zfd := by
 exact Zbr (Zam hcs (Zar _ _) Tryz.func27 (by kernel_rfl) (by kernel_rfl) (S := 0) (fun w _ => Zal _) (fun _ => rfl) (Zof)) fun _ _ => rfl
theorem Zoh {w0:World}  : SA w0 27 Zfd :=
 Zog ZaL
abbrev ZmV : Ag (LI) := (.one (.ints .i64 10))
abbrev ZmW : Pt (LI) := (.ints .i64 10)
def ZhV : Ct := tct ZmV ZmW fun x => Zct x
def Zlz : List (FuncId × Ct) := [(69, Zdu)]
def Zs7 : List Gv := []
noncomputable def Zs8 : List (Nat × Lf) := []
theorem ZuP : RunIs Tryz.prog (Zlz) Zs7 0 (Zs8) Tryz.f93 ZmV ZmW (fun x => ZiA x) := by
 intro x; kernel_rfl
theorem ZuQ {w0:World}  (hcs:∀ x ∈ Zlz, SA w0 x.1 x.2) : SA w0 93 ZhV := by
 exact Zbr (Zam hcs (Zar _ _) Tryz.func93 (by kernel_rfl) (by kernel_rfl) (S := 0) (fun w _ => Zal _) (fun _ => rfl) (ZuP)) fun _ _ => Zrc _
theorem ZuR {w0:World}  (Zaj:GO w0 Zaz) : SA w0 93 ZhV :=
 ZuQ (Zai (ZgN Zaj) ZaL)
abbrev Zs9 : Ag (Unit) := .nil
abbrev Zta : Pt (LI) := (.ints .i64 10)
def ZiN : Ct := tct Zs9 Zta fun x => Zf3
def ZqP : List (FuncId × Ct) := []
def Zxn : List Gv := []
noncomputable def Zxo : List (Nat × Lf) := []
theorem ZyT : RunIs Tryz.prog (ZqP) Zxn 0 (Zxo) Tryz.f68 Zs9 Zta (fun x => some (Zf3)) := by
 intro x; kernel_rfl
theorem ZyU {w0:World}  (hcs:∀ x ∈ ZqP, SA w0 x.1 x.2) : SA w0 68 ZiN := by
 exact Zbr (Zam hcs (Zar _ _) Tryz.func68 (by kernel_rfl) (by kernel_rfl) (S := 0) (fun w _ => Zal _) (fun _ => rfl) (ZyT)) fun _ _ => rfl
theorem Ztb {w0:World}  : SA w0 68 ZiN :=
 ZyU ZaL
abbrev Ztc : Ag (Unit) := .nil
abbrev Ztd : Pt (LI) := (.ints .i64 10)
def ZfG : Ct := tct Ztc Ztd fun x => Zcj
def ZqQ : List (FuncId × Ct) := []
def Zxp : List Gv := []
noncomputable def Zxq : List (Nat × Lf) := []
theorem ZyV : RunIs Tryz.prog (ZqQ) Zxp 0 (Zxq) Tryz.f38 Ztc Ztd (fun x => some (Zcj)) := by
 intro x; kernel_rfl
theorem ZyW {w0:World}  (hcs:∀ x ∈ ZqQ, SA w0 x.1 x.2) : SA w0 38 ZfG := by
 exact Zbr (Zam hcs (Zar _ _) Tryz.func38 (by kernel_rfl) (by kernel_rfl) (S := 0) (fun w _ => Zal _) (fun _ => rfl) (ZyV)) fun _ _ => rfl
theorem ZjY {w0:World}  : SA w0 38 ZfG :=
 ZyW ZaL
abbrev Zn0 : Ag (LI) := (.one (.ints .i64 10))
abbrev Zn1 : Pt ((LI × Bool)) := (.tup (.cons (.ints .i64 10) (.one .bool)))
def ZiI (N:Nat) : Ct := fct Zn0 Zn1 fun x => Zep N x
def ZmX (N:Nat) : List (FuncId × Ct) := [(17, (Za9 N)), (35, (Zhn N)), (68, ZiN), (93, ZhV)]
def Zby : List Gv := [⟨5, 39, (.ints .i64 10 [0, 0, 0, 0, 0, 0, 0, 0, 0, 0])⟩]
noncomputable def ZuS (N:Nat) : List (Nat × Lf) := []
theorem ZvH (N:Nat) : RunIs Tryz.prog (ZmX N) Zby 0 (ZuS N) Tryz.f67 Zn0 Zn1 (fun x => Zep N x) := by
 intro x; kernel_rfl
theorem ZvI {w0:World} (N:Nat)  (hcs:∀ x ∈ ZmX N, SA w0 x.1 x.2) (hg:GO w0 Zby) : SA w0 67 (ZiI N) := by
 exact Zam hcs hg Tryz.func67 (by kernel_rfl) (by kernel_rfl) (S := 0) (fun w _ => Zal _) (fun _ => rfl) (ZvH N)
theorem ZvJ {w0:World} (N:Nat)  (Zaf:GO w0 Zaq) (Zaj:GO w0 Zaz) (ZaI:GO w0 Zby) : SA w0 67 (ZiI N) :=
 ZvI N (Zai (ZbK N Zaf) (Zai (Zly N Zaf) (Zai (Ztb) (Zai (ZuR Zaj) ZaL)))) ZaI
abbrev Zi2 : Ag ((LI × LI)) := (.cons (.ints .i64 10) (.one (.ints .i64 10)))
abbrev Zi3 : Pt ((LI × Bool)) := (.tup (.cons (.ints .i64 10) (.one .bool)))
def ZfJ (N:Nat) : Ct := fct Zi2 Zi3 fun x => Zdc N x.1 x.2
def Zih (N:Nat) : List (FuncId × Ct) := [(17, (Za9 N)), (18, (ZcI N)), (67, (ZiI N)), (68, ZiN)]
def Za2 : List Gv := [⟨5, 39, (.ints .i64 10 [0, 0, 0, 0, 0, 0, 0, 0, 0, 0])⟩]
noncomputable def Zoi (N:Nat) : List (Nat × Lf) := []
theorem Zph (N:Nat) : RunIs Tryz.prog (Zih N) Za2 0 (Zoi N) Tryz.f36 Zi2 Zi3 (fun x => Zdc N x.1 x.2) := by
 intro x; kernel_rfl
theorem Zpi {w0:World} (N:Nat)  (hcs:∀ x ∈ Zih N, SA w0 x.1 x.2) (hg:GO w0 Za2) : SA w0 36 (ZfJ N) := by
 exact Zam hcs hg Tryz.func36 (by kernel_rfl) (by kernel_rfl) (S := 0) (fun w _ => Zal _) (fun _ => rfl) (Zph N)
theorem Zpj {w0:World} (N:Nat)  (Zaf:GO w0 Zaq) (Zaj:GO w0 Zaz) (ZaI:GO w0 Zby) (Zaw:GO w0 Za2) : SA w0 36 (ZfJ N) :=
 Zpi N (Zai (ZbK N Zaf) (Zai (Zet N Zaf) (Zai (ZvJ N Zaf Zaj ZaI) (Zai (Ztb) ZaL)))) Zaw
abbrev ZjM : Ag (LI) := (.one (.ints .i64 10))
abbrev ZjN : Pt (LI) := (.ints .u8 32)
def Zen (N:Nat) : Ct := fct ZjM ZjN fun x => Zcq N x
def Zeo (N:Nat) : List (FuncId × Ct) := []
def Zgh : List Gv := []
def Zfe : Fm ((Unit × Unit × Unit × Int)) ((LI × Unit × LI)) := ⟨(.cons 1 (.lit (.ptr 0 [] 39)) (.cons 2 (.lit (.ptr 1 [] 45)) (.cons 3 (.lit (.ptr 2 [] 45)) (.one 4 (.int .i64))))), (.cons 0 (.ints .i64 10) (.cons 1 (.lit (.ints .u8 32 [0, 0, 0, 0, 0, 0, 0, 0, 0, 0, 0, 0, 0, 0, 0, 0, 0, 0, 0, 0, 0, 0, 0, 0, 0, 0, 0, 0, 0, 0, 0, 0])) (.one 2 (.ints .u8 32))))⟩
def Zff : Fm ((Unit × Unit)) ((Unit × LI)) := ⟨(.cons 2 (.lit (.ptr 1 [] 45)) (.one 3 (.lit (.ptr 2 [] 45)))), (.cons 1 (.lit (.ints .u8 32 [0, 0, 0, 0, 0, 0, 0, 0, 0, 0, 0, 0, 0, 0, 0, 0, 0, 0, 0, 0, 0, 0, 0, 0, 0, 0, 0, 0, 0, 0, 0, 0])) (.one 2 (.ints .u8 32)))⟩
def Zfg : Fm (Unit) (Unit) := ⟨.nil, .nil⟩
noncomputable def Zgi (N:Nat) : List (Nat × Lf) := [(0, loopCt Zfe Zff Zfg 4 (Zca N) N)]
theorem ZkW (N:Nat) : StepIs Tryz.prog (cxOf Tryz.f26 (Zeo N) Zgh 0) (Zgi N) Tryz.f26 0 4 Zfe Zff Zfg (Zca N) := by
 intro v; kernel_rfl
theorem Zqu (N:Nat) : RunIs Tryz.prog (Zeo N) Zgh 0 (Zgi N) Tryz.f26 ZjM ZjN (fun x => Zcq N x) := by
 intro x; kernel_rfl
theorem Zqv {w0:World} (N:Nat)  (hcs:∀ x ∈ Zeo N, SA w0 x.1 x.2) : SA w0 26 (Zen N) := by
 have L0 : ∀ w : Base, w.g = w0 → LoopOK Tryz.prog (cxOf Tryz.f26 (Zeo N) Zgh 0) w 0 (.loop (loopBody Tryz.f26 0)) (loopCt Zfe Zff Zfg 4 (Zca N) N) :=
  ZbH hcs (ls := Zgi N) (n := 100) (by kernel_rfl) (ZkW N) N fun w hw => ZaB (lp_no (by kernel_rfl) ZcF)
 exact Zam hcs (Zar _ _) Tryz.func26 (by kernel_rfl) (by kernel_rfl) (S := 0) (fun w hw => ZaB (Ze2 (L0 w hw) (by kernel_rfl) ZcF)) (fun _ => rfl) (Zqu N)
theorem ZjO {w0:World} (N:Nat)  : SA w0 26 (Zen N) :=
 Zqv N ZaL
abbrev ZlA : Ag (((Nat × LI) × Unit)) := (.one (.tup (.cons (.lst .u8) (.one (.lit (.clo 5 []))))))
abbrev ZlB : Pt (LI) := (.ints .i64 10)
def Zho (N:Nat) : Ct := fct ZlA ZlB fun x => Zee N x
def Zfh (N:Nat) : List (FuncId × Ct) := [(34, (ZcX N))]
def Zhp : List Gv := []
def Zgj : Fm ((Nat × Unit × Unit × Int)) (((Nat × LI) × Unit × LI)) := ⟨(.cons 0 (.slw 0 5) (.cons 2 (.lit (.ptr 1 [] 39)) (.cons 3 (.lit (.ptr 2 [] 72)) (.one 4 (.int .i64))))), (.cons 0 (.lst .u8) (.cons 1 (.lit (.ints .i64 10 [0, 0, 0, 0, 0, 0, 0, 0, 0, 0])) (.one 2 (.ints .i64 20))))⟩
def Zgk : Fm ((Unit × Unit)) ((Unit × LI)) := ⟨(.cons 2 (.lit (.ptr 1 [] 39)) (.one 3 (.lit (.ptr 2 [] 72)))), (.cons 1 (.lit (.ints .i64 10 [0, 0, 0, 0, 0, 0, 0, 0, 0, 0])) (.one 2 (.ints .i64 20)))⟩
def Zgl : Fm (Unit) (Unit) := ⟨.nil, .nil⟩
noncomputable def Zhq (N:Nat) : List (Nat × Lf) := [(0, loopCt Zgj Zgk Zgl 4 (ZbE N) N)]
theorem ZmY (N:Nat) : StepIs Tryz.prog (cxOf Tryz.f98 (Zfh N) Zhp 1) (Zhq N) Tryz.f98 0 4 Zgj Zgk Zgl (ZbE N) := by
 intro v; kernel_rfl
theorem Zte (N:Nat) : RunIs Tryz.prog (Zfh N) Zhp 1 (Zhq N) Tryz.f98 ZlA ZlB (fun x => Zee N x) := by
 intro x; kernel_rfl
theorem Ztf {w0:World} (N:Nat)  (hcs:∀ x ∈ Zfh N, SA w0 x.1 x.2) : SA w0 98 (Zho N) := by
 have L0 : ∀ w : Base, w.g = w0 → LoopOK Tryz.prog (cxOf Tryz.f98 (Zfh N) Zhp 1) w 0 (.loop (loopBody Tryz.f98 0)) (loopCt Zgj Zgk Zgl 4 (ZbE N) N) :=
  ZbH hcs (ls := Zhq N) (n := 100) (by kernel_rfl) (ZmY N) N fun w hw => ZaB (lp_no (by kernel_rfl) ZcF)
 exact Zam hcs (Zar _ _) Tryz.func98 (by kernel_rfl) (by kernel_rfl) (S := 1) (fun w hw => ZaB (Ze2 (L0 w hw) (by kernel_rfl) ZcF)) (fun _ => rfl) (Zte N)
theorem Ztg {w0:World} (N:Nat)  (Zaf:GO w0 Zaq) : SA w0 98 (Zho N) :=
 Ztf N (Zai (ZeA N Zaf) ZaL)
abbrev ZlC : Ag (LI) := (.one (.ints .u8 32))
abbrev ZlD : Pt ((LI × Int)) := (.tup (.cons (.ints .i64 10) (.one (.int .i64))))
def Zhr (N:Nat) : Ct := fct ZlC ZlD fun x => Zed N x
def ZkA (N:Nat) : List (FuncId × Ct) := [(26, (Zen N)), (98, (Zho N))]
def ZrD : List Gv := []
noncomputable def ZrE (N:Nat) : List (Nat × Lf) := []
theorem Zth (N:Nat) : RunIs Tryz.prog (ZkA N) ZrD 0 (ZrE N) Tryz.f92 ZlC ZlD (fun x => Zed N x) := by
 intro x; kernel_rfl
theorem Zti {w0:World} (N:Nat)  (hcs:∀ x ∈ ZkA N, SA w0 x.1 x.2) : SA w0 92 (Zhr N) := by
 exact Zam hcs (Zar _ _) Tryz.func92 (by kernel_rfl) (by kernel_rfl) (S := 0) (fun w _ => Zal _) (fun _ => rfl) (Zth N)
theorem Ztj {w0:World} (N:Nat)  (Zaf:GO w0 Zaq) : SA w0 92 (Zhr N) :=
 Zti N (Zai (ZjO N) (Zai (Ztg N Zaf) ZaL))
abbrev ZkB : Ag (LI) := (.one (.ints .i64 10))
abbrev ZkC : Pt (LI) := (.ints .u64 5)
def Zg0 (N:Nat) : Ct := fct ZkB ZkC fun x => Zch N x
def Zeu (N:Nat) : List (FuncId × Ct) := []
def Zg1 : List Gv := []
def ZfK : Fm ((Unit × Unit × Unit × Int)) ((LI × Unit × LI)) := ⟨(.cons 1 (.lit (.ptr 0 [] 39)) (.cons 2 (.lit (.ptr 1 [] 31)) (.cons 3 (.lit (.ptr 2 [] 31)) (.one 4 (.int .i64))))), (.cons 0 (.ints .i64 10) (.cons 1 (.lit (.ints .u64 5 [0, 0, 0, 0, 0])) (.one 2 (.ints .u64 5))))⟩
def ZfL : Fm ((Unit × Unit)) ((Unit × LI)) := ⟨(.cons 2 (.lit (.ptr 1 [] 31)) (.one 3 (.lit (.ptr 2 [] 31)))), (.cons 1 (.lit (.ints .u64 5 [0, 0, 0, 0, 0])) (.one 2 (.ints .u64 5)))⟩
def ZfM : Fm (Unit) (Unit) := ⟨.nil, .nil⟩
noncomputable def Zg2 (N:Nat) : List (Nat × Lf) := [(0, loopCt ZfK ZfL ZfM 4 (Zcm N) N)]
theorem ZlY (N:Nat) : StepIs Tryz.prog (cxOf Tryz.f31 (Zeu N) Zg1 0) (Zg2 N) Tryz.f31 0 4 ZfK ZfL ZfM (Zcm N) := by
 intro v; kernel_rfl
theorem ZrF (N:Nat) : RunIs Tryz.prog (Zeu N) Zg1 0 (Zg2 N) Tryz.f31 ZkB ZkC (fun x => Zch N x) := by
 intro x; kernel_rfl
theorem ZrG {w0:World} (N:Nat)  (hcs:∀ x ∈ Zeu N, SA w0 x.1 x.2) : SA w0 31 (Zg0 N) := by
 have L0 : ∀ w : Base, w.g = w0 → LoopOK Tryz.prog (cxOf Tryz.f31 (Zeu N) Zg1 0) w 0 (.loop (loopBody Tryz.f31 0)) (loopCt ZfK ZfL ZfM 4 (Zcm N) N) :=
  ZbH hcs (ls := Zg2 N) (n := 100) (by kernel_rfl) (ZlY N) N fun w hw => ZaB (lp_no (by kernel_rfl) ZcF)
 exact Zam hcs (Zar _ _) Tryz.func31 (by kernel_rfl) (by kernel_rfl) (S := 0) (fun w hw => ZaB (Ze2 (L0 w hw) (by kernel_rfl) ZcF)) (fun _ => rfl) (ZrF N)
theorem ZrH {w0:World} (N:Nat)  : SA w0 31 (Zg0 N) :=
 ZrG N ZaL
abbrev ZkD : Ag (Unit) := .nil
abbrev ZkE : Pt ((LI × LI)) := (.agg (.cons (.ints .i64 10) (.one (.ints .i64 10))))
def Zbd : Ct := tct ZkD ZkE fun x => Zak
def ZjP : List (FuncId × Ct) := []
def ZaS : List Gv := [⟨1, 39, (.ints .i64 10 [1, 0, 0, 0, 0, 0, 0, 0, 0, 0])⟩]
noncomputable def Zqw : List (Nat × Lf) := []
theorem ZrI : RunIs Tryz.prog (ZjP) ZaS 0 (Zqw) Tryz.f7 ZkD ZkE (fun x => some (Zak)) := by
 intro x; kernel_rfl
theorem ZrJ {w0:World}  (hcs:∀ x ∈ ZjP, SA w0 x.1 x.2) (hg:GO w0 ZaS) : SA w0 7 Zbd := by
 exact Zbr (Zam hcs hg Tryz.func7 (by kernel_rfl) (by kernel_rfl) (S := 0) (fun w _ => Zal _) (fun _ => rfl) (ZrI)) fun _ _ => rfl
theorem ZbR {w0:World}  (Zao:GO w0 ZaS) : SA w0 7 Zbd :=
 ZrJ ZaL Zao
abbrev Zi4 : Ag (((LI × LI) × (LI × LI))) := (.cons (.agg (.cons (.ints .i64 10) (.one (.ints .i64 10)))) (.one (.agg (.cons (.ints .i64 10) (.one (.ints .i64 10))))))
abbrev Zi5 : Pt ((LI × LI)) := (.agg (.cons (.ints .i64 10) (.one (.ints .i64 10))))
def Zc9 (N:Nat) : Ct := fct Zi4 Zi5 fun x => ZbC N x.1 x.2
def Zii (N:Nat) : List (FuncId × Ct) := [(17, (Za9 N)), (18, (ZcI N)), (37, (Zdv N)), (38, ZfG), (39, (Zcr N))]
def Zba : List Gv := [⟨1, 39, (.ints .i64 10 [1, 0, 0, 0, 0, 0, 0, 0, 0, 0])⟩]
noncomputable def Zoj (N:Nat) : List (Nat × Lf) := []
theorem Zpk (N:Nat) : RunIs Tryz.prog (Zii N) Zba 0 (Zoj N) Tryz.f49 Zi4 Zi5 (fun x => ZbC N x.1 x.2) := by
 intro x; kernel_rfl
theorem Zpl {w0:World} (N:Nat)  (hcs:∀ x ∈ Zii N, SA w0 x.1 x.2) (hg:GO w0 Zba) : SA w0 49 (Zc9 N) := by
 exact Zam hcs hg Tryz.func49 (by kernel_rfl) (by kernel_rfl) (S := 0) (fun w _ => Zal _) (fun _ => rfl) (Zpk N)
theorem Zgm {w0:World} (N:Nat)  (Zaf:GO w0 Zaq) (Zaj:GO w0 Zaz) (ZaF:GO w0 Zba) : SA w0 49 (Zc9 N) :=
 Zpl N (Zai (ZbK N Zaf) (Zai (Zet N Zaf) (Zai (ZgO N Zaf Zaj) (Zai (ZjY) (Zai (ZdO N Zaf) ZaL))))) ZaF
abbrev Zpm : Ag (LI) := (.one (.ints .i64 10))
abbrev Zpn : Pt ((LI × Bool)) := (.tup (.cons (.ints .i64 10) (.one .bool)))
def Zhf (N:Nat) : Ct := fct Zpm Zpn fun x => Ze4 N x
def Zn2 (N:Nat) : List (FuncId × Ct) := [(17, (Za9 N)), (36, (ZfJ N)), (37, (Zdv N)), (38, ZfG), (39, (Zcr N))]
def Zcg : List Gv := [⟨1, 39, (.ints .i64 10 [1, 0, 0, 0, 0, 0, 0, 0, 0, 0])⟩]
noncomputable def ZvK (N:Nat) : List (Nat × Lf) := []
theorem ZwU (N:Nat) : RunIs Tryz.prog (Zn2 N) Zcg 0 (ZvK N) Tryz.f19 Zpm Zpn (fun x => Ze4 N x) := by
 intro x; kernel_rfl
theorem ZwV {w0:World} (N:Nat)  (hcs:∀ x ∈ Zn2 N, SA w0 x.1 x.2) (hg:GO w0 Zcg) : SA w0 19 (Zhf N) := by
 exact Zam hcs hg Tryz.func19 (by kernel_rfl) (by kernel_rfl) (S := 0) (fun w _ => Zal _) (fun _ => rfl) (ZwU N)
theorem Zpo {w0:World} (N:Nat)  (Zaf:GO w0 Zaq) (Zaj:GO w0 Zaz) (ZaI:GO w0 Zby) (Zaw:GO w0 Za2) (ZaW:GO w0 Zcg) : SA w0 19 (Zhf N) :=
 ZwV N (Zai (ZbK N Zaf) (Zai (Zpj N Zaf Zaj ZaI Zaw) (Zai (ZgO N Zaf Zaj) (Zai (ZjY) (Zai (ZdO N Zaf) ZaL))))) ZaW
abbrev Zn3 : Ag (Unit) := .nil
abbrev Zn4 : Pt ((LI × LI)) := (.agg (.cons (.ints .i64 10) (.one (.ints .i64 10))))
def ZeE (N:Nat) : Ct := fct Zn3 Zn4 fun x => Zdi N
def ZmZ (N:Nat) : List (FuncId × Ct) := [(16, (ZfX N)), (17, (Za9 N)), (18, (ZcI N)), (19, (Zhf N))]
def ZuT : List Gv := []
noncomputable def ZuU (N:Nat) : List (Nat × Lf) := []
theorem ZvL (N:Nat) : RunIs Tryz.prog (ZmZ N) ZuT 0 (ZuU N) Tryz.f8 Zn3 Zn4 (fun x => Zdi N) := by
 intro x; kernel_rfl
theorem ZvM {w0:World} (N:Nat)  (hcs:∀ x ∈ ZmZ N, SA w0 x.1 x.2) : SA w0 8 (ZeE N) := by
 exact Zam hcs (Zar _ _) Tryz.func8 (by kernel_rfl) (by kernel_rfl) (S := 0) (fun w _ => Zal _) (fun _ => rfl) (ZvL N)
theorem Zjo {w0:World} (N:Nat)  (Zaf:GO w0 Zaq) (Zaj:GO w0 Zaz) (ZaI:GO w0 Zby) (Zaw:GO w0 Za2) (ZaW:GO w0 Zcg) : SA w0 8 (ZeE N) :=
 ZvM N (Zai (ZmK N Zaf) (Zai (ZbK N Zaf) (Zai (Zet N Zaf) (Zai (Zpo N Zaf Zaj ZaI Zaw ZaW) ZaL))))
abbrev Zi6 : Ag ((LI × LI)) := (.one (.agg (.cons (.ints .i64 10) (.one (.ints .i64 10)))))
abbrev Zi7 : Pt ((LI × LI)) := (.agg (.cons (.ints .i64 10) (.one (.ints .i64 10))))
def ZfN : Ct := tct Zi6 Zi7 fun x => Za4 x
def Zij : List (FuncId × Ct) := [(69, Zdu)]
def Zok : List Gv := []
noncomputable def Zol : List (Nat × Lf) := []
theorem Zpp : RunIs Tryz.prog (Zij) Zok 0 (Zol) Tryz.f51 Zi6 Zi7 (fun x => some (Za4 x)) := by
 intro x; kernel_rfl
theorem Zpq {w0:World}  (hcs:∀ x ∈ Zij, SA w0 x.1 x.2) : SA w0 51 ZfN := by
 exact Zbr (Zam hcs (Zar _ _) Tryz.func51 (by kernel_rfl) (by kernel_rfl) (S := 0) (fun w _ => Zal _) (fun _ => rfl) (Zpp)) fun _ _ => rfl
theorem Zpr {w0:World}  (Zaj:GO w0 Zaz) : SA w0 51 ZfN :=
 Zpq (Zai (ZgN Zaj) ZaL)
abbrev ZkF : Ag (Int) := (.one (.int .i64))
abbrev ZkG : Pt ((LI × LI)) := (.agg (.cons (.ints .i64 10) (.one (.ints .i64 10))))
def Zg3 (N:Nat) : Ct := fct ZkF ZkG fun x => Zew N x
def Zco (N:Nat) : List (FuncId × Ct) := [(7, Zbd), (16, (ZfX N)), (17, (Za9 N)), (39, (Zcr N)), (49, (Zc9 N))]
def Za6 : List Gv := [⟨5, 39, (.ints .i64 10 [0, 0, 0, 0, 0, 0, 0, 0, 0, 0])⟩]
noncomputable abbrev Zi8 (N:Nat) : List (FuncId × Inl) := ((84, inlOf Tryz.prog (Zco N) Za6 0 100 [] Tryz.f84) :: [])
theorem Znw (N:Nat) : InlAll Tryz.prog (Zco N) Za6 0 100 (Zi8 N) := ⟨⟨Tryz.f84, Tryz.func84, by kernel_rfl, by kernel_rfl, rfl⟩, trivial⟩
noncomputable abbrev Zev (N:Nat) : List (FuncId × Inl) := (Zi8 N)
theorem Zik (N:Nat) : InlAll Tryz.prog (Zco N) Za6 0 100 (Zev N) := (Znw N)
def ZfO : Fm ((Int × Unit × Unit × Unit × Int)) ((Unit × Unit × (LI × LI) × (LI × LI))) := ⟨(.cons 0 (.int .i64) (.cons 2 (.lit (.ptr 1 [] 41)) (.cons 3 (.lit (.ptr 2797 [] 41)) (.cons 4 (.lit (.ptr 2800 [] 41)) (.one 5 (.int .i64)))))), (.cons 0 (.lit (.ints .i64 10 [0, 0, 0, 0, 0, 0, 0, 0, 0, 0])) (.cons 1 (.lit (.agg [(.ints .i64 10 [0, 0, 0, 0, 0, 0, 0, 0, 0, 0]), (.ints .i64 10 [0, 0, 0, 0, 0, 0, 0, 0, 0, 0])])) (.cons 2797 (.agg (.cons (.ints .i64 10) (.one (.ints .i64 10)))) (.one 2800 (.agg (.cons (.ints .i64 10) (.one (.ints .i64 10))))))))⟩
def ZfP : Fm ((Unit × Unit)) ((Unit × Unit × (LI × LI))) := ⟨(.cons 2 (.lit (.ptr 1 [] 41)) (.one 4 (.lit (.ptr 2800 [] 41)))), (.cons 0 (.lit (.ints .i64 10 [0, 0, 0, 0, 0, 0, 0, 0, 0, 0])) (.cons 1 (.lit (.agg [(.ints .i64 10 [0, 0, 0, 0, 0, 0, 0, 0, 0, 0]), (.ints .i64 10 [0, 0, 0, 0, 0, 0, 0, 0, 0, 0])])) (.one 2800 (.agg (.cons (.ints .i64 10) (.one (.ints .i64 10)))))))⟩
def ZfQ : Fm (Unit) (Unit) := ⟨.nil, .nil⟩
noncomputable def Zg4 (N:Nat) : List (Nat × Lf) := [(0, loopCt ZfO ZfP ZfQ 2803 (Zbc N) N)]
theorem ZlZ (N:Nat) : StepIs Tryz.prog (cxIn Tryz.f59 (Zco N) Za6 0 (Zev N)) (Zg4 N) Tryz.f59 0 2803 ZfO ZfP ZfQ (Zbc N) := by
 intro v; kernel_rfl
theorem ZrK (N:Nat) : RunIs Tryz.prog (Zco N) Za6 0 (Zg4 N) Tryz.f59 ZkF ZkG (fun x => Zew N x) (fun g => lkI g (Zev N)) := by
 intro x; kernel_rfl
theorem ZrL {w0:World} (N:Nat)  (hcs:∀ x ∈ Zco N, SA w0 x.1 x.2) (hg:GO w0 Za6) : SA w0 59 (Zg3 N) := by
 have L0 : ∀ w : Base, w.g = w0 → LoopOK Tryz.prog (cxIn Tryz.f59 (Zco N) Za6 0 (Zev N)) w 0 (.loop (loopBody Tryz.f59 0)) (loopCt ZfO ZfP ZfQ 2803 (Zbc N) N) :=
  Zyk hcs (Zik N) (ls := Zg4 N) (n := 100) (by kernel_rfl) (ZlZ N) N fun w hw => ZaB (lp_no (by kernel_rfl) ZcF)
 exact Zq3 hcs hg (Zik N) Tryz.func59 (by kernel_rfl) (by kernel_rfl) (S := 0) (fun w hw => ZaB (Ze2 (L0 w hw) (by kernel_rfl) ZcF)) (fun _ => rfl) (ZrK N)
theorem ZrM {w0:World} (N:Nat)  (Zao:GO w0 ZaS) (Zaf:GO w0 Zaq) (Zaj:GO w0 Zaz) (ZaF:GO w0 Zba) (ZbJ:GO w0 Za6) : SA w0 59 (Zg3 N) :=
 ZrL N (Zai (ZbR Zao) (Zai (ZmK N Zaf) (Zai (ZbK N Zaf) (Zai (ZdO N Zaf) (Zai (Zgm N Zaf Zaj ZaF) ZaL))))) ZbJ
abbrev ZqR : Ag ((LI × LI)) := (.cons (.ints .i64 10) (.one (.ints .i64 10)))
abbrev ZqS : Pt (Bool) := .bool
def ZkH (N:Nat) : Ct := fct ZqR ZqS fun x => ZiO N x.1 x.2
def Zps (N:Nat) : List (FuncId × Ct) := [(17, (Za9 N)), (37, (Zdv N)), (38, ZfG), (39, (Zcr N))]
def Zdq : List Gv := [⟨1, 39, (.ints .i64 10 [1, 0, 0, 0, 0, 0, 0, 0, 0, 0])⟩]
noncomputable def ZwW (N:Nat) : List (Nat × Lf) := []
theorem Zxr (N:Nat) : RunIs Tryz.prog (Zps N) Zdq 0 (ZwW N) Tryz.f87 ZqR ZqS (fun x => ZiO N x.1 x.2) := by
 intro x; kernel_rfl
theorem Zxs {w0:World} (N:Nat)  (hcs:∀ x ∈ Zps N, SA w0 x.1 x.2) (hg:GO w0 Zdq) : SA w0 87 (ZkH N) := by
 exact Zam hcs hg Tryz.func87 (by kernel_rfl) (by kernel_rfl) (S := 0) (fun w _ => Zal _) (fun _ => rfl) (Zxr N)
theorem Zxt {w0:World} (N:Nat)  (Zaf:GO w0 Zaq) (Zaj:GO w0 Zaz) (Zce:GO w0 Zdq) : SA w0 87 (ZkH N) :=
 Zxs N (Zai (ZbK N Zaf) (Zai (ZgO N Zaf Zaj) (Zai (ZjY) (Zai (ZdO N Zaf) ZaL)))) Zce
abbrev Zil : Ag ((LI × LI)) := (.cons (.ints .i64 10) (.one (.ints .i64 10)))
abbrev Zim : Pt (((LI × LI) × Int)) := (.tup (.cons (.agg (.cons (.ints .i64 10) (.one (.ints .i64 10)))) (.one (.int .i64))))
def Zfi (N:Nat) : Ct := fct Zil Zim fun x => Zc0 N x.1 x.2
def ZhW (N:Nat) : List (FuncId × Ct) := [(7, Zbd), (87, (ZkH N))]
def Znx : List Gv := []
noncomputable def Zny (N:Nat) : List (Nat × Lf) := []
theorem Zom (N:Nat) : RunIs Tryz.prog (ZhW N) Znx 0 (Zny N) Tryz.f61 Zil Zim (fun x => Zc0 N x.1 x.2) := by
 intro x; kernel_rfl
theorem Zon {w0:World} (N:Nat)  (hcs:∀ x ∈ ZhW N, SA w0 x.1 x.2) : SA w0 61 (Zfi N) := by
 exact Zam hcs (Zar _ _) Tryz.func61 (by kernel_rfl) (by kernel_rfl) (S := 0) (fun w _ => Zal _) (fun _ => rfl) (Zom N)
theorem Zoo {w0:World} (N:Nat)  (Zao:GO w0 ZaS) (Zaf:GO w0 Zaq) (Zaj:GO w0 Zaz) (Zce:GO w0 Zdq) : SA w0 61 (Zfi N) :=
 Zon N (Zai (ZbR Zao) (Zai (Zxt N Zaf Zaj Zce) ZaL))
abbrev Zin : Ag (LI) := (.one (.ints .u8 32))
abbrev Zio : Pt (((LI × LI) × Int)) := (.tup (.cons (.agg (.cons (.ints .i64 10) (.one (.ints .i64 10)))) (.one (.int .i64))))
def Zfj (N:Nat) : Ct := fct Zin Zio fun x => Zck N x
def ZhX (N:Nat) : List (FuncId × Ct) := [(7, Zbd), (19, (Zhf N)), (69, Zdu), (92, (Zhr N))]
def ZbS : List Gv := [⟨5, 39, (.ints .i64 10 [0, 0, 0, 0, 0, 0, 0, 0, 0, 0])⟩]
noncomputable def Znz (N:Nat) : List (Nat × Lf) := []
theorem Zop (N:Nat) : RunIs Tryz.prog (ZhX N) ZbS 0 (Znz N) Tryz.f64 Zin Zio (fun x => Zck N x) := by
 intro x; kernel_rfl
theorem Zoq {w0:World} (N:Nat)  (hcs:∀ x ∈ ZhX N, SA w0 x.1 x.2) (hg:GO w0 ZbS) : SA w0 64 (Zfj N) := by
 exact Zam hcs hg Tryz.func64 (by kernel_rfl) (by kernel_rfl) (S := 0) (fun w _ => Zal _) (fun _ => rfl) (Zop N)
theorem Zor {w0:World} (N:Nat)  (Zao:GO w0 ZaS) (Zaf:GO w0 Zaq) (Zaj:GO w0 Zaz) (ZaI:GO w0 Zby) (Zaw:GO w0 Za2) (ZaW:GO w0 Zcg) (Zbe:GO w0 ZbS) : SA w0 64 (Zfj N) :=
 Zoq N (Zai (ZbR Zao) (Zai (Zpo N Zaf Zaj ZaI Zaw ZaW) (Zai (ZgN Zaj) (Zai (Ztj N Zaf) ZaL)))) Zbe
abbrev ZlE : Ag (((LI × LI × LI × LI) × (LI × LI))) := (.cons (.agg (.one (.agg (.cons (.ints .u64 5) (.cons (.ints .u64 5) (.cons (.ints .u64 5) (.one (.ints .u64 5)))))))) (.one (.agg (.cons (.ints .i64 10) (.one (.ints .i64 10))))))
abbrev ZlF : Pt (Bool) := .bool
def ZdW (N:Nat) : Ct := fct ZlE ZlF fun x => ZaG N x.1 x.2
def ZkI (N:Nat) : List (FuncId × Ct) := [(22, (Zel N)), (31, (Zg0 N))]
def ZrN : List Gv := []
noncomputable def ZrO (N:Nat) : List (Nat × Lf) := []
theorem Ztk (N:Nat) : RunIs Tryz.prog (ZkI N) ZrN 0 (ZrO N) Tryz.f14 ZlE ZlF (fun x => ZaG N x.1 x.2) := by
 intro x; kernel_rfl
theorem Ztl {w0:World} (N:Nat)  (hcs:∀ x ∈ ZkI N, SA w0 x.1 x.2) : SA w0 14 (ZdW N) := by
 exact Zam hcs (Zar _ _) Tryz.func14 (by kernel_rfl) (by kernel_rfl) (S := 0) (fun w _ => Zal _) (fun _ => rfl) (Ztk N)
theorem ZhY {w0:World} (N:Nat)  (Zah:GO w0 ZaE) : SA w0 14 (ZdW N) :=
 Ztl N (Zai (ZjI N Zah) (Zai (ZrH N) ZaL))
abbrev Zn5 : Ag (Unit) := .nil
abbrev Zn6 : Pt (Bool) := .bool
def ZiJ (N:Nat) : Ct := fct Zn5 Zn6 fun x => Zg9 N
def Zm0 (N:Nat) : List (FuncId × Ct) := [(6, ZhQ), (7, Zbd), (8, (ZeE N)), (14, (ZdW N))]
def ZuV : List Gv := []
noncomputable def ZuW (N:Nat) : List (Nat × Lf) := []
theorem ZvN (N:Nat) : RunIs Tryz.prog (Zm0 N) ZuV 0 (ZuW N) Tryz.f4 Zn5 Zn6 (fun x => Zg9 N) := by
 intro x; kernel_rfl
theorem ZvO {w0:World} (N:Nat)  (hcs:∀ x ∈ Zm0 N, SA w0 x.1 x.2) : SA w0 4 (ZiJ N) := by
 exact Zam hcs (Zar _ _) Tryz.func4 (by kernel_rfl) (by kernel_rfl) (S := 0) (fun w _ => Zal _) (fun _ => rfl) (ZvN N)
theorem ZvP {w0:World} (N:Nat)  (Zci:GO w0 Zem) (Zao:GO w0 ZaS) (Zaf:GO w0 Zaq) (Zaj:GO w0 Zaz) (ZaI:GO w0 Zby) (Zaw:GO w0 Za2) (ZaW:GO w0 Zcg) (Zah:GO w0 ZaE) : SA w0 4 (ZiJ N) :=
 ZvO N (Zai (Zpa Zci) (Zai (ZbR Zao) (Zai (Zjo N Zaf Zaj ZaI Zaw ZaW) (Zai (ZhY N Zah) ZaL))))
abbrev ZhE : Ag (((LI × LI × LI × LI) × LI)) := (.cons (.agg (.one (.agg (.cons (.ints .u64 5) (.cons (.ints .u64 5) (.cons (.ints .u64 5) (.one (.ints .u64 5)))))))) (.one (.ints .u8 32)))
abbrev ZhF : Pt ((LI × LI × LI × LI)) := (.agg (.one (.agg (.cons (.ints .u64 5) (.cons (.ints .u64 5) (.cons (.ints .u64 5) (.one (.ints .u64 5))))))))
def Zcv (N:Nat) : Ct := fct ZhE ZhF fun x => ZbG N x.1 x.2
def ZbY (N:Nat) : List (FuncId × Ct) := [(45, Zdt), (46, Zek)]
def Zcw : List Gv := []
def ZdX : Fm ((Unit × Unit × Unit × Unit × Int)) (((LI × LI × LI × LI) × LI × Unit)) := ⟨(.cons 2 (.lit (.ptr 0 [] 36)) (.cons 3 (.lit (.ptr 1 [] 45)) (.cons 4 (.lit (.ptr 2 [] 36)) (.cons 5 (.lit (.int .i64 (-1))) (.one 6 (.int .i64)))))), (.cons 0 (.agg (.one (.agg (.cons (.ints .u64 5) (.cons (.ints .u64 5) (.cons (.ints .u64 5) (.one (.ints .u64 5)))))))) (.cons 1 (.ints .u8 32) (.one 2 (.lit (.agg [(.agg [(.ints .u64 5 [0, 0, 0, 0, 0]), (.ints .u64 5 [0, 0, 0, 0, 0]), (.ints .u64 5 [0, 0, 0, 0, 0]), (.ints .u64 5 [0, 0, 0, 0, 0])])])))))⟩
def ZdY : Fm ((Unit × Unit × Unit × Int)) (((LI × LI × LI × LI) × LI × Unit)) := ⟨(.cons 2 (.lit (.ptr 0 [] 36)) (.cons 3 (.lit (.ptr 1 [] 45)) (.cons 4 (.lit (.ptr 2 [] 36)) (.one 5 (.int .i64))))), (.cons 0 (.agg (.one (.agg (.cons (.ints .u64 5) (.cons (.ints .u64 5) (.cons (.ints .u64 5) (.one (.ints .u64 5)))))))) (.cons 1 (.ints .u8 32) (.one 2 (.lit (.agg [(.agg [(.ints .u64 5 [0, 0, 0, 0, 0]), (.ints .u64 5 [0, 0, 0, 0, 0]), (.ints .u64 5 [0, 0, 0, 0, 0]), (.ints .u64 5 [0, 0, 0, 0, 0])])])))))⟩
def ZdZ : Fm (Unit) (Unit) := ⟨.nil, .nil⟩
def Zd0 : Fm ((Unit × Unit × Unit × Unit × Int)) ((LI × Unit × ((LI × LI × LI × LI) × (LI × LI × LI × LI) × (LI × LI × LI × LI) × (LI × LI × LI × LI) × (LI × LI × LI × LI) × (LI × LI × LI × LI) × (LI × LI × LI × LI) × (LI × LI × LI × LI) × (LI × LI × LI × LI) × (LI × LI × LI × LI) × (LI × LI × LI × LI) × (LI × LI × LI × LI) × (LI × LI × LI × LI) × (LI × LI × LI × LI) × (LI × LI × LI × LI) × (LI × LI × LI × LI)) × (LI × LI × LI × LI))) := ⟨(.cons 3 (.lit (.ptr 1 [] 45)) (.cons 4 (.lit (.ptr 2 [] 36)) (.cons 9 (.lit (.ptr 5 [] 83)) (.cons 11 (.lit (.ptr 219 [] 36)) (.one 12 (.int .i64)))))), (.cons 1 (.ints .u8 32) (.cons 2 (.lit (.agg [(.agg [(.ints .u64 5 [0, 0, 0, 0, 0]), (.ints .u64 5 [0, 0, 0, 0, 0]), (.ints .u64 5 [0, 0, 0, 0, 0]), (.ints .u64 5 [0, 0, 0, 0, 0])])])) (.cons 5 (.agg (.cons (.agg (.one (.agg (.cons (.ints .u64 5) (.cons (.ints .u64 5) (.cons (.ints .u64 5) (.one (.ints .u64 5)))))))) (.cons (.agg (.one (.agg (.cons (.ints .u64 5) (.cons (.ints .u64 5) (.cons (.ints .u64 5) (.one (.ints .u64 5)))))))) (.cons (.agg (.one (.agg (.cons (.ints .u64 5) (.cons (.ints .u64 5) (.cons (.ints .u64 5) (.one (.ints .u64 5)))))))) (.cons (.agg (.one (.agg (.cons (.ints .u64 5) (.cons (.ints .u64 5) (.cons (.ints .u64 5) (.one (.ints .u64 5)))))))) (.cons (.agg (.one (.agg (.cons (.ints .u64 5) (.cons (.ints .u64 5) (.cons (.ints .u64 5) (.one (.ints .u64 5)))))))) (.cons (.agg (.one (.agg (.cons (.ints .u64 5) (.cons (.ints .u64 5) (.cons (.ints .u64 5) (.one (.ints .u64 5)))))))) (.cons (.agg (.one (.agg (.cons (.ints .u64 5) (.cons (.ints .u64 5) (.cons (.ints .u64 5) (.one (.ints .u64 5)))))))) (.cons (.agg (.one (.agg (.cons (.ints .u64 5) (.cons (.ints .u64 5) (.cons (.ints .u64 5) (.one (.ints .u64 5)))))))) (.cons (.agg (.one (.agg (.cons (.ints .u64 5) (.cons (.ints .u64 5) (.cons (.ints .u64 5) (.one (.ints .u64 5)))))))) (.cons (.agg (.one (.agg (.cons (.ints .u64 5) (.cons (.ints .u64 5) (.cons (.ints .u64 5) (.one (.ints .u64 5)))))))) (.cons (.agg (.one (.agg (.cons (.ints .u64 5) (.cons (.ints .u64 5) (.cons (.ints .u64 5) (.one (.ints .u64 5)))))))) (.cons (.agg (.one (.agg (.cons (.ints .u64 5) (.cons (.ints .u64 5) (.cons (.ints .u64 5) (.one (.ints .u64 5)))))))) (.cons (.agg (.one (.agg (.cons (.ints .u64 5) (.cons (.ints .u64 5) (.cons (.ints .u64 5) (.one (.ints .u64 5)))))))) (.cons (.agg (.one (.agg (.cons (.ints .u64 5) (.cons (.ints .u64 5) (.cons (.ints .u64 5) (.one (.ints .u64 5)))))))) (.cons (.agg (.one (.agg (.cons (.ints .u64 5) (.cons (.ints .u64 5) (.cons (.ints .u64 5) (.one (.ints .u64 5)))))))) (.one (.agg (.one (.agg (.cons (.ints .u64 5) (.cons (.ints .u64 5) (.cons (.ints .u64 5) (.one (.ints .u64 5))))))))))))))))))))))))) (.one 219 (.agg (.one (.agg (.cons (.ints .u64 5) (.cons (.ints .u64 5) (.cons (.ints .u64 5) (.one (.ints .u64 5))))))))))))⟩
def Zd1 : Fm ((Unit × Unit)) ((Unit × (LI × LI × LI × LI))) := ⟨(.cons 4 (.lit (.ptr 2 [] 36)) (.one 11 (.lit (.ptr 219 [] 36)))), (.cons 2 (.lit (.agg [(.agg [(.ints .u64 5 [0, 0, 0, 0, 0]), (.ints .u64 5 [0, 0, 0, 0, 0]), (.ints .u64 5 [0, 0, 0, 0, 0]), (.ints .u64 5 [0, 0, 0, 0, 0])])])) (.one 219 (.agg (.one (.agg (.cons (.ints .u64 5) (.cons (.ints .u64 5) (.cons (.ints .u64 5) (.one (.ints .u64 5))))))))))⟩
def Zd2 : Fm (Unit) (Unit) := ⟨.nil, .nil⟩
noncomputable def Zcx (N:Nat) : List (Nat × Lf) := [(0, loopCt ZdX ZdY ZdZ 5 (ZaX N) N), (6, loopCt Zd0 Zd1 Zd2 222 (Zbf N) N)]
theorem Zi9 (N:Nat) : StepIs Tryz.prog (cxOf Tryz.f28 (ZbY N) Zcw 0) (Zcx N) Tryz.f28 0 5 ZdX ZdY ZdZ (ZaX N) := by
 intro v; kernel_rfl
theorem Zja (N:Nat) : StepIs Tryz.prog (cxOf Tryz.f28 (ZbY N) Zcw 0) (Zcx N) Tryz.f28 6 222 Zd0 Zd1 Zd2 (Zbf N) := by
 intro v; kernel_rfl
theorem Zm1 (N:Nat) : RunIs Tryz.prog (ZbY N) Zcw 0 (Zcx N) Tryz.f28 ZhE ZhF (fun x => ZbG N x.1 x.2) := by
 intro x; kernel_rfl
theorem Zm2 {w0:World} (N:Nat)  (hcs:∀ x ∈ ZbY N, SA w0 x.1 x.2) : SA w0 28 (Zcv N) := by
 have L0 : ∀ w : Base, w.g = w0 → LoopOK Tryz.prog (cxOf Tryz.f28 (ZbY N) Zcw 0) w 0 (.loop (loopBody Tryz.f28 0)) (loopCt ZdX ZdY ZdZ 5 (ZaX N) N) :=
  ZbH hcs (ls := Zcx N) (n := 100) (by kernel_rfl) (Zi9 N) N fun w hw => ZaB (lp_no (by kernel_rfl) (lp_no (by kernel_rfl) ZcF))
 have L6 : ∀ w : Base, w.g = w0 → LoopOK Tryz.prog (cxOf Tryz.f28 (ZbY N) Zcw 0) w 6 (.loop (loopBody Tryz.f28 6)) (loopCt Zd0 Zd1 Zd2 222 (Zbf N) N) :=
  ZbH hcs (ls := Zcx N) (n := 100) (by kernel_rfl) (Zja N) N fun w hw => ZaB (lp_no (by kernel_rfl) (lp_no (by kernel_rfl) ZcF))
 exact Zam hcs (Zar _ _) Tryz.func28 (by kernel_rfl) (by kernel_rfl) (S := 0) (fun w hw => ZaB (Ze2 (L0 w hw) (by kernel_rfl) (Ze2 (L6 w hw) (by kernel_rfl) ZcF))) (fun _ => rfl) (Zm1 N)
theorem ZeF {w0:World} (N:Nat)  (Zah:GO w0 ZaE) (ZaD:GO w0 Zbp) : SA w0 28 (Zcv N) :=
 Zm2 N (Zai (ZgM Zah ZaD) (Zai (ZjF Zah) ZaL))
abbrev ZlG : Ag (((LI × LI × LI × LI) × (LI × LI × LI × LI))) := (.cons (.agg (.one (.agg (.cons (.ints .u64 5) (.cons (.ints .u64 5) (.cons (.ints .u64 5) (.one (.ints .u64 5)))))))) (.one (.agg (.one (.agg (.cons (.ints .u64 5) (.cons (.ints .u64 5) (.cons (.ints .u64 5) (.one (.ints .u64 5))))))))))
abbrev ZlH : Pt (Bool) := .bool
def Zfk : Ct := fct ZlG ZlH fun x => Zc5 x.1 x.2
def ZkJ : List (FuncId × Ct) := [(20, Zcn), (21, Zbk)]
def ZrP : List Gv := []
noncomputable def ZrQ : List (Nat × Lf) := []
theorem Ztm : RunIs Tryz.prog (ZkJ) ZrP 0 (ZrQ) Tryz.f9 ZlG ZlH (fun x => Zc5 x.1 x.2) := by
 intro x; kernel_rfl
theorem Ztn {w0:World}  (hcs:∀ x ∈ ZkJ, SA w0 x.1 x.2) : SA w0 9 Zfk := by
 exact Zam hcs (Zar _ _) Tryz.func9 (by kernel_rfl) (by kernel_rfl) (S := 0) (fun w _ => Zal _) (fun _ => rfl) (Ztm)
theorem ZlI {w0:World}  (Zah:GO w0 ZaE) : SA w0 9 Zfk :=
 Ztn (Zai (ZdU Zah) (Zai (ZbW) ZaL))
abbrev ZlJ : Ag ((LI × LI × LI × LI)) := (.one (.agg (.one (.agg (.cons (.ints .u64 5) (.cons (.ints .u64 5) (.cons (.ints .u64 5) (.one (.ints .u64 5)))))))))
abbrev ZlK : Pt (Bool) := .bool
def Zhs (N:Nat) : Ct := fct ZlJ ZlK fun x => ZdA N x
def ZkK (N:Nat) : List (FuncId × Ct) := [(9, Zfk), (28, (Zcv N))]
def Zfl : List Gv := [⟨2, 45, (.ints .u8 32 [237, 211, 245, 92, 26, 99, 18, 88, 214, 156, 247, 162, 222, 249, 222, 20, 0, 0, 0, 0, 0, 0, 0, 0, 0, 0, 0, 0, 0, 0, 0, 16])⟩]
noncomputable def ZrR (N:Nat) : List (Nat × Lf) := []
theorem Zto (N:Nat) : RunIs Tryz.prog (ZkK N) Zfl 0 (ZrR N) Tryz.f12 ZlJ ZlK (fun x => ZdA N x) := by
 intro x; kernel_rfl
theorem Ztp {w0:World} (N:Nat)  (hcs:∀ x ∈ ZkK N, SA w0 x.1 x.2) (hg:GO w0 Zfl) : SA w0 12 (Zhs N) := by
 exact Zam hcs hg Tryz.func12 (by kernel_rfl) (by kernel_rfl) (S := 0) (fun w _ => Zal _) (fun _ => rfl) (Zto N)
theorem Ztq {w0:World} (N:Nat)  (Zah:GO w0 ZaE) (ZaD:GO w0 Zbp) (Zht:GO w0 Zfl) : SA w0 12 (Zhs N) :=
 Ztp N (Zai (ZlI Zah) (Zai (ZeF N Zah ZaD) ZaL)) Zht
abbrev ZlL : Ag ((Int × Int)) := (.cons (.int .i64) (.one (.int .i64)))
abbrev ZlM : Pt (Int) := (.int .i64)
def Zfm : Ct := fct ZlL ZlM fun x => Zc3 x.1 x.2
def ZkL : List (FuncId × Ct) := []
def ZrS : List Gv := []
noncomputable def ZrT : List (Nat × Lf) := []
theorem Ztr : RunIs Tryz.prog (ZkL) ZrS 0 (ZrT) Tryz.f55 ZlL ZlM (fun x => Zc3 x.1 x.2) := by
 intro x; kernel_rfl
theorem Zts {w0:World}  (hcs:∀ x ∈ ZkL, SA w0 x.1 x.2) : SA w0 55 Zfm := by
 exact Zam hcs (Zar _ _) Tryz.func55 (by kernel_rfl) (by kernel_rfl) (S := 0) (fun w _ => Zal _) (fun _ => rfl) (Ztr)
theorem ZlN {w0:World}  : SA w0 55 Zfm :=
 Zts ZaL
abbrev ZqT : Ag ((LI × LI)) := (.cons (.ints .u64 4) (.one (.ints .u64 4)))
abbrev ZqU : Pt ((LI × Int)) := (.tup (.cons (.ints .u64 4) (.one (.int .u64))))
def ZhZ : Ct := fct ZqT ZqU fun x => ZhB x.1 x.2
def Zpt : List (FuncId × Ct) := [(105, Zso)]
def ZwX : List Gv := []
noncomputable def ZwY : List (Nat × Lf) := []
theorem Zxu : RunIs Tryz.prog (Zpt) ZwX 0 (ZwY) Tryz.f99 ZqT ZqU (fun x => ZhB x.1 x.2) := by
 intro x; kernel_rfl
theorem Zxv {w0:World}  (hcs:∀ x ∈ Zpt, SA w0 x.1 x.2) : SA w0 99 ZhZ := by
 exact Zam hcs (Zar _ _) Tryz.func99 (by kernel_rfl) (by kernel_rfl) (S := 0) (fun w _ => Zal _) (fun _ => rfl) (Zxu)
theorem ZqV {w0:World}  : SA w0 99 ZhZ :=
 Zxv (Zai (Zz3) ZaL)
abbrev Ztt : Ag ((LI × LI)) := (.cons (.ints .u64 4) (.one (.ints .u64 4)))
abbrev Ztu : Pt ((LI × Int)) := (.tup (.cons (.ints .u64 4) (.one (.int .u64))))
def Zl0 : Ct := fct Ztt Ztu fun x => Zj6 x.1 x.2
def ZqW : List (FuncId × Ct) := [(72, ZjV)]
def Zxw : List Gv := []
noncomputable def Zxx : List (Nat × Lf) := []
theorem ZyX : RunIs Tryz.prog (ZqW) Zxw 0 (Zxx) Tryz.f100 Ztt Ztu (fun x => Zj6 x.1 x.2) := by
 intro x; kernel_rfl
theorem ZyY {w0:World}  (hcs:∀ x ∈ ZqW, SA w0 x.1 x.2) : SA w0 100 Zl0 := by
 exact Zam hcs (Zar _ _) Tryz.func100 (by kernel_rfl) (by kernel_rfl) (S := 0) (fun w _ => Zal _) (fun _ => rfl) (ZyX)
theorem ZyZ {w0:World}  : SA w0 100 Zl0 :=
 ZyY (Zai (ZoW) ZaL)
abbrev Zpu : Ag ((Int × LI × LI)) := (.cons (.int .u64) (.cons (.ints .u64 4) (.one (.ints .u64 4))))
abbrev Zpv : Pt (LI) := (.ints .u64 4)
def Zhg : Ct := tct Zpu Zpv fun x => Zei x.1 x.2.1 x.2.2
def Zn7 : List (FuncId × Ct) := []
def ZvQ : List Gv := []
noncomputable def ZvR : List (Nat × Lf) := []
theorem ZwZ : RunIs Tryz.prog (Zn7) ZvQ 0 (ZvR) Tryz.f102 Zpu Zpv (fun x => some (Zei x.1 x.2.1 x.2.2)) := by
 intro x; kernel_rfl
theorem Zw0 {w0:World}  (hcs:∀ x ∈ Zn7, SA w0 x.1 x.2) : SA w0 102 Zhg := by
 exact Zbr (Zam hcs (Zar _ _) Tryz.func102 (by kernel_rfl) (by kernel_rfl) (S := 0) (fun w _ => Zal _) (fun _ => rfl) (ZwZ)) fun _ _ => rfl
theorem Zpw {w0:World}  : SA w0 102 Zhg :=
 Zw0 ZaL
abbrev ZqX : Ag (LI) := (.one (.ints .u64 4))
abbrev ZqY : Pt (LI) := (.ints .u64 4)
def ZkM : Ct := fct ZqX ZqY fun x => ZiQ x
def Zpx : List (FuncId × Ct) := [(99, ZhZ), (102, Zhg)]
def Zcy : List Gv := [⟨10, 132, (.agg [(.ints .u64 4 [6346243789798364141, 1503914060200516822, 0, 1152921504606846976]), (.ints .u64 4 [15486807595281847581, 14334777244411350896, 18446744073709551614, 1152921504606846975]), (.ints .u64 4 [11819153939886771969, 14991950615390032711, 14910419812499177061, 259310039853996605]), (.ints .u64 4 [6346243789798364139, 1503914060200516822, 0, 1152921504606846976])])⟩]
noncomputable def Zw1 : List (Nat × Lf) := []
theorem Zxy : RunIs Tryz.prog (Zpx) Zcy 0 (Zw1) Tryz.f101 ZqX ZqY (fun x => ZiQ x) := by
 intro x; kernel_rfl
theorem Zxz {w0:World}  (hcs:∀ x ∈ Zpx, SA w0 x.1 x.2) (hg:GO w0 Zcy) : SA w0 101 ZkM := by
 exact Zam hcs hg Tryz.func101 (by kernel_rfl) (by kernel_rfl) (S := 0) (fun w _ => Zal _) (fun _ => rfl) (Zxy)
theorem ZxA {w0:World}  (Zbs:GO w0 Zcy) : SA w0 101 ZkM :=
 Zxz (Zai (ZqV) (Zai (Zpw) ZaL)) Zbs
abbrev Zjb : Ag (LI) := (.one (.ints .u64 4))
abbrev Zjc : Pt (LI) := (.ints .u64 4)
def ZfR : Ct := fct Zjb Zjc fun x => ZdR x
def Zip : List (FuncId × Ct) := [(71, ZjW), (72, ZjV), (99, ZhZ), (100, Zl0), (101, ZkM), (102, Zhg)]
def Zbu : List Gv := [⟨10, 132, (.agg [(.ints .u64 4 [6346243789798364141, 1503914060200516822, 0, 1152921504606846976]), (.ints .u64 4 [15486807595281847581, 14334777244411350896, 18446744073709551614, 1152921504606846975]), (.ints .u64 4 [11819153939886771969, 14991950615390032711, 14910419812499177061, 259310039853996605]), (.ints .u64 4 [6346243789798364139, 1503914060200516822, 0, 1152921504606846976])])⟩]
noncomputable def Zos : List (Nat × Lf) := []
theorem Zpy : RunIs Tryz.prog (Zip) Zbu 0 (Zos) Tryz.f95 Zjb Zjc (fun x => ZdR x) := by
 intro x; kernel_rfl
theorem Zpz {w0:World}  (hcs:∀ x ∈ Zip, SA w0 x.1 x.2) (hg:GO w0 Zbu) : SA w0 95 ZfR := by
 exact Zam hcs hg Tryz.func95 (by kernel_rfl) (by kernel_rfl) (S := 0) (fun w _ => Zal _) (fun _ => rfl) (Zpy)
theorem ZpA {w0:World}  (Zbs:GO w0 Zcy) (ZaT:GO w0 Zbu) : SA w0 95 ZfR :=
 Zpz (Zai (Zvi) (Zai (ZoW) (Zai (ZqV) (Zai (ZyZ) (Zai (ZxA Zbs) (Zai (Zpw) ZaL)))))) ZaT
abbrev Ziq : Ag (LI) := (.one (.ints .u64 4))
abbrev Zir : Pt (LI) := (.ints .u8 32)
def Zfn (N:Nat) : Ct := fct Ziq Zir fun x => ZdC N x
def ZdH (N:Nat) : List (FuncId × Ct) := [(95, ZfR)]
def Zfo : List Gv := []
def Zeq : Fm ((Unit × Unit × Unit × Int)) ((LI × Unit × LI)) := ⟨(.cons 1 (.lit (.ptr 0 [] 51)) (.cons 2 (.lit (.ptr 1 [] 45)) (.cons 3 (.lit (.ptr 5 [] 45)) (.one 7 (.int .i64))))), (.cons 0 (.ints .u64 4) (.cons 1 (.lit (.ints .u8 32 [0, 0, 0, 0, 0, 0, 0, 0, 0, 0, 0, 0, 0, 0, 0, 0, 0, 0, 0, 0, 0, 0, 0, 0, 0, 0, 0, 0, 0, 0, 0, 0])) (.one 5 (.ints .u8 32))))⟩
def Zer : Fm ((Unit × Unit)) ((Unit × LI)) := ⟨(.cons 2 (.lit (.ptr 1 [] 45)) (.one 3 (.lit (.ptr 5 [] 45)))), (.cons 1 (.lit (.ints .u8 32 [0, 0, 0, 0, 0, 0, 0, 0, 0, 0, 0, 0, 0, 0, 0, 0, 0, 0, 0, 0, 0, 0, 0, 0, 0, 0, 0, 0, 0, 0, 0, 0])) (.one 5 (.ints .u8 32)))⟩
def Zes : Fm (Unit) (Unit) := ⟨.nil, .nil⟩
noncomputable def Zfp (N:Nat) : List (Nat × Lf) := [(0, loopCt Zeq Zer Zes 7 (ZcP N) N)]
theorem ZjZ (N:Nat) : StepIs Tryz.prog (cxOf Tryz.f82 (ZdH N) Zfo 0) (Zfp N) Tryz.f82 0 7 Zeq Zer Zes (ZcP N) := by
 intro v; kernel_rfl
theorem Zot (N:Nat) : RunIs Tryz.prog (ZdH N) Zfo 0 (Zfp N) Tryz.f82 Ziq Zir (fun x => ZdC N x) := by
 intro x; kernel_rfl
theorem Zou {w0:World} (N:Nat)  (hcs:∀ x ∈ ZdH N, SA w0 x.1 x.2) : SA w0 82 (Zfn N) := by
 have L0 : ∀ w : Base, w.g = w0 → LoopOK Tryz.prog (cxOf Tryz.f82 (ZdH N) Zfo 0) w 0 (.loop (loopBody Tryz.f82 0)) (loopCt Zeq Zer Zes 7 (ZcP N) N) :=
  ZbH hcs (ls := Zfp N) (n := 100) (by kernel_rfl) (ZjZ N) N fun w hw => ZaB (lp_no (by kernel_rfl) ZcF)
 exact Zam hcs (Zar _ _) Tryz.func82 (by kernel_rfl) (by kernel_rfl) (S := 0) (fun w hw => ZaB (Ze2 (L0 w hw) (by kernel_rfl) ZcF)) (fun _ => rfl) (Zot N)
theorem Zov {w0:World} (N:Nat)  (Zbs:GO w0 Zcy) (ZaT:GO w0 Zbu) : SA w0 82 (Zfn N) :=
 Zou N (Zai (ZpA Zbs ZaT) ZaL)
abbrev ZkN : Ag (((LI × LI × LI × LI) × LI)) := (.cons (.agg (.one (.agg (.cons (.ints .u64 5) (.cons (.ints .u64 5) (.cons (.ints .u64 5) (.one (.ints .u64 5)))))))) (.one (.ints .u64 4)))
abbrev ZkO : Pt ((LI × LI × LI × LI)) := (.agg (.one (.agg (.cons (.ints .u64 5) (.cons (.ints .u64 5) (.cons (.ints .u64 5) (.one (.ints .u64 5))))))))
def Zg5 (N:Nat) : Ct := fct ZkN ZkO fun x => Zey N x.1 x.2
def ZjQ (N:Nat) : List (FuncId × Ct) := [(28, (Zcv N)), (82, (Zfn N))]
def Zqx : List Gv := []
noncomputable def Zqy (N:Nat) : List (Nat × Lf) := []
theorem ZrU (N:Nat) : RunIs Tryz.prog (ZjQ N) Zqx 0 (Zqy N) Tryz.f53 ZkN ZkO (fun x => Zey N x.1 x.2) := by
 intro x; kernel_rfl
theorem ZrV {w0:World} (N:Nat)  (hcs:∀ x ∈ ZjQ N, SA w0 x.1 x.2) : SA w0 53 (Zg5 N) := by
 exact Zam hcs (Zar _ _) Tryz.func53 (by kernel_rfl) (by kernel_rfl) (S := 0) (fun w _ => Zal _) (fun _ => rfl) (ZrU N)
theorem ZrW {w0:World} (N:Nat)  (Zah:GO w0 ZaE) (ZaD:GO w0 Zbp) (Zbs:GO w0 Zcy) (ZaT:GO w0 Zbu) : SA w0 53 (Zg5 N) :=
 ZrV N (Zai (ZeF N Zah ZaD) (Zai (Zov N Zbs ZaT) ZaL))
abbrev Zm3 : Ag (LI) := (.one (.ints .u8 32))
abbrev Zm4 : Pt (Bool) := .bool
def Zh0 (N:Nat) : Ct := fct Zm3 Zm4 fun x => Zf2 N x
def Zf0 (N:Nat) : List (FuncId × Ct) := []
def ZbN : List Gv := [⟨7, 44, (.ints .u8 32 [237, 211, 245, 92, 26, 99, 18, 88, 214, 156, 247, 162, 222, 249, 222, 20, 0, 0, 0, 0, 0, 0, 0, 0, 0, 0, 0, 0, 0, 0, 0, 16])⟩]
def Zg6 : Fm ((Unit × Unit × Int)) ((Unit × LI)) := ⟨(.cons 1 (.lit (.ptr 1 [] 45)) (.cons 2 (.lit (.bool false)) (.one 3 (.int .i64)))), (.cons 0 (.lit (.ints .u8 32 [237, 211, 245, 92, 26, 99, 18, 88, 214, 156, 247, 162, 222, 249, 222, 20, 0, 0, 0, 0, 0, 0, 0, 0, 0, 0, 0, 0, 0, 0, 0, 16])) (.one 1 (.ints .u8 32)))⟩
def Zg7 : Fm (Unit) (Unit) := ⟨.nil, (.one 0 (.lit (.ints .u8 32 [237, 211, 245, 92, 26, 99, 18, 88, 214, 156, 247, 162, 222, 249, 222, 20, 0, 0, 0, 0, 0, 0, 0, 0, 0, 0, 0, 0, 0, 0, 0, 16])))⟩
def Zg8 : Fm (Bool) (Unit) := ⟨(.one 2 .bool), (.one 0 (.lit (.ints .u8 32 [237, 211, 245, 92, 26, 99, 18, 88, 214, 156, 247, 162, 222, 249, 222, 20, 0, 0, 0, 0, 0, 0, 0, 0, 0, 0, 0, 0, 0, 0, 0, 16])))⟩
noncomputable def Zh1 (N:Nat) : List (Nat × Lf) := [(0, loopCt Zg6 Zg7 Zg8 4 (ZbA N) N)]
theorem ZnA (N:Nat) : StepIs Tryz.prog (cxOf Tryz.f83 (Zf0 N) ZbN 0) (Zh1 N) Tryz.f83 0 4 Zg6 Zg7 Zg8 (ZbA N) := by
 intro v; kernel_rfl
theorem ZuX (N:Nat) : RunIs Tryz.prog (Zf0 N) ZbN 0 (Zh1 N) Tryz.f83 Zm3 Zm4 (fun x => Zf2 N x) := by
 intro x; kernel_rfl
theorem ZuY {w0:World} (N:Nat)  (hcs:∀ x ∈ Zf0 N, SA w0 x.1 x.2) (hg:GO w0 ZbN) : SA w0 83 (Zh0 N) := by
 have L0 : ∀ w : Base, w.g = w0 → LoopOK Tryz.prog (cxOf Tryz.f83 (Zf0 N) ZbN 0) w 0 (.loop (loopBody Tryz.f83 0)) (loopCt Zg6 Zg7 Zg8 4 (ZbA N) N) :=
  ZbH hcs (ls := Zh1 N) (n := 100) (by kernel_rfl) (ZnA N) N fun w hw => ZaB (lp_no (by kernel_rfl) ZcF)
 exact Zam hcs hg Tryz.func83 (by kernel_rfl) (by kernel_rfl) (S := 0) (fun w hw => ZaB (Ze2 (L0 w hw) (by kernel_rfl) ZcF)) (fun _ => rfl) (ZuX N)
theorem ZuZ {w0:World} (N:Nat)  (ZbB:GO w0 ZbN) : SA w0 83 (Zh0 N) :=
 ZuY N ZaL ZbB
abbrev ZlO : Ag (LI) := (.one (.ints .u64 4))
abbrev ZlP : Pt (LI) := (.ints .u8 32)
def Zhu (N:Nat) : Ct := fct ZlO ZlP fun x => Zfx N x
def Zcf (N:Nat) : List (FuncId × Ct) := [(83, (Zh0 N))]
def Za5 : List Gv := [⟨7, 44, (.ints .u8 32 [237, 211, 245, 92, 26, 99, 18, 88, 214, 156, 247, 162, 222, 249, 222, 20, 0, 0, 0, 0, 0, 0, 0, 0, 0, 0, 0, 0, 0, 0, 0, 16])⟩]
def Zgn : Fm ((Unit × Unit × Unit × Int)) ((Unit × LI × Unit × LI)) := ⟨(.cons 1 (.lit (.ptr 1 [] 51)) (.cons 2 (.lit (.ptr 2 [] 45)) (.cons 3 (.lit (.ptr 3 [] 45)) (.one 4 (.int .i64))))), (.cons 0 (.lit (.ints .u8 32 [237, 211, 245, 92, 26, 99, 18, 88, 214, 156, 247, 162, 222, 249, 222, 20, 0, 0, 0, 0, 0, 0, 0, 0, 0, 0, 0, 0, 0, 0, 0, 16])) (.cons 1 (.ints .u64 4) (.cons 2 (.lit (.ints .u8 32 [0, 0, 0, 0, 0, 0, 0, 0, 0, 0, 0, 0, 0, 0, 0, 0, 0, 0, 0, 0, 0, 0, 0, 0, 0, 0, 0, 0, 0, 0, 0, 0])) (.one 3 (.ints .u8 32)))))⟩
def Zgo : Fm ((Unit × Unit)) ((Unit × Unit × LI)) := ⟨(.cons 2 (.lit (.ptr 2 [] 45)) (.one 3 (.lit (.ptr 3 [] 45)))), (.cons 0 (.lit (.ints .u8 32 [237, 211, 245, 92, 26, 99, 18, 88, 214, 156, 247, 162, 222, 249, 222, 20, 0, 0, 0, 0, 0, 0, 0, 0, 0, 0, 0, 0, 0, 0, 0, 16])) (.cons 2 (.lit (.ints .u8 32 [0, 0, 0, 0, 0, 0, 0, 0, 0, 0, 0, 0, 0, 0, 0, 0, 0, 0, 0, 0, 0, 0, 0, 0, 0, 0, 0, 0, 0, 0, 0, 0])) (.one 3 (.ints .u8 32))))⟩
def Zgp : Fm (Unit) (Unit) := ⟨.nil, .nil⟩
def Zgq : Fm ((Unit × Unit × Int × Int)) ((Unit × Unit × LI)) := ⟨(.cons 2 (.lit (.ptr 2 [] 45)) (.cons 3 (.lit (.ptr 3 [] 45)) (.cons 5 (.int .i64) (.one 6 (.int .i64))))), (.cons 0 (.lit (.ints .u8 32 [237, 211, 245, 92, 26, 99, 18, 88, 214, 156, 247, 162, 222, 249, 222, 20, 0, 0, 0, 0, 0, 0, 0, 0, 0, 0, 0, 0, 0, 0, 0, 16])) (.cons 2 (.lit (.ints .u8 32 [0, 0, 0, 0, 0, 0, 0, 0, 0, 0, 0, 0, 0, 0, 0, 0, 0, 0, 0, 0, 0, 0, 0, 0, 0, 0, 0, 0, 0, 0, 0, 0])) (.one 3 (.ints .u8 32))))⟩
def Zgr : Fm ((Unit × Unit)) ((Unit × Unit × LI)) := ⟨(.cons 2 (.lit (.ptr 2 [] 45)) (.one 3 (.lit (.ptr 3 [] 45)))), (.cons 0 (.lit (.ints .u8 32 [237, 211, 245, 92, 26, 99, 18, 88, 214, 156, 247, 162, 222, 249, 222, 20, 0, 0, 0, 0, 0, 0, 0, 0, 0, 0, 0, 0, 0, 0, 0, 16])) (.cons 2 (.lit (.ints .u8 32 [0, 0, 0, 0, 0, 0, 0, 0, 0, 0, 0, 0, 0, 0, 0, 0, 0, 0, 0, 0, 0, 0, 0, 0, 0, 0, 0, 0, 0, 0, 0, 0])) (.one 3 (.ints .u8 32))))⟩
def Zgs : Fm (Unit) (Unit) := ⟨.nil, .nil⟩
def Zgt : Fm ((Unit × Unit)) ((Unit × Unit × LI)) := ⟨(.cons 2 (.lit (.ptr 2 [] 45)) (.one 3 (.lit (.ptr 3 [] 45)))), (.cons 0 (.lit (.ints .u8 32 [237, 211, 245, 92, 26, 99, 18, 88, 214, 156, 247, 162, 222, 249, 222, 20, 0, 0, 0, 0, 0, 0, 0, 0, 0, 0, 0, 0, 0, 0, 0, 16])) (.cons 2 (.lit (.ints .u8 32 [0, 0, 0, 0, 0, 0, 0, 0, 0, 0, 0, 0, 0, 0, 0, 0, 0, 0, 0, 0, 0, 0, 0, 0, 0, 0, 0, 0, 0, 0, 0, 0])) (.one 3 (.ints .u8 32))))⟩
def Zgu : Fm ((Unit × Unit)) ((Unit × Unit × LI)) := ⟨(.cons 2 (.lit (.ptr 2 [] 45)) (.one 3 (.lit (.ptr 3 [] 45)))), (.cons 0 (.lit (.ints .u8 32 [237, 211, 245, 92, 26, 99, 18, 88, 214, 156, 247, 162, 222, 249, 222, 20, 0, 0, 0, 0, 0, 0, 0, 0, 0, 0, 0, 0, 0, 0, 0, 16])) (.cons 2 (.lit (.ints .u8 32 [0, 0, 0, 0, 0, 0, 0, 0, 0, 0, 0, 0, 0, 0, 0, 0, 0, 0, 0, 0, 0, 0, 0, 0, 0, 0, 0, 0, 0, 0, 0, 0])) (.one 3 (.ints .u8 32))))⟩
def Zgv : Fm (Unit) (Unit) := ⟨.nil, .nil⟩
noncomputable def ZcC (N:Nat) : List (Nat × Lf) := [(0, loopCt Zgn Zgo Zgp 5 (ZdS N) N), (4, loopCt Zgq Zgr Zgs 10 (ZbP N) N), (2, loopCt Zgt Zgu Zgv 5 (Zbb N) N)]
theorem Zm5 (N:Nat) : StepIs Tryz.prog (cxOf Tryz.f54 (Zcf N) Za5 0) (ZcC N) Tryz.f54 0 5 Zgn Zgo Zgp (ZdS N) := by
 intro v; kernel_rfl
theorem Zm6 (N:Nat) : StepIs Tryz.prog (cxOf Tryz.f54 (Zcf N) Za5 0) (ZcC N) Tryz.f54 4 10 Zgq Zgr Zgs (ZbP N) := by
 intro v; kernel_rfl
theorem Zm7 (N:Nat) : StepIs Tryz.prog (cxOf Tryz.f54 (Zcf N) Za5 0) (ZcC N) Tryz.f54 2 5 Zgt Zgu Zgv (Zbb N) := by
 intro v; kernel_rfl
theorem Ztv (N:Nat) : RunIs Tryz.prog (Zcf N) Za5 0 (ZcC N) Tryz.f54 ZlO ZlP (fun x => Zfx N x) := by
 intro x; kernel_rfl
theorem Ztw {w0:World} (N:Nat)  (hcs:∀ x ∈ Zcf N, SA w0 x.1 x.2) (hg:GO w0 Za5) : SA w0 54 (Zhu N) := by
 have L0 : ∀ w : Base, w.g = w0 → LoopOK Tryz.prog (cxOf Tryz.f54 (Zcf N) Za5 0) w 0 (.loop (loopBody Tryz.f54 0)) (loopCt Zgn Zgo Zgp 5 (ZdS N) N) :=
  ZbH hcs (ls := ZcC N) (n := 100) (by kernel_rfl) (Zm5 N) N fun w hw => ZaB (lp_no (by kernel_rfl) (lp_no (by kernel_rfl) (lp_no (by kernel_rfl) ZcF)))
 have L4 : ∀ w : Base, w.g = w0 → LoopOK Tryz.prog (cxOf Tryz.f54 (Zcf N) Za5 0) w 4 (.loop (loopBody Tryz.f54 4)) (loopCt Zgq Zgr Zgs 10 (ZbP N) N) :=
  ZbH hcs (ls := ZcC N) (n := 100) (by kernel_rfl) (Zm6 N) N fun w hw => ZaB (lp_no (by kernel_rfl) (lp_no (by kernel_rfl) (lp_no (by kernel_rfl) ZcF)))
 have L2 : ∀ w : Base, w.g = w0 → LoopOK Tryz.prog (cxOf Tryz.f54 (Zcf N) Za5 0) w 2 (.loop (loopBody Tryz.f54 2)) (loopCt Zgt Zgu Zgv 5 (Zbb N) N) :=
  ZbH hcs (ls := ZcC N) (n := 100) (by kernel_rfl) (Zm7 N) N fun w hw => ZaB (lp_no (by kernel_rfl) (Ze2 (L4 w hw) (by kernel_rfl) (lp_no (by kernel_rfl) ZcF)))
 exact Zam hcs hg Tryz.func54 (by kernel_rfl) (by kernel_rfl) (S := 0) (fun w hw => ZaB (Ze2 (L0 w hw) (by kernel_rfl) (Ze2 (L4 w hw) (by kernel_rfl) (Ze2 (L2 w hw) (by kernel_rfl) ZcF)))) (fun _ => rfl) (Ztv N)
theorem Ztx {w0:World} (N:Nat)  (ZbB:GO w0 ZbN) (ZbT:GO w0 Za5) : SA w0 54 (Zhu N) :=
 Ztw N (Zai (ZuZ N ZbB) ZaL) ZbT
abbrev Zw2 : Ag ((List ((LI × LI × LI × LI)) × Unit)) := (.one (.tup (.cons (.vec (.agg (.agg (.cons (.ints .u64 5) (.cons (.ints .u64 5) (.cons (.ints .u64 5) (.ints .u64 5))))))) (.one (.lit (.clo 36 []))))))
abbrev Zw3 : Pt ((LI × LI × LI × LI)) := (.agg (.one (.agg (.cons (.ints .u64 5) (.cons (.ints .u64 5) (.cons (.ints .u64 5) (.one (.ints .u64 5))))))))
def ZpB (N:Nat) : Ct := fct Zw2 Zw3 fun x => ZiP N x
def ZlQ (N:Nat) : List (FuncId × Ct) := [(45, Zdt)]
def ZpC : List Gv := []
def Zl1 : Fm ((Unit × Unit × Nat × Int × Int)) ((List ((LI × LI × LI × LI)) × Unit × (LI × LI × LI × LI))) := ⟨(.cons 2 (.lit (.ptr 1 [] 36)) (.cons 3 (.lit (.ptr 2 [] 36)) (.cons 6 (.slw 0 36) (.cons 7 (.int .i64) (.one 8 (.int .i64)))))), (.cons 0 (.vec (.agg (.agg (.cons (.ints .u64 5) (.cons (.ints .u64 5) (.cons (.ints .u64 5) (.ints .u64 5))))))) (.cons 1 (.lit (.agg [(.agg [(.ints .u64 5 [0, 0, 0, 0, 0]), (.ints .u64 5 [0, 0, 0, 0, 0]), (.ints .u64 5 [0, 0, 0, 0, 0]), (.ints .u64 5 [0, 0, 0, 0, 0])])])) (.one 2 (.agg (.one (.agg (.cons (.ints .u64 5) (.cons (.ints .u64 5) (.cons (.ints .u64 5) (.one (.ints .u64 5)))))))))))⟩
def Zl2 : Fm ((Unit × Unit)) ((Unit × (LI × LI × LI × LI))) := ⟨(.cons 2 (.lit (.ptr 1 [] 36)) (.one 3 (.lit (.ptr 2 [] 36)))), (.cons 1 (.lit (.agg [(.agg [(.ints .u64 5 [0, 0, 0, 0, 0]), (.ints .u64 5 [0, 0, 0, 0, 0]), (.ints .u64 5 [0, 0, 0, 0, 0]), (.ints .u64 5 [0, 0, 0, 0, 0])])])) (.one 2 (.agg (.one (.agg (.cons (.ints .u64 5) (.cons (.ints .u64 5) (.cons (.ints .u64 5) (.one (.ints .u64 5))))))))))⟩
def Zl3 : Fm (Unit) (Unit) := ⟨.nil, .nil⟩
noncomputable def ZpD (N:Nat) : List (Nat × Lf) := [(0, loopCt Zl1 Zl2 Zl3 6 (Ze1 N) N)]
theorem Zu0 (N:Nat) : StepIs Tryz.prog (cxOf Tryz.f56 (ZlQ N) ZpC 1) (ZpD N) Tryz.f56 0 6 Zl1 Zl2 Zl3 (Ze1 N) := by
 intro v; kernel_rfl
theorem ZA2 (N:Nat) : RunIs Tryz.prog (ZlQ N) ZpC 1 (ZpD N) Tryz.f56 Zw2 Zw3 (fun x => ZiP N x) := by
 intro x; kernel_rfl
theorem ZA3 {w0:World} (N:Nat)  (hcs:∀ x ∈ ZlQ N, SA w0 x.1 x.2) : SA w0 56 (ZpB N) := by
 have L0 : ∀ w : Base, w.g = w0 → LoopOK Tryz.prog (cxOf Tryz.f56 (ZlQ N) ZpC 1) w 0 (.loop (loopBody Tryz.f56 0)) (loopCt Zl1 Zl2 Zl3 6 (Ze1 N) N) :=
  ZbH hcs (ls := ZpD N) (n := 100) (by kernel_rfl) (Zu0 N) N fun w hw => ZaB (lp_no (by kernel_rfl) ZcF)
 exact Zam hcs (Zar _ _) Tryz.func56 (by kernel_rfl) (by kernel_rfl) (S := 1) (fun w hw => ZaB (Ze2 (L0 w hw) (by kernel_rfl) ZcF)) (fun _ => rfl) (ZA2 N)
theorem ZA4 {w0:World} (N:Nat)  (Zah:GO w0 ZaE) (ZaD:GO w0 Zbp) : SA w0 56 (ZpB N) :=
 ZA3 N (Zai (ZgM Zah ZaD) ZaL)
abbrev ZpE : Ag ((List ((LI × LI)) × Unit)) := (.one (.tup (.cons (.vec (.agg (.cons (.ints .i64 10) (.ints .i64 10)))) (.one (.lit (.clo 41 []))))))
abbrev ZpF : Pt ((LI × LI)) := (.agg (.cons (.ints .i64 10) (.one (.ints .i64 10))))
def Zjp (N:Nat) : Ct := fct ZpE ZpF fun x => Zeh N x
def Zhh (N:Nat) : List (FuncId × Ct) := [(7, Zbd), (49, (Zc9 N))]
def Zjq : List Gv := []
def Zh2 : Fm ((Nat × Unit × Unit × Int)) ((List ((LI × LI)) × Unit × (LI × LI))) := ⟨(.cons 0 (.slw 0 41) (.cons 2 (.lit (.ptr 1 [] 41)) (.cons 3 (.lit (.ptr 3 [] 41)) (.one 4 (.int .i64))))), (.cons 0 (.vec (.agg (.cons (.ints .i64 10) (.ints .i64 10)))) (.cons 1 (.lit (.agg [(.ints .i64 10 [0, 0, 0, 0, 0, 0, 0, 0, 0, 0]), (.ints .i64 10 [0, 0, 0, 0, 0, 0, 0, 0, 0, 0])])) (.one 3 (.agg (.cons (.ints .i64 10) (.one (.ints .i64 10)))))))⟩
def Zh3 : Fm ((Unit × Unit)) ((Unit × (LI × LI))) := ⟨(.cons 2 (.lit (.ptr 1 [] 41)) (.one 3 (.lit (.ptr 3 [] 41)))), (.cons 1 (.lit (.agg [(.ints .i64 10 [0, 0, 0, 0, 0, 0, 0, 0, 0, 0]), (.ints .i64 10 [0, 0, 0, 0, 0, 0, 0, 0, 0, 0])])) (.one 3 (.agg (.cons (.ints .i64 10) (.one (.ints .i64 10))))))⟩
def Zh4 : Fm (Unit) (Unit) := ⟨.nil, .nil⟩
noncomputable def Zjr (N:Nat) : List (Nat × Lf) := [(0, loopCt Zh2 Zh3 Zh4 6 (Zc4 N) N)]
theorem ZpG (N:Nat) : StepIs Tryz.prog (cxOf Tryz.f57 (Zhh N) Zjq 1) (Zjr N) Tryz.f57 0 6 Zh2 Zh3 Zh4 (Zc4 N) := by
 intro v; kernel_rfl
theorem Zw4 (N:Nat) : RunIs Tryz.prog (Zhh N) Zjq 1 (Zjr N) Tryz.f57 ZpE ZpF (fun x => Zeh N x) := by
 intro x; kernel_rfl
theorem Zw5 {w0:World} (N:Nat)  (hcs:∀ x ∈ Zhh N, SA w0 x.1 x.2) : SA w0 57 (Zjp N) := by
 have L0 : ∀ w : Base, w.g = w0 → LoopOK Tryz.prog (cxOf Tryz.f57 (Zhh N) Zjq 1) w 0 (.loop (loopBody Tryz.f57 0)) (loopCt Zh2 Zh3 Zh4 6 (Zc4 N) N) :=
  ZbH hcs (ls := Zjr N) (n := 100) (by kernel_rfl) (ZpG N) N fun w hw => ZaB (lp_no (by kernel_rfl) ZcF)
 exact Zam hcs (Zar _ _) Tryz.func57 (by kernel_rfl) (by kernel_rfl) (S := 1) (fun w hw => ZaB (Ze2 (L0 w hw) (by kernel_rfl) ZcF)) (fun _ => rfl) (Zw4 N)
theorem Zw6 {w0:World} (N:Nat)  (Zao:GO w0 ZaS) (Zaf:GO w0 Zaq) (Zaj:GO w0 Zaz) (ZaF:GO w0 Zba) : SA w0 57 (Zjp N) :=
 Zw5 N (Zai (ZbR Zao) (Zai (Zgm N Zaf Zaj ZaF) ZaL))
abbrev Zjd : Ag (((LI × LI × LI) × (LI × LI × LI) × LI)) := (.cons (.agg (.cons (.ints .i64 10) (.cons (.ints .i64 10) (.one (.ints .i64 10))))) (.cons (.agg (.cons (.ints .i64 10) (.cons (.ints .i64 10) (.one (.ints .i64 10))))) (.one (.ints .i64 10))))
abbrev Zje : Pt ((LI × LI × LI)) := (.agg (.cons (.ints .i64 10) (.cons (.ints .i64 10) (.one (.ints .i64 10)))))
def ZfS (N:Nat) : Ct := fct Zjd Zje fun x => ZbD N x.1 x.2.1 x.2.2
def Zis (N:Nat) : List (FuncId × Ct) := [(17, (Za9 N)), (37, (Zdv N)), (39, (Zcr N))]
def Zbv : List Gv := [⟨1, 39, (.ints .i64 10 [1, 0, 0, 0, 0, 0, 0, 0, 0, 0])⟩]
noncomputable def Zow (N:Nat) : List (Nat × Lf) := []
theorem ZpH (N:Nat) : RunIs Tryz.prog (Zis N) Zbv 0 (Zow N) Tryz.f47 Zjd Zje (fun x => ZbD N x.1 x.2.1 x.2.2) := by
 intro x; kernel_rfl
theorem ZpI {w0:World} (N:Nat)  (hcs:∀ x ∈ Zis N, SA w0 x.1 x.2) (hg:GO w0 Zbv) : SA w0 47 (ZfS N) := by
 exact Zam hcs hg Tryz.func47 (by kernel_rfl) (by kernel_rfl) (S := 0) (fun w _ => Zal _) (fun _ => rfl) (ZpH N)
theorem ZpJ {w0:World} (N:Nat)  (Zaf:GO w0 Zaq) (Zaj:GO w0 Zaz) (ZaP:GO w0 Zbv) : SA w0 47 (ZfS N) :=
 ZpI N (Zai (ZbK N Zaf) (Zai (ZgO N Zaf Zaj) (Zai (ZdO N Zaf) ZaL))) ZaP
abbrev Zh5 : Ag (((LI × LI) × LI)) := (.cons (.agg (.cons (.ints .i64 10) (.one (.ints .i64 10)))) (.one (.ints .u8 32)))
abbrev Zh6 : Pt ((LI × LI)) := (.agg (.cons (.ints .i64 10) (.one (.ints .i64 10))))
def Zdx (N:Nat) : Ct := fct Zh5 Zh6 fun x => Zb6 N x.1 x.2
def Zdy (N:Nat) : List (FuncId × Ct) := [(17, (Za9 N)), (18, (ZcI N)), (38, ZfG), (47, (ZfS N))]
def Za1 : List Gv := [⟨1, 39, (.ints .i64 10 [1, 0, 0, 0, 0, 0, 0, 0, 0, 0])⟩]
def Zd6 : Fm ((Unit × Unit × Unit × Unit × Unit × Bool × Int)) ((Unit × LI × Unit × LI × (LI × LI × LI) × (LI × LI × LI))) := ⟨(.cons 3 (.lit (.ptr 2 [] 45)) (.cons 4 (.lit (.ptr 3 [] 41)) (.cons 5 (.lit (.ptr 5 [] 39)) (.cons 6 (.lit (.ptr 13 [] 86)) (.cons 7 (.lit (.ptr 18 [] 86)) (.cons 8 .bool (.one 9 (.int .i64)))))))), (.cons 0 (.lit (.ints .i64 10 [1, 0, 0, 0, 0, 0, 0, 0, 0, 0])) (.cons 2 (.ints .u8 32) (.cons 3 (.lit (.agg [(.ints .i64 10 [0, 0, 0, 0, 0, 0, 0, 0, 0, 0]), (.ints .i64 10 [0, 0, 0, 0, 0, 0, 0, 0, 0, 0])])) (.cons 5 (.ints .i64 10) (.cons 13 (.agg (.cons (.ints .i64 10) (.cons (.ints .i64 10) (.one (.ints .i64 10))))) (.one 18 (.agg (.cons (.ints .i64 10) (.cons (.ints .i64 10) (.one (.ints .i64 10)))))))))))⟩
def Zd7 : Fm ((Unit × Unit)) ((Unit × Unit × (LI × LI × LI))) := ⟨(.cons 4 (.lit (.ptr 3 [] 41)) (.one 7 (.lit (.ptr 18 [] 86)))), (.cons 0 (.lit (.ints .i64 10 [1, 0, 0, 0, 0, 0, 0, 0, 0, 0])) (.cons 3 (.lit (.agg [(.ints .i64 10 [0, 0, 0, 0, 0, 0, 0, 0, 0, 0]), (.ints .i64 10 [0, 0, 0, 0, 0, 0, 0, 0, 0, 0])])) (.one 18 (.agg (.cons (.ints .i64 10) (.cons (.ints .i64 10) (.one (.ints .i64 10))))))))⟩
def Zd8 : Fm (Unit) (Unit) := ⟨.nil, .nil⟩
noncomputable def ZeG (N:Nat) : List (Nat × Lf) := [(0, loopCt Zd6 Zd7 Zd8 22 (Za0 N) N)]
theorem Zjs (N:Nat) : StepIs Tryz.prog (cxOf Tryz.f29 (Zdy N) Za1 0) (ZeG N) Tryz.f29 0 22 Zd6 Zd7 Zd8 (Za0 N) := by
 intro v; kernel_rfl
theorem ZnB (N:Nat) : RunIs Tryz.prog (Zdy N) Za1 0 (ZeG N) Tryz.f29 Zh5 Zh6 (fun x => Zb6 N x.1 x.2) := by
 intro x; kernel_rfl
theorem ZnC {w0:World} (N:Nat)  (hcs:∀ x ∈ Zdy N, SA w0 x.1 x.2) (hg:GO w0 Za1) : SA w0 29 (Zdx N) := by
 have L0 : ∀ w : Base, w.g = w0 → LoopOK Tryz.prog (cxOf Tryz.f29 (Zdy N) Za1 0) w 0 (.loop (loopBody Tryz.f29 0)) (loopCt Zd6 Zd7 Zd8 22 (Za0 N) N) :=
  ZbH hcs (ls := ZeG N) (n := 100) (by kernel_rfl) (Zjs N) N fun w hw => ZaB (lp_no (by kernel_rfl) ZcF)
 exact Zam hcs hg Tryz.func29 (by kernel_rfl) (by kernel_rfl) (S := 0) (fun w hw => ZaB (Ze2 (L0 w hw) (by kernel_rfl) ZcF)) (fun _ => rfl) (ZnB N)
theorem Zh7 {w0:World} (N:Nat)  (Zaf:GO w0 Zaq) (Zaj:GO w0 Zaz) (ZaP:GO w0 Zbv) (ZaR:GO w0 Za1) : SA w0 29 (Zdx N) :=
 ZnC N (Zai (ZbK N Zaf) (Zai (Zet N Zaf) (Zai (ZjY) (Zai (ZpJ N Zaf Zaj ZaP) ZaL)))) ZaR
abbrev Zm8 : Ag (Unit) := .nil
abbrev Zm9 : Pt (LI) := (.ints .u8 32)
def Zh8 : Ct := tct Zm8 Zm9 fun x => Zf1
def ZlR : List (FuncId × Ct) := []
def Zty : List Gv := []
noncomputable def Ztz : List (Nat × Lf) := []
theorem Zu1 : RunIs Tryz.prog (ZlR) Zty 0 (Ztz) Tryz.f30 Zm8 Zm9 (fun x => some (Zf1)) := by
 intro x; kernel_rfl
theorem Zu2 {w0:World}  (hcs:∀ x ∈ ZlR, SA w0 x.1 x.2) : SA w0 30 Zh8 := by
 exact Zbr (Zam hcs (Zar _ _) Tryz.func30 (by kernel_rfl) (by kernel_rfl) (S := 0) (fun w _ => Zal _) (fun _ => rfl) (Zu1)) fun _ _ => rfl
theorem Zu3 {w0:World}  : SA w0 30 Zh8 :=
 Zu2 ZaL
abbrev Zit : Ag ((LI × LI)) := (.one (.agg (.cons (.ints .i64 10) (.one (.ints .i64 10)))))
abbrev Ziu : Pt (Bool) := .bool
def Zfq (N:Nat) : Ct := fct Zit Ziu fun x => ZcZ N x
def Zh9 (N:Nat) : List (FuncId × Ct) := [(7, Zbd), (29, (Zdx N)), (30, Zh8)]
def ZnD : List Gv := []
noncomputable def ZnE (N:Nat) : List (Nat × Lf) := []
theorem Zox (N:Nat) : RunIs Tryz.prog (Zh9 N) ZnD 0 (ZnE N) Tryz.f13 Zit Ziu (fun x => ZcZ N x) := by
 intro x; kernel_rfl
theorem Zoy {w0:World} (N:Nat)  (hcs:∀ x ∈ Zh9 N, SA w0 x.1 x.2) : SA w0 13 (Zfq N) := by
 exact Zam hcs (Zar _ _) Tryz.func13 (by kernel_rfl) (by kernel_rfl) (S := 0) (fun w _ => Zal _) (fun _ => rfl) (Zox N)
theorem Zoz {w0:World} (N:Nat)  (Zao:GO w0 ZaS) (Zaf:GO w0 Zaq) (Zaj:GO w0 Zaz) (ZaP:GO w0 Zbv) (ZaR:GO w0 Za1) : SA w0 13 (Zfq N) :=
 Zoy N (Zai (ZbR Zao) (Zai (Zh7 N Zaf Zaj ZaP ZaR) (Zai (Zu3) ZaL)))
abbrev ZgP : Ag ((LI × LI)) := (.one (.agg (.cons (.ints .i64 10) (.one (.ints .i64 10)))))
abbrev ZgQ : Pt (LI) := (.ints .u8 32)
def Zd3 (N:Nat) : Ct := fct ZgP ZgQ fun x => ZcE N x
def Zgw (N:Nat) : List (FuncId × Ct) := [(26, (Zen N)), (27, Zfd)]
def ZkP : List Gv := []
noncomputable def ZkQ (N:Nat) : List (Nat × Lf) := []
theorem ZkX (N:Nat) : RunIs Tryz.prog (Zgw N) ZkP 0 (ZkQ N) Tryz.f11 ZgP ZgQ (fun x => ZcE N x) := by
 intro x; kernel_rfl
theorem ZkY {w0:World} (N:Nat)  (hcs:∀ x ∈ Zgw N, SA w0 x.1 x.2) : SA w0 11 (Zd3 N) := by
 exact Zam hcs (Zar _ _) Tryz.func11 (by kernel_rfl) (by kernel_rfl) (S := 0) (fun w _ => Zal _) (fun _ => rfl) (ZkX N)
theorem ZkZ {w0:World} (N:Nat)  : SA w0 11 (Zd3 N) :=
 ZkY N (Zai (ZjO N) (Zai (Zoh) ZaL))
def Zgx : Ag ((Unit × Int)) := (.cons (.lit (.ptr 32 [] 29)) (.one (.int .i64)))
def Zgy : Ent (((Nat × Nat) × List ((LI × LI × LI × LI)) × List ((LI × LI)))) := (.cons 32 (.agg (.cons (.slw 33 36) (.one (.slw 34 41)))) (.cons 33 (.vec (.agg (.agg (.cons (.ints .u64 5) (.cons (.ints .u64 5) (.cons (.ints .u64 5) (.ints .u64 5))))))) (.one 34 (.vec (.agg (.cons (.ints .i64 10) (.ints .i64 10)))))))
def Zgz : Ent (Unit) := .nil
def ZgA : Pt (((LI × LI × LI × LI) × (LI × LI))) := (.tup (.cons (.agg (.one (.agg (.cons (.ints .u64 5) (.cons (.ints .u64 5) (.cons (.ints .u64 5) (.one (.ints .u64 5)))))))) (.one (.agg (.cons (.ints .i64 10) (.one (.ints .i64 10)))))))
def ZgB : Ent (Unit) := .nil
abbrev Zda (w0:World) : Prop := SoundIo Tryz.prog w0 48 64 88 Zgx Zgy Zgz ZgA ZgB [32, 33, 34] (fun x => Zcp x.1 x.2.1 x.2.2)
def ZgC : List (FuncId × Ct) := [(7, Zbd), (55, Zfm)]
def Zjf : List Gv := []
noncomputable abbrev Zjg : List (FuncId × Inl) := []
theorem ZnF {w0:World} (hcs:∀ x ∈ ZgC, SA w0 x.1 x.2) : AllOK Tryz.prog w0 Zjf 64 (Zjg) := Zna
noncomputable def ZpK : List (Nat × Lf) := []
theorem Zqz : IoRunIs Tryz.prog (ZgC) Zjf 64 (Zjg) (ZpK) Tryz.f48 88 Zgx Zgy Zgz ZgA ZgB [32, 33, 34] (fun x => Zcp x.1 x.2.1 x.2.2) := by
 intro x; kernel_rfl
theorem ZqA {w0:World}  (hcs:∀ x ∈ ZgC, SA w0 x.1 x.2) : Zda w0 := by
 exact Znb hcs (Zar _ _) (ZnF hcs) Tryz.func48 (by kernel_rfl) (by kernel_rfl) (fun w _ _ => Zal _) (by kernel_rfl) (Zqz)
theorem ZqB {w0:World}  (Zao:GO w0 ZaS) : Zda w0 :=
 ZqA (Zai (ZbR Zao) (Zai (ZlN) ZaL))
def ZeH : Ag ((Unit × (Int × Int × Int × Int × LI × LI × LI × LI))) := (.cons (.lit (.ptr 64 [] 29)) (.one (.agg (.cons (.int .i64) (.cons (.int .i64) (.cons (.int .i64) (.cons (.int .i64) (.cons (.ints .u8 32) (.cons (.ints .u64 4) (.cons (.ints .u64 5) (.one (.ints .u64 5))))))))))))
def ZeI : Ent (Unit) := .nil
def ZeJ : Ent (((Nat × Nat) × List ((LI × LI × LI × LI)) × List ((LI × LI)))) := (.cons 64 (.agg (.cons (.gsw 65 36) (.one (.gsw 66 41)))) (.cons 65 (.vec (.agg (.agg (.cons (.ints .u64 5) (.cons (.ints .u64 5) (.cons (.ints .u64 5) (.ints .u64 5))))))) (.one 66 (.vec (.agg (.cons (.ints .i64 10) (.ints .i64 10)))))))
def ZeK : Pt (Bool) := .bool
def ZeL : Ent (((Nat × Nat) × List ((LI × LI × LI × LI)) × List ((LI × LI)))) := (.cons 64 (.agg (.cons (.gsw 65 36) (.one (.gsw 66 41)))) (.cons 65 (.vec (.agg (.agg (.cons (.ints .u64 5) (.cons (.ints .u64 5) (.cons (.ints .u64 5) (.ints .u64 5))))))) (.one 66 (.vec (.agg (.cons (.ints .i64 10) (.ints .i64 10)))))))
abbrev ZbZ (w0:World) (N:Nat) : Prop := SoundIo Tryz.prog w0 33 64 91 ZeH ZeI ZeJ ZeK ZeL [64] (fun x => Zb7 N x.1 x.2.1 x.2.2)
def ZeM (N:Nat) : List (FuncId × Ct) := [(6, ZhQ), (7, Zbd), (8, (ZeE N)), (14, (ZdW N)), (58, Zjn), (59, (Zg3 N)), (60, Zhl), (61, (Zfi N)), (62, (Zkz N)), (63, (Zhm N)), (64, (Zfj N))]
def ZhG : List Gv := []
noncomputable abbrev ZhH (N:Nat) : List (FuncId × Inl) := []
theorem Zk0 {w0:World} (N:Nat) (hcs:∀ x ∈ ZeM N, SA w0 x.1 x.2) : AllOK Tryz.prog w0 ZhG 64 (ZhH N) := Zna
noncomputable def Znc (N:Nat) : List (Nat × Lf) := []
theorem ZnG (N:Nat) : IoRunIs Tryz.prog (ZeM N) ZhG 64 (ZhH N) (Znc N) Tryz.f33 91 ZeH ZeI ZeJ ZeK ZeL [64] (fun x => Zb7 N x.1 x.2.1 x.2.2) := by
 intro x; kernel_rfl
theorem ZnH {w0:World} (N:Nat)  (hcs:∀ x ∈ ZeM N, SA w0 x.1 x.2) : ZbZ w0 N := by
 exact Znb hcs (Zar _ _) (Zk0 N hcs) Tryz.func33 (by kernel_rfl) (by kernel_rfl) (fun w _ _ => Zal _) (by kernel_rfl) (ZnG N)
theorem ZnI {w0:World} (N:Nat)  (Zci:GO w0 Zem) (Zao:GO w0 ZaS) (Zaf:GO w0 Zaq) (Zaj:GO w0 Zaz) (ZaI:GO w0 Zby) (Zaw:GO w0 Za2) (ZaW:GO w0 Zcg) (Zah:GO w0 ZaE) (Zcz:GO w0 ZdB) (ZaF:GO w0 Zba) (ZbJ:GO w0 Za6) (Zbx:GO w0 ZcN) (ZcV:GO w0 Zfa) (ZbQ:GO w0 ZcB) (Zce:GO w0 Zdq) (Za8:GO w0 Zb4) (Zdp:GO w0 Ze3) (Zbe:GO w0 ZbS) : ZbZ w0 N :=
 ZnH N (Zai (Zpa Zci) (Zai (ZbR Zao) (Zai (Zjo N Zaf Zaj ZaI Zaw ZaW) (Zai (ZhY N Zah) (Zai (ZwR Zcz) (Zai (ZrM N Zao Zaf Zaj ZaF ZbJ) (Zai (ZsP Zbx ZcV ZbQ) (Zai (Zoo N Zao Zaf Zaj Zce) (Zai (Zxm N Zaf) (Zai (ZsT N ZcV Zbx Za8 Zdp) (Zai (Zor N Zao Zaf Zaj ZaI Zaw ZaW Zbe) ZaL)))))))))))
def ZeN : Ag ((Unit × (Int × Int × Int × Int × LI × LI × LI × LI))) := (.cons (.lit (.ptr 64 [] 29)) (.one (.agg (.cons (.int .i64) (.cons (.int .i64) (.cons (.int .i64) (.cons (.int .i64) (.cons (.ints .u8 32) (.cons (.ints .u64 4) (.cons (.ints .u64 5) (.one (.ints .u64 5))))))))))))
def ZeO : Ent (Unit) := .nil
def ZeP : Ent (((Nat × Nat) × List ((LI × LI × LI × LI)) × List ((LI × LI)))) := (.cons 64 (.agg (.cons (.gsw 65 36) (.one (.gsw 66 41)))) (.cons 65 (.vec (.agg (.agg (.cons (.ints .u64 5) (.cons (.ints .u64 5) (.cons (.ints .u64 5) (.ints .u64 5))))))) (.one 66 (.vec (.agg (.cons (.ints .i64 10) (.ints .i64 10)))))))
def ZeQ : Pt (Bool) := .bool
def ZeR : Ent (((Nat × Nat) × List ((LI × LI × LI × LI)) × List ((LI × LI)))) := (.cons 64 (.agg (.cons (.gsw 65 36) (.one (.gsw 66 41)))) (.cons 65 (.vec (.agg (.agg (.cons (.ints .u64 5) (.cons (.ints .u64 5) (.cons (.ints .u64 5) (.ints .u64 5))))))) (.one 66 (.vec (.agg (.cons (.ints .i64 10) (.ints .i64 10)))))))
abbrev Zb0 (w0:World) (N:Nat) : Prop := SoundIo Tryz.prog w0 32 64 91 ZeN ZeO ZeP ZeQ ZeR [64] (fun x => ZcD N x.1 x.2.1 x.2.2)
def Zb5 (N:Nat) : List (FuncId × Ct) := [(14, (ZdW N)), (28, (Zcv N)), (29, (Zdx N)), (45, Zdt), (46, Zek), (49, (Zc9 N)), (50, ZhP), (51, ZfN), (52, ZfU), (53, (Zg5 N)), (54, (Zhu N)), (55, Zfm), (56, (ZpB N)), (57, (Zjp N))]
def ZcJ : List Gv := []
noncomputable abbrev Zhc (N:Nat) : List (FuncId × Inl) := ((48, (Inl.ct Tryz.prog 64 64 88 Zgx Zgy Zgz ZgA ZgB [32, 33, 34] (fun x => Zcp x.1 x.2.1 x.2.2))) :: [])
theorem ZkR {w0:World} (N:Nat) (hcs:∀ x ∈ Zb5 N, SA w0 x.1 x.2) (hf48:Zda w0) : AllOK Tryz.prog w0 ZcJ 64 (Zhc N) := Znd (ZAh hf48 (by kernel_rfl) rfl) Zna
noncomputable abbrev Zdz (N:Nat) : List (FuncId × Inl) := (Zhc N)
theorem ZgR {w0:World} (N:Nat) (hcs:∀ x ∈ Zb5 N, SA w0 x.1 x.2) (hf48:Zda w0) : AllOK Tryz.prog w0 ZcJ 64 (Zdz N) := (ZkR N hcs hf48)
def Zd9 : Fm ((Unit × Unit × Unit × Unit × Int × Int × Nat × Int)) (((Nat × Nat) × List ((LI × LI × LI × LI)) × List ((LI × LI)) × List ((LI × LI × LI × LI)) × (LI × LI × LI × LI) × (LI × LI))) := ⟨(.cons 0 (.lit (.ptr 64 [] 29)) (.cons 4 (.lit (.bool false)) (.cons 9 (.lit (.ptr 315 [] 36)) (.cons 10 (.lit (.ptr 316 [] 41)) (.cons 11 (.int .i64) (.cons 12 (.int .i64) (.cons 13 (.gsw 67 36) (.one 14 (.int .i64))))))))), (.cons 64 (.agg (.cons (.gsw 65 36) (.one (.gsw 66 41)))) (.cons 65 (.vec (.agg (.agg (.cons (.ints .u64 5) (.cons (.ints .u64 5) (.cons (.ints .u64 5) (.ints .u64 5))))))) (.cons 66 (.vec (.agg (.cons (.ints .i64 10) (.ints .i64 10)))) (.cons 67 (.vec (.agg (.agg (.cons (.ints .u64 5) (.cons (.ints .u64 5) (.cons (.ints .u64 5) (.ints .u64 5))))))) (.cons 315 (.agg (.one (.agg (.cons (.ints .u64 5) (.cons (.ints .u64 5) (.cons (.ints .u64 5) (.one (.ints .u64 5)))))))) (.one 316 (.agg (.cons (.ints .i64 10) (.one (.ints .i64 10))))))))))⟩
def Zea : Fm ((Unit × Unit × Unit)) (((Nat × Nat) × List ((LI × LI × LI × LI)) × List ((LI × LI)) × (LI × LI × LI × LI) × (LI × LI))) := ⟨(.cons 0 (.lit (.ptr 64 [] 29)) (.cons 9 (.lit (.ptr 315 [] 36)) (.one 10 (.lit (.ptr 316 [] 41))))), (.cons 64 (.agg (.cons (.gsw 65 36) (.one (.gsw 66 41)))) (.cons 65 (.vec (.agg (.agg (.cons (.ints .u64 5) (.cons (.ints .u64 5) (.cons (.ints .u64 5) (.ints .u64 5))))))) (.cons 66 (.vec (.agg (.cons (.ints .i64 10) (.ints .i64 10)))) (.cons 315 (.agg (.one (.agg (.cons (.ints .u64 5) (.cons (.ints .u64 5) (.cons (.ints .u64 5) (.one (.ints .u64 5)))))))) (.one 316 (.agg (.cons (.ints .i64 10) (.one (.ints .i64 10)))))))))⟩
def Zeb : Fm (Unit) (((Nat × Nat) × List ((LI × LI × LI × LI)) × List ((LI × LI)))) := ⟨(.one 4 (.lit (.bool false))), (.cons 64 (.agg (.cons (.gsw 65 36) (.one (.gsw 66 41)))) (.cons 65 (.vec (.agg (.agg (.cons (.ints .u64 5) (.cons (.ints .u64 5) (.cons (.ints .u64 5) (.ints .u64 5))))))) (.one 66 (.vec (.agg (.cons (.ints .i64 10) (.ints .i64 10)))))))⟩
noncomputable def ZeS (N:Nat) : List (Nat × Lf) := [(1, loopCt Zd9 Zea Zeb 321 (Za7 N) N)]
theorem Zjt (N:Nat) : StepIs Tryz.prog (cxIn Tryz.f32 (Zb5 N) ZcJ 64 (Zdz N)) (ZeS N) Tryz.f32 1 321 Zd9 Zea Zeb (Za7 N) := by
 intro v; kernel_rfl
theorem ZnJ (N:Nat) : IoRunIs Tryz.prog (Zb5 N) ZcJ 64 (Zdz N) (ZeS N) Tryz.f32 91 ZeN ZeO ZeP ZeQ ZeR [64] (fun x => ZcD N x.1 x.2.1 x.2.2) := by
 intro x; kernel_rfl
theorem ZnK {w0:World} (N:Nat)  (hcs:∀ x ∈ Zb5 N, SA w0 x.1 x.2) (hf48:Zda w0) : Zb0 w0 N := by
 have L1 : ∀ w : Base, w.g = w0 → ∀ ρk, LoopOKX Tryz.prog (cxIn Tryz.f32 (Zb5 N) ZcJ 64 (Zdz N)) w (Kp [64] ρk) 1 (.loop (loopBody Tryz.f32 1)) (loopCt Zd9 Zea Zeb 321 (Za7 N) N) :=
  ZtA hcs (ZgR N hcs hf48) (ls := ZeS N) (n := 100) (by kernel_rfl) (Zjt N) N fun w hw ρk => ZaB (lp_no (by kernel_rfl) ZcF)
 exact Znb hcs (Zar _ _) (ZgR N hcs hf48) Tryz.func32 (by kernel_rfl) (by kernel_rfl) (fun w hw ρk => ZaB (Ze2 (L1 w hw ρk) (by kernel_rfl) ZcF)) (by kernel_rfl) (ZnJ N)
theorem ZnL {w0:World} (N:Nat)  (Zah:GO w0 ZaE) (ZaD:GO w0 Zbp) (Zaf:GO w0 Zaq) (Zaj:GO w0 Zaz) (ZaP:GO w0 Zbv) (ZaR:GO w0 Za1) (ZaF:GO w0 Zba) (Zbs:GO w0 Zcy) (ZaT:GO w0 Zbu) (ZbB:GO w0 ZbN) (ZbT:GO w0 Za5) (Zao:GO w0 ZaS) : Zb0 w0 N :=
 ZnK N (Zai (ZhY N Zah) (Zai (ZeF N Zah ZaD) (Zai (Zh7 N Zaf Zaj ZaP ZaR) (Zai (ZgM Zah ZaD) (Zai (ZjF Zah) (Zai (Zgm N Zaf Zaj ZaF) (Zai (Zux Zah ZaD) (Zai (Zpr Zaj) (Zai (Zmy Zah) (Zai (ZrW N Zah ZaD Zbs ZaT) (Zai (Ztx N ZbB ZbT) (Zai (ZlN) (Zai (ZA4 N Zah ZaD) (Zai (Zw6 N Zao Zaf Zaj ZaF) ZaL)))))))))))))) (ZqB Zao)
def Zfr : Ag ((Unit × (Int × Int × Int × Int × LI × LI × LI × LI))) := (.cons (.lit (.ptr 64 [] 29)) (.one (.agg (.cons (.int .i64) (.cons (.int .i64) (.cons (.int .i64) (.cons (.int .i64) (.cons (.ints .u8 32) (.cons (.ints .u64 4) (.cons (.ints .u64 5) (.one (.ints .u64 5))))))))))))
def Zfs : Ent (Unit) := .nil
def Zft : Ent (((Nat × Nat) × List ((LI × LI × LI × LI)) × List ((LI × LI)))) := (.cons 64 (.agg (.cons (.gsw 65 36) (.one (.gsw 66 41)))) (.cons 65 (.vec (.agg (.agg (.cons (.ints .u64 5) (.cons (.ints .u64 5) (.cons (.ints .u64 5) (.ints .u64 5))))))) (.one 66 (.vec (.agg (.cons (.ints .i64 10) (.ints .i64 10)))))))
def Zfu : Pt (Bool) := .bool
def Zfv : Ent (((Nat × Nat) × List ((LI × LI × LI × LI)) × List ((LI × LI)))) := (.cons 64 (.agg (.cons (.gsw 65 36) (.one (.gsw 66 41)))) (.cons 65 (.vec (.agg (.agg (.cons (.ints .u64 5) (.cons (.ints .u64 5) (.cons (.ints .u64 5) (.ints .u64 5))))))) (.one 66 (.vec (.agg (.cons (.ints .i64 10) (.ints .i64 10)))))))
abbrev ZcK (w0:World) (N:Nat) : Prop := SoundIo Tryz.prog w0 15 64 91 Zfr Zfs Zft Zfu Zfv [64] (fun x => Zc1 N x.1 x.2.1 x.2.2)
def ZcY (N:Nat) : List (FuncId × Ct) := []
def ZdI : List Gv := []
noncomputable abbrev ZhI (N:Nat) : List (FuncId × Inl) := ((32, (Inl.ct Tryz.prog 64 64 91 ZeN ZeO ZeP ZeQ ZeR [64] (fun x => ZcD N x.1 x.2.1 x.2.2))) :: [])
theorem Zk1 {w0:World} (N:Nat) (hcs:∀ x ∈ ZcY N, SA w0 x.1 x.2) (hf32:Zb0 w0 N) (hf33:ZbZ w0 N) : AllOK Tryz.prog w0 ZdI 64 (ZhI N) := Znd (ZAh hf32 (by kernel_rfl) rfl) Zna
noncomputable abbrev ZhJ (N:Nat) : List (FuncId × Inl) := ((33, (Inl.ct Tryz.prog 64 64 91 ZeH ZeI ZeJ ZeK ZeL [64] (fun x => Zb7 N x.1 x.2.1 x.2.2))) :: (ZhI N))
theorem Zk2 {w0:World} (N:Nat) (hcs:∀ x ∈ ZcY N, SA w0 x.1 x.2) (hf32:Zb0 w0 N) (hf33:ZbZ w0 N) : AllOK Tryz.prog w0 ZdI 64 (ZhJ N) := Znd (ZAh hf33 (by kernel_rfl) rfl) (Zk1 N hcs hf32 hf33)
noncomputable abbrev Zia (N:Nat) : List (FuncId × Inl) := (ZhJ N)
theorem Zl4 {w0:World} (N:Nat) (hcs:∀ x ∈ ZcY N, SA w0 x.1 x.2) (hf32:Zb0 w0 N) (hf33:ZbZ w0 N) : AllOK Tryz.prog w0 ZdI 64 (Zia N) := (Zk2 N hcs hf32 hf33)
noncomputable def ZnM (N:Nat) : List (Nat × Lf) := []
theorem ZoA (N:Nat) : IoRunIs Tryz.prog (ZcY N) ZdI 64 (Zia N) (ZnM N) Tryz.f15 91 Zfr Zfs Zft Zfu Zfv [64] (fun x => Zc1 N x.1 x.2.1 x.2.2) := by
 intro x; kernel_rfl
theorem ZoB {w0:World} (N:Nat)  (hcs:∀ x ∈ ZcY N, SA w0 x.1 x.2) (hf32:Zb0 w0 N) (hf33:ZbZ w0 N) : ZcK w0 N := by
 exact Znb hcs (Zar _ _) (Zl4 N hcs hf32 hf33) Tryz.func15 (by kernel_rfl) (by kernel_rfl) (fun w _ _ => Zal _) (by kernel_rfl) (ZoA N)
theorem ZoC {w0:World} (N:Nat)  (Zah:GO w0 ZaE) (ZaD:GO w0 Zbp) (Zaf:GO w0 Zaq) (Zaj:GO w0 Zaz) (ZaP:GO w0 Zbv) (ZaR:GO w0 Za1) (ZaF:GO w0 Zba) (Zbs:GO w0 Zcy) (ZaT:GO w0 Zbu) (ZbB:GO w0 ZbN) (ZbT:GO w0 Za5) (Zao:GO w0 ZaS) (Zci:GO w0 Zem) (ZaI:GO w0 Zby) (Zaw:GO w0 Za2) (ZaW:GO w0 Zcg) (Zcz:GO w0 ZdB) (ZbJ:GO w0 Za6) (Zbx:GO w0 ZcN) (ZcV:GO w0 Zfa) (ZbQ:GO w0 ZcB) (Zce:GO w0 Zdq) (Za8:GO w0 Zb4) (Zdp:GO w0 Ze3) (Zbe:GO w0 ZbS) : ZcK w0 N :=
 ZoB N ZaL (ZnL N Zah ZaD Zaf Zaj ZaP ZaR ZaF Zbs ZaT ZbB ZbT Zao) (ZnI N Zci Zao Zaf Zaj ZaI Zaw ZaW Zah Zcz ZaF ZbJ Zbx ZcV ZbQ Zce Za8 Zdp Zbe)
def Zhv : Ag (Nat) := (.one (.slw 32 53))
def Zhw : Ent (List ((Int × Int × Int × Int × LI × LI × LI × LI))) := (.one 32 (.vec (.agg (.cons (.int .i64) (.cons (.int .i64) (.cons (.int .i64) (.cons (.int .i64) (.cons (.ints .u8 32) (.cons (.ints .u64 4) (.cons (.ints .u64 5) (.ints .u64 5)))))))))))
def Zhx : Ent (Unit) := .nil
def Zhy : Pt (Unit) := (.lit (.ptr 64 [] 29))
def Zhz : Ent (((Nat × Nat) × List ((LI × LI × LI × LI)) × List ((LI × LI)))) := (.cons 64 (.agg (.cons (.gsw 65 36) (.one (.gsw 66 41)))) (.cons 65 (.vec (.agg (.agg (.cons (.ints .u64 5) (.cons (.ints .u64 5) (.cons (.ints .u64 5) (.ints .u64 5))))))) (.one 66 (.vec (.agg (.cons (.ints .i64 10) (.ints .i64 10)))))))
abbrev ZdF (w0:World) (N M:Nat) : Prop := SoundIo Tryz.prog w0 5 64 88 Zhv Zhw Zhx Zhy Zhz [32] (fun x => Zec N M x.1 x.2.1 x.2.2)
def Zdh (N M:Nat) : List (FuncId × Ct) := []
def Zd4 : List Gv := []
noncomputable abbrev ZjR (N M:Nat) : List (FuncId × Inl) := ((15, (Inl.ct Tryz.prog 64 64 91 Zfr Zfs Zft Zfu Zfv [64] (fun x => Zc1 N x.1 x.2.1 x.2.2))) :: [])
theorem ZoD {w0:World} (N M:Nat) (hcs:∀ x ∈ Zdh N M, SA w0 x.1 x.2) (hf15:ZcK w0 N) : AllOK Tryz.prog w0 Zd4 64 (ZjR N M) := Znd (ZAh hf15 (by kernel_rfl) rfl) Zna
noncomputable abbrev Zfw (N M:Nat) : List (FuncId × Inl) := (ZjR N M)
theorem Zjh {w0:World} (N M:Nat) (hcs:∀ x ∈ Zdh N M, SA w0 x.1 x.2) (hf15:ZcK w0 N) : AllOK Tryz.prog w0 Zd4 64 (Zfw N M) := (ZoD N M hcs hf15)
def ZgD : Fm ((Nat × Unit × Unit × Int)) ((List ((Int × Int × Int × Int × LI × LI × LI × LI)) × List ((LI × LI × LI × LI)) × List ((LI × LI)) × (Nat × Nat))) := ⟨(.cons 0 (.slw 32 53) (.cons 2 (.lit .nilp) (.cons 3 (.lit (.ptr 90 [] 29)) (.one 4 (.int .i64))))), (.cons 32 (.vec (.agg (.cons (.int .i64) (.cons (.int .i64) (.cons (.int .i64) (.cons (.int .i64) (.cons (.ints .u8 32) (.cons (.ints .u64 4) (.cons (.ints .u64 5) (.ints .u64 5)))))))))) (.cons 64 (.vec (.agg (.agg (.cons (.ints .u64 5) (.cons (.ints .u64 5) (.cons (.ints .u64 5) (.ints .u64 5))))))) (.cons 65 (.vec (.agg (.cons (.ints .i64 10) (.ints .i64 10)))) (.one 90 (.agg (.cons (.gsw 64 36) (.one (.gsw 65 41))))))))⟩
def ZgE : Fm (Unit) ((List ((LI × LI × LI × LI)) × List ((LI × LI)) × (Nat × Nat))) := ⟨(.one 3 (.lit (.ptr 90 [] 29))), (.cons 64 (.vec (.agg (.agg (.cons (.ints .u64 5) (.cons (.ints .u64 5) (.cons (.ints .u64 5) (.ints .u64 5))))))) (.cons 65 (.vec (.agg (.cons (.ints .i64 10) (.ints .i64 10)))) (.one 90 (.agg (.cons (.gsw 64 36) (.one (.gsw 65 41)))))))⟩
def ZgF : Fm (Unit) (Unit) := ⟨.nil, .nil⟩
noncomputable def ZhA (N M:Nat) : List (Nat × Lf) := [(0, loopCt ZgD ZgE ZgF 93 (Zb8 N M) M)]
theorem Zne (N M:Nat) : StepIs Tryz.prog (cxIn Tryz.f5 (Zdh N M) Zd4 64 (Zfw N M)) (ZhA N M) Tryz.f5 0 93 ZgD ZgE ZgF (Zb8 N M) := by
 intro v; kernel_rfl
theorem ZtB (N M:Nat) : IoRunIs Tryz.prog (Zdh N M) Zd4 64 (Zfw N M) (ZhA N M) Tryz.f5 88 Zhv Zhw Zhx Zhy Zhz [32] (fun x => Zec N M x.1 x.2.1 x.2.2) := by
 intro x; kernel_rfl
theorem ZtC {w0:World} (N M:Nat)  (hcs:∀ x ∈ Zdh N M, SA w0 x.1 x.2) (hf15:ZcK w0 N) : ZdF w0 N M := by
 have L0 : ∀ w : Base, w.g = w0 → ∀ ρk, LoopOKX Tryz.prog (cxIn Tryz.f5 (Zdh N M) Zd4 64 (Zfw N M)) w (Kp [32] ρk) 0 (.loop (loopBody Tryz.f5 0)) (loopCt ZgD ZgE ZgF 93 (Zb8 N M) M) :=
  ZtA hcs (Zjh N M hcs hf15) (ls := ZhA N M) (n := 100) (by kernel_rfl) (Zne N M) M fun w hw ρk => ZaB (lp_no (by kernel_rfl) ZcF)
 exact Znb hcs (Zar _ _) (Zjh N M hcs hf15) Tryz.func5 (by kernel_rfl) (by kernel_rfl) (fun w hw ρk => ZaB (Ze2 (L0 w hw ρk) (by kernel_rfl) ZcF)) (by kernel_rfl) (ZtB N M)
theorem ZtD {w0:World} (N M:Nat)  (Zah:GO w0 ZaE) (ZaD:GO w0 Zbp) (Zaf:GO w0 Zaq) (Zaj:GO w0 Zaz) (ZaP:GO w0 Zbv) (ZaR:GO w0 Za1) (ZaF:GO w0 Zba) (Zbs:GO w0 Zcy) (ZaT:GO w0 Zbu) (ZbB:GO w0 ZbN) (ZbT:GO w0 Za5) (Zao:GO w0 ZaS) (Zci:GO w0 Zem) (ZaI:GO w0 Zby) (Zaw:GO w0 Za2) (ZaW:GO w0 Zcg) (Zcz:GO w0 ZdB) (ZbJ:GO w0 Za6) (Zbx:GO w0 ZcN) (ZcV:GO w0 Zfa) (ZbQ:GO w0 ZcB) (Zce:GO w0 Zdq) (Za8:GO w0 Zb4) (Zdp:GO w0 Ze3) (Zbe:GO w0 ZbS) : ZdF w0 N M :=
 ZtC N M ZaL (ZoC N Zah ZaD Zaf Zaj ZaP ZaR ZaF Zbs ZaT ZbB ZbT Zao Zci ZaI Zaw ZaW Zcz ZbJ Zbx ZcV ZbQ Zce Za8 Zdp Zbe)
abbrev Zji : Ag ((List ((Int × Int × Int × Int × LI × LI × LI × LI)) × Unit)) := (.one (.tup (.cons (.vec (.agg (.cons (.int .i64) (.cons (.int .i64) (.cons (.int .i64) (.cons (.int .i64) (.cons (.ints .u8 32) (.cons (.ints .u64 4) (.cons (.ints .u64 5) (.ints .u64 5)))))))))) (.one (.lit (.clo 53 []))))))
abbrev Zjj : Pt (Bool) := .bool
def Ziv (N M:Nat) : Ct := fct Zji Zjj fun x => ZdQ N M x
def ZbI (N M:Nat) : List (FuncId × Ct) := [(4, (ZiJ N)), (6, ZhQ), (7, Zbd), (8, (ZeE N)), (9, Zfk), (10, (Zfb N)), (11, (Zd3 N)), (12, (Zhs N)), (13, (Zfq N))]
def Zb2 : List Gv := []
noncomputable abbrev Zib (N M:Nat) : List (FuncId × Inl) := ((5, (Inl.ct Tryz.prog 1 64 88 Zhv Zhw Zhx Zhy Zhz [32] (fun x => Zec N M x.1 x.2.1 x.2.2))) :: [])
theorem Zl5 {w0:World} (N M:Nat) (hcs:∀ x ∈ ZbI N M, SA w0 x.1 x.2) (hf5:ZdF w0 N M) : AllOK Tryz.prog w0 Zb2 1 (Zib N M) := Znd (ZAh hf5 (by kernel_rfl) rfl) Zna
noncomputable abbrev Zcs (N M:Nat) : List (FuncId × Inl) := (Zib N M)
theorem ZeT {w0:World} (N M:Nat) (hcs:∀ x ∈ ZbI N M, SA w0 x.1 x.2) (hf5:ZdF w0 N M) : AllOK Tryz.prog w0 Zb2 1 (Zcs N M) := (Zl5 N M hcs hf5)
def ZeU : Fm ((Unit × Int × Int)) (((Nat × Nat) × List ((LI × LI × LI × LI)) × List ((LI × LI)))) := ⟨(.cons 3 (.lit (.ptr 71 [] 29)) (.cons 4 (.int .i64) (.one 5 (.int .i64)))), (.cons 71 (.agg (.cons (.gsw 106 36) (.one (.gsw 118 41)))) (.cons 106 (.vec (.agg (.agg (.cons (.ints .u64 5) (.cons (.ints .u64 5) (.cons (.ints .u64 5) (.ints .u64 5))))))) (.one 118 (.vec (.agg (.cons (.ints .i64 10) (.ints .i64 10)))))))⟩
def ZeV : Fm ((Unit × Int)) (((Nat × Nat) × List ((LI × LI × LI × LI)) × List ((LI × LI)))) := ⟨(.cons 3 (.lit (.ptr 71 [] 29)) (.one 4 (.int .i64))), (.cons 71 (.agg (.cons (.gsw 106 36) (.one (.gsw 118 41)))) (.cons 106 (.vec (.agg (.agg (.cons (.ints .u64 5) (.cons (.ints .u64 5) (.cons (.ints .u64 5) (.ints .u64 5))))))) (.one 118 (.vec (.agg (.cons (.ints .i64 10) (.ints .i64 10)))))))⟩
def ZeW : Fm (Unit) (Unit) := ⟨(.one 2 (.lit (.bool false))), .nil⟩
def ZeX : Fm ((Unit × Int)) (((Nat × Nat) × List ((LI × LI × LI × LI)) × List ((LI × LI)))) := ⟨(.cons 3 (.lit (.ptr 71 [] 29)) (.one 4 (.int .i64))), (.cons 71 (.agg (.cons (.gsw 106 36) (.one (.gsw 118 41)))) (.cons 106 (.vec (.agg (.agg (.cons (.ints .u64 5) (.cons (.ints .u64 5) (.cons (.ints .u64 5) (.ints .u64 5))))))) (.one 118 (.vec (.agg (.cons (.ints .i64 10) (.ints .i64 10)))))))⟩
def ZeY : Fm (Unit) (Unit) := ⟨.nil, .nil⟩
def ZeZ : Fm (Unit) (Unit) := ⟨(.one 2 (.lit (.bool false))), .nil⟩
noncomputable def Zdb (N M:Nat) : List (Nat × Lf) := [(2, loopCt ZeU ZeV ZeW 131 (ZbF N M) M), (0, loopCt ZeX ZeY ZeZ 123 (Zbt N M) M)]
theorem ZkS (N M:Nat) : StepIs Tryz.prog (cxIn Tryz.f3 (ZbI N M) Zb2 1 (Zcs N M)) (Zdb N M) Tryz.f3 2 131 ZeU ZeV ZeW (ZbF N M) := by
 intro v; kernel_rfl
theorem ZkT (N M:Nat) : StepIs Tryz.prog (cxIn Tryz.f3 (ZbI N M) Zb2 1 (Zcs N M)) (Zdb N M) Tryz.f3 0 123 ZeX ZeY ZeZ (Zbt N M) := by
 intro v; kernel_rfl
theorem ZpL (N M:Nat) : RunIs Tryz.prog (ZbI N M) Zb2 1 (Zdb N M) Tryz.f3 Zji Zjj (fun x => ZdQ N M x) (fun g => lkI g (Zcs N M)) := by
 intro x; kernel_rfl
theorem ZpM {w0:World} (N M:Nat)  (hcs:∀ x ∈ ZbI N M, SA w0 x.1 x.2) (hf5:ZdF w0 N M) : SA w0 3 (Ziv N M) := by
 have L2 : ∀ w : Base, w.g = w0 → LoopOK Tryz.prog (cxIn Tryz.f3 (ZbI N M) Zb2 1 (Zcs N M)) w 2 (.loop (loopBody Tryz.f3 2)) (loopCt ZeU ZeV ZeW 131 (ZbF N M) M) :=
  ZtE hcs (ZeT N M hcs hf5) (ls := Zdb N M) (n := 100) (by kernel_rfl) (ZkS N M) M fun w hw => ZaB (lp_no (by kernel_rfl) (lp_no (by kernel_rfl) ZcF))
 have L0 : ∀ w : Base, w.g = w0 → LoopOK Tryz.prog (cxIn Tryz.f3 (ZbI N M) Zb2 1 (Zcs N M)) w 0 (.loop (loopBody Tryz.f3 0)) (loopCt ZeX ZeY ZeZ 123 (Zbt N M) M) :=
  ZtE hcs (ZeT N M hcs hf5) (ls := Zdb N M) (n := 100) (by kernel_rfl) (ZkT N M) M fun w hw => ZaB (Ze2 (L2 w hw) (by kernel_rfl) (lp_no (by kernel_rfl) ZcF))
 exact ZA5 hcs (Zar _ _) (ZeT N M hcs hf5) Tryz.func3 (by kernel_rfl) (by kernel_rfl) (S := 1) (fun w hw => ZaB (Ze2 (L2 w hw) (by kernel_rfl) (Ze2 (L0 w hw) (by kernel_rfl) ZcF))) (fun _ => rfl) (ZpL N M)
theorem ZoG {w0:World} (N M:Nat)  (Zci:GO w0 Zem) (Zao:GO w0 ZaS) (Zaf:GO w0 Zaq) (Zaj:GO w0 Zaz) (ZaI:GO w0 Zby) (Zaw:GO w0 Za2) (ZaW:GO w0 Zcg) (Zah:GO w0 ZaE) (ZaD:GO w0 Zbp) (Zht:GO w0 Zfl) (ZaP:GO w0 Zbv) (ZaR:GO w0 Za1) (ZaF:GO w0 Zba) (Zbs:GO w0 Zcy) (ZaT:GO w0 Zbu) (ZbB:GO w0 ZbN) (ZbT:GO w0 Za5) (Zcz:GO w0 ZdB) (ZbJ:GO w0 Za6) (Zbx:GO w0 ZcN) (ZcV:GO w0 Zfa) (ZbQ:GO w0 ZcB) (Zce:GO w0 Zdq) (Za8:GO w0 Zb4) (Zdp:GO w0 Ze3) (Zbe:GO w0 ZbS) : SA w0 3 (Ziv N M) :=
 ZpM N M (Zai (ZvP N Zci Zao Zaf Zaj ZaI Zaw ZaW Zah) (Zai (Zpa Zci) (Zai (ZbR Zao) (Zai (Zjo N Zaf Zaj ZaI Zaw ZaW) (Zai (ZlI Zah) (Zai (Zod N Zah) (Zai (ZkZ N) (Zai (Ztq N Zah ZaD Zht) (Zai (Zoz N Zao Zaf Zaj ZaP ZaR) ZaL))))))))) (ZtD N M Zah ZaD Zaf Zaj ZaP ZaR ZaF Zbs ZaT ZbB ZbT Zao Zci ZaI Zaw ZaW Zcz ZbJ Zbx ZcV ZbQ Zce Za8 Zdp Zbe)
end Go.Vx
