import Derived.Test.YtmoiobmpeohgnaaDoorFp
import Derived.Test.YtmoiobmpeohgnaaDoorProg
import Derived.Test.YtmoiobmpeohgnaaDoorVxZ2
set_option autoImplicit false
set_option linter.unusedVariables false
set_option linter.unusedSimpArgs false
namespace Go.Vx
open Go Go.Proofs
abbrev GO (w0:World) (l:List Gv) : Prop := GlobOK Tryd.prog w0 l
abbrev SA (w0:World) (g:FuncId) (c:Ct) : Prop := SoundAt Tryd.prog w0 g c
def ZiW : Ct := fct (.cons (.int .u64) (.cons (.int .u64) (.one (.int .u64)))) (.tup (.cons (.int .u64) (.one (.int .u64)))) fun x => Zdu x.1 x.2.1 x.2.2
theorem Znh {w0:World} : SA w0 85 ZiW :=
  Zyp Tryd.func85 (by kernel_rfl) (by kernel_rfl) (by kernel_rfl) (by kernel_rfl)
def Zqy : Ct := fct (.cons (.int .u64) (.cons (.int .u64) (.one (.int .u64)))) (.tup (.cons (.int .u64) (.one (.int .u64)))) fun x => Ze9 x.1 x.2.1 x.2.2
theorem ZxT {w0:World} : SA w0 96 Zqy :=
  Zyo Tryd.func96 (by kernel_rfl) (by kernel_rfl) (by kernel_rfl) (by kernel_rfl)
abbrev Zj1 : Ag (List Int) := (.one (.ints .u64 5))
abbrev Zj2 : Pt (List Int) := (.ints .u64 5)
def ZgO : Ct := tct Zj1 Zj2 fun x => Zbe x
def Zjg : List (FuncId × Ct) := []
def Zpv : List Gv := []
noncomputable def Zpw : List (Nat × Lf) := []
theorem Zqz : RunIs Tryd.prog (Zjg) Zpv 0 (Zpw) Tryd.f64 Zj1 Zj2 (fun x => some (Zbe x)) := by
  intro x; kernel_rfl
theorem ZqA {w0:World}  (hcs:∀ x ∈ Zjg, SA w0 x.1 x.2) : SA w0 64 ZgO := by
  exact Zbw (Zam hcs (Zar _ _) Tryd.func64 (by kernel_rfl) (by kernel_rfl) (S := 0) (fun w _ => Zal _) (fun _ => rfl) (Zqz)) fun _ _ => rfl
theorem ZqB {w0:World}  : SA w0 64 ZgO :=
  ZqA ZaM
abbrev Zj3 : Ag (List Int) := (.one (.ints .u64 5))
abbrev Zj4 : Pt (List Int) := (.ints .u64 5)
def Za2 : Ct := tct Zj3 Zj4 fun x => Zaa x
def Zjh : List (FuncId × Ct) := [(64, ZgO)]
def Zpx : List Gv := []
noncomputable def Zpy : List (Nat × Lf) := []
theorem ZqC : RunIs Tryd.prog (Zjh) Zpx 0 (Zpy) Tryd.f28 Zj3 Zj4 (fun x => some (Zaa x)) := by
  intro x; kernel_rfl
theorem ZqD {w0:World}  (hcs:∀ x ∈ Zjh, SA w0 x.1 x.2) : SA w0 28 Za2 := by
  exact Zbw (Zam hcs (Zar _ _) Tryd.func28 (by kernel_rfl) (by kernel_rfl) (S := 0) (fun w _ => Zal _) (fun _ => rfl) (ZqC)) fun _ _ => rfl
theorem ZbD {w0:World}  : SA w0 28 Za2 :=
  ZqD (Zah (ZqB) ZaM)
abbrev ZkX : Ag (List Int) := (.one (.ints .u64 5))
abbrev ZkY : Pt (Bool) := .bool
def Zdd : Ct := tct ZkX ZkY fun x => ZaD x
def Zj5 : List (FuncId × Ct) := []
def ZqE : List Gv := []
noncomputable def ZqF : List (Nat × Lf) := []
theorem Zr5 : RunIs Tryd.prog (Zj5) ZqE 0 (ZqF) Tryd.f65 ZkX ZkY (fun x => some (ZaD x)) := by
  intro x; kernel_rfl
theorem Zr6 {w0:World}  (hcs:∀ x ∈ Zj5, SA w0 x.1 x.2) : SA w0 65 Zdd := by
  exact Zbw (Zam hcs (Zar _ _) Tryd.func65 (by kernel_rfl) (by kernel_rfl) (S := 0) (fun w _ => Zal _) (fun _ => rfl) (Zr5)) fun _ _ => rfl
theorem Zgj {w0:World}  : SA w0 65 Zdd :=
  Zr6 ZaM
abbrev Zs9 : Ag ((Int × Int × Int × Int × Int)) := (.cons (.int .u64) (.cons (.int .u64) (.cons (.int .u64) (.cons (.int .u64) (.one (.int .u64))))))
abbrev Zta : Pt (List Int) := (.ints .u64 5)
def ZlY : Ct := tct Zs9 Zta fun x => Zfc x.1 x.2.1 x.2.2.1 x.2.2.2.1 x.2.2.2.2
def ZqG : List (FuncId × Ct) := []
def ZwB : List Gv := []
noncomputable def ZwC : List (Nat × Lf) := []
theorem ZxU : RunIs Tryd.prog (ZqG) ZwB 0 (ZwC) Tryd.f86 Zs9 Zta (fun x => some (Zfc x.1 x.2.1 x.2.2.1 x.2.2.2.1 x.2.2.2.2)) := by
  intro x; kernel_rfl
theorem ZxV {w0:World}  (hcs:∀ x ∈ ZqG, SA w0 x.1 x.2) : SA w0 86 ZlY := by
  exact Zbw (Zam hcs (Zar _ _) Tryd.func86 (by kernel_rfl) (by kernel_rfl) (S := 0) (fun w _ => Zal _) (fun _ => rfl) (ZxU)) fun _ _ => rfl
theorem ZxW {w0:World}  : SA w0 86 ZlY :=
  ZxV ZaM
abbrev ZoZ : Ag ((Int × Int × Int × Int × Int)) := (.cons (.int .u64) (.cons (.int .u64) (.cons (.int .u64) (.cons (.int .u64) (.one (.int .u64))))))
abbrev Zo0 : Pt (List Int) := (.ints .u64 5)
def ZfH : Ct := tct ZoZ Zo0 fun x => Za8 x.1 x.2.1 x.2.2.1 x.2.2.2.1 x.2.2.2.2
def Zni : List (FuncId × Ct) := [(86, ZlY)]
def ZuC : List Gv := []
noncomputable def ZuD : List (Nat × Lf) := []
theorem Zu6 : RunIs Tryd.prog (Zni) ZuC 0 (ZuD) Tryd.f68 ZoZ Zo0 (fun x => ZkC x.1 x.2.1 x.2.2.1 x.2.2.2.1 x.2.2.2.2) := by
  intro x; kernel_rfl
theorem Zu7 {w0:World}  (hcs:∀ x ∈ Zni, SA w0 x.1 x.2) : SA w0 68 ZfH := by
  exact Zbw (Zam hcs (Zar _ _) Tryd.func68 (by kernel_rfl) (by kernel_rfl) (S := 0) (fun w _ => Zal _) (fun _ => rfl) (Zu6)) fun _ _ => Ztn _ _ _ _ _
theorem ZkF {w0:World}  : SA w0 68 ZfH :=
  Zu7 (Zah (ZxW) ZaM)
abbrev Zml : Ag ((List Int × List Int)) := (.cons (.ints .u64 5) (.one (.ints .u64 5)))
abbrev Zmm : Pt (List Int) := (.ints .u64 5)
def Zdw : Ct := tct Zml Zmm fun x => ZaK x.1 x.2
def ZkZ : List (FuncId × Ct) := [(28, Za2), (65, Zdd), (68, ZfH)]
def Zr7 : List Gv := []
noncomputable def Zr8 : List (Nat × Lf) := []
theorem Ztp : RunIs Tryd.prog (ZkZ) Zr7 0 (Zr8) Tryd.f31 Zml Zmm (fun x => Zir x.1 x.2) := by
  intro x; kernel_rfl
theorem Ztq {w0:World}  (hcs:∀ x ∈ ZkZ, SA w0 x.1 x.2) : SA w0 31 Zdw := by
  exact Zbw (Zam hcs (Zar _ _) Tryd.func31 (by kernel_rfl) (by kernel_rfl) (S := 0) (fun w _ => Zal _) (fun _ => rfl) (Ztp)) fun _ _ => Zqw _ _
theorem ZgI {w0:World}  : SA w0 31 Zdw :=
  Ztq (Zah (ZbD) (Zah (Zgj) (Zah (ZkF) ZaM)))
abbrev Zmn : Ag ((List Int × List Int)) := (.cons (.ints .u64 5) (.one (.ints .u64 5)))
abbrev Zmo : Pt (List Int) := (.ints .u64 5)
def ZcY : Ct := tct Zmn Zmo fun x => Zav x.1 x.2
def Zk0 : List (FuncId × Ct) := [(28, Za2), (65, Zdd), (68, ZfH)]
def Zr9 : List Gv := []
noncomputable def Zsa : List (Nat × Lf) := []
theorem Ztr : RunIs Tryd.prog (Zk0) Zr9 0 (Zsa) Tryd.f30 Zmn Zmo (fun x => Zis x.1 x.2) := by
  intro x; kernel_rfl
theorem Zts {w0:World}  (hcs:∀ x ∈ Zk0, SA w0 x.1 x.2) : SA w0 30 ZcY := by
  exact Zbw (Zam hcs (Zar _ _) Tryd.func30 (by kernel_rfl) (by kernel_rfl) (S := 0) (fun w _ => Zal _) (fun _ => rfl) (Ztr)) fun _ _ => Zqx _ _
theorem Ze6 {w0:World}  : SA w0 30 ZcY :=
  Zts (Zah (ZbD) (Zah (Zgj) (Zah (ZkF) ZaM)))
abbrev Zmp : Ag (List Int) := (.one (.ints .u64 5))
abbrev Zmq : Pt (List Int) := (.ints .u64 5)
def ZcZ : Ct := tct Zmp Zmq fun x => ZaJ x
def Zk1 : List (FuncId × Ct) := [(30, ZcY)]
def Zsb : List Gv := []
noncomputable def Zsc : List (Nat × Lf) := []
theorem Ztt : RunIs Tryd.prog (Zk1) Zsb 0 (Zsc) Tryd.f41 Zmp Zmq (fun x => some (ZaJ x)) := by
  intro x; kernel_rfl
theorem Ztu {w0:World}  (hcs:∀ x ∈ Zk1, SA w0 x.1 x.2) : SA w0 41 ZcZ := by
  exact Zbw (Zam hcs (Zar _ _) Tryd.func41 (by kernel_rfl) (by kernel_rfl) (S := 0) (fun w _ => Zal _) (fun _ => rfl) (Ztt)) fun _ _ => rfl
theorem Ze7 {w0:World}  : SA w0 41 ZcZ :=
  Ztu (Zah (Ze6) ZaM)
abbrev Ztb : Ag ((Int × Int)) := (.cons (.int .u64) (.one (.int .u64)))
abbrev Ztc : Pt ((Int × Int)) := (.tup (.cons (.int .u64) (.one (.int .u64))))
def ZiX : Ct := tct Ztb Ztc fun x => Zfd x.1 x.2
def ZqH : List (FuncId × Ct) := []
def ZwD : List Gv := []
noncomputable def ZwE : List (Nat × Lf) := []
theorem ZxX : RunIs Tryd.prog (ZqH) ZwD 0 (ZwE) Tryd.f84 Ztb Ztc (fun x => some (Zfd x.1 x.2)) := by
  intro x; kernel_rfl
theorem ZxY {w0:World}  (hcs:∀ x ∈ ZqH, SA w0 x.1 x.2) : SA w0 84 ZiX := by
  exact Zbw (Zam hcs (Zar _ _) Tryd.func84 (by kernel_rfl) (by kernel_rfl) (S := 0) (fun w _ => Zal _) (fun _ => rfl) (ZxX)) fun _ _ => rfl
theorem Ztd {w0:World}  : SA w0 84 ZiX :=
  ZxY ZaM
abbrev Zji : Ag (((Int × Int) × Int × Int)) := (.cons (.agg (.cons (.int .u64) (.one (.int .u64)))) (.cons (.int .u64) (.one (.int .u64))))
abbrev Zjj : Pt ((Int × Int)) := (.agg (.cons (.int .u64) (.one (.int .u64))))
def Zdo : Ct := fct Zji Zjj fun x => Zac x.1 x.2.1 x.2.2
def Ziz : List (FuncId × Ct) := [(84, ZiX), (85, ZiW)]
def Zoq : List Gv := []
noncomputable def Zor : List (Nat × Lf) := []
theorem Zpz : RunIs Tryd.prog (Ziz) Zoq 0 (Zor) Tryd.f67 Zji Zjj (fun x => Zac x.1 x.2.1 x.2.2) := by
  intro x; kernel_rfl
theorem ZpA {w0:World}  (hcs:∀ x ∈ Ziz, SA w0 x.1 x.2) : SA w0 67 Zdo := by
  exact Zam hcs (Zar _ _) Tryd.func67 (by kernel_rfl) (by kernel_rfl) (S := 0) (fun w _ => Zal _) (fun _ => rfl) (Zpz)
theorem ZgP {w0:World}  : SA w0 67 Zdo :=
  ZpA (Zah (Ztd) (Zah (Znh) ZaM))
abbrev Zjk : Ag ((Int × Int)) := (.one (.agg (.cons (.int .u64) (.one (.int .u64)))))
abbrev Zjl : Pt (Int) := (.int .u64)
def Zgp : Ct := tct Zjk Zjl fun x => ZbL x
def ZiA : List (FuncId × Ct) := []
def Zos : List Gv := []
noncomputable def Zot : List (Nat × Lf) := []
theorem ZpB : RunIs Tryd.prog (ZiA) Zos 0 (Zot) Tryd.f83 Zjk Zjl (fun x => some (ZbL x)) := by
  intro x; kernel_rfl
theorem ZpC {w0:World}  (hcs:∀ x ∈ ZiA, SA w0 x.1 x.2) : SA w0 83 Zgp := by
  exact Zbw (Zam hcs (Zar _ _) Tryd.func83 (by kernel_rfl) (by kernel_rfl) (S := 0) (fun w _ => Zal _) (fun _ => rfl) (ZpB)) fun _ _ => rfl
theorem ZpD {w0:World}  : SA w0 83 Zgp :=
  ZpC ZaM
abbrev Znj : Ag (((Int × Int) × (Int × Int) × (Int × Int) × (Int × Int) × (Int × Int))) := (.cons (.agg (.cons (.int .u64) (.one (.int .u64)))) (.cons (.agg (.cons (.int .u64) (.one (.int .u64)))) (.cons (.agg (.cons (.int .u64) (.one (.int .u64)))) (.cons (.agg (.cons (.int .u64) (.one (.int .u64)))) (.one (.agg (.cons (.int .u64) (.one (.int .u64)))))))))
abbrev Znk : Pt (List Int) := (.ints .u64 5)
def ZgJ : Ct := fct Znj Znk fun x => ZcE x.1 x.2.1 x.2.2.1 x.2.2.2.1 x.2.2.2.2
def Zmr : List (FuncId × Ct) := [(67, Zdo), (68, ZfH), (83, Zgp)]
def Ztv : List Gv := []
noncomputable def Ztw : List (Nat × Lf) := []
theorem ZuE : RunIs Tryd.prog (Zmr) Ztv 0 (Ztw) Tryd.f66 Znj Znk (fun x => ZcE x.1 x.2.1 x.2.2.1 x.2.2.2.1 x.2.2.2.2) := by
  intro x; kernel_rfl
theorem ZuF {w0:World}  (hcs:∀ x ∈ Zmr, SA w0 x.1 x.2) : SA w0 66 ZgJ := by
  exact Zam hcs (Zar _ _) Tryd.func66 (by kernel_rfl) (by kernel_rfl) (S := 0) (fun w _ => Zal _) (fun _ => rfl) (ZuE)
theorem Znl {w0:World}  : SA w0 66 ZgJ :=
  ZuF (Zah (ZgP) (Zah (ZkF) (Zah (ZpD) ZaM)))
abbrev Zms : Ag ((List Int × List Int)) := (.cons (.ints .u64 5) (.one (.ints .u64 5)))
abbrev Zmt : Pt (List Int) := (.ints .u64 5)
def Zbj : Ct := fct Zms Zmt fun x => Zan x.1 x.2
def Zk2 : List (FuncId × Ct) := [(28, Za2), (65, Zdd), (66, ZgJ), (67, Zdo)]
def Zsd : List Gv := []
noncomputable def Zse : List (Nat × Lf) := []
theorem Ztx : RunIs Tryd.prog (Zk2) Zsd 0 (Zse) Tryd.f33 Zms Zmt (fun x => Zan x.1 x.2) := by
  intro x; kernel_rfl
theorem Zty {w0:World}  (hcs:∀ x ∈ Zk2, SA w0 x.1 x.2) : SA w0 33 Zbj := by
  exact Zam hcs (Zar _ _) Tryd.func33 (by kernel_rfl) (by kernel_rfl) (S := 0) (fun w _ => Zal _) (fun _ => rfl) (Ztx)
theorem Zb3 {w0:World}  : SA w0 33 Zbj :=
  Zty (Zah (ZbD) (Zah (Zgj) (Zah (Znl) (Zah (ZgP) ZaM))))
abbrev Zjm : Ag (List Int) := (.one (.ints .u64 5))
abbrev Zjn : Pt (List Int) := (.ints .u64 5)
def ZbP : Ct := fct Zjm Zjn fun x => ZaE x
def ZiB : List (FuncId × Ct) := [(28, Za2), (65, Zdd), (66, ZgJ), (67, Zdo)]
def Zou : List Gv := []
noncomputable def Zov : List (Nat × Lf) := []
theorem ZpE : RunIs Tryd.prog (ZiB) Zou 0 (Zov) Tryd.f29 Zjm Zjn (fun x => ZaE x) := by
  intro x; kernel_rfl
theorem ZpF {w0:World}  (hcs:∀ x ∈ ZiB, SA w0 x.1 x.2) : SA w0 29 ZbP := by
  exact Zam hcs (Zar _ _) Tryd.func29 (by kernel_rfl) (by kernel_rfl) (S := 0) (fun w _ => Zal _) (fun _ => rfl) (ZpE)
theorem Zc0 {w0:World}  : SA w0 29 ZbP :=
  ZpF (Zah (ZbD) (Zah (Zgj) (Zah (Znl) (Zah (ZgP) ZaM))))
abbrev Zte : Ag (List Int) := (.one (.ints .u8 32))
abbrev Ztf : Pt (List Int) := (.ints .u64 5)
def ZlZ : Ct := tct Zte Ztf fun x => Zdc x
def ZqI : List (FuncId × Ct) := []
def ZwF : List Gv := []
noncomputable def ZwG : List (Nat × Lf) := []
theorem ZxZ : RunIs Tryd.prog (ZqI) ZwF 0 (ZwG) Tryd.f71 Zte Ztf (fun x => some (Zdc x)) := by
  intro x; kernel_rfl
theorem Zx0 {w0:World}  (hcs:∀ x ∈ ZqI, SA w0 x.1 x.2) : SA w0 71 ZlZ := by
  exact Zbw (Zam hcs (Zar _ _) Tryd.func71 (by kernel_rfl) (by kernel_rfl) (S := 0) (fun w _ => Zal _) (fun _ => rfl) (ZxZ)) fun _ _ => rfl
theorem Zx1 {w0:World}  : SA w0 71 ZlZ :=
  Zx0 ZaM
abbrev Zo1 : Ag (List Int) := (.one (.ints .u8 32))
abbrev Zo2 : Pt ((List Int × Int)) := (.tup (.cons (.ints .u64 5) (.one (.int .i64))))
def Zjo : Ct := tct Zo1 Zo2 fun x => ZaO x
def Znm : List (FuncId × Ct) := [(28, Za2), (71, ZlZ)]
def ZuG : List Gv := []
noncomputable def ZuH : List (Nat × Lf) := []
theorem Zu8 : RunIs Tryd.prog (Znm) ZuG 0 (ZuH) Tryd.f38 Zo1 Zo2 (fun x => ZkD x) := by
  intro x; kernel_rfl
theorem Zu9 {w0:World}  (hcs:∀ x ∈ Znm, SA w0 x.1 x.2) : SA w0 38 Zjo := by
  exact Zbw (Zam hcs (Zar _ _) Tryd.func38 (by kernel_rfl) (by kernel_rfl) (S := 0) (fun w _ => Zal _) (fun _ => rfl) (Zu8)) fun _ _ => Zto _
theorem Zva {w0:World}  : SA w0 38 Zjo :=
  Zu9 (Zah (ZbD) (Zah (Zx1) ZaM))
abbrev ZiC : Ag ((List Int × Int)) := (.cons (.ints .u64 5) (.one (.int .i64)))
abbrev ZiD : Pt (List Int) := (.ints .u64 5)
def Zda (N:Nat) : Ct := fct ZiC ZiD fun x => Zax N x.1 x.2
def ZdY (N:Nat) : List (FuncId × Ct) := [(29, ZbP)]
def ZfI : List Gv := []
def ZeI : Fm ((Unit × Unit × Int × Int)) ((List Int × Unit)) := ⟨(.cons 2 (.lit (.ptr 0 [] 35)) (.cons 4 (.lit (.ptr 1 [] 35)) (.cons 5 (.int .i64) (.one 6 (.int .i64))))), (.cons 0 (.ints .u64 5) (.one 1 (.lit (.ints .u64 5 [0, 0, 0, 0, 0]))))⟩
def ZeJ : Fm ((Unit × Unit)) ((List Int × Unit)) := ⟨(.cons 2 (.lit (.ptr 0 [] 35)) (.one 4 (.lit (.ptr 1 [] 35)))), (.cons 0 (.ints .u64 5) (.one 1 (.lit (.ints .u64 5 [0, 0, 0, 0, 0]))))⟩
def ZeK : Fm (Unit) (Unit) := ⟨.nil, .nil⟩
noncomputable def ZfJ (N:Nat) : List (Nat × Lf) := [(0, loopCt ZeI ZeJ ZeK 4 (Zb0 N) N)]
theorem ZjP (N:Nat) : StepIs Tryd.prog (cxOf Tryd.f80 (ZdY N) ZfI 0) (ZfJ N) Tryd.f80 0 4 ZeI ZeJ ZeK (Zb0 N) := by
  intro v; kernel_rfl
theorem Zow (N:Nat) : RunIs Tryd.prog (ZdY N) ZfI 0 (ZfJ N) Tryd.f80 ZiC ZiD (fun x => Zax N x.1 x.2) := by
  intro x; kernel_rfl
theorem Zox {w0:World} (N:Nat)  (hcs:∀ x ∈ ZdY N, SA w0 x.1 x.2) : SA w0 80 (Zda N) := by
  have L0 : ∀ w : Base, w.g = w0 → LoopOK Tryd.prog (cxOf Tryd.f80 (ZdY N) ZfI 0) w 0 (.loop (loopBody Tryd.f80 0)) (loopCt ZeI ZeJ ZeK 4 (Zb0 N) N) :=
    Zbs hcs (ls := ZfJ N) (n := 100) (by kernel_rfl) (ZjP N) N fun w hw => Zay (lp_no (by kernel_rfl) ZcC)
  exact Zam hcs (Zar _ _) Tryd.func80 (by kernel_rfl) (by kernel_rfl) (S := 0) (fun w hw => Zay (Zfq (L0 w hw) (by kernel_rfl) ZcC)) (fun _ => rfl) (Zow N)
theorem Zgq {w0:World} (N:Nat)  : SA w0 80 (Zda N) :=
  Zox N (Zah (Zc0) ZaM)
abbrev Zk3 : Ag (List Int) := (.one (.ints .u64 5))
abbrev Zk4 : Pt ((List Int × List Int)) := (.tup (.cons (.ints .u64 5) (.one (.ints .u64 5))))
def Zfr (N:Nat) : Ct := fct Zk3 Zk4 fun x => Zed N x
def Zj6 (N:Nat) : List (FuncId × Ct) := [(29, ZbP), (33, Zbj), (80, (Zda N))]
def ZqJ : List Gv := []
noncomputable def ZqK (N:Nat) : List (Nat × Lf) := []
theorem Zsf (N:Nat) : RunIs Tryd.prog (Zj6 N) ZqJ 0 (ZqK N) Tryd.f79 Zk3 Zk4 (fun x => Zed N x) := by
  intro x; kernel_rfl
theorem Zsg {w0:World} (N:Nat)  (hcs:∀ x ∈ Zj6 N, SA w0 x.1 x.2) : SA w0 79 (Zfr N) := by
  exact Zam hcs (Zar _ _) Tryd.func79 (by kernel_rfl) (by kernel_rfl) (S := 0) (fun w _ => Zal _) (fun _ => rfl) (Zsf N)
theorem Zk5 {w0:World} (N:Nat)  : SA w0 79 (Zfr N) :=
  Zsg N (Zah (Zc0) (Zah (Zb3) (Zah (Zgq N) ZaM)))
abbrev Zjp : Ag (List Int) := (.one (.ints .u64 5))
abbrev Zjq : Pt (List Int) := (.ints .u64 5)
def Zgr (N:Nat) : Ct := fct Zjp Zjq fun x => Zdt N x
def ZiE (N:Nat) : List (FuncId × Ct) := [(33, Zbj), (79, (Zfr N)), (80, (Zda N))]
def Zoy : List Gv := []
noncomputable def Zoz (N:Nat) : List (Nat × Lf) := []
theorem ZpG (N:Nat) : RunIs Tryd.prog (ZiE N) Zoy 0 (Zoz N) Tryd.f58 Zjp Zjq (fun x => Zdt N x) := by
  intro x; kernel_rfl
theorem ZpH {w0:World} (N:Nat)  (hcs:∀ x ∈ ZiE N, SA w0 x.1 x.2) : SA w0 58 (Zgr N) := by
  exact Zam hcs (Zar _ _) Tryd.func58 (by kernel_rfl) (by kernel_rfl) (S := 0) (fun w _ => Zal _) (fun _ => rfl) (ZpG N)
theorem ZpI {w0:World} (N:Nat)  : SA w0 58 (Zgr N) :=
  ZpH N (Zah (Zb3) (Zah (Zk5 N) (Zah (Zgq N) ZaM)))
abbrev Zk6 : Ag (List Int) := (.one (.ints .u64 5))
abbrev Zk7 : Pt (List Int) := (.ints .u64 5)
def Zha (N:Nat) : Ct := fct Zk6 Zk7 fun x => ZfG N x
def Zj7 (N:Nat) : List (FuncId × Ct) := [(33, Zbj), (79, (Zfr N)), (80, (Zda N))]
def ZqL : List Gv := []
noncomputable def ZqM (N:Nat) : List (Nat × Lf) := []
theorem Zsh (N:Nat) : RunIs Tryd.prog (Zj7 N) ZqL 0 (ZqM N) Tryd.f87 Zk6 Zk7 (fun x => ZfG N x) := by
  intro x; kernel_rfl
theorem Zsi {w0:World} (N:Nat)  (hcs:∀ x ∈ Zj7 N, SA w0 x.1 x.2) : SA w0 87 (Zha N) := by
  exact Zam hcs (Zar _ _) Tryd.func87 (by kernel_rfl) (by kernel_rfl) (S := 0) (fun w _ => Zal _) (fun _ => rfl) (Zsh N)
theorem Zsj {w0:World} (N:Nat)  : SA w0 87 (Zha N) :=
  Zsi N (Zah (Zb3) (Zah (Zk5 N) (Zah (Zgq N) ZaM)))
abbrev Zjr : Ag (List Int) := (.one (.ints .u64 5))
abbrev Zjs : Pt (Bool) := .bool
def Zgs : Ct := tct Zjr Zjs fun x => Zcs x
def ZiF : List (FuncId × Ct) := [(28, Za2)]
def ZoA : List Gv := []
noncomputable def ZoB : List (Nat × Lf) := []
theorem ZpJ : RunIs Tryd.prog (ZiF) ZoA 0 (ZoB) Tryd.f40 Zjr Zjs (fun x => some (Zcs x)) := by
  intro x; kernel_rfl
theorem ZpK {w0:World}  (hcs:∀ x ∈ ZiF, SA w0 x.1 x.2) : SA w0 40 Zgs := by
  exact Zbw (Zam hcs (Zar _ _) Tryd.func40 (by kernel_rfl) (by kernel_rfl) (S := 0) (fun w _ => Zal _) (fun _ => rfl) (ZpJ)) fun _ _ => rfl
theorem ZpL {w0:World}  : SA w0 40 Zgs :=
  ZpK (Zah (ZbD) ZaM)
abbrev Zo3 : Ag ((Int × List Int × List Int)) := (.cons (.int .i64) (.cons (.ints .u64 5) (.one (.ints .u64 5))))
abbrev Zo4 : Pt (List Int) := (.ints .u64 5)
def Zjt : Ct := tct Zo3 Zo4 fun x => Zh5 x.1 x.2.1 x.2.2
def Znn : List (FuncId × Ct) := [(28, Za2)]
def ZuI : List Gv := []
noncomputable def ZuJ : List (Nat × Lf) := []
theorem Zvb : RunIs Tryd.prog (Znn) ZuI 0 (ZuJ) Tryd.f91 Zo3 Zo4 (fun x => some (Zh5 x.1 x.2.1 x.2.2)) := by
  intro x; kernel_rfl
theorem Zvc {w0:World}  (hcs:∀ x ∈ Znn, SA w0 x.1 x.2) : SA w0 91 Zjt := by
  exact Zbw (Zam hcs (Zar _ _) Tryd.func91 (by kernel_rfl) (by kernel_rfl) (S := 0) (fun w _ => Zal _) (fun _ => rfl) (Zvb)) fun _ _ => rfl
theorem Zvd {w0:World}  : SA w0 91 Zjt :=
  Zvc (Zah (ZbD) ZaM)
abbrev Zmu : Ag (List Int) := (.one (.ints .u64 5))
abbrev Zmv : Pt (List Int) := (.ints .u64 5)
def ZhK : Ct := tct Zmu Zmv fun x => ZaP x
def Zk8 : List (FuncId × Ct) := [(28, Za2), (41, ZcZ), (91, Zjt)]
def Zsk : List Gv := []
noncomputable def Zsl : List (Nat × Lf) := []
theorem Ztz : RunIs Tryd.prog (Zk8) Zsk 0 (Zsl) Tryd.f88 Zmu Zmv (fun x => some (ZaP x)) := by
  intro x; kernel_rfl
theorem ZtA {w0:World}  (hcs:∀ x ∈ Zk8, SA w0 x.1 x.2) : SA w0 88 ZhK := by
  exact Zbw (Zam hcs (Zar _ _) Tryd.func88 (by kernel_rfl) (by kernel_rfl) (S := 0) (fun w _ => Zal _) (fun _ => rfl) (Ztz)) fun _ _ => rfl
theorem ZtB {w0:World}  : SA w0 88 ZhK :=
  ZtA (Zah (ZbD) (Zah (Ze7) (Zah (Zvd) ZaM)))
abbrev ZqN : Ag (Int) := (.one (.int .i64))
abbrev ZqO : Pt (List Int) := (.ints .u64 5)
def ZhV : Ct := fct ZqN ZqO fun x => Zi6 x
def Zo5 : List (FuncId × Ct) := []
def Zc3 : List Gv := [⟨5, 109, (.rows 7 fun i => .ints .u64 5 (ZcR i))⟩]
noncomputable def Zve : List (Nat × Lf) := []
theorem ZwH : RunIs Tryd.prog (Zo5) Zc3 0 (Zve) Tryd.f32 ZqN ZqO (fun x => Zi6 x) := by
  intro x; kernel_rfl
theorem ZwI {w0:World}  (hcs:∀ x ∈ Zo5, SA w0 x.1 x.2) (hg:GO w0 Zc3) : SA w0 32 ZhV := by
  exact Zam hcs hg Tryd.func32 (by kernel_rfl) (by kernel_rfl) (S := 0) (fun w _ => Zal _) (fun _ => rfl) (ZwH)
theorem ZqP {w0:World}  (ZbE:GO w0 Zc3) : SA w0 32 ZhV :=
  ZwI ZaM ZbE
abbrev Zk9 : Ag ((List Int × List Int)) := (.cons (.ints .u64 5) (.one (.ints .u64 5)))
abbrev Zla : Pt ((List Int × Bool)) := (.tup (.cons (.ints .u64 5) (.one .bool)))
def Zhb (N:Nat) : Ct := fct Zk9 Zla fun x => Zc7 N x.1 x.2
def Zj8 (N:Nat) : List (FuncId × Ct) := [(28, Za2), (29, ZbP), (33, Zbj), (41, ZcZ), (87, (Zha N)), (88, ZhK)]
def Zcc : List Gv := [⟨5, 109, (.rows 7 fun i => .ints .u64 5 (ZcR i))⟩]
noncomputable def ZqQ (N:Nat) : List (Nat × Lf) := []
theorem Zsm (N:Nat) : RunIs Tryd.prog (Zj8 N) Zcc 0 (ZqQ N) Tryd.f72 Zk9 Zla (fun x => Zc7 N x.1 x.2) := by
  intro x; kernel_rfl
theorem Zsn {w0:World} (N:Nat)  (hcs:∀ x ∈ Zj8 N, SA w0 x.1 x.2) (hg:GO w0 Zcc) : SA w0 72 (Zhb N) := by
  exact Zam hcs hg Tryd.func72 (by kernel_rfl) (by kernel_rfl) (S := 0) (fun w _ => Zal _) (fun _ => rfl) (Zsm N)
theorem Zso {w0:World} (N:Nat)  (Zbm:GO w0 Zcc) : SA w0 72 (Zhb N) :=
  Zsn N (Zah (ZbD) (Zah (Zc0) (Zah (Zb3) (Zah (Ze7) (Zah (Zsj N) (Zah (ZtB) ZaM)))))) Zbm
abbrev Zju : Ag ((List Int × List Int × List Int × List Int)) := (.one (.agg (.cons (.ints .u64 5) (.cons (.ints .u64 5) (.cons (.ints .u64 5) (.one (.ints .u64 5)))))))
abbrev Zjv : Pt ((List Int × List Int × List Int × List Int)) := (.agg (.cons (.ints .u64 5) (.cons (.ints .u64 5) (.cons (.ints .u64 5) (.one (.ints .u64 5))))))
def ZcL : Ct := tct Zju Zjv fun x => Zao x
def ZiG : List (FuncId × Ct) := []
def ZaF : List Gv := [⟨3, 35, (.ints .u64 5 [1, 0, 0, 0, 0])⟩]
noncomputable def ZoC : List (Nat × Lf) := []
theorem ZpM : RunIs Tryd.prog (ZiG) ZaF 0 (ZoC) Tryd.f57 Zju Zjv (fun x => ZgN x) := by
  intro x; kernel_rfl
theorem ZpN {w0:World}  (hcs:∀ x ∈ ZiG, SA w0 x.1 x.2) (hg:GO w0 ZaF) : SA w0 57 ZcL := by
  exact Zbw (Zam hcs hg Tryd.func57 (by kernel_rfl) (by kernel_rfl) (S := 0) (fun w _ => Zal _) (fun _ => rfl) (ZpM)) fun _ _ => Zne _
theorem ZeL {w0:World}  (Zaj:GO w0 ZaF) : SA w0 57 ZcL :=
  ZpN ZaM Zaj
abbrev ZvT : Ag ((List Int × List Int)) := (.cons (.ints .u64 5) (.one (.ints .u64 5)))
abbrev ZvU : Pt ((List Int × List Int × List Int × List Int)) := (.agg (.one (.agg (.cons (.ints .u64 5) (.cons (.ints .u64 5) (.cons (.ints .u64 5) (.one (.ints .u64 5))))))))
def Zl0 : Ct := fct ZvT ZvU fun x => ZhT x.1 x.2
def ZuK : List (FuncId × Ct) := [(33, Zbj)]
def ZfK : List Gv := [⟨3, 35, (.ints .u64 5 [1, 0, 0, 0, 0])⟩]
noncomputable def ZyL : List (Nat × Lf) := []
theorem ZAr : RunIs Tryd.prog (ZuK) ZfK 0 (ZyL) Tryd.f34 ZvT ZvU (fun x => ZhT x.1 x.2) := by
  intro x; kernel_rfl
theorem ZAs {w0:World}  (hcs:∀ x ∈ ZuK, SA w0 x.1 x.2) (hg:GO w0 ZfK) : SA w0 34 Zl0 := by
  exact Zam hcs hg Tryd.func34 (by kernel_rfl) (by kernel_rfl) (S := 0) (fun w _ => Zal _) (fun _ => rfl) (ZAr)
theorem ZvV {w0:World}  (Zdk:GO w0 ZfK) : SA w0 34 Zl0 :=
  ZAs (Zah (Zb3) ZaM) Zdk
abbrev Ztg : Ag ((List Int × List Int × List Int × List Int)) := (.cons (.ints .u64 5) (.cons (.ints .u64 5) (.cons (.ints .u64 5) (.one (.ints .u64 5)))))
abbrev Zth : Pt ((List Int × List Int × List Int × List Int)) := (.agg (.one (.agg (.cons (.ints .u64 5) (.cons (.ints .u64 5) (.cons (.ints .u64 5) (.one (.ints .u64 5))))))))
def ZiY : Ct := fct Ztg Zth fun x => Zi2 x.1 x.2.1 x.2.2.1 x.2.2.2
def ZqR : List (FuncId × Ct) := [(33, Zbj)]
def ZwJ : List Gv := []
noncomputable def ZwK : List (Nat × Lf) := []
theorem Zx2 : RunIs Tryd.prog (ZqR) ZwJ 0 (ZwK) Tryd.f75 Ztg Zth (fun x => Zi2 x.1 x.2.1 x.2.2.1 x.2.2.2) := by
  intro x; kernel_rfl
theorem Zx3 {w0:World}  (hcs:∀ x ∈ ZqR, SA w0 x.1 x.2) : SA w0 75 ZiY := by
  exact Zam hcs (Zar _ _) Tryd.func75 (by kernel_rfl) (by kernel_rfl) (S := 0) (fun w _ => Zal _) (fun _ => rfl) (Zx2)
theorem Zti {w0:World}  : SA w0 75 ZiY :=
  Zx3 (Zah (Zb3) ZaM)
abbrev Zlb : Ag (((List Int × List Int × List Int × List Int) × (List Int × List Int × List Int × List Int))) := (.cons (.agg (.one (.agg (.cons (.ints .u64 5) (.cons (.ints .u64 5) (.cons (.ints .u64 5) (.one (.ints .u64 5)))))))) (.one (.agg (.one (.agg (.cons (.ints .u64 5) (.cons (.ints .u64 5) (.cons (.ints .u64 5) (.one (.ints .u64 5))))))))))
abbrev Zlc : Pt ((List Int × List Int × List Int × List Int)) := (.agg (.one (.agg (.cons (.ints .u64 5) (.cons (.ints .u64 5) (.cons (.ints .u64 5) (.one (.ints .u64 5))))))))
def Zde : Ct := fct Zlb Zlc fun x => Zaw x.1 x.2
def Zj9 : List (FuncId × Ct) := [(30, ZcY), (31, Zdw), (33, Zbj), (57, ZcL), (75, ZiY)]
def ZbF : List Gv := [⟨7, 35, (.ints .u64 5 [1859910466990425, 932731440258426, 1072319116312658, 1815898335770999, 633789495995903])⟩]
noncomputable def ZqS : List (Nat × Lf) := []
theorem Zsp : RunIs Tryd.prog (Zj9) ZbF 0 (ZqS) Tryd.f45 Zlb Zlc (fun x => Zaw x.1 x.2) := by
  intro x; kernel_rfl
theorem Zsq {w0:World}  (hcs:∀ x ∈ Zj9, SA w0 x.1 x.2) (hg:GO w0 ZbF) : SA w0 45 Zde := by
  exact Zam hcs hg Tryd.func45 (by kernel_rfl) (by kernel_rfl) (S := 0) (fun w _ => Zal _) (fun _ => rfl) (Zsp)
theorem Zgk {w0:World}  (Zaj:GO w0 ZaF) (ZaH:GO w0 ZbF) : SA w0 45 Zde :=
  Zsq (Zah (Ze6) (Zah (ZgI) (Zah (Zb3) (Zah (ZeL Zaj) (Zah (Zti) ZaM))))) ZaH
abbrev Zld : Ag ((List Int × List Int × List Int × List Int)) := (.one (.agg (.one (.agg (.cons (.ints .u64 5) (.cons (.ints .u64 5) (.cons (.ints .u64 5) (.one (.ints .u64 5)))))))))
abbrev Zle : Pt ((List Int × List Int × List Int × List Int)) := (.agg (.one (.agg (.cons (.ints .u64 5) (.cons (.ints .u64 5) (.cons (.ints .u64 5) (.one (.ints .u64 5))))))))
def Zfs : Ct := tct Zld Zle fun x => ZaN x
def Zka : List (FuncId × Ct) := [(41, ZcZ), (57, ZcL)]
def ZqT : List Gv := []
noncomputable def ZqU : List (Nat × Lf) := []
theorem Zsr : RunIs Tryd.prog (Zka) ZqT 0 (ZqU) Tryd.f48 Zld Zle (fun x => some (ZaN x)) := by
  intro x; kernel_rfl
theorem Zss {w0:World}  (hcs:∀ x ∈ Zka, SA w0 x.1 x.2) : SA w0 48 Zfs := by
  exact Zbw (Zam hcs (Zar _ _) Tryd.func48 (by kernel_rfl) (by kernel_rfl) (S := 0) (fun w _ => Zal _) (fun _ => rfl) (Zsr)) fun _ _ => rfl
theorem Zlf {w0:World}  (Zaj:GO w0 ZaF) : SA w0 48 Zfs :=
  Zss (Zah (Ze7) (Zah (ZeL Zaj) ZaM))
abbrev Zlg : Ag (((List Int × List Int × List Int × List Int) × (List Int × List Int × List Int × List Int))) := (.cons (.agg (.one (.agg (.cons (.ints .u64 5) (.cons (.ints .u64 5) (.cons (.ints .u64 5) (.one (.ints .u64 5)))))))) (.one (.agg (.one (.agg (.cons (.ints .u64 5) (.cons (.ints .u64 5) (.cons (.ints .u64 5) (.one (.ints .u64 5))))))))))
abbrev Zlh : Pt ((List Int × List Int × List Int × List Int)) := (.agg (.one (.agg (.cons (.ints .u64 5) (.cons (.ints .u64 5) (.cons (.ints .u64 5) (.one (.ints .u64 5))))))))
def Zhc : Ct := fct Zlg Zlh fun x => Zeb x.1 x.2
def Zkb : List (FuncId × Ct) := [(45, Zde), (48, Zfs)]
def ZqV : List Gv := []
noncomputable def ZqW : List (Nat × Lf) := []
theorem Zst : RunIs Tryd.prog (Zkb) ZqV 0 (ZqW) Tryd.f46 Zlg Zlh (fun x => Zeb x.1 x.2) := by
  intro x; kernel_rfl
theorem Zsu {w0:World}  (hcs:∀ x ∈ Zkb, SA w0 x.1 x.2) : SA w0 46 Zhc := by
  exact Zam hcs (Zar _ _) Tryd.func46 (by kernel_rfl) (by kernel_rfl) (S := 0) (fun w _ => Zal _) (fun _ => rfl) (Zst)
theorem Zsv {w0:World}  (Zaj:GO w0 ZaF) (ZaH:GO w0 ZbF) : SA w0 46 Zhc :=
  Zsu (Zah (Zgk Zaj ZaH) (Zah (Zlf Zaj) ZaM))
abbrev ZiH : Ag ((List Int × List Int × List Int × List Int)) := (.one (.agg (.one (.agg (.cons (.ints .u64 5) (.cons (.ints .u64 5) (.cons (.ints .u64 5) (.one (.ints .u64 5)))))))))
abbrev ZiI : Pt ((List Int × List Int × List Int × List Int)) := (.agg (.one (.agg (.cons (.ints .u64 5) (.cons (.ints .u64 5) (.cons (.ints .u64 5) (.one (.ints .u64 5))))))))
def ZdZ : Ct := fct ZiH ZiI fun x => ZbB x
def Zh6 : List (FuncId × Ct) := [(29, ZbP), (30, ZcY), (31, Zdw), (41, ZcZ), (57, ZcL), (75, ZiY)]
def Zno : List Gv := []
noncomputable def Znp : List (Nat × Lf) := []
theorem ZoD : RunIs Tryd.prog (Zh6) Zno 0 (Znp) Tryd.f49 ZiH ZiI (fun x => ZbB x) := by
  intro x; kernel_rfl
theorem ZoE {w0:World}  (hcs:∀ x ∈ Zh6, SA w0 x.1 x.2) : SA w0 49 ZdZ := by
  exact Zam hcs (Zar _ _) Tryd.func49 (by kernel_rfl) (by kernel_rfl) (S := 0) (fun w _ => Zal _) (fun _ => rfl) (ZoD)
theorem ZiJ {w0:World}  (Zaj:GO w0 ZaF) : SA w0 49 ZdZ :=
  ZoE (Zah (Zc0) (Zah (Ze6) (Zah (ZgI) (Zah (Ze7) (Zah (ZeL Zaj) (Zah (Zti) ZaM))))))
abbrev ZiK : Ag ((List Int × List Int × List Int × List Int)) := (.one (.agg (.one (.agg (.cons (.ints .u64 5) (.cons (.ints .u64 5) (.cons (.ints .u64 5) (.one (.ints .u64 5)))))))))
abbrev ZiL : Pt ((List Int × List Int)) := (.tup (.cons (.ints .u64 5) (.one (.ints .u64 5))))
def ZfL (N:Nat) : Ct := fct ZiK ZiL fun x => ZdW N x
def Zh7 (N:Nat) : List (FuncId × Ct) := [(33, Zbj), (57, ZcL), (58, (Zgr N))]
def Znq : List Gv := []
noncomputable def Znr (N:Nat) : List (Nat × Lf) := []
theorem ZoF (N:Nat) : RunIs Tryd.prog (Zh7 N) Znq 0 (Znr N) Tryd.f20 ZiK ZiL (fun x => ZdW N x) := by
  intro x; kernel_rfl
theorem ZoG {w0:World} (N:Nat)  (hcs:∀ x ∈ Zh7 N, SA w0 x.1 x.2) : SA w0 20 (ZfL N) := by
  exact Zam hcs (Zar _ _) Tryd.func20 (by kernel_rfl) (by kernel_rfl) (S := 0) (fun w _ => Zal _) (fun _ => rfl) (ZoF N)
theorem ZoH {w0:World} (N:Nat)  (Zaj:GO w0 ZaF) : SA w0 20 (ZfL N) :=
  ZoG N (Zah (Zb3) (Zah (ZeL Zaj) (Zah (ZpI N) ZaM)))
abbrev Zkc : Ag ((List Int × List Int)) := (.cons (.ints .u64 5) (.one (.ints .u64 5)))
abbrev Zkd : Pt (((List Int × List Int × List Int × List Int) × Int)) := (.tup (.cons (.agg (.one (.agg (.cons (.ints .u64 5) (.cons (.ints .u64 5) (.cons (.ints .u64 5) (.one (.ints .u64 5)))))))) (.one (.int .i64))))
def ZgQ : Ct := fct Zkc Zkd fun x => ZcM x.1 x.2
def Zjw : List (FuncId × Ct) := [(28, Za2), (29, ZbP), (30, ZcY), (31, Zdw), (32, ZhV), (33, Zbj), (34, Zl0)]
def Zc1 : List Gv := [⟨3, 35, (.ints .u64 5 [1, 0, 0, 0, 0])⟩]
noncomputable def ZpO : List (Nat × Lf) := []
theorem ZqX : RunIs Tryd.prog (Zjw) Zc1 0 (ZpO) Tryd.f14 Zkc Zkd (fun x => ZcM x.1 x.2) := by
  intro x; kernel_rfl
theorem ZqY {w0:World}  (hcs:∀ x ∈ Zjw, SA w0 x.1 x.2) (hg:GO w0 Zc1) : SA w0 14 ZgQ := by
  exact Zam hcs hg Tryd.func14 (by kernel_rfl) (by kernel_rfl) (S := 0) (fun w _ => Zal _) (fun _ => rfl) (ZqX)
theorem ZqZ {w0:World}  (ZbE:GO w0 Zc3) (Zdk:GO w0 ZfK) (Zcl:GO w0 Zc1) : SA w0 14 ZgQ :=
  ZqY (Zah (ZbD) (Zah (Zc0) (Zah (Ze6) (Zah (ZgI) (Zah (ZqP ZbE) (Zah (Zb3) (Zah (ZvV Zdk) ZaM))))))) Zcl
abbrev Ztj : Ag (Unit) := .nil
abbrev Ztk : Pt ((List Int × List Int × List Int × List Int)) := (.agg (.one (.agg (.cons (.ints .u64 5) (.cons (.ints .u64 5) (.cons (.ints .u64 5) (.one (.ints .u64 5))))))))
def ZiZ : Ct := tct Ztj Ztk fun x => ZaW
def Zq0 : List (FuncId × Ct) := []
def ZeM : List Gv := [⟨0, 44, (.agg [(.agg [(.ints .u64 5 [1738742601995546, 1146398526822698, 2070867633025821, 562264141797630, 587772402128613]), (.ints .u64 5 [1801439850948184, 1351079888211148, 450359962737049, 900719925474099, 1801439850948198]), (.ints .u64 5 [1, 0, 0, 0, 0]), (.ints .u64 5 [1841354044333475, 16398895984059, 755974180946558, 900171276175154, 1821297809914039])])])⟩]
noncomputable def ZwL : List (Nat × Lf) := []
theorem Zx4 : RunIs Tryd.prog (Zq0) ZeM 0 (ZwL) Tryd.f9 Ztj Ztk (fun x => some (ZaW)) := by
  intro x; kernel_rfl
theorem Zx5 {w0:World}  (hcs:∀ x ∈ Zq0, SA w0 x.1 x.2) (hg:GO w0 ZeM) : SA w0 9 ZiZ := by
  exact Zbw (Zam hcs hg Tryd.func9 (by kernel_rfl) (by kernel_rfl) (S := 0) (fun w _ => Zal _) (fun _ => rfl) (Zx4)) fun _ _ => rfl
theorem Ztl {w0:World}  (Zc4:GO w0 ZeM) : SA w0 9 ZiZ :=
  Zx5 ZaM Zc4
abbrev Zns : Ag (Int) := (.one (.int .i64))
abbrev Znt : Pt ((List Int × List Int × List Int × List Int)) := (.agg (.one (.agg (.cons (.ints .u64 5) (.cons (.ints .u64 5) (.cons (.ints .u64 5) (.one (.ints .u64 5))))))))
def Zit : Ct := fct Zns Znt fun x => Zge x
def Zmw : List (FuncId × Ct) := []
def ZdU : List Gv := [⟨2, 69, (.agg [(.agg [(.agg [(.ints .u64 5 [0, 0, 0, 0, 0]), (.ints .u64 5 [0, 0, 0, 0, 0]), (.ints .u64 5 [0, 0, 0, 0, 0]), (.ints .u64 5 [0, 0, 0, 0, 0])])]), (.agg [(.agg [(.ints .u64 5 [358744748052810, 1691584618240980, 977650209285361, 1429865912637724, 560044844278676]), (.ints .u64 5 [2166873539340326, 1778179147085316, 1886209374839743, 1223329526802818, 105300633354275]), (.ints .u64 5 [1, 0, 0, 0, 0]), (.ints .u64 5 [803472979097708, 393902981724766, 1158077081819914, 574391322974006, 336294660666841])])]), (.agg [(.agg [(.ints .u64 5 [1718705420411056, 234908883556509, 2233514472574048, 2117202627021982, 765476049583133]), (.ints .u64 5 [0, 0, 0, 0, 0]), (.ints .u64 5 [1, 0, 0, 0, 0]), (.ints .u64 5 [0, 0, 0, 0, 0])])]), (.agg [(.agg [(.ints .u64 5 [358744748052810, 1691584618240980, 977650209285361, 1429865912637724, 560044844278676]), (.ints .u64 5 [84926274344903, 473620666599931, 365590438845504, 1028470286882429, 2146499180330972]), (.ints .u64 5 [1, 0, 0, 0, 0]), (.ints .u64 5 [1448326834587521, 1857896831960481, 1093722731865333, 1677408490711241, 1915505153018406])])]), (.agg [(.agg [(.ints .u64 5 [0, 0, 0, 0, 0]), (.ints .u64 5 [2251799813685228, 2251799813685247, 2251799813685247, 2251799813685247, 2251799813685247]), (.ints .u64 5 [1, 0, 0, 0, 0]), (.ints .u64 5 [0, 0, 0, 0, 0])])]), (.agg [(.agg [(.ints .u64 5 [1893055065632419, 560215195444267, 1274149604399886, 821933901047523, 1691754969406571]), (.ints .u64 5 [84926274344903, 473620666599931, 365590438845504, 1028470286882429, 2146499180330972]), (.ints .u64 5 [1, 0, 0, 0, 0]), (.ints .u64 5 [803472979097708, 393902981724766, 1158077081819914, 574391322974006, 336294660666841])])]), (.agg [(.agg [(.ints .u64 5 [533094393274173, 2016890930128738, 18285341111199, 134597186663265, 1486323764102114]), (.ints .u64 5 [0, 0, 0, 0, 0]), (.ints .u64 5 [1, 0, 0, 0, 0]), (.ints .u64 5 [0, 0, 0, 0, 0])])]), (.agg [(.agg [(.ints .u64 5 [1893055065632419, 560215195444267, 1274149604399886, 821933901047523, 1691754969406571]), (.ints .u64 5 [2166873539340326, 1778179147085316, 1886209374839743, 1223329526802818, 105300633354275]), (.ints .u64 5 [1, 0, 0, 0, 0]), (.ints .u64 5 [1448326834587521, 1857896831960481, 1093722731865333, 1677408490711241, 1915505153018406])])])])⟩]
noncomputable def ZtC : List (Nat × Lf) := []
theorem ZuL : RunIs Tryd.prog (Zmw) ZdU 0 (ZtC) Tryd.f12 Zns Znt (fun x => Zge x) := by
  intro x; kernel_rfl
theorem ZuM {w0:World}  (hcs:∀ x ∈ Zmw, SA w0 x.1 x.2) (hg:GO w0 ZdU) : SA w0 12 Zit := by
  exact Zam hcs hg Tryd.func12 (by kernel_rfl) (by kernel_rfl) (S := 0) (fun w _ => Zal _) (fun _ => rfl) (ZuL)
theorem ZuN {w0:World}  (Zdl:GO w0 ZdU) : SA w0 12 Zit :=
  ZuM ZaM Zdl
abbrev ZuO : Ag (List Int) := (.one (.ints .u64 5))
abbrev ZuP : Pt ((List Int × Bool)) := (.tup (.cons (.ints .u64 5) (.one .bool)))
def Znu (N:Nat) : Ct := fct ZuO ZuP fun x => Zm5 N x
def Ztm (N:Nat) : List (FuncId × Ct) := [(29, ZbP), (30, ZcY), (31, Zdw), (32, ZhV), (33, Zbj), (72, (Zhb N))]
def ZfM : List Gv := [⟨3, 35, (.ints .u64 5 [1, 0, 0, 0, 0])⟩]
noncomputable def Zx6 (N:Nat) : List (Nat × Lf) := []
theorem ZyM (N:Nat) : RunIs Tryd.prog (Ztm N) ZfM 0 (Zx6 N) Tryd.f39 ZuO ZuP (fun x => Zm5 N x) := by
  intro x; kernel_rfl
theorem ZyN {w0:World} (N:Nat)  (hcs:∀ x ∈ Ztm N, SA w0 x.1 x.2) (hg:GO w0 ZfM) : SA w0 39 (Znu N) := by
  exact Zam hcs hg Tryd.func39 (by kernel_rfl) (by kernel_rfl) (S := 0) (fun w _ => Zal _) (fun _ => rfl) (ZyM N)
theorem ZyO {w0:World} (N:Nat)  (ZbE:GO w0 Zc3) (Zbm:GO w0 Zcc) (Zd0:GO w0 ZfM) : SA w0 39 (Znu N) :=
  ZyN N (Zah (Zc0) (Zah (Ze6) (Zah (ZgI) (Zah (ZqP ZbE) (Zah (Zb3) (Zah (Zso N Zbm) ZaM)))))) Zd0
abbrev Zke : Ag (List Int) := (.one (.ints .u8 32))
abbrev Zkf : Pt (((List Int × List Int × List Int × List Int) × Int)) := (.tup (.cons (.agg (.one (.agg (.cons (.ints .u64 5) (.cons (.ints .u64 5) (.cons (.ints .u64 5) (.one (.ints .u64 5)))))))) (.one (.int .i64))))
def ZgR (N:Nat) : Ct := fct Zke Zkf fun x => Zbc N x
def ZdD (N:Nat) : List (FuncId × Ct) := [(34, Zl0), (38, Zjo), (39, (Znu N)), (40, Zgs), (41, ZcZ)]
def ZeN : List Gv := []
noncomputable abbrev ZiM (N:Nat) : List (FuncId × Inl) := ((37, inlOf Tryd.prog (ZdD N) ZeN 0 100 [] Tryd.f37) :: [])
theorem ZmH (N:Nat) : InlAll Tryd.prog (ZdD N) ZeN 0 100 (ZiM N) := ⟨⟨Tryd.f37, Tryd.func37, by kernel_rfl, by kernel_rfl, rfl⟩, trivial⟩
noncomputable abbrev Zjx (N:Nat) : List (FuncId × Inl) := (ZiM N)
theorem Znv (N:Nat) : InlAll Tryd.prog (ZdD N) ZeN 0 100 (Zjx N) := (ZmH N)
noncomputable def ZpP (N:Nat) : List (Nat × Lf) := []
theorem Zq1 (N:Nat) : RunIs Tryd.prog (ZdD N) ZeN 0 (ZpP N) Tryd.f17 Zke Zkf (fun x => Zbc N x) (fun g => lkI g (Zjx N)) := by
  intro x; kernel_rfl
theorem Zq2 {w0:World} (N:Nat)  (hcs:∀ x ∈ ZdD N, SA w0 x.1 x.2) : SA w0 17 (ZgR N) := by
  exact Zt7 hcs (Zar _ _) (Znv N) Tryd.func17 (by kernel_rfl) (by kernel_rfl) (S := 0) (fun w _ => Zal _) (fun _ => rfl) (Zq1 N)
theorem Zq3 {w0:World} (N:Nat)  (Zdk:GO w0 ZfK) (ZbE:GO w0 Zc3) (Zbm:GO w0 Zcc) (Zd0:GO w0 ZfM) : SA w0 17 (ZgR N) :=
  Zq2 N (Zah (ZvV Zdk) (Zah (Zva) (Zah (ZyO N ZbE Zbm Zd0) (Zah (ZpL) (Zah (Ze7) ZaM)))))
abbrev Zli : Ag ((List Int × List Int)) := (.cons (.ints .i64 10) (.one (.ints .i64 10)))
abbrev Zlj : Pt (Bool) := .bool
def Zhd : Ct := tct Zli Zlj fun x => Zcz x.1 x.2
def Zkg : List (FuncId × Ct) := []
def Zq4 : List Gv := []
noncomputable def Zq5 : List (Nat × Lf) := []
theorem Zsw : RunIs Tryd.prog (Zkg) Zq4 0 (Zq5) Tryd.f69 Zli Zlj (fun x => ZhH x.1 x.2) := by
  intro x; kernel_rfl
theorem Zsx {w0:World}  (hcs:∀ x ∈ Zkg, SA w0 x.1 x.2) : SA w0 69 Zhd := by
  exact Zbw (Zam hcs (Zar _ _) Tryd.func69 (by kernel_rfl) (by kernel_rfl) (S := 0) (fun w _ => Zal _) (fun _ => rfl) (Zsw)) fun _ _ => Zpr _ _
theorem Zsy {w0:World}  : SA w0 69 Zhd :=
  Zsx ZaM
abbrev Zlk : Ag ((List Int × List Int)) := (.cons (.ints .i64 10) (.one (.ints .i64 10)))
abbrev Zll : Pt (List Int) := (.ints .i64 10)
def Zft : Ct := tct Zlk Zll fun x => ZbI x.1 x.2
def Zkh : List (FuncId × Ct) := []
def Zq6 : List Gv := []
noncomputable def Zq7 : List (Nat × Lf) := []
theorem Zsz : RunIs Tryd.prog (Zkh) Zq6 0 (Zq7) Tryd.f70 Zlk Zll (fun x => some (ZbI x.1 x.2)) := by
  intro x; kernel_rfl
theorem ZsA {w0:World}  (hcs:∀ x ∈ Zkh, SA w0 x.1 x.2) : SA w0 70 Zft := by
  exact Zbw (Zam hcs (Zar _ _) Tryd.func70 (by kernel_rfl) (by kernel_rfl) (S := 0) (fun w _ => Zal _) (fun _ => rfl) (Zsz)) fun _ _ => rfl
theorem Zlm {w0:World}  : SA w0 70 Zft :=
  ZsA ZaM
abbrev Zln : Ag (List Int) := (.one (.ints .i64 20))
abbrev Zlo : Pt (List Int) := (.ints .i64 10)
def ZcF (N:Nat) : Ct := fct Zln Zlo fun x => Zbf N x
def Zfu (N:Nat) : List (FuncId × Ct) := [(69, Zhd), (70, Zft)]
def Zap : List Gv := [⟨6, 46, (.ints .i64 10 [67108845, 67108863, 67108863, 67108863, 67108863, 67108863, 67108863, 67108863, 67108863, 2097151])⟩]
def Zgt : Fm ((Unit × Int × Unit × Bool)) ((Unit × Unit × List Int)) := ⟨(.cons 2 (.lit (.ptr 2 [] 46)) (.cons 3 (.int .i64) (.cons 5 (.lit (.ptr 387 [] 46)) (.one 7 .bool)))), (.cons 0 (.lit (.ints .i64 10 [67108845, 67108863, 67108863, 67108863, 67108863, 67108863, 67108863, 67108863, 67108863, 2097151])) (.cons 2 (.lit (.ints .i64 10 [0, 0, 0, 0, 0, 0, 0, 0, 0, 0])) (.one 387 (.ints .i64 10))))⟩
def Zgu : Fm ((Unit × Unit)) ((Unit × Unit × List Int)) := ⟨(.cons 2 (.lit (.ptr 2 [] 46)) (.one 5 (.lit (.ptr 387 [] 46)))), (.cons 0 (.lit (.ints .i64 10 [67108845, 67108863, 67108863, 67108863, 67108863, 67108863, 67108863, 67108863, 67108863, 2097151])) (.cons 2 (.lit (.ints .i64 10 [0, 0, 0, 0, 0, 0, 0, 0, 0, 0])) (.one 387 (.ints .i64 10))))⟩
def Zgv : Fm (Unit) (Unit) := ⟨.nil, .nil⟩
noncomputable def Zhe (N:Nat) : List (Nat × Lf) := [(4, loopCt Zgt Zgu Zgv 563 (Zbd N) N)]
theorem Zl1 (N:Nat) : StepIs Tryd.prog (cxOf Tryd.f36 (Zfu N) Zap 0) (Zhe N) Tryd.f36 4 563 Zgt Zgu Zgv (Zbd N) := by
  intro v; kernel_rfl
theorem ZsB (N:Nat) : RunIs Tryd.prog (Zfu N) Zap 0 (Zhe N) Tryd.f36 Zln Zlo (fun x => Zbf N x) := by
  intro x; kernel_rfl
theorem ZsC {w0:World} (N:Nat)  (hcs:∀ x ∈ Zfu N, SA w0 x.1 x.2) (hg:GO w0 Zap) : SA w0 36 (ZcF N) := by
  have L4 : ∀ w : Base, w.g = w0 → LoopOK Tryd.prog (cxOf Tryd.f36 (Zfu N) Zap 0) w 4 (.loop (loopBody Tryd.f36 4)) (loopCt Zgt Zgu Zgv 563 (Zbd N) N) :=
    Zbs hcs (ls := Zhe N) (n := 100) (by kernel_rfl) (Zl1 N) N fun w hw => Zay (lp_no (by kernel_rfl) ZcC)
  exact Zam hcs hg Tryd.func36 (by kernel_rfl) (by kernel_rfl) (S := 0) (fun w hw => Zay (Zfq (L4 w hw) (by kernel_rfl) ZcC)) (fun _ => rfl) (ZsB N)
theorem Zee {w0:World} (N:Nat)  (Zaf:GO w0 Zap) : SA w0 36 (ZcF N) :=
  ZsC N (Zah (Zsy) (Zah (Zlm) ZaM)) Zaf
abbrev Zo6 : Ag (List Int) := (.one (.ints .u64 5))
abbrev Zo7 : Pt (List Int) := (.ints .i64 10)
def Zjy (N:Nat) : Ct := fct Zo6 Zo7 fun x => ZeD N x
def Zef (N:Nat) : List (FuncId × Ct) := [(36, (ZcF N))]
def ZfN : List Gv := []
def ZhL : Fm ((Unit × Unit × Unit × Int × Int)) ((List Int × Unit × List Int)) := ⟨(.cons 1 (.lit (.ptr 0 [] 34)) (.cons 2 (.lit (.ptr 1 [] 46)) (.cons 3 (.lit (.ptr 2 [] 77)) (.cons 4 (.int .i64) (.one 5 (.int .i64)))))), (.cons 0 (.ints .u64 5) (.cons 1 (.lit (.ints .i64 10 [0, 0, 0, 0, 0, 0, 0, 0, 0, 0])) (.one 2 (.ints .i64 20))))⟩
def ZhM : Fm ((Unit × Unit × Unit × Int)) ((List Int × Unit × List Int)) := ⟨(.cons 1 (.lit (.ptr 0 [] 34)) (.cons 2 (.lit (.ptr 1 [] 46)) (.cons 3 (.lit (.ptr 2 [] 77)) (.one 4 (.int .i64))))), (.cons 0 (.ints .u64 5) (.cons 1 (.lit (.ints .i64 10 [0, 0, 0, 0, 0, 0, 0, 0, 0, 0])) (.one 2 (.ints .i64 20))))⟩
def ZhN : Fm (Unit) (Unit) := ⟨.nil, .nil⟩
def ZhO : Fm ((Unit × Unit × Unit × Int)) ((List Int × Unit × List Int)) := ⟨(.cons 1 (.lit (.ptr 0 [] 34)) (.cons 2 (.lit (.ptr 1 [] 46)) (.cons 3 (.lit (.ptr 2 [] 77)) (.one 4 (.int .i64))))), (.cons 0 (.ints .u64 5) (.cons 1 (.lit (.ints .i64 10 [0, 0, 0, 0, 0, 0, 0, 0, 0, 0])) (.one 2 (.ints .i64 20))))⟩
def ZhP : Fm ((Unit × Unit)) ((Unit × List Int)) := ⟨(.cons 2 (.lit (.ptr 1 [] 46)) (.one 3 (.lit (.ptr 2 [] 77)))), (.cons 1 (.lit (.ints .i64 10 [0, 0, 0, 0, 0, 0, 0, 0, 0, 0])) (.one 2 (.ints .i64 20)))⟩
def ZhQ : Fm (Unit) (Unit) := ⟨.nil, .nil⟩
noncomputable def ZfO (N:Nat) : List (Nat × Lf) := [(2, loopCt ZhL ZhM ZhN 7 (ZdC N) N), (0, loopCt ZhO ZhP ZhQ 4 (ZcA N) N)]
theorem ZoI (N:Nat) : StepIs Tryd.prog (cxOf Tryd.f16 (Zef N) ZfN 0) (ZfO N) Tryd.f16 2 7 ZhL ZhM ZhN (ZdC N) := by
  intro v; kernel_rfl
theorem ZoJ (N:Nat) : StepIs Tryd.prog (cxOf Tryd.f16 (Zef N) ZfN 0) (ZfO N) Tryd.f16 0 4 ZhO ZhP ZhQ (ZcA N) := by
  intro v; kernel_rfl
theorem Zvf (N:Nat) : RunIs Tryd.prog (Zef N) ZfN 0 (ZfO N) Tryd.f16 Zo6 Zo7 (fun x => ZeD N x) := by
  intro x; kernel_rfl
theorem Zvg {w0:World} (N:Nat)  (hcs:∀ x ∈ Zef N, SA w0 x.1 x.2) : SA w0 16 (Zjy N) := by
  have L2 : ∀ w : Base, w.g = w0 → LoopOK Tryd.prog (cxOf Tryd.f16 (Zef N) ZfN 0) w 2 (.loop (loopBody Tryd.f16 2)) (loopCt ZhL ZhM ZhN 7 (ZdC N) N) :=
    Zbs hcs (ls := ZfO N) (n := 100) (by kernel_rfl) (ZoI N) N fun w hw => Zay (lp_no (by kernel_rfl) (lp_no (by kernel_rfl) ZcC))
  have L0 : ∀ w : Base, w.g = w0 → LoopOK Tryd.prog (cxOf Tryd.f16 (Zef N) ZfN 0) w 0 (.loop (loopBody Tryd.f16 0)) (loopCt ZhO ZhP ZhQ 4 (ZcA N) N) :=
    Zbs hcs (ls := ZfO N) (n := 100) (by kernel_rfl) (ZoJ N) N fun w hw => Zay (Zfq (L2 w hw) (by kernel_rfl) (lp_no (by kernel_rfl) ZcC))
  exact Zam hcs (Zar _ _) Tryd.func16 (by kernel_rfl) (by kernel_rfl) (S := 0) (fun w hw => Zay (Zfq (L2 w hw) (by kernel_rfl) (Zfq (L0 w hw) (by kernel_rfl) ZcC))) (fun _ => rfl) (Zvf N)
theorem Zvh {w0:World} (N:Nat)  (Zaf:GO w0 Zap) : SA w0 16 (Zjy N) :=
  Zvg N (Zah (Zee N Zaf) ZaM)
abbrev Zlp : Ag (Int) := (.one (.int .u64))
abbrev Zlq : Pt (List Int) := (.ints .i64 10)
def Zfv (N:Nat) : Ct := fct Zlp Zlq fun x => Zae N x
def Zki (N:Nat) : List (FuncId × Ct) := [(36, (ZcF N))]
def Zq8 : List Gv := []
noncomputable def Zq9 (N:Nat) : List (Nat × Lf) := []
theorem ZsD (N:Nat) : RunIs Tryd.prog (Zki N) Zq8 0 (Zq9 N) Tryd.f22 Zlp Zlq (fun x => Zae N x) := by
  intro x; kernel_rfl
theorem ZsE {w0:World} (N:Nat)  (hcs:∀ x ∈ Zki N, SA w0 x.1 x.2) : SA w0 22 (Zfv N) := by
  exact Zam hcs (Zar _ _) Tryd.func22 (by kernel_rfl) (by kernel_rfl) (S := 0) (fun w _ => Zal _) (fun _ => rfl) (ZsD N)
theorem Zlr {w0:World} (N:Nat)  (Zaf:GO w0 Zap) : SA w0 22 (Zfv N) :=
  ZsE N (Zah (Zee N Zaf) ZaM)
abbrev Zls : Ag ((List Int × List Int)) := (.cons (.ints .i64 10) (.one (.ints .i64 10)))
abbrev Zlt : Pt (List Int) := (.ints .i64 10)
def Zcd (N:Nat) : Ct := fct Zls Zlt fun x => Zad N x.1 x.2
def Zkj (N:Nat) : List (FuncId × Ct) := [(36, (ZcF N))]
def Zra : List Gv := []
noncomputable def Zrb (N:Nat) : List (Nat × Lf) := []
theorem ZsF (N:Nat) : RunIs Tryd.prog (Zkj N) Zra 0 (Zrb N) Tryd.f63 Zls Zlt (fun x => Zad N x.1 x.2) := by
  intro x; kernel_rfl
theorem ZsG {w0:World} (N:Nat)  (hcs:∀ x ∈ Zkj N, SA w0 x.1 x.2) : SA w0 63 (Zcd N) := by
  exact Zam hcs (Zar _ _) Tryd.func63 (by kernel_rfl) (by kernel_rfl) (S := 0) (fun w _ => Zal _) (fun _ => rfl) (ZsF N)
theorem Zdx {w0:World} (N:Nat)  (Zaf:GO w0 Zap) : SA w0 63 (Zcd N) :=
  ZsG N (Zah (Zee N Zaf) ZaM)
abbrev Zlu : Ag (List Int) := (.one (.ints .i64 10))
abbrev Zlv : Pt (List Int) := (.ints .i64 10)
def Zdf : Ct := tct Zlu Zlv fun x => ZaR x
def Zkk : List (FuncId × Ct) := [(70, Zft)]
def Zaz : List Gv := [⟨4, 46, (.ints .i64 10 [0, 0, 0, 0, 0, 0, 0, 0, 0, 0])⟩, ⟨6, 46, (.ints .i64 10 [67108845, 67108863, 67108863, 67108863, 67108863, 67108863, 67108863, 67108863, 67108863, 2097151])⟩]
noncomputable def Zrc : List (Nat × Lf) := []
theorem ZsH : RunIs Tryd.prog (Zkk) Zaz 0 (Zrc) Tryd.f43 Zlu Zlv (fun x => ZhI x) := by
  intro x; kernel_rfl
theorem ZsI {w0:World}  (hcs:∀ x ∈ Zkk, SA w0 x.1 x.2) (hg:GO w0 Zaz) : SA w0 43 Zdf := by
  exact Zbw (Zam hcs hg Tryd.func43 (by kernel_rfl) (by kernel_rfl) (S := 0) (fun w _ => Zal _) (fun _ => rfl) (ZsH)) fun _ _ => Zps _
theorem Zgl {w0:World}  (Zai:GO w0 Zaz) : SA w0 43 Zdf :=
  ZsI (Zah (Zlm) ZaM) Zai
abbrev Zlw : Ag ((List Int × List Int)) := (.cons (.ints .i64 10) (.one (.ints .i64 10)))
abbrev Zlx : Pt (List Int) := (.ints .i64 10)
def Zdg (N:Nat) : Ct := fct Zlw Zlx fun x => ZcB N x.1 x.2
def Zkl (N:Nat) : List (FuncId × Ct) := [(43, Zdf), (63, (Zcd N))]
def Zrd : List Gv := []
noncomputable def Zre (N:Nat) : List (Nat × Lf) := []
theorem ZsJ (N:Nat) : RunIs Tryd.prog (Zkl N) Zrd 0 (Zre N) Tryd.f61 Zlw Zlx (fun x => ZcB N x.1 x.2) := by
  intro x; kernel_rfl
theorem ZsK {w0:World} (N:Nat)  (hcs:∀ x ∈ Zkl N, SA w0 x.1 x.2) : SA w0 61 (Zdg N) := by
  exact Zam hcs (Zar _ _) Tryd.func61 (by kernel_rfl) (by kernel_rfl) (S := 0) (fun w _ => Zal _) (fun _ => rfl) (ZsJ N)
theorem Zgm {w0:World} (N:Nat)  (Zai:GO w0 Zaz) (Zaf:GO w0 Zap) : SA w0 61 (Zdg N) :=
  ZsK N (Zah (Zgl Zai) (Zah (Zdx N Zaf) ZaM))
abbrev Zly : Ag ((List Int × List Int)) := (.cons (.ints .i64 10) (.one (.ints .i64 10)))
abbrev Zlz : Pt (List Int) := (.ints .i64 10)
def ZaZ (N:Nat) : Ct := fct Zly Zlz fun x => Zab N x.1 x.2
def Zkm (N:Nat) : List (FuncId × Ct) := [(36, (ZcF N))]
def Zrf : List Gv := []
noncomputable def Zrg (N:Nat) : List (Nat × Lf) := []
theorem ZsL (N:Nat) : RunIs Tryd.prog (Zkm N) Zrf 0 (Zrg N) Tryd.f23 Zly Zlz (fun x => Zab N x.1 x.2) := by
  intro x; kernel_rfl
theorem ZsM {w0:World} (N:Nat)  (hcs:∀ x ∈ Zkm N, SA w0 x.1 x.2) : SA w0 23 (ZaZ N) := by
  exact Zam hcs (Zar _ _) Tryd.func23 (by kernel_rfl) (by kernel_rfl) (S := 0) (fun w _ => Zal _) (fun _ => rfl) (ZsL N)
theorem Zbx {w0:World} (N:Nat)  (Zaf:GO w0 Zap) : SA w0 23 (ZaZ N) :=
  ZsM N (Zah (Zee N Zaf) ZaM)
abbrev Zfw : Ag ((List Int × Int)) := (.cons (.ints .i64 10) (.one (.int .i64)))
abbrev Zfx : Pt (List Int) := (.ints .i64 10)
def ZgS (N:Nat) : Ct := fct Zfw Zfx fun x => Ze4 N x.1 x.2
def ZlA (rec:List Int → Int → Option (List Int)) (N:Nat) : Ct := fct Zfw Zfx fun x => Zc8 rec N x.1 x.2
def Zdh (rec:List Int → Int → Option (List Int)) (N:Nat) : List (FuncId × Ct) := [(23, (ZaZ N)), (59, (fct (.cons (.ints .i64 10) (.one (.int .i64))) (.ints .i64 10) fun x => rec x.1 x.2))]
def Zeg : List Gv := []
def ZfP : Fm ((Int × Unit × Unit × Unit × Unit × Int)) ((List Int × Unit × List Int × List Int)) := ⟨(.cons 1 (.int .i64) (.cons 2 (.lit (.ptr 0 [] 46)) (.cons 4 (.lit (.ptr 1 [] 46)) (.cons 5 (.lit (.ptr 8 [] 46)) (.cons 6 (.lit (.ptr 11 [] 46)) (.one 7 (.int .i64))))))), (.cons 0 (.ints .i64 10) (.cons 1 (.lit (.ints .i64 10 [0, 0, 0, 0, 0, 0, 0, 0, 0, 0])) (.cons 8 (.ints .i64 10) (.one 11 (.ints .i64 10)))))⟩
def ZfQ : Fm ((Int × Unit × Unit × Unit × Unit)) ((List Int × Unit × List Int × List Int)) := ⟨(.cons 1 (.int .i64) (.cons 2 (.lit (.ptr 0 [] 46)) (.cons 4 (.lit (.ptr 1 [] 46)) (.cons 5 (.lit (.ptr 8 [] 46)) (.one 6 (.lit (.ptr 11 [] 46))))))), (.cons 0 (.ints .i64 10) (.cons 1 (.lit (.ints .i64 10 [0, 0, 0, 0, 0, 0, 0, 0, 0, 0])) (.cons 8 (.ints .i64 10) (.one 11 (.ints .i64 10)))))⟩
def ZfR : Fm (Unit) (Unit) := ⟨.nil, .nil⟩
noncomputable def Zeh (rec:List Int → Int → Option (List Int)) (N:Nat) : List (Nat × Lf) := [(0, loopCt ZfP ZfQ ZfR 14 (ZbZ N) N)]
theorem ZlB (rec:List Int → Int → Option (List Int)) (N:Nat) : StepIs Tryd.prog (cxOf Tryd.f59 (Zdh rec N) Zeg 0) (Zeh rec N) Tryd.f59 0 14 ZfP ZfQ ZfR (ZbZ N) := by
  intro v; kernel_rfl
theorem Zl2 (rec:List Int → Int → Option (List Int)) (N:Nat) : RunIs Tryd.prog (Zdh rec N) Zeg 0 (Zeh rec N) Tryd.f59 Zfw Zfx (fun x => Zc8 rec N x.1 x.2) := by
  intro x; kernel_rfl
theorem Zl3 {w0:World} (rec:List Int → Int → Option (List Int)) (N:Nat)  (hcs:∀ x ∈ Zdh rec N, SA w0 x.1 x.2) : SA w0 59 (ZlA rec N) := by
  have L0 : ∀ w : Base, w.g = w0 → LoopOK Tryd.prog (cxOf Tryd.f59 (Zdh rec N) Zeg 0) w 0 (.loop (loopBody Tryd.f59 0)) (loopCt ZfP ZfQ ZfR 14 (ZbZ N) N) :=
    Zbs hcs (ls := Zeh rec N) (n := 100) (by kernel_rfl) (ZlB rec N) N fun w hw => Zay (lp_no (by kernel_rfl) ZcC)
  exact Zam hcs (Zar _ _) Tryd.func59 (by kernel_rfl) (by kernel_rfl) (S := 0) (fun w hw => Zay (Zfq (L0 w hw) (by kernel_rfl) ZcC)) (fun _ => rfl) (Zl2 rec N)
theorem Zkn {w0:World} (N:Nat)  (Zaf:GO w0 Zap) : SA w0 59 (ZgS N) := by
  have h : ∀ m, SA w0 59 (fct Zfw Zfx fun x => ZcX N m x.1 x.2) := by
    intro m
    induction m with
    | zero => exact Zyn
    | succ m ih => exact Zl3 (ZcX N m) N (Zah (Zbx N Zaf) (Zah ih ZaM))
  exact h N
abbrev ZiN : Ag (List Int) := (.one (.ints .i64 10))
abbrev ZiO : Pt (List Int) := (.ints .i64 10)
def Zct (N:Nat) : Ct := fct ZiN ZiO fun x => ZbT N x
def Zh8 (N:Nat) : List (FuncId × Ct) := [(23, (ZaZ N)), (59, (ZgS N))]
def Znw : List Gv := []
noncomputable def Znx (N:Nat) : List (Nat × Lf) := []
theorem ZoK (N:Nat) : RunIs Tryd.prog (Zh8 N) Znw 0 (Znx N) Tryd.f24 ZiN ZiO (fun x => ZbT N x) := by
  intro x; kernel_rfl
theorem ZoL {w0:World} (N:Nat)  (hcs:∀ x ∈ Zh8 N, SA w0 x.1 x.2) : SA w0 24 (Zct N) := by
  exact Zam hcs (Zar _ _) Tryd.func24 (by kernel_rfl) (by kernel_rfl) (S := 0) (fun w _ => Zal _) (fun _ => rfl) (ZoK N)
theorem Zd7 {w0:World} (N:Nat)  (Zaf:GO w0 Zap) : SA w0 24 (Zct N) :=
  ZoL N (Zah (Zbx N Zaf) (Zah (Zkn N Zaf) ZaM))
abbrev ZlC : Ag (List Int) := (.one (.ints .i64 10))
abbrev ZlD : Pt (List Int) := (.ints .i64 10)
def Zhf : Ct := tct ZlC ZlD fun x => Zcf x
def Zko : List (FuncId × Ct) := [(43, Zdf)]
def Zrh : List Gv := []
noncomputable def Zri : List (Nat × Lf) := []
theorem ZsN : RunIs Tryd.prog (Zko) Zrh 0 (Zri) Tryd.f90 ZlC ZlD (fun x => ZhJ x) := by
  intro x; kernel_rfl
theorem ZsO {w0:World}  (hcs:∀ x ∈ Zko, SA w0 x.1 x.2) : SA w0 90 Zhf := by
  exact Zbw (Zam hcs (Zar _ _) Tryd.func90 (by kernel_rfl) (by kernel_rfl) (S := 0) (fun w _ => Zal _) (fun _ => rfl) (ZsN)) fun _ _ => Zpt _
theorem ZsP {w0:World}  (Zai:GO w0 Zaz) : SA w0 90 Zhf :=
  ZsO (Zah (Zgl Zai) ZaM)
abbrev Zrj : Ag (Unit) := .nil
abbrev Zrk : Pt (List Int) := (.ints .i64 10)
def ZhW : Ct := tct Zrj Zrk fun x => ZfB
def Zo8 : List (FuncId × Ct) := []
def Zvi : List Gv := []
noncomputable def Zvj : List (Nat × Lf) := []
theorem ZwM : RunIs Tryd.prog (Zo8) Zvi 0 (Zvj) Tryd.f82 Zrj Zrk (fun x => some (ZfB)) := by
  intro x; kernel_rfl
theorem ZwN {w0:World}  (hcs:∀ x ∈ Zo8, SA w0 x.1 x.2) : SA w0 82 ZhW := by
  exact Zbw (Zam hcs (Zar _ _) Tryd.func82 (by kernel_rfl) (by kernel_rfl) (S := 0) (fun w _ => Zal _) (fun _ => rfl) (ZwM)) fun _ _ => rfl
theorem Zrl {w0:World}  : SA w0 82 ZhW :=
  ZwN ZaM
abbrev Zrm : Ag (Unit) := .nil
abbrev Zrn : Pt (List Int) := (.ints .i64 10)
def Zfe : Ct := tct Zrm Zrn fun x => Zb6
def Zo9 : List (FuncId × Ct) := []
def Zvk : List Gv := []
noncomputable def Zvl : List (Nat × Lf) := []
theorem ZwO : RunIs Tryd.prog (Zo9) Zvk 0 (Zvl) Tryd.f62 Zrm Zrn (fun x => some (Zb6)) := by
  intro x; kernel_rfl
theorem ZwP {w0:World}  (hcs:∀ x ∈ Zo9, SA w0 x.1 x.2) : SA w0 62 Zfe := by
  exact Zbw (Zam hcs (Zar _ _) Tryd.func62 (by kernel_rfl) (by kernel_rfl) (S := 0) (fun w _ => Zal _) (fun _ => rfl) (ZwO)) fun _ _ => rfl
theorem Zi0 {w0:World}  : SA w0 62 Zfe :=
  ZwP ZaM
abbrev Zmx : Ag (List Int) := (.one (.ints .i64 10))
abbrev Zmy : Pt ((List Int × Bool)) := (.tup (.cons (.ints .i64 10) (.one .bool)))
def ZhR (N:Nat) : Ct := fct Zmx Zmy fun x => Zd2 N x
def ZlE (N:Nat) : List (FuncId × Ct) := [(23, (ZaZ N)), (59, (ZgS N)), (82, ZhW), (90, Zhf)]
def Zby : List Gv := [⟨4, 46, (.ints .i64 10 [0, 0, 0, 0, 0, 0, 0, 0, 0, 0])⟩]
noncomputable def ZsQ (N:Nat) : List (Nat × Lf) := []
theorem ZtD (N:Nat) : RunIs Tryd.prog (ZlE N) Zby 0 (ZsQ N) Tryd.f81 Zmx Zmy (fun x => Zd2 N x) := by
  intro x; kernel_rfl
theorem ZtE {w0:World} (N:Nat)  (hcs:∀ x ∈ ZlE N, SA w0 x.1 x.2) (hg:GO w0 Zby) : SA w0 81 (ZhR N) := by
  exact Zam hcs hg Tryd.func81 (by kernel_rfl) (by kernel_rfl) (S := 0) (fun w _ => Zal _) (fun _ => rfl) (ZtD N)
theorem ZtF {w0:World} (N:Nat)  (Zaf:GO w0 Zap) (Zai:GO w0 Zaz) (ZaL:GO w0 Zby) : SA w0 81 (ZhR N) :=
  ZtE N (Zah (Zbx N Zaf) (Zah (Zkn N Zaf) (Zah (Zrl) (Zah (ZsP Zai) ZaM)))) ZaL
abbrev Zh9 : Ag ((List Int × List Int)) := (.cons (.ints .i64 10) (.one (.ints .i64 10)))
abbrev Zia : Pt ((List Int × Bool)) := (.tup (.cons (.ints .i64 10) (.one .bool)))
def Zfg (N:Nat) : Ct := fct Zh9 Zia fun x => ZcW N x.1 x.2
def Zhs (N:Nat) : List (FuncId × Ct) := [(23, (ZaZ N)), (24, (Zct N)), (81, (ZhR N)), (82, ZhW)]
def Za0 : List Gv := [⟨4, 46, (.ints .i64 10 [0, 0, 0, 0, 0, 0, 0, 0, 0, 0])⟩]
noncomputable def ZmI (N:Nat) : List (Nat × Lf) := []
theorem Zny (N:Nat) : RunIs Tryd.prog (Zhs N) Za0 0 (ZmI N) Tryd.f60 Zh9 Zia (fun x => ZcW N x.1 x.2) := by
  intro x; kernel_rfl
theorem Znz {w0:World} (N:Nat)  (hcs:∀ x ∈ Zhs N, SA w0 x.1 x.2) (hg:GO w0 Za0) : SA w0 60 (Zfg N) := by
  exact Zam hcs hg Tryd.func60 (by kernel_rfl) (by kernel_rfl) (S := 0) (fun w _ => Zal _) (fun _ => rfl) (Zny N)
theorem ZnA {w0:World} (N:Nat)  (Zaf:GO w0 Zap) (Zai:GO w0 Zaz) (ZaL:GO w0 Zby) (ZaB:GO w0 Za0) : SA w0 60 (Zfg N) :=
  Znz N (Zah (Zbx N Zaf) (Zah (Zd7 N Zaf) (Zah (ZtF N Zaf Zai ZaL) (Zah (Zrl) ZaM)))) ZaB
abbrev ZiP : Ag (List Int) := (.one (.ints .i64 10))
abbrev ZiQ : Pt (List Int) := (.ints .u8 32)
def ZfS (N:Nat) : Ct := fct ZiP ZiQ fun x => Zdb N x
def Zd1 (N:Nat) : List (FuncId × Ct) := []
def ZfT : List Gv := []
def ZeO : Fm ((Unit × Unit × Unit × Int)) ((List Int × Unit × List Int)) := ⟨(.cons 1 (.lit (.ptr 0 [] 46)) (.cons 2 (.lit (.ptr 1 [] 30)) (.cons 3 (.lit (.ptr 2 [] 30)) (.one 4 (.int .i64))))), (.cons 0 (.ints .i64 10) (.cons 1 (.lit (.ints .u8 32 [0, 0, 0, 0, 0, 0, 0, 0, 0, 0, 0, 0, 0, 0, 0, 0, 0, 0, 0, 0, 0, 0, 0, 0, 0, 0, 0, 0, 0, 0, 0, 0])) (.one 2 (.ints .u8 32))))⟩
def ZeP : Fm ((Unit × Unit)) ((Unit × List Int)) := ⟨(.cons 2 (.lit (.ptr 1 [] 30)) (.one 3 (.lit (.ptr 2 [] 30)))), (.cons 1 (.lit (.ints .u8 32 [0, 0, 0, 0, 0, 0, 0, 0, 0, 0, 0, 0, 0, 0, 0, 0, 0, 0, 0, 0, 0, 0, 0, 0, 0, 0, 0, 0, 0, 0, 0, 0])) (.one 2 (.ints .u8 32)))⟩
def ZeQ : Fm (Unit) (Unit) := ⟨.nil, .nil⟩
noncomputable def ZfU (N:Nat) : List (Nat × Lf) := [(0, loopCt ZeO ZeP ZeQ 4 (ZbY N) N)]
theorem ZjQ (N:Nat) : StepIs Tryd.prog (cxOf Tryd.f74 (Zd1 N) ZfT 0) (ZfU N) Tryd.f74 0 4 ZeO ZeP ZeQ (ZbY N) := by
  intro v; kernel_rfl
theorem ZoM (N:Nat) : RunIs Tryd.prog (Zd1 N) ZfT 0 (ZfU N) Tryd.f74 ZiP ZiQ (fun x => Zdb N x) := by
  intro x; kernel_rfl
theorem ZoN {w0:World} (N:Nat)  (hcs:∀ x ∈ Zd1 N, SA w0 x.1 x.2) : SA w0 74 (ZfS N) := by
  have L0 : ∀ w : Base, w.g = w0 → LoopOK Tryd.prog (cxOf Tryd.f74 (Zd1 N) ZfT 0) w 0 (.loop (loopBody Tryd.f74 0)) (loopCt ZeO ZeP ZeQ 4 (ZbY N) N) :=
    Zbs hcs (ls := ZfU N) (n := 100) (by kernel_rfl) (ZjQ N) N fun w hw => Zay (lp_no (by kernel_rfl) ZcC)
  exact Zam hcs (Zar _ _) Tryd.func74 (by kernel_rfl) (by kernel_rfl) (S := 0) (fun w hw => Zay (Zfq (L0 w hw) (by kernel_rfl) ZcC)) (fun _ => rfl) (ZoM N)
theorem ZoO {w0:World} (N:Nat)  : SA w0 74 (ZfS N) :=
  ZoN N ZaM
abbrev Zkp : Ag (((Nat × List Int) × Unit)) := (.one (.tup (.cons (.lst .u8) (.one (.lit (.clo 5 []))))))
abbrev Zkq : Pt (List Int) := (.ints .i64 10)
def ZgT (N:Nat) : Ct := fct Zkp Zkq fun x => ZdS N x
def ZeR (N:Nat) : List (FuncId × Ct) := [(36, (ZcF N))]
def ZgU : List Gv := []
def ZfV : Fm ((Nat × Unit × Unit × Int)) (((Nat × List Int) × Unit × List Int)) := ⟨(.cons 0 (.slw 0 5) (.cons 2 (.lit (.ptr 1 [] 46)) (.cons 3 (.lit (.ptr 2 [] 77)) (.one 4 (.int .i64))))), (.cons 0 (.lst .u8) (.cons 1 (.lit (.ints .i64 10 [0, 0, 0, 0, 0, 0, 0, 0, 0, 0])) (.one 2 (.ints .i64 20))))⟩
def ZfW : Fm ((Unit × Unit)) ((Unit × List Int)) := ⟨(.cons 2 (.lit (.ptr 1 [] 46)) (.one 3 (.lit (.ptr 2 [] 77)))), (.cons 1 (.lit (.ints .i64 10 [0, 0, 0, 0, 0, 0, 0, 0, 0, 0])) (.one 2 (.ints .i64 20)))⟩
def ZfX : Fm (Unit) (Unit) := ⟨.nil, .nil⟩
noncomputable def ZgV (N:Nat) : List (Nat × Lf) := [(0, loopCt ZfV ZfW ZfX 4 (Zbp N) N)]
theorem ZlF (N:Nat) : StepIs Tryd.prog (cxOf Tryd.f73 (ZeR N) ZgU 1) (ZgV N) Tryd.f73 0 4 ZfV ZfW ZfX (Zbp N) := by
  intro v; kernel_rfl
theorem Zro (N:Nat) : RunIs Tryd.prog (ZeR N) ZgU 1 (ZgV N) Tryd.f73 Zkp Zkq (fun x => ZdS N x) := by
  intro x; kernel_rfl
theorem Zrp {w0:World} (N:Nat)  (hcs:∀ x ∈ ZeR N, SA w0 x.1 x.2) : SA w0 73 (ZgT N) := by
  have L0 : ∀ w : Base, w.g = w0 → LoopOK Tryd.prog (cxOf Tryd.f73 (ZeR N) ZgU 1) w 0 (.loop (loopBody Tryd.f73 0)) (loopCt ZfV ZfW ZfX 4 (Zbp N) N) :=
    Zbs hcs (ls := ZgV N) (n := 100) (by kernel_rfl) (ZlF N) N fun w hw => Zay (lp_no (by kernel_rfl) ZcC)
  exact Zam hcs (Zar _ _) Tryd.func73 (by kernel_rfl) (by kernel_rfl) (S := 1) (fun w hw => Zay (Zfq (L0 w hw) (by kernel_rfl) ZcC)) (fun _ => rfl) (Zro N)
theorem Zrq {w0:World} (N:Nat)  (Zaf:GO w0 Zap) : SA w0 73 (ZgT N) :=
  Zrp N (Zah (Zee N Zaf) ZaM)
abbrev Zkr : Ag (List Int) := (.one (.ints .u8 32))
abbrev Zks : Pt ((List Int × Int)) := (.tup (.cons (.ints .i64 10) (.one (.int .i64))))
def ZgW (N:Nat) : Ct := fct Zkr Zks fun x => ZdR N x
def Zjz (N:Nat) : List (FuncId × Ct) := [(73, (ZgT N)), (74, (ZfS N))]
def ZpQ : List Gv := []
noncomputable def ZpR (N:Nat) : List (Nat × Lf) := []
theorem Zrr (N:Nat) : RunIs Tryd.prog (Zjz N) ZpQ 0 (ZpR N) Tryd.f42 Zkr Zks (fun x => ZdR N x) := by
  intro x; kernel_rfl
theorem Zrs {w0:World} (N:Nat)  (hcs:∀ x ∈ Zjz N, SA w0 x.1 x.2) : SA w0 42 (ZgW N) := by
  exact Zam hcs (Zar _ _) Tryd.func42 (by kernel_rfl) (by kernel_rfl) (S := 0) (fun w _ => Zal _) (fun _ => rfl) (Zrr N)
theorem Zrt {w0:World} (N:Nat)  (Zaf:GO w0 Zap) : SA w0 42 (ZgW N) :=
  Zrs N (Zah (Zrq N Zaf) (Zah (ZoO N) ZaM))
abbrev ZjA : Ag (List Int) := (.one (.ints .i64 10))
abbrev ZjB : Pt (List Int) := (.ints .u64 5)
def Zgw (N:Nat) : Ct := fct ZjA ZjB fun x => Zb4 N x
def Zd8 (N:Nat) : List (FuncId × Ct) := []
def Zgx : List Gv := []
def Zfh : Fm ((Unit × Unit × Unit × Int)) ((List Int × Unit × List Int)) := ⟨(.cons 1 (.lit (.ptr 0 [] 46)) (.cons 2 (.lit (.ptr 1 [] 34)) (.cons 3 (.lit (.ptr 2 [] 34)) (.one 4 (.int .i64))))), (.cons 0 (.ints .i64 10) (.cons 1 (.lit (.ints .u64 5 [0, 0, 0, 0, 0])) (.one 2 (.ints .u64 5))))⟩
def Zfi : Fm ((Unit × Unit)) ((Unit × List Int)) := ⟨(.cons 2 (.lit (.ptr 1 [] 34)) (.one 3 (.lit (.ptr 2 [] 34)))), (.cons 1 (.lit (.ints .u64 5 [0, 0, 0, 0, 0])) (.one 2 (.ints .u64 5)))⟩
def Zfj : Fm (Unit) (Unit) := ⟨.nil, .nil⟩
noncomputable def Zgy (N:Nat) : List (Nat × Lf) := [(0, loopCt Zfh Zfi Zfj 4 (Zb8 N) N)]
theorem ZkG (N:Nat) : StepIs Tryd.prog (cxOf Tryd.f21 (Zd8 N) Zgx 0) (Zgy N) Tryd.f21 0 4 Zfh Zfi Zfj (Zb8 N) := by
  intro v; kernel_rfl
theorem ZpS (N:Nat) : RunIs Tryd.prog (Zd8 N) Zgx 0 (Zgy N) Tryd.f21 ZjA ZjB (fun x => Zb4 N x) := by
  intro x; kernel_rfl
theorem ZpT {w0:World} (N:Nat)  (hcs:∀ x ∈ Zd8 N, SA w0 x.1 x.2) : SA w0 21 (Zgw N) := by
  have L0 : ∀ w : Base, w.g = w0 → LoopOK Tryd.prog (cxOf Tryd.f21 (Zd8 N) Zgx 0) w 0 (.loop (loopBody Tryd.f21 0)) (loopCt Zfh Zfi Zfj 4 (Zb8 N) N) :=
    Zbs hcs (ls := Zgy N) (n := 100) (by kernel_rfl) (ZkG N) N fun w hw => Zay (lp_no (by kernel_rfl) ZcC)
  exact Zam hcs (Zar _ _) Tryd.func21 (by kernel_rfl) (by kernel_rfl) (S := 0) (fun w hw => Zay (Zfq (L0 w hw) (by kernel_rfl) ZcC)) (fun _ => rfl) (ZpS N)
theorem ZpU {w0:World} (N:Nat)  : SA w0 21 (Zgw N) :=
  ZpT N ZaM
abbrev ZjC : Ag (Unit) := .nil
abbrev ZjD : Pt ((List Int × List Int)) := (.agg (.cons (.ints .i64 10) (.one (.ints .i64 10))))
def Zbv : Ct := tct ZjC ZjD fun x => Zak
def ZiR : List (FuncId × Ct) := []
def ZaS : List Gv := [⟨1, 46, (.ints .i64 10 [1, 0, 0, 0, 0, 0, 0, 0, 0, 0])⟩]
noncomputable def ZoP : List (Nat × Lf) := []
theorem ZpV : RunIs Tryd.prog (ZiR) ZaS 0 (ZoP) Tryd.f11 ZjC ZjD (fun x => some (Zak)) := by
  intro x; kernel_rfl
theorem ZpW {w0:World}  (hcs:∀ x ∈ ZiR, SA w0 x.1 x.2) (hg:GO w0 ZaS) : SA w0 11 Zbv := by
  exact Zbw (Zam hcs hg Tryd.func11 (by kernel_rfl) (by kernel_rfl) (S := 0) (fun w _ => Zal _) (fun _ => rfl) (ZpV)) fun _ _ => rfl
theorem Zcm {w0:World}  (Zaq:GO w0 ZaS) : SA w0 11 Zbv :=
  ZpW ZaM Zaq
abbrev Zib : Ag (((List Int × List Int) × (List Int × List Int))) := (.cons (.agg (.cons (.ints .i64 10) (.one (.ints .i64 10)))) (.one (.agg (.cons (.ints .i64 10) (.one (.ints .i64 10))))))
abbrev Zic : Pt ((List Int × List Int)) := (.agg (.cons (.ints .i64 10) (.one (.ints .i64 10))))
def ZcT (N:Nat) : Ct := fct Zib Zic fun x => Zbn N x.1 x.2
def Zht (N:Nat) : List (FuncId × Ct) := [(23, (ZaZ N)), (24, (Zct N)), (61, (Zdg N)), (62, Zfe), (63, (Zcd N))]
def Zbg : List Gv := [⟨1, 46, (.ints .i64 10 [1, 0, 0, 0, 0, 0, 0, 0, 0, 0])⟩]
noncomputable def ZmJ (N:Nat) : List (Nat × Lf) := []
theorem ZnB (N:Nat) : RunIs Tryd.prog (Zht N) Zbg 0 (ZmJ N) Tryd.f27 Zib Zic (fun x => Zbn N x.1 x.2) := by
  intro x; kernel_rfl
theorem ZnC {w0:World} (N:Nat)  (hcs:∀ x ∈ Zht N, SA w0 x.1 x.2) (hg:GO w0 Zbg) : SA w0 27 (ZcT N) := by
  exact Zam hcs hg Tryd.func27 (by kernel_rfl) (by kernel_rfl) (S := 0) (fun w _ => Zal _) (fun _ => rfl) (ZnB N)
theorem ZfY {w0:World} (N:Nat)  (Zaf:GO w0 Zap) (Zai:GO w0 Zaz) (ZaG:GO w0 Zbg) : SA w0 27 (ZcT N) :=
  ZnC N (Zah (Zbx N Zaf) (Zah (Zd7 N Zaf) (Zah (Zgm N Zai Zaf) (Zah (Zi0) (Zah (Zdx N Zaf) ZaM))))) ZaG
abbrev ZnD : Ag (List Int) := (.one (.ints .i64 10))
abbrev ZnE : Pt ((List Int × Bool)) := (.tup (.cons (.ints .i64 10) (.one .bool)))
def ZgK (N:Nat) : Ct := fct ZnD ZnE fun x => ZeF N x
def Zmz (N:Nat) : List (FuncId × Ct) := [(23, (ZaZ N)), (60, (Zfg N)), (61, (Zdg N)), (62, Zfe), (63, (Zcd N))]
def Zcj : List Gv := [⟨1, 46, (.ints .i64 10 [1, 0, 0, 0, 0, 0, 0, 0, 0, 0])⟩]
noncomputable def ZtG (N:Nat) : List (Nat × Lf) := []
theorem ZuQ (N:Nat) : RunIs Tryd.prog (Zmz N) Zcj 0 (ZtG N) Tryd.f25 ZnD ZnE (fun x => ZeF N x) := by
  intro x; kernel_rfl
theorem ZuR {w0:World} (N:Nat)  (hcs:∀ x ∈ Zmz N, SA w0 x.1 x.2) (hg:GO w0 Zcj) : SA w0 25 (ZgK N) := by
  exact Zam hcs hg Tryd.func25 (by kernel_rfl) (by kernel_rfl) (S := 0) (fun w _ => Zal _) (fun _ => rfl) (ZuQ N)
theorem ZnF {w0:World} (N:Nat)  (Zaf:GO w0 Zap) (Zai:GO w0 Zaz) (ZaL:GO w0 Zby) (ZaB:GO w0 Za0) (Za3:GO w0 Zcj) : SA w0 25 (ZgK N) :=
  ZuR N (Zah (Zbx N Zaf) (Zah (ZnA N Zaf Zai ZaL ZaB) (Zah (Zgm N Zai Zaf) (Zah (Zi0) (Zah (Zdx N Zaf) ZaM))))) Za3
abbrev ZmA : Ag (Unit) := .nil
abbrev ZmB : Pt ((List Int × List Int)) := (.agg (.cons (.ints .i64 10) (.one (.ints .i64 10))))
def Zgn (N:Nat) : Ct := fct ZmA ZmB fun x => Zdr N
def ZlG (N:Nat) : List (FuncId × Ct) := [(22, (Zfv N)), (23, (ZaZ N)), (24, (Zct N)), (25, (ZgK N))]
def ZsR : List Gv := []
noncomputable def ZsS (N:Nat) : List (Nat × Lf) := []
theorem ZtH (N:Nat) : RunIs Tryd.prog (ZlG N) ZsR 0 (ZsS N) Tryd.f10 ZmA ZmB (fun x => Zdr N) := by
  intro x; kernel_rfl
theorem ZtI {w0:World} (N:Nat)  (hcs:∀ x ∈ ZlG N, SA w0 x.1 x.2) : SA w0 10 (Zgn N) := by
  exact Zam hcs (Zar _ _) Tryd.func10 (by kernel_rfl) (by kernel_rfl) (S := 0) (fun w _ => Zal _) (fun _ => rfl) (ZtH N)
theorem ZmC {w0:World} (N:Nat)  (Zaf:GO w0 Zap) (Zai:GO w0 Zaz) (ZaL:GO w0 Zby) (ZaB:GO w0 Za0) (Za3:GO w0 Zcj) : SA w0 10 (Zgn N) :=
  ZtI N (Zah (Zlr N Zaf) (Zah (Zbx N Zaf) (Zah (Zd7 N Zaf) (Zah (ZnF N Zaf Zai ZaL ZaB Za3) ZaM))))
abbrev Zid : Ag ((List Int × List Int)) := (.one (.agg (.cons (.ints .i64 10) (.one (.ints .i64 10)))))
abbrev Zie : Pt ((List Int × List Int)) := (.agg (.cons (.ints .i64 10) (.one (.ints .i64 10))))
def Zfk : Ct := tct Zid Zie fun x => ZaV x
def Zhu : List (FuncId × Ct) := [(43, Zdf)]
def ZmK : List Gv := []
noncomputable def ZmL : List (Nat × Lf) := []
theorem ZnG : RunIs Tryd.prog (Zhu) ZmK 0 (ZmL) Tryd.f47 Zid Zie (fun x => some (ZaV x)) := by
  intro x; kernel_rfl
theorem ZnH {w0:World}  (hcs:∀ x ∈ Zhu, SA w0 x.1 x.2) : SA w0 47 Zfk := by
  exact Zbw (Zam hcs (Zar _ _) Tryd.func47 (by kernel_rfl) (by kernel_rfl) (S := 0) (fun w _ => Zal _) (fun _ => rfl) (ZnG)) fun _ _ => rfl
theorem ZnI {w0:World}  (Zai:GO w0 Zaz) : SA w0 47 Zfk :=
  ZnH (Zah (Zgl Zai) ZaM)
abbrev ZjE : Ag (Int) := (.one (.int .i64))
abbrev ZjF : Pt ((List Int × List Int)) := (.agg (.cons (.ints .i64 10) (.one (.ints .i64 10))))
def Zgz (N:Nat) : Ct := fct ZjE ZjF fun x => Zea N x
def Zb9 (N:Nat) : List (FuncId × Ct) := [(11, Zbv), (22, (Zfv N)), (23, (ZaZ N)), (27, (ZcT N)), (63, (Zcd N))]
def Za6 : List Gv := [⟨4, 46, (.ints .i64 10 [0, 0, 0, 0, 0, 0, 0, 0, 0, 0])⟩]
noncomputable abbrev Zif (N:Nat) : List (FuncId × Inl) := ((26, inlOf Tryd.prog (Zb9 N) Za6 0 100 [] Tryd.f26) :: [])
theorem Zl4 (N:Nat) : InlAll Tryd.prog (Zb9 N) Za6 0 100 (Zif N) := ⟨⟨Tryd.f26, Tryd.func26, by kernel_rfl, by kernel_rfl, rfl⟩, trivial⟩
noncomputable abbrev Zd9 (N:Nat) : List (FuncId × Inl) := (Zif N)
theorem Zhv (N:Nat) : InlAll Tryd.prog (Zb9 N) Za6 0 100 (Zd9 N) := (Zl4 N)
def Zfl : Fm ((Int × Unit × Unit × Unit × Int)) ((Unit × Unit × (List Int × List Int) × (List Int × List Int))) := ⟨(.cons 0 (.int .i64) (.cons 2 (.lit (.ptr 1 [] 48)) (.cons 3 (.lit (.ptr 2797 [] 48)) (.cons 4 (.lit (.ptr 2800 [] 48)) (.one 5 (.int .i64)))))), (.cons 0 (.lit (.ints .i64 10 [0, 0, 0, 0, 0, 0, 0, 0, 0, 0])) (.cons 1 (.lit (.agg [(.ints .i64 10 [0, 0, 0, 0, 0, 0, 0, 0, 0, 0]), (.ints .i64 10 [0, 0, 0, 0, 0, 0, 0, 0, 0, 0])])) (.cons 2797 (.agg (.cons (.ints .i64 10) (.one (.ints .i64 10)))) (.one 2800 (.agg (.cons (.ints .i64 10) (.one (.ints .i64 10))))))))⟩
def Zfm : Fm ((Unit × Unit)) ((Unit × Unit × (List Int × List Int))) := ⟨(.cons 2 (.lit (.ptr 1 [] 48)) (.one 4 (.lit (.ptr 2800 [] 48)))), (.cons 0 (.lit (.ints .i64 10 [0, 0, 0, 0, 0, 0, 0, 0, 0, 0])) (.cons 1 (.lit (.agg [(.ints .i64 10 [0, 0, 0, 0, 0, 0, 0, 0, 0, 0]), (.ints .i64 10 [0, 0, 0, 0, 0, 0, 0, 0, 0, 0])])) (.one 2800 (.agg (.cons (.ints .i64 10) (.one (.ints .i64 10)))))))⟩
def Zfn : Fm (Unit) (Unit) := ⟨.nil, .nil⟩
noncomputable def ZgA (N:Nat) : List (Nat × Lf) := [(0, loopCt Zfl Zfm Zfn 2803 (Za5 N) N)]
theorem ZkH (N:Nat) : StepIs Tryd.prog (cxIn Tryd.f13 (Zb9 N) Za6 0 (Zd9 N)) (ZgA N) Tryd.f13 0 2803 Zfl Zfm Zfn (Za5 N) := by
  intro v; kernel_rfl
theorem ZpX (N:Nat) : RunIs Tryd.prog (Zb9 N) Za6 0 (ZgA N) Tryd.f13 ZjE ZjF (fun x => Zea N x) (fun g => lkI g (Zd9 N)) := by
  intro x; kernel_rfl
theorem ZpY {w0:World} (N:Nat)  (hcs:∀ x ∈ Zb9 N, SA w0 x.1 x.2) (hg:GO w0 Za6) : SA w0 13 (Zgz N) := by
  have L0 : ∀ w : Base, w.g = w0 → LoopOK Tryd.prog (cxIn Tryd.f13 (Zb9 N) Za6 0 (Zd9 N)) w 0 (.loop (loopBody Tryd.f13 0)) (loopCt Zfl Zfm Zfn 2803 (Za5 N) N) :=
    Zwc hcs (Zhv N) (ls := ZgA N) (n := 100) (by kernel_rfl) (ZkH N) N fun w hw => Zay (lp_no (by kernel_rfl) ZcC)
  exact Zt7 hcs hg (Zhv N) Tryd.func13 (by kernel_rfl) (by kernel_rfl) (S := 0) (fun w hw => Zay (Zfq (L0 w hw) (by kernel_rfl) ZcC)) (fun _ => rfl) (ZpX N)
theorem ZpZ {w0:World} (N:Nat)  (Zaq:GO w0 ZaS) (Zaf:GO w0 Zap) (Zai:GO w0 Zaz) (ZaG:GO w0 Zbg) (Zca:GO w0 Za6) : SA w0 13 (Zgz N) :=
  ZpY N (Zah (Zcm Zaq) (Zah (Zlr N Zaf) (Zah (Zbx N Zaf) (Zah (ZfY N Zaf Zai ZaG) (Zah (Zdx N Zaf) ZaM))))) Zca
abbrev Zpa : Ag ((List Int × List Int)) := (.cons (.ints .i64 10) (.one (.ints .i64 10)))
abbrev Zpb : Pt (Bool) := .bool
def ZjG (N:Nat) : Ct := fct Zpa Zpb fun x => ZhX N x.1 x.2
def ZnJ (N:Nat) : List (FuncId × Ct) := [(23, (ZaZ N)), (61, (Zdg N)), (62, Zfe), (63, (Zcd N))]
def ZdE : List Gv := [⟨1, 46, (.ints .i64 10 [1, 0, 0, 0, 0, 0, 0, 0, 0, 0])⟩]
noncomputable def ZuS (N:Nat) : List (Nat × Lf) := []
theorem Zvm (N:Nat) : RunIs Tryd.prog (ZnJ N) ZdE 0 (ZuS N) Tryd.f35 Zpa Zpb (fun x => ZhX N x.1 x.2) := by
  intro x; kernel_rfl
theorem Zvn {w0:World} (N:Nat)  (hcs:∀ x ∈ ZnJ N, SA w0 x.1 x.2) (hg:GO w0 ZdE) : SA w0 35 (ZjG N) := by
  exact Zam hcs hg Tryd.func35 (by kernel_rfl) (by kernel_rfl) (S := 0) (fun w _ => Zal _) (fun _ => rfl) (Zvm N)
theorem Zvo {w0:World} (N:Nat)  (Zaf:GO w0 Zap) (Zai:GO w0 Zaz) (ZcG:GO w0 ZdE) : SA w0 35 (ZjG N) :=
  Zvn N (Zah (Zbx N Zaf) (Zah (Zgm N Zai Zaf) (Zah (Zi0) (Zah (Zdx N Zaf) ZaM)))) ZcG
abbrev Zhw : Ag ((List Int × List Int)) := (.cons (.ints .i64 10) (.one (.ints .i64 10)))
abbrev Zhx : Pt (((List Int × List Int) × Int)) := (.tup (.cons (.agg (.cons (.ints .i64 10) (.one (.ints .i64 10)))) (.one (.int .i64))))
def ZeS (N:Nat) : Ct := fct Zhw Zhx fun x => ZcJ N x.1 x.2
def Zhg (N:Nat) : List (FuncId × Ct) := [(11, Zbv), (35, (ZjG N))]
def Zl5 : List Gv := []
noncomputable def Zl6 (N:Nat) : List (Nat × Lf) := []
theorem ZmM (N:Nat) : RunIs Tryd.prog (Zhg N) Zl5 0 (Zl6 N) Tryd.f15 Zhw Zhx (fun x => ZcJ N x.1 x.2) := by
  intro x; kernel_rfl
theorem ZmN {w0:World} (N:Nat)  (hcs:∀ x ∈ Zhg N, SA w0 x.1 x.2) : SA w0 15 (ZeS N) := by
  exact Zam hcs (Zar _ _) Tryd.func15 (by kernel_rfl) (by kernel_rfl) (S := 0) (fun w _ => Zal _) (fun _ => rfl) (ZmM N)
theorem ZmO {w0:World} (N:Nat)  (Zaq:GO w0 ZaS) (Zaf:GO w0 Zap) (Zai:GO w0 Zaz) (ZcG:GO w0 ZdE) : SA w0 15 (ZeS N) :=
  ZmN N (Zah (Zcm Zaq) (Zah (Zvo N Zaf Zai ZcG) ZaM))
abbrev Zhy : Ag (List Int) := (.one (.ints .u8 32))
abbrev Zhz : Pt (((List Int × List Int) × Int)) := (.tup (.cons (.agg (.cons (.ints .i64 10) (.one (.ints .i64 10)))) (.one (.int .i64))))
def ZeT (N:Nat) : Ct := fct Zhy Zhz fun x => Zb7 N x
def Zhh (N:Nat) : List (FuncId × Ct) := [(11, Zbv), (25, (ZgK N)), (42, (ZgW N)), (43, Zdf)]
def Zb5 : List Gv := [⟨4, 46, (.ints .i64 10 [0, 0, 0, 0, 0, 0, 0, 0, 0, 0])⟩]
noncomputable def Zl7 (N:Nat) : List (Nat × Lf) := []
theorem ZmP (N:Nat) : RunIs Tryd.prog (Zhh N) Zb5 0 (Zl7 N) Tryd.f18 Zhy Zhz (fun x => Zb7 N x) := by
  intro x; kernel_rfl
theorem ZmQ {w0:World} (N:Nat)  (hcs:∀ x ∈ Zhh N, SA w0 x.1 x.2) (hg:GO w0 Zb5) : SA w0 18 (ZeT N) := by
  exact Zam hcs hg Tryd.func18 (by kernel_rfl) (by kernel_rfl) (S := 0) (fun w _ => Zal _) (fun _ => rfl) (ZmP N)
theorem ZmR {w0:World} (N:Nat)  (Zaq:GO w0 ZaS) (Zaf:GO w0 Zap) (Zai:GO w0 Zaz) (ZaL:GO w0 Zby) (ZaB:GO w0 Za0) (Za3:GO w0 Zcj) (ZbH:GO w0 Zb5) : SA w0 18 (ZeT N) :=
  ZmQ N (Zah (Zcm Zaq) (Zah (ZnF N Zaf Zai ZaL ZaB Za3) (Zah (Zrt N Zaf) (Zah (Zgl Zai) ZaM)))) ZbH
abbrev Zkt : Ag (((List Int × List Int × List Int × List Int) × (List Int × List Int))) := (.cons (.agg (.one (.agg (.cons (.ints .u64 5) (.cons (.ints .u64 5) (.cons (.ints .u64 5) (.one (.ints .u64 5)))))))) (.one (.agg (.cons (.ints .i64 10) (.one (.ints .i64 10))))))
abbrev Zku : Pt (Bool) := .bool
def Zc2 (N:Nat) : Ct := fct Zkt Zku fun x => ZaA N x.1 x.2
def ZjH (N:Nat) : List (FuncId × Ct) := [(20, (ZfL N)), (21, (Zgw N))]
def Zp0 : List Gv := []
noncomputable def Zp1 (N:Nat) : List (Nat × Lf) := []
theorem Zru (N:Nat) : RunIs Tryd.prog (ZjH N) Zp0 0 (Zp1 N) Tryd.f8 Zkt Zku (fun x => ZaA N x.1 x.2) := by
  intro x; kernel_rfl
theorem Zrv {w0:World} (N:Nat)  (hcs:∀ x ∈ ZjH N, SA w0 x.1 x.2) : SA w0 8 (Zc2 N) := by
  exact Zam hcs (Zar _ _) Tryd.func8 (by kernel_rfl) (by kernel_rfl) (S := 0) (fun w _ => Zal _) (fun _ => rfl) (Zru N)
theorem Zfy {w0:World} (N:Nat)  (Zaj:GO w0 ZaF) : SA w0 8 (Zc2 N) :=
  Zrv N (Zah (ZoH N Zaj) (Zah (ZpU N) ZaM))
abbrev ZmD : Ag (Unit) := .nil
abbrev ZmE : Pt (Bool) := .bool
def ZhS (N:Nat) : Ct := fct ZmD ZmE fun x => Ze8 N
def ZlH (N:Nat) : List (FuncId × Ct) := [(8, (Zc2 N)), (9, ZiZ), (10, (Zgn N)), (11, Zbv)]
def ZsT : List Gv := []
noncomputable def ZsU (N:Nat) : List (Nat × Lf) := []
theorem ZtJ (N:Nat) : RunIs Tryd.prog (ZlH N) ZsT 0 (ZsU N) Tryd.f5 ZmD ZmE (fun x => Ze8 N) := by
  intro x; kernel_rfl
theorem ZtK {w0:World} (N:Nat)  (hcs:∀ x ∈ ZlH N, SA w0 x.1 x.2) : SA w0 5 (ZhS N) := by
  exact Zam hcs (Zar _ _) Tryd.func5 (by kernel_rfl) (by kernel_rfl) (S := 0) (fun w _ => Zal _) (fun _ => rfl) (ZtJ N)
theorem ZtL {w0:World} (N:Nat)  (Zaj:GO w0 ZaF) (Zc4:GO w0 ZeM) (Zaf:GO w0 Zap) (Zai:GO w0 Zaz) (ZaL:GO w0 Zby) (ZaB:GO w0 Za0) (Za3:GO w0 Zcj) (Zaq:GO w0 ZaS) : SA w0 5 (ZhS N) :=
  ZtK N (Zah (Zfy N Zaj) (Zah (Ztl Zc4) (Zah (ZmC N Zaf Zai ZaL ZaB Za3) (Zah (Zcm Zaq) ZaM))))
abbrev Zg0 : Ag (((List Int × List Int × List Int × List Int) × List Int)) := (.cons (.agg (.one (.agg (.cons (.ints .u64 5) (.cons (.ints .u64 5) (.cons (.ints .u64 5) (.one (.ints .u64 5)))))))) (.one (.ints .u8 32)))
abbrev Zg1 : Pt ((List Int × List Int × List Int × List Int)) := (.agg (.one (.agg (.cons (.ints .u64 5) (.cons (.ints .u64 5) (.cons (.ints .u64 5) (.one (.ints .u64 5))))))))
def Zc5 (N:Nat) : Ct := fct Zg0 Zg1 fun x => ZbQ N x.1 x.2
def ZbM (N:Nat) : List (FuncId × Ct) := [(45, Zde), (49, ZdZ)]
def Zch : List Gv := []
def ZdF : Fm ((Unit × Unit × Unit × Unit × Int)) (((List Int × List Int × List Int × List Int) × List Int × Unit)) := ⟨(.cons 2 (.lit (.ptr 0 [] 44)) (.cons 3 (.lit (.ptr 1 [] 30)) (.cons 4 (.lit (.ptr 2 [] 44)) (.cons 5 (.lit (.int .i64 (-1))) (.one 6 (.int .i64)))))), (.cons 0 (.agg (.one (.agg (.cons (.ints .u64 5) (.cons (.ints .u64 5) (.cons (.ints .u64 5) (.one (.ints .u64 5)))))))) (.cons 1 (.ints .u8 32) (.one 2 (.lit (.agg [(.agg [(.ints .u64 5 [0, 0, 0, 0, 0]), (.ints .u64 5 [0, 0, 0, 0, 0]), (.ints .u64 5 [0, 0, 0, 0, 0]), (.ints .u64 5 [0, 0, 0, 0, 0])])])))))⟩
def ZdG : Fm ((Unit × Unit × Unit × Int)) (((List Int × List Int × List Int × List Int) × List Int × Unit)) := ⟨(.cons 2 (.lit (.ptr 0 [] 44)) (.cons 3 (.lit (.ptr 1 [] 30)) (.cons 4 (.lit (.ptr 2 [] 44)) (.one 5 (.int .i64))))), (.cons 0 (.agg (.one (.agg (.cons (.ints .u64 5) (.cons (.ints .u64 5) (.cons (.ints .u64 5) (.one (.ints .u64 5)))))))) (.cons 1 (.ints .u8 32) (.one 2 (.lit (.agg [(.agg [(.ints .u64 5 [0, 0, 0, 0, 0]), (.ints .u64 5 [0, 0, 0, 0, 0]), (.ints .u64 5 [0, 0, 0, 0, 0]), (.ints .u64 5 [0, 0, 0, 0, 0])])])))))⟩
def ZdH : Fm (Unit) (Unit) := ⟨.nil, .nil⟩
def ZdI : Fm ((Unit × Unit × Unit × Unit × Int)) ((List Int × Unit × ((List Int × List Int × List Int × List Int) × (List Int × List Int × List Int × List Int) × (List Int × List Int × List Int × List Int) × (List Int × List Int × List Int × List Int) × (List Int × List Int × List Int × List Int) × (List Int × List Int × List Int × List Int) × (List Int × List Int × List Int × List Int) × (List Int × List Int × List Int × List Int) × (List Int × List Int × List Int × List Int) × (List Int × List Int × List Int × List Int) × (List Int × List Int × List Int × List Int) × (List Int × List Int × List Int × List Int) × (List Int × List Int × List Int × List Int) × (List Int × List Int × List Int × List Int) × (List Int × List Int × List Int × List Int) × (List Int × List Int × List Int × List Int)) × (List Int × List Int × List Int × List Int))) := ⟨(.cons 3 (.lit (.ptr 1 [] 30)) (.cons 4 (.lit (.ptr 2 [] 44)) (.cons 9 (.lit (.ptr 5 [] 123)) (.cons 11 (.lit (.ptr 219 [] 44)) (.one 12 (.int .i64)))))), (.cons 1 (.ints .u8 32) (.cons 2 (.lit (.agg [(.agg [(.ints .u64 5 [0, 0, 0, 0, 0]), (.ints .u64 5 [0, 0, 0, 0, 0]), (.ints .u64 5 [0, 0, 0, 0, 0]), (.ints .u64 5 [0, 0, 0, 0, 0])])])) (.cons 5 (.agg (.cons (.agg (.one (.agg (.cons (.ints .u64 5) (.cons (.ints .u64 5) (.cons (.ints .u64 5) (.one (.ints .u64 5)))))))) (.cons (.agg (.one (.agg (.cons (.ints .u64 5) (.cons (.ints .u64 5) (.cons (.ints .u64 5) (.one (.ints .u64 5)))))))) (.cons (.agg (.one (.agg (.cons (.ints .u64 5) (.cons (.ints .u64 5) (.cons (.ints .u64 5) (.one (.ints .u64 5)))))))) (.cons (.agg (.one (.agg (.cons (.ints .u64 5) (.cons (.ints .u64 5) (.cons (.ints .u64 5) (.one (.ints .u64 5)))))))) (.cons (.agg (.one (.agg (.cons (.ints .u64 5) (.cons (.ints .u64 5) (.cons (.ints .u64 5) (.one (.ints .u64 5)))))))) (.cons (.agg (.one (.agg (.cons (.ints .u64 5) (.cons (.ints .u64 5) (.cons (.ints .u64 5) (.one (.ints .u64 5)))))))) (.cons (.agg (.one (.agg (.cons (.ints .u64 5) (.cons (.ints .u64 5) (.cons (.ints .u64 5) (.one (.ints .u64 5)))))))) (.cons (.agg (.one (.agg (.cons (.ints .u64 5) (.cons (.ints .u64 5) (.cons (.ints .u64 5) (.one (.ints .u64 5)))))))) (.cons (.agg (.one (.agg (.cons (.ints .u64 5) (.cons (.ints .u64 5) (.cons (.ints .u64 5) (.one (.ints .u64 5)))))))) (.cons (.agg (.one (.agg (.cons (.ints .u64 5) (.cons (.ints .u64 5) (.cons (.ints .u64 5) (.one (.ints .u64 5)))))))) (.cons (.agg (.one (.agg (.cons (.ints .u64 5) (.cons (.ints .u64 5) (.cons (.ints .u64 5) (.one (.ints .u64 5)))))))) (.cons (.agg (.one (.agg (.cons (.ints .u64 5) (.cons (.ints .u64 5) (.cons (.ints .u64 5) (.one (.ints .u64 5)))))))) (.cons (.agg (.one (.agg (.cons (.ints .u64 5) (.cons (.ints .u64 5) (.cons (.ints .u64 5) (.one (.ints .u64 5)))))))) (.cons (.agg (.one (.agg (.cons (.ints .u64 5) (.cons (.ints .u64 5) (.cons (.ints .u64 5) (.one (.ints .u64 5)))))))) (.cons (.agg (.one (.agg (.cons (.ints .u64 5) (.cons (.ints .u64 5) (.cons (.ints .u64 5) (.one (.ints .u64 5)))))))) (.one (.agg (.one (.agg (.cons (.ints .u64 5) (.cons (.ints .u64 5) (.cons (.ints .u64 5) (.one (.ints .u64 5))))))))))))))))))))))))) (.one 219 (.agg (.one (.agg (.cons (.ints .u64 5) (.cons (.ints .u64 5) (.cons (.ints .u64 5) (.one (.ints .u64 5))))))))))))⟩
def ZdJ : Fm ((Unit × Unit)) ((Unit × (List Int × List Int × List Int × List Int))) := ⟨(.cons 4 (.lit (.ptr 2 [] 44)) (.one 11 (.lit (.ptr 219 [] 44)))), (.cons 2 (.lit (.agg [(.agg [(.ints .u64 5 [0, 0, 0, 0, 0]), (.ints .u64 5 [0, 0, 0, 0, 0]), (.ints .u64 5 [0, 0, 0, 0, 0]), (.ints .u64 5 [0, 0, 0, 0, 0])])])) (.one 219 (.agg (.one (.agg (.cons (.ints .u64 5) (.cons (.ints .u64 5) (.cons (.ints .u64 5) (.one (.ints .u64 5))))))))))⟩
def ZdK : Fm (Unit) (Unit) := ⟨.nil, .nil⟩
noncomputable def Zci (N:Nat) : List (Nat × Lf) := [(0, loopCt ZdF ZdG ZdH 5 (ZaQ N) N), (6, loopCt ZdI ZdJ ZdK 222 (Za7 N) N)]
theorem Zig (N:Nat) : StepIs Tryd.prog (cxOf Tryd.f53 (ZbM N) Zch 0) (Zci N) Tryd.f53 0 5 ZdF ZdG ZdH (ZaQ N) := by
  intro v; kernel_rfl
theorem Zih (N:Nat) : StepIs Tryd.prog (cxOf Tryd.f53 (ZbM N) Zch 0) (Zci N) Tryd.f53 6 222 ZdI ZdJ ZdK (Za7 N) := by
  intro v; kernel_rfl
theorem ZlI (N:Nat) : RunIs Tryd.prog (ZbM N) Zch 0 (Zci N) Tryd.f53 Zg0 Zg1 (fun x => ZbQ N x.1 x.2) := by
  intro x; kernel_rfl
theorem ZlJ {w0:World} (N:Nat)  (hcs:∀ x ∈ ZbM N, SA w0 x.1 x.2) : SA w0 53 (Zc5 N) := by
  have L0 : ∀ w : Base, w.g = w0 → LoopOK Tryd.prog (cxOf Tryd.f53 (ZbM N) Zch 0) w 0 (.loop (loopBody Tryd.f53 0)) (loopCt ZdF ZdG ZdH 5 (ZaQ N) N) :=
    Zbs hcs (ls := Zci N) (n := 100) (by kernel_rfl) (Zig N) N fun w hw => Zay (lp_no (by kernel_rfl) (lp_no (by kernel_rfl) ZcC))
  have L6 : ∀ w : Base, w.g = w0 → LoopOK Tryd.prog (cxOf Tryd.f53 (ZbM N) Zch 0) w 6 (.loop (loopBody Tryd.f53 6)) (loopCt ZdI ZdJ ZdK 222 (Za7 N) N) :=
    Zbs hcs (ls := Zci N) (n := 100) (by kernel_rfl) (Zih N) N fun w hw => Zay (lp_no (by kernel_rfl) (lp_no (by kernel_rfl) ZcC))
  exact Zam hcs (Zar _ _) Tryd.func53 (by kernel_rfl) (by kernel_rfl) (S := 0) (fun w hw => Zay (Zfq (L0 w hw) (by kernel_rfl) (Zfq (L6 w hw) (by kernel_rfl) ZcC))) (fun _ => rfl) (ZlI N)
theorem Zg2 {w0:World} (N:Nat)  (Zaj:GO w0 ZaF) (ZaH:GO w0 ZbF) : SA w0 53 (Zc5 N) :=
  ZlJ N (Zah (Zgk Zaj ZaH) (Zah (ZiJ Zaj) ZaM))
abbrev Zkv : Ag ((Int × Int)) := (.cons (.int .i64) (.one (.int .i64)))
abbrev Zkw : Pt (Int) := (.int .i64)
def ZeU : Ct := fct Zkv Zkw fun x => ZcN x.1 x.2
def ZjI : List (FuncId × Ct) := []
def Zp2 : List Gv := []
noncomputable def Zp3 : List (Nat × Lf) := []
theorem Zrw : RunIs Tryd.prog (ZjI) Zp2 0 (Zp3) Tryd.f54 Zkv Zkw (fun x => ZcN x.1 x.2) := by
  intro x; kernel_rfl
theorem Zrx {w0:World}  (hcs:∀ x ∈ ZjI, SA w0 x.1 x.2) : SA w0 54 ZeU := by
  exact Zam hcs (Zar _ _) Tryd.func54 (by kernel_rfl) (by kernel_rfl) (S := 0) (fun w _ => Zal _) (fun _ => rfl) (Zrw)
theorem Zkx {w0:World}  : SA w0 54 ZeU :=
  Zrx ZaM
abbrev Zpc : Ag ((List Int × List Int)) := (.cons (.ints .u64 4) (.one (.ints .u64 4)))
abbrev Zpd : Pt ((List Int × Int)) := (.tup (.cons (.ints .u64 4) (.one (.int .u64))))
def Zhi : Ct := fct Zpc Zpd fun x => ZgY x.1 x.2
def ZnK : List (FuncId × Ct) := [(96, Zqy)]
def ZuT : List Gv := []
noncomputable def ZuU : List (Nat × Lf) := []
theorem Zvp : RunIs Tryd.prog (ZnK) ZuT 0 (ZuU) Tryd.f92 Zpc Zpd (fun x => ZgY x.1 x.2) := by
  intro x; kernel_rfl
theorem Zvq {w0:World}  (hcs:∀ x ∈ ZnK, SA w0 x.1 x.2) : SA w0 92 Zhi := by
  exact Zam hcs (Zar _ _) Tryd.func92 (by kernel_rfl) (by kernel_rfl) (S := 0) (fun w _ => Zal _) (fun _ => rfl) (Zvp)
theorem Zpe {w0:World}  : SA w0 92 Zhi :=
  Zvq (Zah (ZxT) ZaM)
abbrev Zry : Ag ((List Int × List Int)) := (.cons (.ints .u64 4) (.one (.ints .u64 4)))
abbrev Zrz : Pt ((List Int × Int)) := (.tup (.cons (.ints .u64 4) (.one (.int .u64))))
def ZkI : Ct := fct Zry Zrz fun x => Zi8 x.1 x.2
def Zpf : List (FuncId × Ct) := [(85, ZiW)]
def Zvr : List Gv := []
noncomputable def Zvs : List (Nat × Lf) := []
theorem ZwQ : RunIs Tryd.prog (Zpf) Zvr 0 (Zvs) Tryd.f93 Zry Zrz (fun x => Zi8 x.1 x.2) := by
  intro x; kernel_rfl
theorem ZwR {w0:World}  (hcs:∀ x ∈ Zpf, SA w0 x.1 x.2) : SA w0 93 ZkI := by
  exact Zam hcs (Zar _ _) Tryd.func93 (by kernel_rfl) (by kernel_rfl) (S := 0) (fun w _ => Zal _) (fun _ => rfl) (ZwQ)
theorem ZwS {w0:World}  : SA w0 93 ZkI :=
  ZwR (Zah (Znh) ZaM)
abbrev ZnL : Ag ((Int × List Int × List Int)) := (.cons (.int .u64) (.cons (.ints .u64 4) (.one (.ints .u64 4))))
abbrev ZnM : Pt (List Int) := (.ints .u64 4)
def ZgL : Ct := tct ZnL ZnM fun x => ZdX x.1 x.2.1 x.2.2
def ZmF : List (FuncId × Ct) := []
def ZtM : List Gv := []
noncomputable def ZtN : List (Nat × Lf) := []
theorem ZuV : RunIs Tryd.prog (ZmF) ZtM 0 (ZtN) Tryd.f95 ZnL ZnM (fun x => some (ZdX x.1 x.2.1 x.2.2)) := by
  intro x; kernel_rfl
theorem ZuW {w0:World}  (hcs:∀ x ∈ ZmF, SA w0 x.1 x.2) : SA w0 95 ZgL := by
  exact Zbw (Zam hcs (Zar _ _) Tryd.func95 (by kernel_rfl) (by kernel_rfl) (S := 0) (fun w _ => Zal _) (fun _ => rfl) (ZuV)) fun _ _ => rfl
theorem ZnN {w0:World}  : SA w0 95 ZgL :=
  ZuW ZaM
abbrev Zpg : Ag (List Int) := (.one (.ints .u64 4))
abbrev Zph : Pt (List Int) := (.ints .u64 4)
def ZjJ : Ct := fct Zpg Zph fun x => ZhZ x
def ZnO : List (FuncId × Ct) := [(92, Zhi), (95, ZgL)]
def ZcH : List Gv := [⟨9, 130, (.agg [(.ints .u64 4 [6346243789798364141, 1503914060200516822, 0, 1152921504606846976]), (.ints .u64 4 [15486807595281847581, 14334777244411350896, 18446744073709551614, 1152921504606846975]), (.ints .u64 4 [11819153939886771969, 14991950615390032711, 14910419812499177061, 259310039853996605]), (.ints .u64 4 [6346243789798364139, 1503914060200516822, 0, 1152921504606846976])])⟩]
noncomputable def ZuX : List (Nat × Lf) := []
theorem Zvt : RunIs Tryd.prog (ZnO) ZcH 0 (ZuX) Tryd.f94 Zpg Zph (fun x => ZhZ x) := by
  intro x; kernel_rfl
theorem Zvu {w0:World}  (hcs:∀ x ∈ ZnO, SA w0 x.1 x.2) (hg:GO w0 ZcH) : SA w0 94 ZjJ := by
  exact Zam hcs hg Tryd.func94 (by kernel_rfl) (by kernel_rfl) (S := 0) (fun w _ => Zal _) (fun _ => rfl) (Zvt)
theorem Zvv {w0:World}  (Zbz:GO w0 ZcH) : SA w0 94 ZjJ :=
  Zvu (Zah (Zpe) (Zah (ZnN) ZaM)) Zbz
abbrev Zii : Ag (List Int) := (.one (.ints .u64 4))
abbrev Zij : Pt (List Int) := (.ints .u64 4)
def Zfo : Ct := fct Zii Zij fun x => ZdA x
def ZhA : List (FuncId × Ct) := [(84, ZiX), (85, ZiW), (92, Zhi), (93, ZkI), (94, ZjJ), (95, ZgL)]
def Zbt : List Gv := [⟨9, 130, (.agg [(.ints .u64 4 [6346243789798364141, 1503914060200516822, 0, 1152921504606846976]), (.ints .u64 4 [15486807595281847581, 14334777244411350896, 18446744073709551614, 1152921504606846975]), (.ints .u64 4 [11819153939886771969, 14991950615390032711, 14910419812499177061, 259310039853996605]), (.ints .u64 4 [6346243789798364139, 1503914060200516822, 0, 1152921504606846976])])⟩]
noncomputable def ZmS : List (Nat × Lf) := []
theorem ZnP : RunIs Tryd.prog (ZhA) Zbt 0 (ZmS) Tryd.f89 Zii Zij (fun x => ZdA x) := by
  intro x; kernel_rfl
theorem ZnQ {w0:World}  (hcs:∀ x ∈ ZhA, SA w0 x.1 x.2) (hg:GO w0 Zbt) : SA w0 89 Zfo := by
  exact Zam hcs hg Tryd.func89 (by kernel_rfl) (by kernel_rfl) (S := 0) (fun w _ => Zal _) (fun _ => rfl) (ZnP)
theorem ZnR {w0:World}  (Zbz:GO w0 ZcH) (ZaU:GO w0 Zbt) : SA w0 89 Zfo :=
  ZnQ (Zah (Ztd) (Zah (Znh) (Zah (Zpe) (Zah (ZwS) (Zah (Zvv Zbz) (Zah (ZnN) ZaM)))))) ZaU
abbrev ZhB : Ag (List Int) := (.one (.ints .u64 4))
abbrev ZhC : Pt (List Int) := (.ints .u8 32)
def ZeV (N:Nat) : Ct := fct ZhB ZhC fun x => Zdm N x
def Zdp (N:Nat) : List (FuncId × Ct) := [(89, Zfo)]
def ZeW : List Gv := []
def Zd3 : Fm ((Unit × Unit × Unit × Int)) ((List Int × Unit × List Int)) := ⟨(.cons 1 (.lit (.ptr 0 [] 33)) (.cons 2 (.lit (.ptr 1 [] 30)) (.cons 3 (.lit (.ptr 5 [] 30)) (.one 7 (.int .i64))))), (.cons 0 (.ints .u64 4) (.cons 1 (.lit (.ints .u8 32 [0, 0, 0, 0, 0, 0, 0, 0, 0, 0, 0, 0, 0, 0, 0, 0, 0, 0, 0, 0, 0, 0, 0, 0, 0, 0, 0, 0, 0, 0, 0, 0])) (.one 5 (.ints .u8 32))))⟩
def Zd4 : Fm ((Unit × Unit)) ((Unit × List Int)) := ⟨(.cons 2 (.lit (.ptr 1 [] 30)) (.one 3 (.lit (.ptr 5 [] 30)))), (.cons 1 (.lit (.ints .u8 32 [0, 0, 0, 0, 0, 0, 0, 0, 0, 0, 0, 0, 0, 0, 0, 0, 0, 0, 0, 0, 0, 0, 0, 0, 0, 0, 0, 0, 0, 0, 0, 0])) (.one 5 (.ints .u8 32)))⟩
def Zd5 : Fm (Unit) (Unit) := ⟨.nil, .nil⟩
noncomputable def ZeX (N:Nat) : List (Nat × Lf) := [(0, loopCt Zd3 Zd4 Zd5 7 (Zcy N) N)]
theorem Zi1 (N:Nat) : StepIs Tryd.prog (cxOf Tryd.f76 (Zdp N) ZeW 0) (ZeX N) Tryd.f76 0 7 Zd3 Zd4 Zd5 (Zcy N) := by
  intro v; kernel_rfl
theorem ZmT (N:Nat) : RunIs Tryd.prog (Zdp N) ZeW 0 (ZeX N) Tryd.f76 ZhB ZhC (fun x => Zdm N x) := by
  intro x; kernel_rfl
theorem ZmU {w0:World} (N:Nat)  (hcs:∀ x ∈ Zdp N, SA w0 x.1 x.2) : SA w0 76 (ZeV N) := by
  have L0 : ∀ w : Base, w.g = w0 → LoopOK Tryd.prog (cxOf Tryd.f76 (Zdp N) ZeW 0) w 0 (.loop (loopBody Tryd.f76 0)) (loopCt Zd3 Zd4 Zd5 7 (Zcy N) N) :=
    Zbs hcs (ls := ZeX N) (n := 100) (by kernel_rfl) (Zi1 N) N fun w hw => Zay (lp_no (by kernel_rfl) ZcC)
  exact Zam hcs (Zar _ _) Tryd.func76 (by kernel_rfl) (by kernel_rfl) (S := 0) (fun w hw => Zay (Zfq (L0 w hw) (by kernel_rfl) ZcC)) (fun _ => rfl) (ZmT N)
theorem ZmV {w0:World} (N:Nat)  (Zbz:GO w0 ZcH) (ZaU:GO w0 Zbt) : SA w0 76 (ZeV N) :=
  ZmU N (Zah (ZnR Zbz ZaU) ZaM)
abbrev ZjK : Ag (((List Int × List Int × List Int × List Int) × List Int)) := (.cons (.agg (.one (.agg (.cons (.ints .u64 5) (.cons (.ints .u64 5) (.cons (.ints .u64 5) (.one (.ints .u64 5)))))))) (.one (.ints .u64 4)))
abbrev ZjL : Pt ((List Int × List Int × List Int × List Int)) := (.agg (.one (.agg (.cons (.ints .u64 5) (.cons (.ints .u64 5) (.cons (.ints .u64 5) (.one (.ints .u64 5))))))))
def ZgB (N:Nat) : Ct := fct ZjK ZjL fun x => Zec N x.1 x.2
def ZiS (N:Nat) : List (FuncId × Ct) := [(53, (Zc5 N)), (76, (ZeV N))]
def ZoQ : List Gv := []
noncomputable def ZoR (N:Nat) : List (Nat × Lf) := []
theorem Zp4 (N:Nat) : RunIs Tryd.prog (ZiS N) ZoQ 0 (ZoR N) Tryd.f50 ZjK ZjL (fun x => Zec N x.1 x.2) := by
  intro x; kernel_rfl
theorem Zp5 {w0:World} (N:Nat)  (hcs:∀ x ∈ ZiS N, SA w0 x.1 x.2) : SA w0 50 (ZgB N) := by
  exact Zam hcs (Zar _ _) Tryd.func50 (by kernel_rfl) (by kernel_rfl) (S := 0) (fun w _ => Zal _) (fun _ => rfl) (Zp4 N)
theorem Zp6 {w0:World} (N:Nat)  (Zaj:GO w0 ZaF) (ZaH:GO w0 ZbF) (Zbz:GO w0 ZcH) (ZaU:GO w0 Zbt) : SA w0 50 (ZgB N) :=
  Zp5 N (Zah (Zg2 N Zaj ZaH) (Zah (ZmV N Zbz ZaU) ZaM))
abbrev ZlK : Ag (List Int) := (.one (.ints .u8 32))
abbrev ZlL : Pt (Bool) := .bool
def Zhj (N:Nat) : Ct := fct ZlK ZlL fun x => ZfA N x
def Zfz (N:Nat) : List (FuncId × Ct) := []
def ZbU : List Gv := [⟨8, 29, (.ints .u8 32 [237, 211, 245, 92, 26, 99, 18, 88, 214, 156, 247, 162, 222, 249, 222, 20, 0, 0, 0, 0, 0, 0, 0, 0, 0, 0, 0, 0, 0, 0, 0, 16])⟩]
def ZgC : Fm ((Unit × Unit × Int)) ((Unit × List Int)) := ⟨(.cons 1 (.lit (.ptr 1 [] 30)) (.cons 2 (.lit (.bool false)) (.one 3 (.int .i64)))), (.cons 0 (.lit (.ints .u8 32 [237, 211, 245, 92, 26, 99, 18, 88, 214, 156, 247, 162, 222, 249, 222, 20, 0, 0, 0, 0, 0, 0, 0, 0, 0, 0, 0, 0, 0, 0, 0, 16])) (.one 1 (.ints .u8 32)))⟩
def ZgD : Fm (Unit) (Unit) := ⟨.nil, (.one 0 (.lit (.ints .u8 32 [237, 211, 245, 92, 26, 99, 18, 88, 214, 156, 247, 162, 222, 249, 222, 20, 0, 0, 0, 0, 0, 0, 0, 0, 0, 0, 0, 0, 0, 0, 0, 16])))⟩
def ZgE : Fm (Bool) (Unit) := ⟨(.one 2 .bool), (.one 0 (.lit (.ints .u8 32 [237, 211, 245, 92, 26, 99, 18, 88, 214, 156, 247, 162, 222, 249, 222, 20, 0, 0, 0, 0, 0, 0, 0, 0, 0, 0, 0, 0, 0, 0, 0, 16])))⟩
noncomputable def Zhk (N:Nat) : List (Nat × Lf) := [(0, loopCt ZgC ZgD ZgE 4 (Zbl N) N)]
theorem Zl8 (N:Nat) : StepIs Tryd.prog (cxOf Tryd.f78 (Zfz N) ZbU 0) (Zhk N) Tryd.f78 0 4 ZgC ZgD ZgE (Zbl N) := by
  intro v; kernel_rfl
theorem ZsV (N:Nat) : RunIs Tryd.prog (Zfz N) ZbU 0 (Zhk N) Tryd.f78 ZlK ZlL (fun x => ZfA N x) := by
  intro x; kernel_rfl
theorem ZsW {w0:World} (N:Nat)  (hcs:∀ x ∈ Zfz N, SA w0 x.1 x.2) (hg:GO w0 ZbU) : SA w0 78 (Zhj N) := by
  have L0 : ∀ w : Base, w.g = w0 → LoopOK Tryd.prog (cxOf Tryd.f78 (Zfz N) ZbU 0) w 0 (.loop (loopBody Tryd.f78 0)) (loopCt ZgC ZgD ZgE 4 (Zbl N) N) :=
    Zbs hcs (ls := Zhk N) (n := 100) (by kernel_rfl) (Zl8 N) N fun w hw => Zay (lp_no (by kernel_rfl) ZcC)
  exact Zam hcs hg Tryd.func78 (by kernel_rfl) (by kernel_rfl) (S := 0) (fun w hw => Zay (Zfq (L0 w hw) (by kernel_rfl) ZcC)) (fun _ => rfl) (ZsV N)
theorem ZsX {w0:World} (N:Nat)  (ZbV:GO w0 ZbU) : SA w0 78 (Zhj N) :=
  ZsW N ZaM ZbV
abbrev Zky : Ag (List Int) := (.one (.ints .u64 4))
abbrev Zkz : Pt (List Int) := (.ints .u8 32)
def ZgX (N:Nat) : Ct := fct Zky Zkz fun x => Ze3 N x
def Zb2 (N:Nat) : List (FuncId × Ct) := [(78, (Zhj N))]
def Za4 : List Gv := [⟨8, 29, (.ints .u8 32 [237, 211, 245, 92, 26, 99, 18, 88, 214, 156, 247, 162, 222, 249, 222, 20, 0, 0, 0, 0, 0, 0, 0, 0, 0, 0, 0, 0, 0, 0, 0, 16])⟩]
def ZfZ : Fm ((Unit × Unit × Unit × Int)) ((Unit × List Int × Unit × List Int)) := ⟨(.cons 1 (.lit (.ptr 1 [] 33)) (.cons 2 (.lit (.ptr 2 [] 30)) (.cons 3 (.lit (.ptr 3 [] 30)) (.one 4 (.int .i64))))), (.cons 0 (.lit (.ints .u8 32 [237, 211, 245, 92, 26, 99, 18, 88, 214, 156, 247, 162, 222, 249, 222, 20, 0, 0, 0, 0, 0, 0, 0, 0, 0, 0, 0, 0, 0, 0, 0, 16])) (.cons 1 (.ints .u64 4) (.cons 2 (.lit (.ints .u8 32 [0, 0, 0, 0, 0, 0, 0, 0, 0, 0, 0, 0, 0, 0, 0, 0, 0, 0, 0, 0, 0, 0, 0, 0, 0, 0, 0, 0, 0, 0, 0, 0])) (.one 3 (.ints .u8 32)))))⟩
def Zf0 : Fm ((Unit × Unit)) ((Unit × Unit × List Int)) := ⟨(.cons 2 (.lit (.ptr 2 [] 30)) (.one 3 (.lit (.ptr 3 [] 30)))), (.cons 0 (.lit (.ints .u8 32 [237, 211, 245, 92, 26, 99, 18, 88, 214, 156, 247, 162, 222, 249, 222, 20, 0, 0, 0, 0, 0, 0, 0, 0, 0, 0, 0, 0, 0, 0, 0, 16])) (.cons 2 (.lit (.ints .u8 32 [0, 0, 0, 0, 0, 0, 0, 0, 0, 0, 0, 0, 0, 0, 0, 0, 0, 0, 0, 0, 0, 0, 0, 0, 0, 0, 0, 0, 0, 0, 0, 0])) (.one 3 (.ints .u8 32))))⟩
def Zf1 : Fm (Unit) (Unit) := ⟨.nil, .nil⟩
def Zf2 : Fm ((Unit × Unit × Int × Int)) ((Unit × Unit × List Int)) := ⟨(.cons 2 (.lit (.ptr 2 [] 30)) (.cons 3 (.lit (.ptr 3 [] 30)) (.cons 5 (.int .i64) (.one 6 (.int .i64))))), (.cons 0 (.lit (.ints .u8 32 [237, 211, 245, 92, 26, 99, 18, 88, 214, 156, 247, 162, 222, 249, 222, 20, 0, 0, 0, 0, 0, 0, 0, 0, 0, 0, 0, 0, 0, 0, 0, 16])) (.cons 2 (.lit (.ints .u8 32 [0, 0, 0, 0, 0, 0, 0, 0, 0, 0, 0, 0, 0, 0, 0, 0, 0, 0, 0, 0, 0, 0, 0, 0, 0, 0, 0, 0, 0, 0, 0, 0])) (.one 3 (.ints .u8 32))))⟩
def Zf3 : Fm ((Unit × Unit)) ((Unit × Unit × List Int)) := ⟨(.cons 2 (.lit (.ptr 2 [] 30)) (.one 3 (.lit (.ptr 3 [] 30)))), (.cons 0 (.lit (.ints .u8 32 [237, 211, 245, 92, 26, 99, 18, 88, 214, 156, 247, 162, 222, 249, 222, 20, 0, 0, 0, 0, 0, 0, 0, 0, 0, 0, 0, 0, 0, 0, 0, 16])) (.cons 2 (.lit (.ints .u8 32 [0, 0, 0, 0, 0, 0, 0, 0, 0, 0, 0, 0, 0, 0, 0, 0, 0, 0, 0, 0, 0, 0, 0, 0, 0, 0, 0, 0, 0, 0, 0, 0])) (.one 3 (.ints .u8 32))))⟩
def Zf4 : Fm (Unit) (Unit) := ⟨.nil, .nil⟩
def Zf5 : Fm ((Unit × Unit)) ((Unit × Unit × List Int)) := ⟨(.cons 2 (.lit (.ptr 2 [] 30)) (.one 3 (.lit (.ptr 3 [] 30)))), (.cons 0 (.lit (.ints .u8 32 [237, 211, 245, 92, 26, 99, 18, 88, 214, 156, 247, 162, 222, 249, 222, 20, 0, 0, 0, 0, 0, 0, 0, 0, 0, 0, 0, 0, 0, 0, 0, 16])) (.cons 2 (.lit (.ints .u8 32 [0, 0, 0, 0, 0, 0, 0, 0, 0, 0, 0, 0, 0, 0, 0, 0, 0, 0, 0, 0, 0, 0, 0, 0, 0, 0, 0, 0, 0, 0, 0, 0])) (.one 3 (.ints .u8 32))))⟩
def Zf6 : Fm ((Unit × Unit)) ((Unit × Unit × List Int)) := ⟨(.cons 2 (.lit (.ptr 2 [] 30)) (.one 3 (.lit (.ptr 3 [] 30)))), (.cons 0 (.lit (.ints .u8 32 [237, 211, 245, 92, 26, 99, 18, 88, 214, 156, 247, 162, 222, 249, 222, 20, 0, 0, 0, 0, 0, 0, 0, 0, 0, 0, 0, 0, 0, 0, 0, 16])) (.cons 2 (.lit (.ints .u8 32 [0, 0, 0, 0, 0, 0, 0, 0, 0, 0, 0, 0, 0, 0, 0, 0, 0, 0, 0, 0, 0, 0, 0, 0, 0, 0, 0, 0, 0, 0, 0, 0])) (.one 3 (.ints .u8 32))))⟩
def Zf7 : Fm (Unit) (Unit) := ⟨.nil, .nil⟩
noncomputable def Zcn (N:Nat) : List (Nat × Lf) := [(0, loopCt ZfZ Zf0 Zf1 5 (ZdB N) N), (4, loopCt Zf2 Zf3 Zf4 10 (ZbG N) N), (2, loopCt Zf5 Zf6 Zf7 5 (Za1 N) N)]
theorem ZlM (N:Nat) : StepIs Tryd.prog (cxOf Tryd.f52 (Zb2 N) Za4 0) (Zcn N) Tryd.f52 0 5 ZfZ Zf0 Zf1 (ZdB N) := by
  intro v; kernel_rfl
theorem ZlN (N:Nat) : StepIs Tryd.prog (cxOf Tryd.f52 (Zb2 N) Za4 0) (Zcn N) Tryd.f52 4 10 Zf2 Zf3 Zf4 (ZbG N) := by
  intro v; kernel_rfl
theorem ZlO (N:Nat) : StepIs Tryd.prog (cxOf Tryd.f52 (Zb2 N) Za4 0) (Zcn N) Tryd.f52 2 5 Zf5 Zf6 Zf7 (Za1 N) := by
  intro v; kernel_rfl
theorem ZrA (N:Nat) : RunIs Tryd.prog (Zb2 N) Za4 0 (Zcn N) Tryd.f52 Zky Zkz (fun x => Ze3 N x) := by
  intro x; kernel_rfl
theorem ZrB {w0:World} (N:Nat)  (hcs:∀ x ∈ Zb2 N, SA w0 x.1 x.2) (hg:GO w0 Za4) : SA w0 52 (ZgX N) := by
  have L0 : ∀ w : Base, w.g = w0 → LoopOK Tryd.prog (cxOf Tryd.f52 (Zb2 N) Za4 0) w 0 (.loop (loopBody Tryd.f52 0)) (loopCt ZfZ Zf0 Zf1 5 (ZdB N) N) :=
    Zbs hcs (ls := Zcn N) (n := 100) (by kernel_rfl) (ZlM N) N fun w hw => Zay (lp_no (by kernel_rfl) (lp_no (by kernel_rfl) (lp_no (by kernel_rfl) ZcC)))
  have L4 : ∀ w : Base, w.g = w0 → LoopOK Tryd.prog (cxOf Tryd.f52 (Zb2 N) Za4 0) w 4 (.loop (loopBody Tryd.f52 4)) (loopCt Zf2 Zf3 Zf4 10 (ZbG N) N) :=
    Zbs hcs (ls := Zcn N) (n := 100) (by kernel_rfl) (ZlN N) N fun w hw => Zay (lp_no (by kernel_rfl) (lp_no (by kernel_rfl) (lp_no (by kernel_rfl) ZcC)))
  have L2 : ∀ w : Base, w.g = w0 → LoopOK Tryd.prog (cxOf Tryd.f52 (Zb2 N) Za4 0) w 2 (.loop (loopBody Tryd.f52 2)) (loopCt Zf5 Zf6 Zf7 5 (Za1 N) N) :=
    Zbs hcs (ls := Zcn N) (n := 100) (by kernel_rfl) (ZlO N) N fun w hw => Zay (lp_no (by kernel_rfl) (Zfq (L4 w hw) (by kernel_rfl) (lp_no (by kernel_rfl) ZcC)))
  exact Zam hcs hg Tryd.func52 (by kernel_rfl) (by kernel_rfl) (S := 0) (fun w hw => Zay (Zfq (L0 w hw) (by kernel_rfl) (Zfq (L4 w hw) (by kernel_rfl) (Zfq (L2 w hw) (by kernel_rfl) ZcC)))) (fun _ => rfl) (ZrA N)
theorem ZrC {w0:World} (N:Nat)  (ZbV:GO w0 ZbU) (Zco:GO w0 Za4) : SA w0 52 (ZgX N) :=
  ZrB N (Zah (ZsX N ZbV) ZaM) Zco
abbrev ZuY : Ag ((List ((List Int × List Int × List Int × List Int)) × Unit)) := (.one (.tup (.cons (.vec (.agg (.agg (.cons (.ints .u64 5) (.cons (.ints .u64 5) (.cons (.ints .u64 5) (.ints .u64 5))))))) (.one (.lit (.clo 44 []))))))
abbrev ZuZ : Pt ((List Int × List Int × List Int × List Int)) := (.agg (.one (.agg (.cons (.ints .u64 5) (.cons (.ints .u64 5) (.cons (.ints .u64 5) (.one (.ints .u64 5))))))))
def ZnS (N:Nat) : Ct := fct ZuY ZuZ fun x => ZhY N x
def ZkA (N:Nat) : List (FuncId × Ct) := [(45, Zde)]
def ZnT : List Gv := []
def ZkJ : Fm ((Unit × Unit × Nat × Int × Int)) ((List ((List Int × List Int × List Int × List Int)) × Unit × (List Int × List Int × List Int × List Int))) := ⟨(.cons 2 (.lit (.ptr 1 [] 44)) (.cons 3 (.lit (.ptr 2 [] 44)) (.cons 6 (.slw 0 44) (.cons 7 (.int .i64) (.one 8 (.int .i64)))))), (.cons 0 (.vec (.agg (.agg (.cons (.ints .u64 5) (.cons (.ints .u64 5) (.cons (.ints .u64 5) (.ints .u64 5))))))) (.cons 1 (.lit (.agg [(.agg [(.ints .u64 5 [0, 0, 0, 0, 0]), (.ints .u64 5 [0, 0, 0, 0, 0]), (.ints .u64 5 [0, 0, 0, 0, 0]), (.ints .u64 5 [0, 0, 0, 0, 0])])])) (.one 2 (.agg (.one (.agg (.cons (.ints .u64 5) (.cons (.ints .u64 5) (.cons (.ints .u64 5) (.one (.ints .u64 5)))))))))))⟩
def ZkK : Fm ((Unit × Unit)) ((Unit × (List Int × List Int × List Int × List Int))) := ⟨(.cons 2 (.lit (.ptr 1 [] 44)) (.one 3 (.lit (.ptr 2 [] 44)))), (.cons 1 (.lit (.agg [(.agg [(.ints .u64 5 [0, 0, 0, 0, 0]), (.ints .u64 5 [0, 0, 0, 0, 0]), (.ints .u64 5 [0, 0, 0, 0, 0]), (.ints .u64 5 [0, 0, 0, 0, 0])])])) (.one 2 (.agg (.one (.agg (.cons (.ints .u64 5) (.cons (.ints .u64 5) (.cons (.ints .u64 5) (.one (.ints .u64 5))))))))))⟩
def ZkL : Fm (Unit) (Unit) := ⟨.nil, .nil⟩
noncomputable def ZnU (N:Nat) : List (Nat × Lf) := [(0, loopCt ZkJ ZkK ZkL 6 (ZeE N) N)]
theorem ZsY (N:Nat) : StepIs Tryd.prog (cxOf Tryd.f55 (ZkA N) ZnT 1) (ZnU N) Tryd.f55 0 6 ZkJ ZkK ZkL (ZeE N) := by
  intro v; kernel_rfl
theorem ZyP (N:Nat) : RunIs Tryd.prog (ZkA N) ZnT 1 (ZnU N) Tryd.f55 ZuY ZuZ (fun x => ZhY N x) := by
  intro x; kernel_rfl
theorem ZyQ {w0:World} (N:Nat)  (hcs:∀ x ∈ ZkA N, SA w0 x.1 x.2) : SA w0 55 (ZnS N) := by
  have L0 : ∀ w : Base, w.g = w0 → LoopOK Tryd.prog (cxOf Tryd.f55 (ZkA N) ZnT 1) w 0 (.loop (loopBody Tryd.f55 0)) (loopCt ZkJ ZkK ZkL 6 (ZeE N) N) :=
    Zbs hcs (ls := ZnU N) (n := 100) (by kernel_rfl) (ZsY N) N fun w hw => Zay (lp_no (by kernel_rfl) ZcC)
  exact Zam hcs (Zar _ _) Tryd.func55 (by kernel_rfl) (by kernel_rfl) (S := 1) (fun w hw => Zay (Zfq (L0 w hw) (by kernel_rfl) ZcC)) (fun _ => rfl) (ZyP N)
theorem ZyR {w0:World} (N:Nat)  (Zaj:GO w0 ZaF) (ZaH:GO w0 ZbF) : SA w0 55 (ZnS N) :=
  ZyQ N (Zah (Zgk Zaj ZaH) ZaM)
abbrev ZnV : Ag ((List ((List Int × List Int)) × Unit)) := (.one (.tup (.cons (.vec (.agg (.cons (.ints .i64 10) (.ints .i64 10)))) (.one (.lit (.clo 48 []))))))
abbrev ZnW : Pt ((List Int × List Int)) := (.agg (.cons (.ints .i64 10) (.one (.ints .i64 10))))
def Ziu (N:Nat) : Ct := fct ZnV ZnW fun x => ZdV N x
def ZgM (N:Nat) : List (FuncId × Ct) := [(11, Zbv), (27, (ZcT N))]
def Ziv : List Gv := []
def Zhl : Fm ((Nat × Unit × Unit × Int)) ((List ((List Int × List Int)) × Unit × (List Int × List Int))) := ⟨(.cons 0 (.slw 0 48) (.cons 2 (.lit (.ptr 1 [] 48)) (.cons 3 (.lit (.ptr 3 [] 48)) (.one 4 (.int .i64))))), (.cons 0 (.vec (.agg (.cons (.ints .i64 10) (.ints .i64 10)))) (.cons 1 (.lit (.agg [(.ints .i64 10 [0, 0, 0, 0, 0, 0, 0, 0, 0, 0]), (.ints .i64 10 [0, 0, 0, 0, 0, 0, 0, 0, 0, 0])])) (.one 3 (.agg (.cons (.ints .i64 10) (.one (.ints .i64 10)))))))⟩
def Zhm : Fm ((Unit × Unit)) ((Unit × (List Int × List Int))) := ⟨(.cons 2 (.lit (.ptr 1 [] 48)) (.one 3 (.lit (.ptr 3 [] 48)))), (.cons 1 (.lit (.agg [(.ints .i64 10 [0, 0, 0, 0, 0, 0, 0, 0, 0, 0]), (.ints .i64 10 [0, 0, 0, 0, 0, 0, 0, 0, 0, 0])])) (.one 3 (.agg (.cons (.ints .i64 10) (.one (.ints .i64 10))))))⟩
def Zhn : Fm (Unit) (Unit) := ⟨.nil, .nil⟩
noncomputable def Ziw (N:Nat) : List (Nat × Lf) := [(0, loopCt Zhl Zhm Zhn 6 (ZcO N) N)]
theorem ZnX (N:Nat) : StepIs Tryd.prog (cxOf Tryd.f56 (ZgM N) Ziv 1) (Ziw N) Tryd.f56 0 6 Zhl Zhm Zhn (ZcO N) := by
  intro v; kernel_rfl
theorem Zu0 (N:Nat) : RunIs Tryd.prog (ZgM N) Ziv 1 (Ziw N) Tryd.f56 ZnV ZnW (fun x => ZdV N x) := by
  intro x; kernel_rfl
theorem Zu1 {w0:World} (N:Nat)  (hcs:∀ x ∈ ZgM N, SA w0 x.1 x.2) : SA w0 56 (Ziu N) := by
  have L0 : ∀ w : Base, w.g = w0 → LoopOK Tryd.prog (cxOf Tryd.f56 (ZgM N) Ziv 1) w 0 (.loop (loopBody Tryd.f56 0)) (loopCt Zhl Zhm Zhn 6 (ZcO N) N) :=
    Zbs hcs (ls := Ziw N) (n := 100) (by kernel_rfl) (ZnX N) N fun w hw => Zay (lp_no (by kernel_rfl) ZcC)
  exact Zam hcs (Zar _ _) Tryd.func56 (by kernel_rfl) (by kernel_rfl) (S := 1) (fun w hw => Zay (Zfq (L0 w hw) (by kernel_rfl) ZcC)) (fun _ => rfl) (Zu0 N)
theorem Zu2 {w0:World} (N:Nat)  (Zaq:GO w0 ZaS) (Zaf:GO w0 Zap) (Zai:GO w0 Zaz) (ZaG:GO w0 Zbg) : SA w0 56 (Ziu N) :=
  Zu1 N (Zah (Zcm Zaq) (Zah (ZfY N Zaf Zai ZaG) ZaM))
abbrev Zik : Ag (((List Int × List Int × List Int) × (List Int × List Int × List Int) × List Int)) := (.cons (.agg (.cons (.ints .i64 10) (.cons (.ints .i64 10) (.one (.ints .i64 10))))) (.cons (.agg (.cons (.ints .i64 10) (.cons (.ints .i64 10) (.one (.ints .i64 10))))) (.one (.ints .i64 10))))
abbrev Zil : Pt ((List Int × List Int × List Int)) := (.agg (.cons (.ints .i64 10) (.cons (.ints .i64 10) (.one (.ints .i64 10)))))
def Zfp (N:Nat) : Ct := fct Zik Zil fun x => Zbo N x.1 x.2.1 x.2.2
def ZhD (N:Nat) : List (FuncId × Ct) := [(23, (ZaZ N)), (61, (Zdg N)), (63, (Zcd N))]
def ZbR : List Gv := [⟨1, 46, (.ints .i64 10 [1, 0, 0, 0, 0, 0, 0, 0, 0, 0])⟩]
noncomputable def ZmW (N:Nat) : List (Nat × Lf) := []
theorem ZnY (N:Nat) : RunIs Tryd.prog (ZhD N) ZbR 0 (ZmW N) Tryd.f77 Zik Zil (fun x => Zbo N x.1 x.2.1 x.2.2) := by
  intro x; kernel_rfl
theorem ZnZ {w0:World} (N:Nat)  (hcs:∀ x ∈ ZhD N, SA w0 x.1 x.2) (hg:GO w0 ZbR) : SA w0 77 (Zfp N) := by
  exact Zam hcs hg Tryd.func77 (by kernel_rfl) (by kernel_rfl) (S := 0) (fun w _ => Zal _) (fun _ => rfl) (ZnY N)
theorem Zn0 {w0:World} (N:Nat)  (Zaf:GO w0 Zap) (Zai:GO w0 Zaz) (Zbh:GO w0 ZbR) : SA w0 77 (Zfp N) :=
  ZnZ N (Zah (Zbx N Zaf) (Zah (Zgm N Zai Zaf) (Zah (Zdx N Zaf) ZaM))) Zbh
abbrev Zho : Ag (((List Int × List Int) × List Int)) := (.cons (.agg (.cons (.ints .i64 10) (.one (.ints .i64 10)))) (.one (.ints .u8 32)))
abbrev Zhp : Pt ((List Int × List Int)) := (.agg (.cons (.ints .i64 10) (.one (.ints .i64 10))))
def Zei (N:Nat) : Ct := fct Zho Zhp fun x => Zcp N x.1 x.2
def Zdi (N:Nat) : List (FuncId × Ct) := [(23, (ZaZ N)), (24, (Zct N)), (62, Zfe), (77, (Zfp N))]
def Zbi : List Gv := [⟨1, 46, (.ints .i64 10 [1, 0, 0, 0, 0, 0, 0, 0, 0, 0])⟩]
def ZdL : Fm ((Unit × Unit × Unit × Unit × Unit × Bool × Int)) ((Unit × List Int × Unit × List Int × (List Int × List Int × List Int) × (List Int × List Int × List Int))) := ⟨(.cons 3 (.lit (.ptr 2 [] 30)) (.cons 4 (.lit (.ptr 3 [] 48)) (.cons 5 (.lit (.ptr 5 [] 46)) (.cons 6 (.lit (.ptr 13 [] 119)) (.cons 7 (.lit (.ptr 18 [] 119)) (.cons 8 .bool (.one 9 (.int .i64)))))))), (.cons 0 (.lit (.ints .i64 10 [1, 0, 0, 0, 0, 0, 0, 0, 0, 0])) (.cons 2 (.ints .u8 32) (.cons 3 (.lit (.agg [(.ints .i64 10 [0, 0, 0, 0, 0, 0, 0, 0, 0, 0]), (.ints .i64 10 [0, 0, 0, 0, 0, 0, 0, 0, 0, 0])])) (.cons 5 (.ints .i64 10) (.cons 13 (.agg (.cons (.ints .i64 10) (.cons (.ints .i64 10) (.one (.ints .i64 10))))) (.one 18 (.agg (.cons (.ints .i64 10) (.cons (.ints .i64 10) (.one (.ints .i64 10)))))))))))⟩
def ZdM : Fm ((Unit × Unit)) ((Unit × Unit × (List Int × List Int × List Int))) := ⟨(.cons 4 (.lit (.ptr 3 [] 48)) (.one 7 (.lit (.ptr 18 [] 119)))), (.cons 0 (.lit (.ints .i64 10 [1, 0, 0, 0, 0, 0, 0, 0, 0, 0])) (.cons 3 (.lit (.agg [(.ints .i64 10 [0, 0, 0, 0, 0, 0, 0, 0, 0, 0]), (.ints .i64 10 [0, 0, 0, 0, 0, 0, 0, 0, 0, 0])])) (.one 18 (.agg (.cons (.ints .i64 10) (.cons (.ints .i64 10) (.one (.ints .i64 10))))))))⟩
def ZdN : Fm (Unit) (Unit) := ⟨.nil, .nil⟩
noncomputable def Zej (N:Nat) : List (Nat × Lf) := [(0, loopCt ZdL ZdM ZdN 22 (ZaT N) N)]
theorem Zix (N:Nat) : StepIs Tryd.prog (cxOf Tryd.f51 (Zdi N) Zbi 0) (Zej N) Tryd.f51 0 22 ZdL ZdM ZdN (ZaT N) := by
  intro v; kernel_rfl
theorem Zl9 (N:Nat) : RunIs Tryd.prog (Zdi N) Zbi 0 (Zej N) Tryd.f51 Zho Zhp (fun x => Zcp N x.1 x.2) := by
  intro x; kernel_rfl
theorem Zma {w0:World} (N:Nat)  (hcs:∀ x ∈ Zdi N, SA w0 x.1 x.2) (hg:GO w0 Zbi) : SA w0 51 (Zei N) := by
  have L0 : ∀ w : Base, w.g = w0 → LoopOK Tryd.prog (cxOf Tryd.f51 (Zdi N) Zbi 0) w 0 (.loop (loopBody Tryd.f51 0)) (loopCt ZdL ZdM ZdN 22 (ZaT N) N) :=
    Zbs hcs (ls := Zej N) (n := 100) (by kernel_rfl) (Zix N) N fun w hw => Zay (lp_no (by kernel_rfl) ZcC)
  exact Zam hcs hg Tryd.func51 (by kernel_rfl) (by kernel_rfl) (S := 0) (fun w hw => Zay (Zfq (L0 w hw) (by kernel_rfl) ZcC)) (fun _ => rfl) (Zl9 N)
theorem Zmb {w0:World} (N:Nat)  (Zaf:GO w0 Zap) (Zai:GO w0 Zaz) (Zbh:GO w0 ZbR) (ZbA:GO w0 Zbi) : SA w0 51 (Zei N) :=
  Zma N (Zah (Zbx N Zaf) (Zah (Zd7 N Zaf) (Zah (Zi0) (Zah (Zn0 N Zaf Zai Zbh) ZaM)))) ZbA
def Zf8 : Ag ((Unit × Int)) := (.cons (.lit (.ptr 32 [] 28)) (.one (.int .i64)))
def Zf9 : Ent (((Nat × Nat) × List ((List Int × List Int × List Int × List Int)) × List ((List Int × List Int)))) := (.cons 32 (.agg (.cons (.slw 33 44) (.one (.slw 34 48)))) (.cons 33 (.vec (.agg (.agg (.cons (.ints .u64 5) (.cons (.ints .u64 5) (.cons (.ints .u64 5) (.ints .u64 5))))))) (.one 34 (.vec (.agg (.cons (.ints .i64 10) (.ints .i64 10)))))))
def Zga : Ent (Unit) := .nil
def Zgb : Pt (((List Int × List Int × List Int × List Int) × (List Int × List Int))) := (.tup (.cons (.agg (.one (.agg (.cons (.ints .u64 5) (.cons (.ints .u64 5) (.cons (.ints .u64 5) (.one (.ints .u64 5)))))))) (.one (.agg (.cons (.ints .i64 10) (.one (.ints .i64 10)))))))
def Zgc : Ent (Unit) := .nil
abbrev ZcU (w0:World) : Prop := SoundIo Tryd.prog w0 44 64 88 Zf8 Zf9 Zga Zgb Zgc [32, 33, 34] (fun x => Zcb x.1 x.2.1 x.2.2)
def Zgd : List (FuncId × Ct) := [(11, Zbv), (54, ZeU)]
def Zim : List Gv := []
noncomputable abbrev Zin : List (FuncId × Inl) := []
theorem Zmc {w0:World} (hcs:∀ x ∈ Zgd, SA w0 x.1 x.2) : AllOK Tryd.prog w0 Zim 64 (Zin) := Zn1
noncomputable def Zn2 : List (Nat × Lf) := []
theorem ZoS : IoRunIs Tryd.prog (Zgd) Zim 64 (Zin) (Zn2) Tryd.f44 88 Zf8 Zf9 Zga Zgb Zgc [32, 33, 34] (fun x => Zcb x.1 x.2.1 x.2.2) := by
  intro x; kernel_rfl
theorem ZoT {w0:World}  (hcs:∀ x ∈ Zgd, SA w0 x.1 x.2) : ZcU w0 := by
  exact Zoi hcs (Zar _ _) (Zmc hcs) Tryd.func44 (by kernel_rfl) (by kernel_rfl) (fun w _ _ => Zal _) (by kernel_rfl) (ZoS)
theorem ZoU {w0:World}  (Zaq:GO w0 ZaS) : ZcU w0 :=
  ZoT (Zah (Zcm Zaq) (Zah (Zkx) ZaM))
def Zek : Ag ((Unit × (Int × Int × Int × Int × List Int × List Int × List Int × List Int))) := (.cons (.lit (.ptr 64 [] 28)) (.one (.agg (.cons (.int .i64) (.cons (.int .i64) (.cons (.int .i64) (.cons (.int .i64) (.cons (.ints .u8 32) (.cons (.ints .u64 4) (.cons (.ints .u64 5) (.one (.ints .u64 5))))))))))))
def Zel : Ent (Unit) := .nil
def Zem : Ent (((Nat × Nat) × List ((List Int × List Int × List Int × List Int)) × List ((List Int × List Int)))) := (.cons 64 (.agg (.cons (.gsw 65 44) (.one (.gsw 66 48)))) (.cons 65 (.vec (.agg (.agg (.cons (.ints .u64 5) (.cons (.ints .u64 5) (.cons (.ints .u64 5) (.ints .u64 5))))))) (.one 66 (.vec (.agg (.cons (.ints .i64 10) (.ints .i64 10)))))))
def Zen : Pt (Bool) := .bool
def Zeo : Ent (((Nat × Nat) × List ((List Int × List Int × List Int × List Int)) × List ((List Int × List Int)))) := (.cons 64 (.agg (.cons (.gsw 65 44) (.one (.gsw 66 48)))) (.cons 65 (.vec (.agg (.agg (.cons (.ints .u64 5) (.cons (.ints .u64 5) (.cons (.ints .u64 5) (.ints .u64 5))))))) (.one 66 (.vec (.agg (.cons (.ints .i64 10) (.ints .i64 10)))))))
abbrev ZbN (w0:World) (N:Nat) : Prop := SoundIo Tryd.prog w0 6 64 91 Zek Zel Zem Zen Zeo [64] (fun x => ZbX N x.1 x.2.1 x.2.2)
def Zep (N:Nat) : List (FuncId × Ct) := [(8, (Zc2 N)), (9, ZiZ), (10, (Zgn N)), (11, Zbv), (12, Zit), (13, (Zgz N)), (14, ZgQ), (15, (ZeS N)), (16, (Zjy N)), (17, (ZgR N)), (18, (ZeT N))]
def Zg3 : List Gv := []
noncomputable abbrev Zg4 (N:Nat) : List (FuncId × Inl) := []
theorem ZjR {w0:World} (N:Nat) (hcs:∀ x ∈ Zep N, SA w0 x.1 x.2) : AllOK Tryd.prog w0 Zg3 64 (Zg4 N) := Zn1
noncomputable def ZlP (N:Nat) : List (Nat × Lf) := []
theorem Zmd (N:Nat) : IoRunIs Tryd.prog (Zep N) Zg3 64 (Zg4 N) (ZlP N) Tryd.f6 91 Zek Zel Zem Zen Zeo [64] (fun x => ZbX N x.1 x.2.1 x.2.2) := by
  intro x; kernel_rfl
theorem Zme {w0:World} (N:Nat)  (hcs:∀ x ∈ Zep N, SA w0 x.1 x.2) : ZbN w0 N := by
  exact Zoi hcs (Zar _ _) (ZjR N hcs) Tryd.func6 (by kernel_rfl) (by kernel_rfl) (fun w _ _ => Zal _) (by kernel_rfl) (Zmd N)
theorem Zmf {w0:World} (N:Nat)  (Zaj:GO w0 ZaF) (Zc4:GO w0 ZeM) (Zaf:GO w0 Zap) (Zai:GO w0 Zaz) (ZaL:GO w0 Zby) (ZaB:GO w0 Za0) (Za3:GO w0 Zcj) (Zaq:GO w0 ZaS) (Zdl:GO w0 ZdU) (ZaG:GO w0 Zbg) (Zca:GO w0 Za6) (ZbE:GO w0 Zc3) (Zdk:GO w0 ZfK) (Zcl:GO w0 Zc1) (ZcG:GO w0 ZdE) (Zbm:GO w0 Zcc) (Zd0:GO w0 ZfM) (ZbH:GO w0 Zb5) : ZbN w0 N :=
  Zme N (Zah (Zfy N Zaj) (Zah (Ztl Zc4) (Zah (ZmC N Zaf Zai ZaL ZaB Za3) (Zah (Zcm Zaq) (Zah (ZuN Zdl) (Zah (ZpZ N Zaq Zaf Zai ZaG Zca) (Zah (ZqZ ZbE Zdk Zcl) (Zah (ZmO N Zaq Zaf Zai ZcG) (Zah (Zvh N Zaf) (Zah (Zq3 N Zdk ZbE Zbm Zd0) (Zah (ZmR N Zaq Zaf Zai ZaL ZaB Za3 ZbH) ZaM)))))))))))
def Zeq : Ag ((Unit × (Int × Int × Int × Int × List Int × List Int × List Int × List Int))) := (.cons (.lit (.ptr 64 [] 28)) (.one (.agg (.cons (.int .i64) (.cons (.int .i64) (.cons (.int .i64) (.cons (.int .i64) (.cons (.ints .u8 32) (.cons (.ints .u64 4) (.cons (.ints .u64 5) (.one (.ints .u64 5))))))))))))
def Zer : Ent (Unit) := .nil
def Zes : Ent (((Nat × Nat) × List ((List Int × List Int × List Int × List Int)) × List ((List Int × List Int)))) := (.cons 64 (.agg (.cons (.gsw 65 44) (.one (.gsw 66 48)))) (.cons 65 (.vec (.agg (.agg (.cons (.ints .u64 5) (.cons (.ints .u64 5) (.cons (.ints .u64 5) (.ints .u64 5))))))) (.one 66 (.vec (.agg (.cons (.ints .i64 10) (.ints .i64 10)))))))
def Zet : Pt (Bool) := .bool
def Zeu : Ent (((Nat × Nat) × List ((List Int × List Int × List Int × List Int)) × List ((List Int × List Int)))) := (.cons 64 (.agg (.cons (.gsw 65 44) (.one (.gsw 66 48)))) (.cons 65 (.vec (.agg (.agg (.cons (.ints .u64 5) (.cons (.ints .u64 5) (.cons (.ints .u64 5) (.ints .u64 5))))))) (.one 66 (.vec (.agg (.cons (.ints .i64 10) (.ints .i64 10)))))))
abbrev ZbO (w0:World) (N:Nat) : Prop := SoundIo Tryd.prog w0 19 64 91 Zeq Zer Zes Zet Zeu [64] (fun x => Zcq N x.1 x.2.1 x.2.2)
def ZbW (N:Nat) : List (FuncId × Ct) := [(8, (Zc2 N)), (27, (ZcT N)), (45, Zde), (46, Zhc), (47, Zfk), (48, Zfs), (49, ZdZ), (50, (ZgB N)), (51, (Zei N)), (52, (ZgX N)), (53, (Zc5 N)), (54, ZeU), (55, (ZnS N)), (56, (Ziu N))]
def Zcu : List Gv := []
noncomputable abbrev ZgH (N:Nat) : List (FuncId × Inl) := ((44, (Inl.ct Tryd.prog 64 64 88 Zf8 Zf9 Zga Zgb Zgc [32, 33, 34] (fun x => Zcb x.1 x.2.1 x.2.2))) :: [])
theorem ZjM {w0:World} (N:Nat) (hcs:∀ x ∈ ZbW N, SA w0 x.1 x.2) (hf44:ZcU w0) : AllOK Tryd.prog w0 Zcu 64 (ZgH N) := Zoj (ZzK hf44 (by kernel_rfl) rfl) Zn1
noncomputable abbrev Zdj (N:Nat) : List (FuncId × Inl) := (ZgH N)
theorem Zgo {w0:World} (N:Nat) (hcs:∀ x ∈ ZbW N, SA w0 x.1 x.2) (hf44:ZcU w0) : AllOK Tryd.prog w0 Zcu 64 (Zdj N) := (ZjM N hcs hf44)
def ZdO : Fm ((Unit × Unit × Unit × Unit × Int × Int × Nat × Int)) (((Nat × Nat) × List ((List Int × List Int × List Int × List Int)) × List ((List Int × List Int)) × List ((List Int × List Int × List Int × List Int)) × (List Int × List Int × List Int × List Int) × (List Int × List Int))) := ⟨(.cons 0 (.lit (.ptr 64 [] 28)) (.cons 4 (.lit (.bool false)) (.cons 9 (.lit (.ptr 315 [] 44)) (.cons 10 (.lit (.ptr 316 [] 48)) (.cons 11 (.int .i64) (.cons 12 (.int .i64) (.cons 13 (.gsw 67 44) (.one 14 (.int .i64))))))))), (.cons 64 (.agg (.cons (.gsw 65 44) (.one (.gsw 66 48)))) (.cons 65 (.vec (.agg (.agg (.cons (.ints .u64 5) (.cons (.ints .u64 5) (.cons (.ints .u64 5) (.ints .u64 5))))))) (.cons 66 (.vec (.agg (.cons (.ints .i64 10) (.ints .i64 10)))) (.cons 67 (.vec (.agg (.agg (.cons (.ints .u64 5) (.cons (.ints .u64 5) (.cons (.ints .u64 5) (.ints .u64 5))))))) (.cons 315 (.agg (.one (.agg (.cons (.ints .u64 5) (.cons (.ints .u64 5) (.cons (.ints .u64 5) (.one (.ints .u64 5)))))))) (.one 316 (.agg (.cons (.ints .i64 10) (.one (.ints .i64 10))))))))))⟩
def ZdP : Fm ((Unit × Unit × Unit)) (((Nat × Nat) × List ((List Int × List Int × List Int × List Int)) × List ((List Int × List Int)) × (List Int × List Int × List Int × List Int) × (List Int × List Int))) := ⟨(.cons 0 (.lit (.ptr 64 [] 28)) (.cons 9 (.lit (.ptr 315 [] 44)) (.one 10 (.lit (.ptr 316 [] 48))))), (.cons 64 (.agg (.cons (.gsw 65 44) (.one (.gsw 66 48)))) (.cons 65 (.vec (.agg (.agg (.cons (.ints .u64 5) (.cons (.ints .u64 5) (.cons (.ints .u64 5) (.ints .u64 5))))))) (.cons 66 (.vec (.agg (.cons (.ints .i64 10) (.ints .i64 10)))) (.cons 315 (.agg (.one (.agg (.cons (.ints .u64 5) (.cons (.ints .u64 5) (.cons (.ints .u64 5) (.one (.ints .u64 5)))))))) (.one 316 (.agg (.cons (.ints .i64 10) (.one (.ints .i64 10)))))))))⟩
def ZdQ : Fm (Unit) (((Nat × Nat) × List ((List Int × List Int × List Int × List Int)) × List ((List Int × List Int)))) := ⟨(.one 4 (.lit (.bool false))), (.cons 64 (.agg (.cons (.gsw 65 44) (.one (.gsw 66 48)))) (.cons 65 (.vec (.agg (.agg (.cons (.ints .u64 5) (.cons (.ints .u64 5) (.cons (.ints .u64 5) (.ints .u64 5))))))) (.one 66 (.vec (.agg (.cons (.ints .i64 10) (.ints .i64 10)))))))⟩
noncomputable def Zev (N:Nat) : List (Nat × Lf) := [(1, loopCt ZdO ZdP ZdQ 321 (ZaY N) N)]
theorem Ziy (N:Nat) : StepIs Tryd.prog (cxIn Tryd.f19 (ZbW N) Zcu 64 (Zdj N)) (Zev N) Tryd.f19 1 321 ZdO ZdP ZdQ (ZaY N) := by
  intro v; kernel_rfl
theorem Zmg (N:Nat) : IoRunIs Tryd.prog (ZbW N) Zcu 64 (Zdj N) (Zev N) Tryd.f19 91 Zeq Zer Zes Zet Zeu [64] (fun x => Zcq N x.1 x.2.1 x.2.2) := by
  intro x; kernel_rfl
theorem Zmh {w0:World} (N:Nat)  (hcs:∀ x ∈ ZbW N, SA w0 x.1 x.2) (hf44:ZcU w0) : ZbO w0 N := by
  have L1 : ∀ w : Base, w.g = w0 → ∀ ρk, LoopOKX Tryd.prog (cxIn Tryd.f19 (ZbW N) Zcu 64 (Zdj N)) w (Kp [64] ρk) 1 (.loop (loopBody Tryd.f19 1)) (loopCt ZdO ZdP ZdQ 321 (ZaY N) N) :=
    ZwT hcs (Zgo N hcs hf44) (ls := Zev N) (n := 100) (by kernel_rfl) (Ziy N) N fun w hw ρk => Zay (lp_no (by kernel_rfl) ZcC)
  exact Zoi hcs (Zar _ _) (Zgo N hcs hf44) Tryd.func19 (by kernel_rfl) (by kernel_rfl) (fun w hw ρk => Zay (Zfq (L1 w hw ρk) (by kernel_rfl) ZcC)) (by kernel_rfl) (Zmg N)
theorem Zmi {w0:World} (N:Nat)  (Zaj:GO w0 ZaF) (Zaf:GO w0 Zap) (Zai:GO w0 Zaz) (ZaG:GO w0 Zbg) (ZaH:GO w0 ZbF) (Zbz:GO w0 ZcH) (ZaU:GO w0 Zbt) (Zbh:GO w0 ZbR) (ZbA:GO w0 Zbi) (ZbV:GO w0 ZbU) (Zco:GO w0 Za4) (Zaq:GO w0 ZaS) : ZbO w0 N :=
  Zmh N (Zah (Zfy N Zaj) (Zah (ZfY N Zaf Zai ZaG) (Zah (Zgk Zaj ZaH) (Zah (Zsv Zaj ZaH) (Zah (ZnI Zai) (Zah (Zlf Zaj) (Zah (ZiJ Zaj) (Zah (Zp6 N Zaj ZaH Zbz ZaU) (Zah (Zmb N Zaf Zai Zbh ZbA) (Zah (ZrC N ZbV Zco) (Zah (Zg2 N Zaj ZaH) (Zah (Zkx) (Zah (ZyR N Zaj ZaH) (Zah (Zu2 N Zaq Zaf Zai ZaG) ZaM)))))))))))))) (ZoU Zaq)
def ZeY : Ag ((Unit × (Int × Int × Int × Int × List Int × List Int × List Int × List Int))) := (.cons (.lit (.ptr 64 [] 28)) (.one (.agg (.cons (.int .i64) (.cons (.int .i64) (.cons (.int .i64) (.cons (.int .i64) (.cons (.ints .u8 32) (.cons (.ints .u64 4) (.cons (.ints .u64 5) (.one (.ints .u64 5))))))))))))
def ZeZ : Ent (Unit) := .nil
def Ze0 : Ent (((Nat × Nat) × List ((List Int × List Int × List Int × List Int)) × List ((List Int × List Int)))) := (.cons 64 (.agg (.cons (.gsw 65 44) (.one (.gsw 66 48)))) (.cons 65 (.vec (.agg (.agg (.cons (.ints .u64 5) (.cons (.ints .u64 5) (.cons (.ints .u64 5) (.ints .u64 5))))))) (.one 66 (.vec (.agg (.cons (.ints .i64 10) (.ints .i64 10)))))))
def Ze1 : Pt (Bool) := .bool
def Ze2 : Ent (((Nat × Nat) × List ((List Int × List Int × List Int × List Int)) × List ((List Int × List Int)))) := (.cons 64 (.agg (.cons (.gsw 65 44) (.one (.gsw 66 48)))) (.cons 65 (.vec (.agg (.agg (.cons (.ints .u64 5) (.cons (.ints .u64 5) (.cons (.ints .u64 5) (.ints .u64 5))))))) (.one 66 (.vec (.agg (.cons (.ints .i64 10) (.ints .i64 10)))))))
abbrev Zcv (w0:World) (N:Nat) : Prop := SoundIo Tryd.prog w0 7 64 91 ZeY ZeZ Ze0 Ze1 Ze2 [64] (fun x => ZcK N x.1 x.2.1 x.2.2)
def ZcI (N:Nat) : List (FuncId × Ct) := []
def Zdq : List Gv := []
noncomputable abbrev Zg5 (N:Nat) : List (FuncId × Inl) := ((19, (Inl.ct Tryd.prog 64 64 91 Zeq Zer Zes Zet Zeu [64] (fun x => Zcq N x.1 x.2.1 x.2.2))) :: [])
theorem ZjS {w0:World} (N:Nat) (hcs:∀ x ∈ ZcI N, SA w0 x.1 x.2) (hf19:ZbO w0 N) (hf6:ZbN w0 N) : AllOK Tryd.prog w0 Zdq 64 (Zg5 N) := Zoj (ZzK hf19 (by kernel_rfl) rfl) Zn1
noncomputable abbrev Zg6 (N:Nat) : List (FuncId × Inl) := ((6, (Inl.ct Tryd.prog 64 64 91 Zek Zel Zem Zen Zeo [64] (fun x => ZbX N x.1 x.2.1 x.2.2))) :: (Zg5 N))
theorem ZjT {w0:World} (N:Nat) (hcs:∀ x ∈ ZcI N, SA w0 x.1 x.2) (hf19:ZbO w0 N) (hf6:ZbN w0 N) : AllOK Tryd.prog w0 Zdq 64 (Zg6 N) := Zoj (ZzK hf6 (by kernel_rfl) rfl) (ZjS N hcs hf19 hf6)
noncomputable abbrev Zhq (N:Nat) : List (FuncId × Inl) := (Zg6 N)
theorem ZkM {w0:World} (N:Nat) (hcs:∀ x ∈ ZcI N, SA w0 x.1 x.2) (hf19:ZbO w0 N) (hf6:ZbN w0 N) : AllOK Tryd.prog w0 Zdq 64 (Zhq N) := (ZjT N hcs hf19 hf6)
noncomputable def Zmj (N:Nat) : List (Nat × Lf) := []
theorem ZmX (N:Nat) : IoRunIs Tryd.prog (ZcI N) Zdq 64 (Zhq N) (Zmj N) Tryd.f7 91 ZeY ZeZ Ze0 Ze1 Ze2 [64] (fun x => ZcK N x.1 x.2.1 x.2.2) := by
  intro x; kernel_rfl
theorem ZmY {w0:World} (N:Nat)  (hcs:∀ x ∈ ZcI N, SA w0 x.1 x.2) (hf19:ZbO w0 N) (hf6:ZbN w0 N) : Zcv w0 N := by
  exact Zoi hcs (Zar _ _) (ZkM N hcs hf19 hf6) Tryd.func7 (by kernel_rfl) (by kernel_rfl) (fun w _ _ => Zal _) (by kernel_rfl) (ZmX N)
theorem ZmZ {w0:World} (N:Nat)  (Zaj:GO w0 ZaF) (Zaf:GO w0 Zap) (Zai:GO w0 Zaz) (ZaG:GO w0 Zbg) (ZaH:GO w0 ZbF) (Zbz:GO w0 ZcH) (ZaU:GO w0 Zbt) (Zbh:GO w0 ZbR) (ZbA:GO w0 Zbi) (ZbV:GO w0 ZbU) (Zco:GO w0 Za4) (Zaq:GO w0 ZaS) (Zc4:GO w0 ZeM) (ZaL:GO w0 Zby) (ZaB:GO w0 Za0) (Za3:GO w0 Zcj) (Zdl:GO w0 ZdU) (Zca:GO w0 Za6) (ZbE:GO w0 Zc3) (Zdk:GO w0 ZfK) (Zcl:GO w0 Zc1) (ZcG:GO w0 ZdE) (Zbm:GO w0 Zcc) (Zd0:GO w0 ZfM) (ZbH:GO w0 Zb5) : Zcv w0 N :=
  ZmY N ZaM (Zmi N Zaj Zaf Zai ZaG ZaH Zbz ZaU Zbh ZbA ZbV Zco Zaq) (Zmf N Zaj Zc4 Zaf Zai ZaL ZaB Za3 Zaq Zdl ZaG Zca ZbE Zdk Zcl ZcG Zbm Zd0 ZbH)
abbrev Zio : Ag ((List ((Int × Int × Int × Int × List Int × List Int × List Int × List Int)) × Unit)) := (.one (.tup (.cons (.vec (.agg (.cons (.int .i64) (.cons (.int .i64) (.cons (.int .i64) (.cons (.int .i64) (.cons (.ints .u8 32) (.cons (.ints .u64 4) (.cons (.ints .u64 5) (.ints .u64 5)))))))))) (.one (.lit (.clo 37 []))))))
abbrev Zip : Pt (Bool) := .bool
def ZhE (N M:Nat) : Ct := fct Zio Zip fun x => Zdz N M x
def Zbu (N M:Nat) : List (FuncId × Ct) := [(5, (ZhS N)), (8, (Zc2 N))]
def ZbS : List Gv := []
noncomputable abbrev Zhr (N M:Nat) : List (FuncId × Inl) := ((7, (Inl.ct Tryd.prog 1 64 91 ZeY ZeZ Ze0 Ze1 Ze2 [64] (fun x => ZcK N x.1 x.2.1 x.2.2))) :: [])
theorem ZkN {w0:World} (N M:Nat) (hcs:∀ x ∈ Zbu N M, SA w0 x.1 x.2) (hf7:Zcv w0 N) : AllOK Tryd.prog w0 ZbS 1 (Zhr N M) := Zoj (ZzK hf7 (by kernel_rfl) rfl) Zn1
noncomputable abbrev Zce (N M:Nat) : List (FuncId × Inl) := (Zhr N M)
theorem Zew {w0:World} (N M:Nat) (hcs:∀ x ∈ Zbu N M, SA w0 x.1 x.2) (hf7:Zcv w0 N) : AllOK Tryd.prog w0 ZbS 1 (Zce N M) := (ZkN N M hcs hf7)
def Zex : Fm ((Nat × Unit × Unit × Int)) ((List ((Int × Int × Int × Int × List Int × List Int × List Int × List Int)) × List ((List Int × List Int × List Int × List Int)) × List ((List Int × List Int)) × (Nat × Nat))) := ⟨(.cons 0 (.slw 0 37) (.cons 2 (.lit (.bool false)) (.cons 3 (.lit (.ptr 5 [] 28)) (.one 4 (.int .i64))))), (.cons 0 (.vec (.agg (.cons (.int .i64) (.cons (.int .i64) (.cons (.int .i64) (.cons (.int .i64) (.cons (.ints .u8 32) (.cons (.ints .u64 4) (.cons (.ints .u64 5) (.ints .u64 5)))))))))) (.cons 1 (.vec (.agg (.agg (.cons (.ints .u64 5) (.cons (.ints .u64 5) (.cons (.ints .u64 5) (.ints .u64 5))))))) (.cons 2 (.vec (.agg (.cons (.ints .i64 10) (.ints .i64 10)))) (.one 5 (.agg (.cons (.gsw 1 44) (.one (.gsw 2 48))))))))⟩
def Zey : Fm (Unit) ((List ((List Int × List Int × List Int × List Int)) × List ((List Int × List Int)) × (Nat × Nat))) := ⟨(.one 3 (.lit (.ptr 5 [] 28))), (.cons 1 (.vec (.agg (.agg (.cons (.ints .u64 5) (.cons (.ints .u64 5) (.cons (.ints .u64 5) (.ints .u64 5))))))) (.cons 2 (.vec (.agg (.cons (.ints .i64 10) (.ints .i64 10)))) (.one 5 (.agg (.cons (.gsw 1 44) (.one (.gsw 2 48)))))))⟩
def Zez : Fm (Unit) (Unit) := ⟨(.one 2 (.lit (.bool false))), .nil⟩
def ZeA : Fm ((Unit × Int)) ((List ((List Int × List Int × List Int × List Int)) × List ((List Int × List Int)) × (Nat × Nat))) := ⟨(.cons 3 (.lit (.ptr 5 [] 28)) (.one 5 (.int .i64))), (.cons 1 (.vec (.agg (.agg (.cons (.ints .u64 5) (.cons (.ints .u64 5) (.cons (.ints .u64 5) (.ints .u64 5))))))) (.cons 2 (.vec (.agg (.cons (.ints .i64 10) (.ints .i64 10)))) (.one 5 (.agg (.cons (.gsw 1 44) (.one (.gsw 2 48)))))))⟩
def ZeB : Fm (Unit) (Unit) := ⟨.nil, .nil⟩
def ZeC : Fm (Unit) (Unit) := ⟨(.one 2 (.lit (.bool false))), .nil⟩
noncomputable def ZcV (N M:Nat) : List (Nat × Lf) := [(0, loopCt Zex Zey Zez 8 (Zbq N M) M), (2, loopCt ZeA ZeB ZeC 9 (Zbr N M) M)]
theorem ZjN (N M:Nat) : StepIs Tryd.prog (cxIn Tryd.f4 (Zbu N M) ZbS 1 (Zce N M)) (ZcV N M) Tryd.f4 0 8 Zex Zey Zez (Zbq N M) := by
  intro v; kernel_rfl
theorem ZjO (N M:Nat) : StepIs Tryd.prog (cxIn Tryd.f4 (Zbu N M) ZbS 1 (Zce N M)) (ZcV N M) Tryd.f4 2 9 ZeA ZeB ZeC (Zbr N M) := by
  intro v; kernel_rfl
theorem Zn3 (N M:Nat) : RunIs Tryd.prog (Zbu N M) ZbS 1 (ZcV N M) Tryd.f4 Zio Zip (fun x => Zdz N M x) (fun g => lkI g (Zce N M)) := by
  intro x; kernel_rfl
theorem Zn4 {w0:World} (N M:Nat)  (hcs:∀ x ∈ Zbu N M, SA w0 x.1 x.2) (hf7:Zcv w0 N) : SA w0 4 (ZhE N M) := by
  have L0 : ∀ w : Base, w.g = w0 → LoopOK Tryd.prog (cxIn Tryd.f4 (Zbu N M) ZbS 1 (Zce N M)) w 0 (.loop (loopBody Tryd.f4 0)) (loopCt Zex Zey Zez 8 (Zbq N M) M) :=
    ZrD hcs (Zew N M hcs hf7) (ls := ZcV N M) (n := 100) (by kernel_rfl) (ZjN N M) M fun w hw => Zay (lp_no (by kernel_rfl) (lp_no (by kernel_rfl) ZcC))
  have L2 : ∀ w : Base, w.g = w0 → LoopOK Tryd.prog (cxIn Tryd.f4 (Zbu N M) ZbS 1 (Zce N M)) w 2 (.loop (loopBody Tryd.f4 2)) (loopCt ZeA ZeB ZeC 9 (Zbr N M) M) :=
    ZrD hcs (Zew N M hcs hf7) (ls := ZcV N M) (n := 100) (by kernel_rfl) (ZjO N M) M fun w hw => Zay (lp_no (by kernel_rfl) (lp_no (by kernel_rfl) ZcC))
  exact ZyS hcs (Zar _ _) (Zew N M hcs hf7) Tryd.func4 (by kernel_rfl) (by kernel_rfl) (S := 1) (fun w hw => Zay (Zfq (L0 w hw) (by kernel_rfl) (Zfq (L2 w hw) (by kernel_rfl) ZcC))) (fun _ => rfl) (Zn3 N M)
theorem Zm1 {w0:World} (N M:Nat)  (Zaj:GO w0 ZaF) (Zc4:GO w0 ZeM) (Zaf:GO w0 Zap) (Zai:GO w0 Zaz) (ZaL:GO w0 Zby) (ZaB:GO w0 Za0) (Za3:GO w0 Zcj) (Zaq:GO w0 ZaS) (ZaG:GO w0 Zbg) (ZaH:GO w0 ZbF) (Zbz:GO w0 ZcH) (ZaU:GO w0 Zbt) (Zbh:GO w0 ZbR) (ZbA:GO w0 Zbi) (ZbV:GO w0 ZbU) (Zco:GO w0 Za4) (Zdl:GO w0 ZdU) (Zca:GO w0 Za6) (ZbE:GO w0 Zc3) (Zdk:GO w0 ZfK) (Zcl:GO w0 Zc1) (ZcG:GO w0 ZdE) (Zbm:GO w0 Zcc) (Zd0:GO w0 ZfM) (ZbH:GO w0 Zb5) : SA w0 4 (ZhE N M) :=
  Zn4 N M (Zah (ZtL N Zaj Zc4 Zaf Zai ZaL ZaB Za3 Zaq) (Zah (Zfy N Zaj) ZaM)) (ZmZ N Zaj Zaf Zai ZaG ZaH Zbz ZaU Zbh ZbA ZbV Zco Zaq Zc4 ZaL ZaB Za3 Zdl Zca ZbE Zdk Zcl ZcG Zbm Zd0 ZbH)
end Go.Vx
